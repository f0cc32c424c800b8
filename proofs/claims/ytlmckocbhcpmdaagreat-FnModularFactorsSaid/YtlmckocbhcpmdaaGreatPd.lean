/- Plain mathematics of polynomials by a prime. No conditions. -/
import Derived.Test.YtlmckocbhcpmdaaGreatPc
namespace Go.Proofs.YtlmckocbhcpmdaaGreat

class CR (α : Type) [Add α] [Mul α] [Neg α] [Sub α] [OfNat α 0] [OfNat α 1] : Prop where
 add_comm : ∀ a b : α, a + b = b + a
 add_assoc : ∀ a b c : α, a + b + c = a + (b + c)
 add_zero : ∀ a : α, a + 0 = a
 add_neg : ∀ a : α, a + -a = 0
 sub_def : ∀ a b : α, a - b = a + -b
 mul_comm : ∀ a b : α, a * b = b * a
 mul_assoc : ∀ a b c : α, a * b * c = a * (b * c)
 one_mul : ∀ a : α, 1 * a = a
 add_mul : ∀ a b c : α, (a + b) * c = a * c + b * c

inductive RE where
 | at (n : Nat)
 | zero
 | one
 | add (a b : RE)
 | sub (a b : RE)
 | mul (a b : RE)
 | neg (a : RE)

abbrev RM := List (Bool × List Nat)

def zla (a : Nat) : List Nat -> List Nat
 | [] => [a]
 | b :: l => bif Nat.ble a b then a :: b :: l else b :: zla a l
def ziS : List Nat -> List Nat -> List Nat
 | [], m => m
 | a :: l, m => zla a (ziS l m)
def zcW : RM -> RM
 | [] => []
 | (s, m) :: r => (!s, m) :: zcW r
def zjU (s : Bool) (m : List Nat) : RM -> RM
 | [] => []
 | (t, k) :: r => (s == t, ziS m k) :: zjU s m r
def zjV : RM -> RM -> RM
 | [], _ => []
 | (s, m) :: r, k => zjU s m k ++ zjV r k
def RE.ex : RE -> RM
 | .at n => [(true, [n])]
 | .zero => []
 | .one => [(true, [])]
 | .add a b => a.ex ++ b.ex
 | .sub a b => a.ex ++ zcW b.ex
 | .mul a b => zjV a.ex b.ex
 | .neg a => zcW a.ex
def zha (s : Bool) (m : List Nat) : RM -> Option RM
 | [] => none
 | (t, k) :: r => bif t == s && k == m then some r else match zha s m r with
  | some r' => some ((t, k) :: r')
  | none => none
def zf3 : Nat -> RM -> Bool
 | _, [] => true
 | 0, _ => false
 | n + 1, (s, m) :: r => match zha (!s) m r with
  | some r' => zf3 n r'
  | none => false
def RE.chk (a b : RE) : Bool := zf3 1000 (a.ex ++ zcW b.ex)

section
variable {α : Type} [Add α] [Mul α] [Neg α] [Sub α] [OfNat α 0] [OfNat α 1]

def atM (ctx : List α) (n : Nat) : α := match ctx, n with
 | [], _ => 0
 | a :: _, 0 => a
 | _ :: r, n + 1 => atM r n
def RE.ev (ctx : List α) : RE -> α
 | .at n => atM ctx n
 | .zero => 0
 | .one => 1
 | .add a b => a.ev ctx + b.ev ctx
 | .sub a b => a.ev ctx - b.ev ctx
 | .mul a b => a.ev ctx * b.ev ctx
 | .neg a => -a.ev ctx
def evN (ctx : List α) : List Nat -> α
 | [] => 1
 | a :: l => atM ctx a * evN ctx l
def ev1 (ctx : List α) (s : Bool) (m : List Nat) : α := bif s then evN ctx m else -evN ctx m
def evM (ctx : List α) : RM -> α
 | [] => 0
 | (s, m) :: r => ev1 ctx s m + evM ctx r

variable [CR α]
namespace CR
theorem zero_add (a : α) : 0 + a = a := by rw [CR.add_comm, CR.add_zero]
theorem left_cancel {a b c : α} (h : a + b = a + c) : b = c := by
 have h1 : -a + (a + b) = -a + (a + c) := by rw [h]
 rw [<- CR.add_assoc, <- CR.add_assoc, CR.add_comm (-a) a, CR.add_neg, zero_add, zero_add] at h1;exact h1
theorem left_comm (a b c : α) : a + (b + c) = b + (a + c) := by rw [<- CR.add_assoc, CR.add_comm a b, CR.add_assoc]
theorem mul_left_comm (a b c : α) : a * (b * c) = b * (a * c) := by rw [<- CR.mul_assoc, CR.mul_comm a b, CR.mul_assoc]
theorem zero_mul (a : α) : 0 * a = 0 := by
 have h : 0 * a + 0 * a = 0 * a + 0 := by rw [<- CR.add_mul, CR.add_zero, CR.add_zero]
 exact left_cancel h
theorem vA {a b : α} (h : a + b = 0) : b = -a := left_cancel (by rw [h, CR.add_neg])
theorem neg_zero : -(0 : α) = 0 := (vA (CR.add_zero 0)).symm
theorem neg_neg (a : α) : -(-a) = a := (vA (by rw [CR.add_comm, CR.add_neg])).symm
theorem neg_add (a b : α) : -(a + b) = -a + -b := (vA (by
 rw [CR.add_assoc, left_comm b, <- CR.add_assoc, CR.add_neg, CR.add_neg, CR.add_zero])).symm
theorem neg_mul (a b : α) : -a * b = -(a * b) := vA (by rw [<- CR.add_mul, CR.add_neg, zero_mul])
theorem mul_zero (a : α) : a * 0 = 0 := by rw [CR.mul_comm, zero_mul]
theorem mul_neg (a b : α) : a * -b = -(a * b) := by rw [CR.mul_comm, neg_mul, CR.mul_comm]
theorem mul_add (a b c : α) : a * (b + c) = a * b + a * c := by rw [CR.mul_comm, CR.add_mul, CR.mul_comm b, CR.mul_comm c]
theorem mul_one (a : α) : a * 1 = a := by rw [CR.mul_comm, CR.one_mul]
theorem sub_self (a : α) : a - a = 0 := by rw [CR.sub_def, CR.add_neg]
theorem eq_of_sub {a b : α} (h : a - b = 0) : a = b := by
 rw [CR.sub_def] at h;have := vA (a := -b) (b := a) (by rw [CR.add_comm, h]);rw [this, neg_neg]
end CR

theorem zhW (ctx : List α) (a : Nat) : ∀ l, evN ctx (zla a l) = atM ctx a * evN ctx l
 | [] => rfl
 | b :: l => by
  unfold zla;cases Nat.ble a b
  ·simp only [cond_false, evN, zhW ctx a l, CR.mul_left_comm]
  ·rfl
theorem zhX (ctx : List α) : ∀ l m, evN ctx (ziS l m) = evN ctx l * evN ctx m
 | [], m => by simp only [ziS, evN, CR.one_mul]
 | a :: l, m => by simp only [ziS, evN, zhW, zhX ctx l m, CR.mul_assoc]
theorem zaC (ctx : List α) : ∀ a b, evM ctx (a ++ b) = evM ctx a + evM ctx b
 | [], b => by simp only [List.nil_append, evM, CR.zero_add]
 | (s, m) :: a, b => by simp only [List.cons_append, evM, zaC ctx a b, CR.add_assoc]
theorem zhY (ctx : List α) (s : Bool) (m : List Nat) : ev1 ctx (!s) m = -ev1 ctx s m := by
 cases s <;> simp [ev1, CR.neg_neg]
theorem zaD (ctx : List α) : ∀ a, evM ctx (zcW a) = -evM ctx a
 | [] => by simp only [zcW, evM, CR.neg_zero]
 | (s, m) :: a => by simp only [zcW, evM, zaD ctx a, zhY, CR.neg_add]
theorem zlb (ctx : List α) (s t : Bool) (m k : List Nat) : ev1 ctx (s == t) (ziS m k) = ev1 ctx s m * ev1 ctx t k := by
 cases s <;> cases t <;> simp [ev1, zhX, CR.neg_mul, CR.mul_neg, CR.neg_neg]
theorem zf4 (ctx : List α) (s : Bool) (m : List Nat) : ∀ b, evM ctx (zjU s m b) = ev1 ctx s m * evM ctx b
 | [] => by simp only [zjU, evM, CR.mul_zero]
 | (t, k) :: b => by simp only [zjU, evM, zf4 ctx s m b, zlb, CR.mul_add]
theorem zhZ (ctx : List α) : ∀ a b, evM ctx (zjV a b) = evM ctx a * evM ctx b
 | [], b => by simp only [zjV, evM, CR.zero_mul]
 | (s, m) :: a, b => by simp only [zjV, evM, zaC, zf4, zhZ ctx a b, CR.add_mul]
theorem zaE (ctx : List α) : ∀ e : RE, evM ctx e.ex = e.ev ctx
 | .at n => by simp only [RE.ex, evM, ev1, cond_true, evN, RE.ev, CR.mul_one, CR.add_zero]
 | .zero => rfl
 | .one => by simp only [RE.ex, evM, ev1, cond_true, evN, RE.ev, CR.add_zero]
 | .add a b => by simp only [RE.ex, RE.ev, zaC, zaE ctx a, zaE ctx b]
 | .sub a b => by simp only [RE.ex, RE.ev, zaC, zaD, zaE ctx a, zaE ctx b, CR.sub_def]
 | .mul a b => by simp only [RE.ex, RE.ev, zhZ, zaE ctx a, zaE ctx b]
 | .neg a => by simp only [RE.ex, RE.ev, zaD, zaE ctx a]
theorem zh0 (ctx : List α) (s : Bool) (m : List Nat) : ∀ (r r' : RM), zha s m r = some r' -> evM ctx r = ev1 ctx s m + evM ctx r'
 | [], _, h => by simp [zha] at h
 | (t, k) :: r, r', h => by
  unfold zha at h;cases hc : (t == s && k == m)
  ·rw [hc] at h;simp only [cond_false] at h
   cases hr : zha s m r with
   | none => rw [hr] at h; simp at h
   | some r2 =>
    rw [hr] at h;simp only [Option.some.injEq] at h
    subst h;simp only [evM, zh0 ctx s m r r2 hr, CR.left_comm]
  ·rw [hc] at h;simp only [cond_true, Option.some.injEq] at h
   subst h;simp only [Bool.and_eq_true, beq_iff_eq] at hc
   obtain ⟨rfl, rfl⟩ := hc
   rfl
theorem zcX (ctx : List α) : ∀ n (r : RM), zf3 n r = true -> evM ctx r = 0
 | _, [], _ => rfl
 | 0, _ :: _, h => by simp [zf3] at h
 | n + 1, (s, m) :: r, h => by
  unfold zf3 at h;cases hr : zha (!s) m r with
  | none => rw [hr] at h; simp at h
  | some r' =>
   rw [hr] at h;simp only [evM, zh0 ctx (!s) m r r' hr, zhY, zcX ctx n r' h]
   rw [CR.add_zero, CR.add_neg]

class Rf (ctx : List α) (x : α) (e : outParam RE) : Prop where
 eq : e.ev ctx = x

omit [CR α]
instance (priority := high) rfAdd (ctx : List α) (x y : α) (a b : RE) [h : Rf ctx x a] [k : Rf ctx y b] : Rf ctx (x + y) (.add a b) := ⟨by rw [RE.ev, h.eq, k.eq]⟩
instance (priority := high) rfSub (ctx : List α) (x y : α) (a b : RE) [h : Rf ctx x a] [k : Rf ctx y b] : Rf ctx (x - y) (.sub a b) := ⟨by rw [RE.ev, h.eq, k.eq]⟩
instance (priority := high) rfMul (ctx : List α) (x y : α) (a b : RE) [h : Rf ctx x a] [k : Rf ctx y b] : Rf ctx (x * y) (.mul a b) := ⟨by rw [RE.ev, h.eq, k.eq]⟩
instance (priority := high) rfNeg (ctx : List α) (x : α) (a : RE) [h : Rf ctx x a] : Rf ctx (-x) (.neg a) := ⟨by rw [RE.ev, h.eq]⟩
instance (priority := high) rfZero (ctx : List α) : Rf ctx (0 : α) .zero := ⟨rfl⟩
instance (priority := high) rfOne (ctx : List α) : Rf ctx (1 : α) .one := ⟨rfl⟩
instance (priority := low) rfAt0 (x : α) (l : List α) : Rf (x :: l) x (.at 0) := ⟨rfl⟩
instance (priority := low) rfAt1 (x a : α) (l : List α) : Rf (a :: x :: l) x (.at 1) := ⟨rfl⟩
instance (priority := low) rfAt2 (x a b : α) (l : List α) : Rf (a :: b :: x :: l) x (.at 2) := ⟨rfl⟩
instance (priority := low) rfAt3 (x a b c : α) (l : List α) : Rf (a :: b :: c :: x :: l) x (.at 3) := ⟨rfl⟩
instance (priority := low) rfAt4 (x a b c d : α) (l : List α) : Rf (a :: b :: c :: d :: x :: l) x (.at 4) := ⟨rfl⟩
instance (priority := low) rfAt5 (x a b c d e : α) (l : List α) : Rf (a :: b :: c :: d :: e :: x :: l) x (.at 5) := ⟨rfl⟩
instance (priority := low) rfAt6 (x a b c d e f : α) (l : List α) : Rf (a :: b :: c :: d :: e :: f :: x :: l) x (.at 6) := ⟨rfl⟩
instance (priority := low) rfAt7 (x a b c d e f g : α) (l : List α) : Rf (a :: b :: c :: d :: e :: f :: g :: x :: l) x (.at 7) := ⟨rfl⟩
instance (priority := low) rfAt8 (x a b c d e f g h : α) (l : List α) : Rf (a :: b :: c :: d :: e :: f :: g :: h :: x :: l) x (.at 8) := ⟨rfl⟩

theorem zf [CR α] (ctx : List α) {x y : α} {a b : RE} [h : Rf ctx x a] [k : Rf ctx y b] (hc : RE.chk a b = true) : x = y := by
 have h1 := zcX ctx _ _ hc;rw [zaC, zaD, zaE, zaE, h.eq, k.eq, <- CR.sub_def] at h1;exact CR.eq_of_sub h1

theorem comb [CR α] (c : α) {a b x y : α} (h : a = b) (e : x - c * a = y - c * b) : x = y := by
 subst h;rw [CR.sub_def, CR.sub_def, CR.add_comm, CR.add_comm y] at e;exact CR.left_cancel e
end

example {α : Type} [Add α] [Mul α] [Neg α] [Sub α] [OfNat α 0] [OfNat α 1] [CR α] (a b c : α) : (a + b) * (a - b) + c * (1 + 1) = a * a - b * b + c + c := zf [a, b, c] (by rfl)
example {α : Type} [Add α] [Mul α] [Neg α] [Sub α] [OfNat α 0] [OfNat α 1] [CR α] (a b c d : α) (h : a = b * c) : a * d + 0 = c * (b * d) := comb d h (zf [a, b, c, d] (by rfl))

def cf (l : List Int) (i : Nat) : Int := l.getD i 0

theorem yJ (i : Nat) : cf [] i = 0 := by simp [cf]
theorem yu (a : Int) (l : List Int) : cf (a :: l) 0 = a := rfl
theorem zx (a : Int) (l : List Int) (i : Nat) : cf (a :: l) (i + 1) = cf l i := by simp [cf]
theorem zY {l : List Int} {i : Nat} (h : l.length <= i) : cf l i = 0 := by
 simp [cf, List.getD_eq_getElem?_getD, List.getElem?_eq_none h]
theorem vB {l : List Int} {i : Nat} (h : i < l.length) : cf l i = l[i] := by
 simp [cf, List.getD_eq_getElem?_getD, List.getElem?_eq_getElem h]

def zv : List Int -> List Int
 | [] => []
 | a :: l => match zv l with
  | [] => if a = 0 then [] else [a]
  | b :: r => a :: b :: r

theorem xR (l : List Int) (i : Nat) : cf (zv l) i = cf l i := by
 induction l generalizing i with
 | nil => rfl
 | cons a l ih =>
  unfold zv
  split
  ·rename_i h
   have h0 : ∀ i, cf l i = 0 := fun i => by rw [<- ih, h, yJ]
   split
   ·rename_i ha
    cases i with
    | zero => rw [yJ, yu, ha]
    | succ i => rw [yJ, zx, h0]
   ·cases i with
    | zero => rfl
    | succ i => rw [zx, zx, yJ, h0]
  ·rename_i b r h
   cases i with
   | zero => rfl
   | succ i => rw [zx, zx, <- ih, h]

theorem ziT {l : List Int} {x : Int} (h : x ∈ zv l) : x ∈ l := by
 induction l with
 | nil => exact h
 | cons a l ih =>
  unfold zv at h
  split at h
  ·split at h
   ·cases h
   ·simp at h; simp [h]
  ·rename_i b r hb
   rcases List.mem_cons.1 h with h | h
   ·simp [h]
   ·exact List.mem_cons_of_mem _ (ih (hb ▸ h))

theorem x8 (l : List Int) : (zv l).length <= l.length := by
 induction l with
 | nil => simp [zv]
 | cons a l ih =>
  unfold zv
  split
  ·split <;> simp
  ·rename_i b r hb
   rw [hb] at ih; simpa using ih

def kh (l : List Int) : Prop := ∀ n, l.length = n + 1 -> cf l n ≠ 0

theorem xH (l : List Int) : kh (zv l) := by
 induction l with
 | nil => intro n h; simp [zv] at h
 | cons a l ih =>
  intro n;unfold zv
  split
  ·split
   ·intro h; simp at h
   ·rename_i ha
    intro h;have : n = 0 := by simpa using h.symm
    subst this; exact ha
  ·rename_i b r hb
   intro h;have hn : n = r.length + 1 := by simpa using h.symm
   subst hn;rw [zx];rw [hb] at ih;exact ih r.length (by simp)

theorem yK {l l' : List Int} (h : kh l) (h' : kh l') (he : ∀ i, cf l i = cf l' i) : l = l' := by
 have hlen : ∀ {l l' : List Int}, kh l -> kh l' -> (∀ i, cf l i = cf l' i) -> l.length <= l'.length := by
  intro l l' h h' he;rcases Nat.lt_or_ge l'.length l.length with hlt | hge
  ·exfalso
   have h1 := h (l.length - 1) (by omega);rw [he, zY (by omega)] at h1;exact h1 rfl
  ·exact hge
 have hl : l.length = l'.length := Nat.le_antisymm (hlen h h' he) (hlen h' h fun i => (he i).symm);refine List.ext_getElem hl fun i h1 h2 => ?_;rw [<- vB h1, <- vB h2, he]

def cv (f g : Nat -> Int) : Nat -> Int
 | 0 => f 0 * g 0
 | k + 1 => f 0 * g (k + 1) + cv (fun i => f (i + 1)) g k

theorem zjW (f g : Nat -> Int) (k : Nat) : cv f g (k + 1) = f (k + 1) * g 0 + cv f (fun i => g (i + 1)) k := by
 induction k generalizing f with
 | zero => simp only [cv]; omega
 | succ k ih =>
  rw [cv, ih, cv]; omega

theorem kG (f g : Nat -> Int) (k : Nat) : cv f g k = cv g f k := by
 induction k generalizing f g with
 | zero => simp only [cv]; exact Int.mul_comm _ _
 | succ k ih => rw [zjW, cv, ih, Int.mul_comm]

theorem zeO (f f' g : Nat -> Int) (k : Nat) : cv (fun i => f i + f' i) g k = cv f g k + cv f' g k := by
 induction k generalizing f f' with
 | zero => simp only [cv]; exact Int.add_mul _ _ _
 | succ k ih => simp only [cv, ih, Int.add_mul]; omega

theorem zh1 (a : Int) (f g : Nat -> Int) (k : Nat) : cv (fun i => a * f i) g k = a * cv f g k := by
 induction k generalizing f with
 | zero => simp only [cv]; exact Int.mul_assoc _ _ _
 | succ k ih => simp only [cv, ih, Int.mul_add, Int.mul_assoc]

theorem zjX (f g h : Nat -> Int) (k : Nat) : cv (cv f g) h k = cv f (cv g h) k := by
 induction k generalizing f with
 | zero => simp only [cv]; exact Int.mul_assoc _ _ _
 | succ k ih =>
  have e : (fun i => cv f g (i + 1)) = fun i => f 0 * g (i + 1) + cv (fun i => f (i + 1)) g i := rfl;rw [cv, e, zeO, zh1, ih];simp only [cv]
  rw [Int.mul_add, Int.mul_assoc]; omega

theorem yf {f g : Nat -> Int} {k : Nat} (hf : ∀ i, i <= k -> f i = 0) : cv f g k = 0 := by
 induction k generalizing f with
 | zero => simp [cv, hf 0 (Nat.le_refl _)]
 | succ k ih => simp only [cv, hf 0 (Nat.zero_le _), ih (f := fun i => f (i + 1)) (fun i hi => hf _ (by omega))]; simp

theorem zlz {f g : Nat -> Int} {n m : Nat} (hf : ∀ i, n <= i -> f i = 0) (hg : ∀ i, m <= i -> g i = 0) {k : Nat} (hk : n + m <= k + 1) : cv f g k = 0 := by
 induction n generalizing f k with
 | zero => exact yf fun i _ => hf i (Nat.zero_le _)
 | succ n ih =>
  cases k with
  | zero => simp only [cv, hg 0 (by omega), Int.mul_zero]
  | succ k => simp only [cv, hg (k + 1) (by omega), ih (f := fun i => f (i + 1)) (fun i hi => hf _ (by omega)) (k := k) (by omega)]; simp

theorem zlP {f g : Nat -> Int} {n m : Nat} (hf : ∀ i, n < i -> f i = 0) (hg : ∀ i, m < i -> g i = 0) : cv f g (n + m) = f n * g m := by
 induction n generalizing f with
 | zero =>
  cases m with
  | zero => rfl
  | succ m =>
   rw [show 0 + (m + 1) = m + 1 from by omega, cv, yf (f := fun i => f (i + 1)) (fun i _ => hf _ (by omega))]; simp
 | succ n ih =>
  rw [show n + 1 + m = n + m + 1 from by omega, cv, hg (n + m + 1) (by omega), ih (f := fun i => f (i + 1)) (fun i hi => hf _ (by omega))]; simp

theorem zjY (g : Nat -> Int) (k : Nat) : cv (cf [1]) g k = g k := by
 cases k with
 | zero => simp [cv, cf]
 | succ k =>
  rw [cv, yf (f := fun i => cf [1] (i + 1)) (fun i _ => by simp [cf])];simp [cf]

theorem ki (p : Int) (f g : Nat -> Int) (k : Nat) : cv (fun i => f i % p) g k % p = cv f g k % p := by
 induction k generalizing f with
 | zero => simp only [cv]; rw [Int.mul_emod, Int.emod_emod_of_dvd _ (Int.dvd_refl p), <- Int.mul_emod]
 | succ k ih =>
  simp only [cv]
  rw [Int.add_emod, ih (fun i => f (i + 1)), Int.mul_emod, Int.emod_emod_of_dvd _ (Int.dvd_refl p), <- Int.mul_emod, <- Int.add_emod]

theorem zlc (p a : Int) : (-(a % p)) % p = (-a) % p := by
 rw [show -(a % p) = -1 * (a % p) from by omega, show -a = -1 * a from by omega, Int.mul_emod, Int.emod_emod_of_dvd _ (Int.dvd_refl p), <- Int.mul_emod]

def mkL (n : Nat) (f : Nat -> Int) : List Int := (List.range n).map f
theorem xI (n : Nat) (f : Nat -> Int) (i : Nat) : cf (mkL n f) i = if i < n then f i else 0 := by
 split
 ·rename_i h
  rw [vB (by simpa [mkL] using h)]; simp [mkL]
 ·rename_i h
  exact zY (by simpa [mkL] using h)
theorem z4 (n : Nat) (f : Nat -> Int) : (mkL n f).length = n := by simp [mkL]

def kj (a b : List Int) : List Int := mkL (max a.length b.length) fun i => cf a i + cf b i
def jy (a b : List Int) : List Int := mkL (a.length + b.length - 1) (cv (cf a) (cf b))
def km (c : Int) (a : List Int) : List Int := a.map (c * ·)

theorem vP (a b : List Int) (i : Nat) : cf (kj a b) i = cf a i + cf b i := by
 rw [kj, xI]
 split
 ·rfl
 ·rename_i h
  rw [zY (by omega), zY (by omega)]; rfl
theorem zb7 (a b : List Int) (i : Nat) : cf (jy a b) i = cv (cf a) (cf b) i := by
 rw [jy, xI]
 split
 ·rfl
 ·rename_i h
  exact (zlz (n := a.length) (m := b.length) (fun i hi => zY hi) (fun i hi => zY hi) (by omega)).symm
theorem zcY (c : Int) (a : List Int) (i : Nat) : cf (km c a) i = c * cf a i := by
 by_cases h : i < a.length
 ·rw [vB (by simpa [km] using h), vB h]; simp [km]
 ·rw [zY (by simpa [km] using h), zY (by omega)]; simp
theorem ziU (p : Int) (a : List Int) (i : Nat) : cf (a.map (· % p)) i = cf a i % p := by
 by_cases h : i < a.length
 ·rw [vB (by simpa using h), vB h]; simp
 ·rw [zY (by simpa using h), zY (by omega)]; simp

def nrm (p : Int) (a : List Int) : List Int := zv (a.map (· % p))
theorem zbf (p : Int) (a : List Int) (i : Nat) : cf (nrm p a) i = cf a i % p := by rw [nrm, xR, ziU]
theorem jk (p : Int) (a : List Int) : kh (nrm p a) := xH _

class Pos (p : Int) : Prop where
 pos : 0 < p

def Nrm (p : Int) (l : List Int) : Prop := (∀ x ∈ l, 0 <= x ∧ x < p) ∧ kh l

theorem zlQ {p : Int} [h : Pos p] (a : List Int) : Nrm p (nrm p a) := by
 refine ⟨fun x hx => ?_, jk p a⟩;have := ziT hx;rw [List.mem_map] at this;obtain ⟨y, _, rfl⟩ := this;exact ⟨Int.emod_nonneg _ (by have := h.pos; omega), Int.emod_lt_of_pos _ h.pos⟩

theorem Nrm.cf_mod {p : Int} {l : List Int} (h : Nrm p l) (i : Nat) : cf l i % p = cf l i := by
 by_cases hi : i < l.length
 ·rw [vB hi];have := h.1 _ (List.getElem_mem hi);exact Int.emod_eq_of_lt this.1 this.2
 ·rw [zY (by omega)]; simp
theorem zlR {p : Int} {l : List Int} (h : Nrm p l) : nrm p l = l := yK (jk _ _) h.2 fun i => by rw [zbf, h.cf_mod]

structure Poly (p : Int) where
 l : List Int
 ok : Nrm p l

namespace Poly
variable {p : Int}

theorem zh2 {f g : Poly p} (h : f.l = g.l) : f = g := by
 cases f; cases g; cases h; rfl
theorem zI {f g : Poly p} (h : ∀ i, cf f.l i = cf g.l i) : f = g := zh2 (yK f.ok.2 g.ok.2 h)

instance : DecidableEq (Poly p) := fun f g => if h : f.l = g.l then isTrue (zh2 h) else isFalse fun e => h (e ▸ rfl)

variable [Pos p]
def of (p : Int) [Pos p] (a : List Int) : Poly p := ⟨nrm p a, zlQ a⟩
theorem yo (a : List Int) (i : Nat) : cf (of p a).l i = cf a i % p := zbf p a i
theorem of_l (f : Poly p) : of p f.l = f := zh2 (zlR f.ok)
theorem zlA {a b : List Int} (h : ∀ i, cf a i % p = cf b i % p) : of p a = of p b := zI fun i => by rw [yo, yo, h]
instance : Add (Poly p) := ⟨fun f g => of p (kj f.l g.l)⟩
instance : Mul (Poly p) := ⟨fun f g => of p (jy f.l g.l)⟩
instance : Neg (Poly p) := ⟨fun f => of p (km (-1) f.l)⟩
instance : Sub (Poly p) := ⟨fun f g => of p (kj f.l (km (-1) g.l))⟩
instance : NatCast (Poly p) := ⟨fun n => of p [(n : Int)]⟩
instance : IntCast (Poly p) := ⟨fun n => of p [n]⟩
instance (n : Nat) : OfNat (Poly p) n := ⟨of p [(n : Int)]⟩
instance : SMul Nat (Poly p) := ⟨fun n f => of p [(n : Int)] * f⟩
instance : SMul Int (Poly p) := ⟨fun n f => of p [n] * f⟩
def npow (f : Poly p) : Nat -> Poly p
 | 0 => 1
 | n + 1 => npow f n * f
instance : HPow (Poly p) Nat (Poly p) := ⟨npow⟩

theorem yL (f g : Poly p) (i : Nat) : cf (f + g).l i = (cf f.l i + cf g.l i) % p := by
 show cf (of p _).l i = _
 rw [yo, vP]
theorem xb (f g : Poly p) (i : Nat) : cf (f * g).l i = cv (cf f.l) (cf g.l) i % p := by
 show cf (of p _).l i = _
 rw [yo, zb7]
theorem zjZ (f : Poly p) (i : Nat) : cf (-f).l i = (-cf f.l i) % p := by
 show cf (of p _).l i = _
 rw [yo, zcY]; congr 1; omega
theorem k9 (f g : Poly p) (i : Nat) : cf (f - g).l i = (cf f.l i - cf g.l i) % p := by
 show cf (of p _).l i = _
 rw [yo, vP, zcY]; congr 1; omega
theorem kn : (0 : Poly p).l = [] := by
 refine yK (0 : Poly p).ok.2 (fun n h => by simp at h) fun i => ?_;show cf (of p [((0 : Nat) : Int)]).l i = _
 rw [yo, yJ];cases i with
 | zero => simp [cf]
 | succ i => rw [zx, yJ]; simp
theorem y6 (i : Nat) : cf (0 : Poly p).l i = 0 := by rw [kn, yJ]
theorem zhb (i : Nat) : cf (1 : Poly p).l i = cf [1] i % p := yo _ _

theorem zlS (a b : List Int) : of p (kj a b) = of p a + of p b := zI fun i => by
 rw [yo, vP, yL, yo, yo]; exact Int.add_emod _ _ _
theorem vZ {p : Int} (f : Poly p) (i : Nat) : cf f.l i % p = cf f.l i := f.ok.cf_mod i

theorem zee (f g : Poly p) : f + g = g + f := zI fun i => by rw [yL, yL, Int.add_comm]
theorem ziV (f : Poly p) : f + 0 = f := zI fun i => by rw [yL, y6, Int.add_zero, vZ]
theorem zhc (f g h : Poly p) : f + g + h = f + (g + h) := zI fun i => by
 rw [yL, yL, yL, yL, Int.emod_add_emod, Int.add_emod_emod, Int.add_assoc]
theorem vh (f g : Poly p) : f * g = g * f := zI fun i => by rw [xb, xb, kG]
theorem zaa (f g : Poly p) : cf (f * g).l = fun i => cv (cf f.l) (cf g.l) i % p := funext fun i => xb f g i
theorem zab (f g h : Poly p) : f * g * h = f * (g * h) := zI fun i => by
 rw [xb, zaa, ki, xb, zaa, kG (cf f.l), ki, zjX, kG (cf f.l)]
theorem zj0 (f : Poly p) : 1 * f = f := zI fun i => by
 have e : cf (1 : Poly p).l = fun i => cf [1] i % p := funext zhb;rw [xb, e, ki, zjY, vZ]
theorem zhd (f g : Poly p) : cf (f + g).l = fun i => (cf f.l i + cf g.l i) % p := funext fun i => yL f g i
theorem zj1 (f g h : Poly p) : (f + g) * h = f * h + g * h := zI fun i => by
 rw [xb, zhd, ki, zeO, yL, xb, xb, <- Int.add_emod]
theorem zbX (f : Poly p) : -f + f = 0 := zI fun i => by
 rw [yL, zjZ, y6, Int.emod_add_emod]; simp [Int.add_left_neg]
theorem zld (f g : Poly p) : f - g = f + -g := zI fun i => by
 rw [k9, yL, zjZ, Int.add_emod_emod, Int.sub_eq_add_neg]
theorem zj2 (a b : Int) : of p [a + b] = of p [a] + of p [b] := by
 rw [<- zlS]; exact zlA fun i => by rw [vP]; cases i <;> simp [cf]

theorem zj3 (f : Poly p) : f + -f = 0 := by rw [zee, zbX]
instance : CR (Poly p) where
 add_comm := zee
 add_assoc := zhc
 add_zero := ziV
 add_neg := zj3
 sub_def := zld
 mul_comm := vh
 mul_assoc := zab
 one_mul := zj0
 add_mul := zj1
theorem zd (b : Poly p) (n : Nat) : b ^ (n + 1) = b ^ n * b := rfl
theorem zo (b : Poly p) : b ^ 0 = 1 := rfl

example (f g h : Poly p) : (f + g) * (f - g) + h * (1 + 1) = f * f - g * g + h + h := zf [f, g, h] (by rfl)

end Poly

class Pr (p : Int) : Prop extends Pos p where
 two : 2 <= p
 inv : ∀ a : Int, a % p ≠ 0 -> ∃ b : Int, a * b % p = 1

theorem Pr.mul_ne {p : Int} [h : Pr p] {a b : Int} (ha : a % p ≠ 0) (hb : b % p ≠ 0) : a * b % p ≠ 0 := by
 intro he;obtain ⟨c, hc⟩ := h.inv a ha;have h1 : a * c * b % p = b % p := by rw [Int.mul_emod, hc, Int.one_mul, Int.emod_emod_of_dvd _ (Int.dvd_refl p)]
 have h2 : a * c * b % p = 0 := by
  rw [show a * c * b = c * (a * b) from by rw [Int.mul_comm a c, Int.mul_assoc], Int.mul_emod, he, Int.mul_zero, Int.zero_emod]
 exact hb (h1.symm.trans h2)

namespace Poly
variable {p : Int}

def dg (f : Poly p) : Nat := f.l.length

theorem yl {f : Poly p} {i : Nat} (h : dg f <= i) : cf f.l i = 0 := zY h
theorem yS {f : Poly p} {n : Nat} (h : dg f = n + 1) : cf f.l n ≠ 0 := f.ok.2 n h
theorem kP {f : Poly p} {n : Nat} (h : ∀ i, n <= i -> cf f.l i = 0) : dg f <= n := by
 rcases Nat.lt_or_ge n (dg f) with hlt | hge
 ·exfalso
  exact yS (f := f) (n := dg f - 1) (by omega) (h _ (by omega))
 ·exact hge
theorem zlB {f : Poly p} {n : Nat} (h : cf f.l n ≠ 0) : n < dg f := by
 rcases Nat.lt_or_ge n (dg f) with hlt | hge
 ·exact hlt
 ·exact absurd (yl hge) h

theorem zaF [Pos p] (a : List Int) : dg (of p a) <= a.length := kP fun i hi => by rw [yo, zY hi]; simp

theorem zc [Pos p] {f : Poly p} : dg f = 0 ↔ f = 0 := by
 constructor
 ·intro h;refine zI fun i => ?_;rw [y6, yl (by omega)]
 ·rintro rfl;show (0 : Poly p).l.length = 0
  rw [kn]; rfl

theorem zq [Pos p] : dg (0 : Poly p) = 0 := zc.2 rfl

theorem zj4 [Pos p] (f g : Poly p) : dg (f + g) <= max (dg f) (dg g) := kP fun i hi => by
 rw [yL, yl (by omega), yl (by omega)]; simp
theorem zcZ [Pos p] (f g : Poly p) : dg (f - g) <= max (dg f) (dg g) := kP fun i hi => by
 rw [k9, yl (by omega), yl (by omega)]; simp
theorem yy [Pos p] (f g : Poly p) : dg (f * g) <= dg f + dg g - 1 := kP fun i hi => by
 rw [xb, zlz (n := dg f) (m := dg g) (fun i hi => yl hi) (fun i hi => yl hi) (by omega)]; simp

theorem ya {f : Poly p} {i : Nat} (h : cf f.l i ≠ 0) : cf f.l i % p ≠ 0 := by rw [f.ok.cf_mod]; exact h

section
variable [Pr p]

theorem zf5 {f g : Poly p} {n m : Nat} (hf : dg f = n + 1) (hg : dg g = m + 1) : cf (f * g).l (n + m) = cf f.l n * cf g.l m % p := by
 rw [xb, zlP (fun i hi => yl (by omega)) (fun i hi => yl (by omega))]

theorem yv {f g : Poly p} (hf : f ≠ 0) (hg : g ≠ 0) : dg (f * g) + 1 = dg f + dg g := by
 have h1 : dg f ≠ 0 := fun h => hf (zc.1 h);have h2 : dg g ≠ 0 := fun h => hg (zc.1 h);obtain ⟨n, hn⟩ := Nat.exists_eq_succ_of_ne_zero h1;obtain ⟨m, hm⟩ := Nat.exists_eq_succ_of_ne_zero h2
 have h3 : cf (f * g).l (n + m) ≠ 0 := by
  rw [zf5 hn hm];exact Pr.mul_ne (ya (yS hn)) (ya (yS hm))
 have h4 := zlB h3;have h5 := yy f g;omega

theorem mul_ne {f g : Poly p} (hf : f ≠ 0) (hg : g ≠ 0) : f * g ≠ 0 := by
 intro h;have h1 := yv hf hg;have h2 : dg f ≠ 0 := fun h => hf (zc.1 h);have h3 : dg g ≠ 0 := fun h => hg (zc.1 h);rw [h, zq] at h1;omega
theorem mul_eq_zero {f g : Poly p} (h : f * g = 0) : f = 0 ∨ g = 0 := by
 by_cases hf : f = 0
 ·exact .inl hf
 ·by_cases hg : g = 0
  ·exact .inr hg
  ·exact absurd h (mul_ne hf hg)
theorem zac {f g h : Poly p} (hf : f ≠ 0) (he : f * g = f * h) : g = h := by
 have : f * (g - h) = 0 := by exact comb (1) he (zf [f, g, h] (by rfl))
 rcases mul_eq_zero this with h1 | h1
 ·exact absurd h1 hf
 ·exact comb (1) h1 (zf [g, h] (by rfl))

theorem zc0 : (1 : Poly p) ≠ 0 := by
 intro h;have h1 := zhb (p := p) 0;rw [h, y6, yu, Int.emod_eq_of_lt (by omega) (by have := Pr.two (p := p); omega)] at h1;cases h1
theorem yA : dg (1 : Poly p) = 1 := by
 have h1 : dg (1 : Poly p) <= 1 := zaF [((1 : Nat) : Int)];have h2 : dg (1 : Poly p) ≠ 0 := fun h => zc0 (zc.1 h);omega
end

def mono (p : Int) [Pos p] (c : Int) (k : Nat) : Poly p := of p (List.replicate k 0 ++ [c])
theorem zj5 (c : Int) (k i : Nat) : cf (List.replicate k 0 ++ [c]) i = if i = k then c else 0 := by
 induction k generalizing i with
 | zero => cases i with
  | zero => rfl
  | succ i => simp [cf]
 | succ k ih =>
  cases i with
  | zero => simp [cf, List.replicate_succ]
  | succ i =>
   rw [List.replicate_succ, List.cons_append, zx, ih];simp
theorem cv_mono (c : Int) (k : Nat) (g : Nat -> Int) (i : Nat) : cv (fun j => if j = k then c else 0) g i = if k <= i then c * g (i - k) else 0 := by
 induction k generalizing i with
 | zero =>
  cases i with
  | zero => simp [cv]
  | succ i =>
   rw [cv, yf (f := fun j => if j + 1 = 0 then c else 0) (fun i _ => by simp)];simp
 | succ k ih =>
  cases i with
  | zero => simp [cv]
  | succ i =>
   rw [cv];have : (fun j => if j + 1 = k + 1 then c else 0) = fun j => if j = k then c else 0 := by funext j; simp
   rw [this, ih];simp
theorem jz [Pos p] (c : Int) (k i : Nat) : cf (mono p c k).l i = if i = k then c % p else 0 := by
 rw [mono, yo, zj5]; split <;> simp
theorem vQ [Pos p] (c : Int) (k : Nat) (g : Poly p) (i : Nat) : cf (mono p c k * g).l i = if k <= i then c * cf g.l (i - k) % p else 0 := by
 have e : cf (mono p c k).l = fun i => (if i = k then c else 0) % p := funext fun i => by rw [jz]; split <;> simp
 rw [xb, e, ki, cv_mono]; split <;> simp

section
variable [Pr p]

theorem jA (g : Poly p) (hg : g ≠ 0) : ∀ (n : Nat) (f : Poly p), dg f <= n -> ∃ q r : Poly p, f = q * g + r ∧ dg r < dg g := by
 have hg0 : dg g ≠ 0 := fun h => hg (zc.1 h);intro n
 induction n with
 | zero =>
  intro f hf;exact ⟨0, f, by exact zf [f, g] (by rfl), by omega⟩
 | succ n ih =>
  intro f hf
  by_cases hlt : dg f < dg g
  ·exact ⟨0, f, by exact zf [f, g] (by rfl), hlt⟩
  ·by_cases hle : dg f <= n
   ·exact ih f hle
   ·obtain ⟨m, hm⟩ := Nat.exists_eq_succ_of_ne_zero hg0;obtain ⟨b, hb⟩ := Pr.inv (p := p) _ (ya (yS hm))
    obtain ⟨q, r, h1, h2⟩ := ih (f - mono p (cf f.l n * b) (n - m) * g) (by
     refine kP fun i hi => ?_;rw [k9, vQ, if_pos (by omega)];rcases Nat.eq_or_lt_of_le hi with rfl | hlt'
     ·rw [show n - (n - m) = m by omega];rw [Int.sub_emod, Int.emod_emod_of_dvd _ (Int.dvd_refl p), <- Int.sub_emod]
      have : cf f.l n - cf f.l n * b * cf g.l m = cf f.l n * (1 - cf g.l m * b) := by
       rw [Int.mul_sub, Int.mul_one, Int.mul_assoc, Int.mul_comm b]
      rw [this, Int.mul_emod, Int.sub_emod, hb];have h1 : (1 : Int) % p = 1 := Int.emod_eq_of_lt (by omega) (by have := Pr.two (p := p); omega);rw [h1]; simp
     ·rw [yl (f := f) (by omega), yl (f := g) (by omega)]; simp)
    exact ⟨q + mono p (cf f.l n * b) (n - m), r, by exact comb (1) h1 (zf [f, q, mono p (cf f.l n * b) (n - m), g, r] (by rfl)), h2⟩

theorem zhe {f g q r q' r' : Poly p} (h : f = q * g + r) (hr : dg r < dg g) (h' : f = q' * g + r') (hr' : dg r' < dg g) : q = q' ∧ r = r' := by
 have h1 : (q - q') * g = r' - r := by exact comb (1) h' (comb (-1) h (zf [f, q, g, r, q', r'] (by rfl)))
 by_cases hq : q - q' = 0
 ·refine ⟨by exact comb (1) hq (zf [q, q'] (by rfl)), ?_⟩;rw [hq] at h1;exact comb (1) h1 (zf [r, r', g] (by rfl))
 ·exfalso
  have hg : g ≠ 0 := fun h => by rw [h, zq] at hr; omega
  have h2 := yv hq hg;rw [h1] at h2;have h3 := zcZ r' r;have h4 : dg (q - q') ≠ 0 := fun h => hq (zc.1 h);omega

open Classical in
noncomputable def zle (f g : Poly p) : Poly p × Poly p := if hg : g = 0 then (0, f) else ⟨(jA g hg _ f (Nat.le_refl _)).choose, (jA g hg _ f (Nat.le_refl _)).choose_spec.choose⟩
noncomputable def quo (f g : Poly p) : Poly p := (zle f g).1
noncomputable def rem (f g : Poly p) : Poly p := (zle f g).2

theorem v3 (f g : Poly p) : f = quo f g * g + rem f g := by
 unfold quo rem zle
 split
 ·show f = 0 * g + f; exact zf [f, g] (by rfl)
 ·rename_i hg
  exact (jA g hg _ f (Nat.le_refl _)).choose_spec.choose_spec.1
theorem yB (f : Poly p) {g : Poly p} (hg : g ≠ 0) : dg (rem f g) < dg g := by
 unfold rem zle;rw [dif_neg hg];exact (jA g hg _ f (Nat.le_refl _)).choose_spec.choose_spec.2
theorem zeP {f g q r : Poly p} (h : f = q * g + r) (hr : dg r < dg g) : quo f g = q ∧ rem f g = r := by
 have hg : g ≠ 0 := fun h => by rw [h, zq] at hr; omega
 exact zhe (v3 f g) (yB f hg) h hr

def Dvd' (g f : Poly p) : Prop := ∃ q, f = g * q
instance : Dvd (Poly p) := ⟨Dvd'⟩
theorem dvd_refl (f : Poly p) : f ∣ f := ⟨1, by exact zf [f] (by rfl)⟩
theorem dvd_zero (f : Poly p) : f ∣ 0 := ⟨0, by exact zf [f] (by rfl)⟩
theorem zb8 (f : Poly p) : 1 ∣ f := ⟨f, by exact zf [f] (by rfl)⟩
theorem zp {f g h : Poly p} (h1 : f ∣ g) (h2 : g ∣ h) : f ∣ h := by
 obtain ⟨a, rfl⟩ := h1;obtain ⟨b, rfl⟩ := h2;exact ⟨a * b, by exact zf [f, a, b] (by rfl)⟩
theorem zP {f g : Poly p} (h : Poly p) (h1 : f ∣ g) : f ∣ h * g := by
 obtain ⟨a, rfl⟩ := h1;exact ⟨h * a, by exact zf [f, a, h] (by rfl)⟩
theorem xO {f g : Poly p} (h : Poly p) (h1 : f ∣ g) : f ∣ g * h := by
 obtain ⟨a, rfl⟩ := h1;exact ⟨a * h, by exact zf [f, a, h] (by rfl)⟩
theorem dvd_add {f g h : Poly p} (h1 : f ∣ g) (h2 : f ∣ h) : f ∣ g + h := by
 obtain ⟨a, rfl⟩ := h1;obtain ⟨b, rfl⟩ := h2;exact ⟨a + b, by exact zf [f, a, b] (by rfl)⟩
theorem dvd_sub {f g h : Poly p} (h1 : f ∣ g) (h2 : f ∣ h) : f ∣ g - h := by
 obtain ⟨a, rfl⟩ := h1;obtain ⟨b, rfl⟩ := h2;exact ⟨a - b, by exact zf [f, a, b] (by rfl)⟩
theorem ko {g f : Poly p} (hg : g ≠ 0) : g ∣ f ↔ rem f g = 0 := by
 constructor
 ·rintro ⟨q, rfl⟩;exact (zeP (q := q) (r := 0) (by exact zf [g, q] (by rfl)) (by rw [zq]; have : dg g ≠ 0 := fun h => hg (zc.1 h); omega)).2
 ·intro h;have := v3 f g;rw [h] at this;exact ⟨quo f g, by exact comb (1) this (zf [f, g, quo f g] (by rfl))⟩
theorem zC {g f : Poly p} (h : g ∣ f) (hf : f ≠ 0) : dg g <= dg f := by
 obtain ⟨q, rfl⟩ := h;have hg : g ≠ 0 := fun h => hf (by rw [h]; exact zf [q] (by rfl));have hq : q ≠ 0 := fun h => hf (by rw [h]; exact zf [g] (by rfl));have h1 := yv hg hq;have : dg q ≠ 0 := fun h => hq (zc.1 h);omega
theorem zc1 {g f : Poly p} (h : g ∣ f) (hf : f ≠ 0) : g ≠ 0 := by
 rintro rfl;obtain ⟨q, rfl⟩ := h;exact hf (by exact zf [q] (by rfl))
end

end Poly
namespace Poly
variable {p : Int} [Pr p]

def con (p : Int) [Pos p] (c : Int) : Poly p := of p [c]
theorem xc (c : Int) (i : Nat) : cf (con p c).l i = if i = 0 then c % p else 0 := by
 rw [con, yo]; cases i <;> simp [cf]
theorem zc2 (c : Int) (f : Poly p) (i : Nat) : cf (con p c * f).l i = c * cf f.l i % p := by
 have e : cf (con p c).l = fun i => c * cf [1] i % p := funext fun i => by rw [xc]; cases i <;> simp [cf]
 rw [xb, e, ki, zh1, zjY]
theorem zeQ (a b : Int) : con p a * con p b = con p (a * b) := zI fun i => by
 rw [zc2, xc, xc]; split <;> simp [Int.mul_emod]
theorem zeR (a b : Int) : con p a + con p b = con p (a + b) := (zj2 a b).symm
theorem zb9 (a b : Int) : con p a - con p b = con p (a - b) := zI fun i => by
 rw [k9, xc, xc, xc]; split
 ·exact (Int.sub_emod _ _ _).symm
 ·simp
theorem zca (a : Int) : con p (a % p) = con p a := zI fun i => by rw [xc, xc]; simp
theorem y3 : con p 0 = 0 := zI fun i => by rw [xc, y6]; simp
theorem jB : con p 1 = 1 := rfl
theorem xf {a : Int} : con p a = 0 ↔ a % p = 0 := by
 constructor
 ·intro h;have := xc (p := p) a 0;rw [h, y6] at this
  simpa using this.symm
 ·intro h;rw [<- zca, h, y3]
theorem v4 (a : Int) : dg (con p a) <= 1 := zaF [a]
theorem zhf {a : Int} (h : a % p ≠ 0) : dg (con p a) = 1 := by
 have h1 := v4 (p := p) a;have h2 : dg (con p a) ≠ 0 := fun h' => h (xf.1 (zc.1 h'));omega
theorem zeS {f : Poly p} (h : dg f <= 1) : f = con p (cf f.l 0) := zI fun i => by
 rw [xc];cases i with
 | zero => simp [vZ]
 | succ i => rw [yl (by omega)]; simp

theorem vC {u : Poly p} (h : dg u = 1) : ∃ v, u * v = 1 := by
 have h0 := yS (f := u) (n := 0) h;obtain ⟨b, hb⟩ := Pr.inv (p := p) _ (ya h0);refine ⟨con p b, ?_⟩;rw [zeS (f := u) (by omega), zeQ, <- zca, hb]; rfl
theorem zf6 {u : Poly p} (h : dg u = 1) (f : Poly p) : u ∣ f := by
 obtain ⟨v, hv⟩ := vC h;exact ⟨v * f, by exact comb (-f) hv (zf [f, u, v] (by rfl))⟩
theorem zc3 {u f : Poly p} (h : dg u = 1) (hf : f ∣ u) : dg f = 1 := by
 have hu : u ≠ 0 := fun e => by rw [e, zq] at h; cases h
 have h1 := zC hf hu;have h2 : dg f ≠ 0 := fun e => zc1 hf hu (zc.1 e);omega

def lc (f : Poly p) : Int := cf f.l (dg f - 1)
def Mon (f : Poly p) : Prop := f ≠ 0 ∧ lc f = 1
theorem zlC {f : Poly p} (h : f ≠ 0) : lc f ≠ 0 := by
 have : dg f ≠ 0 := fun e => h (zc.1 e);exact yS (n := dg f - 1) (by omega)
theorem zc4 {f g : Poly p} (hf : f ≠ 0) (hg : g ≠ 0) : lc (f * g) = lc f * lc g % p := by
 have h1 : dg f ≠ 0 := fun e => hf (zc.1 e);have h2 : dg g ≠ 0 := fun e => hg (zc.1 e);have h3 := yv hf hg;have := zf5 (f := f) (g := g) (n := dg f - 1) (m := dg g - 1) (by omega) (by omega);unfold lc;rw [show dg (f * g) - 1 = dg f - 1 + (dg g - 1) by omega, this]
theorem zh3 : (1 : Int) % p = 1 := Int.emod_eq_of_lt (by omega) (by have := Pr.two (p := p); omega)
theorem Mon.mul {f g : Poly p} (hf : Mon f) (hg : Mon g) : Mon (f * g) :=
 ⟨mul_ne hf.1 hg.1, by rw [zc4 hf.1 hg.1, hf.2, hg.2]; exact zh3⟩
theorem zeT : Mon (1 : Poly p) := ⟨zc0, by
 unfold lc;rw [yA, zhb];exact zh3⟩
theorem Mon.right {f g : Poly p} (hf : Mon f) (h : Mon (f * g)) : Mon g := by
 have hg : g ≠ 0 := fun e => h.1 (by rw [e]; exact zf [f] (by rfl));refine ⟨hg, ?_⟩;have := zc4 hf.1 hg;rw [h.2, hf.2, Int.one_mul] at this;rw [this]; exact (vZ g _).symm
theorem zj6 {c : Int} (h : c % p ≠ 0) : lc (con p c) = c % p := by
 unfold lc;rw [zhf h, xc]; rfl
theorem zeU {c : Int} (h : c % p ≠ 0) : con p c ≠ 0 := fun e => h (xf.1 e)
theorem jC {f : Poly p} (hf : f ≠ 0) : ∃ c : Int, c % p ≠ 0 ∧ Mon (con p c * f) := by
 obtain ⟨b, hb⟩ := Pr.inv (p := p) (lc f) (ya (zlC hf))
 have hb' : b % p ≠ 0 := by
  intro h;rw [Int.mul_emod, h, Int.mul_zero, Int.zero_emod] at hb; cases hb
 refine ⟨b, hb', mul_ne (zeU hb') hf, ?_⟩;rw [zc4 (zeU hb') hf, zj6 hb', Int.mul_comm, Int.mul_emod, Int.emod_emod_of_dvd _ (Int.dvd_refl p), <- Int.mul_emod, hb]

theorem zhg {f g : Poly p} (hf : Mon f) (hg : Mon g) (h1 : f ∣ g) (h2 : g ∣ f) : f = g := by
 obtain ⟨q, rfl⟩ := h1;have h3 := zC h2 hf.1;have hq : q ≠ 0 := fun e => hg.1 (by rw [e]; exact zf [f] (by rfl));have h4 := yv hf.1 hq;have h5 : dg q ≠ 0 := fun e => hq (zc.1 e);have h6 : q = con p (cf q.l 0) := zeS (by omega);have h7 := hf.right hg
 have h8 : cf q.l 0 = 1 := by
  have := h7.2;unfold lc at this
  rwa [show dg q - 1 = 0 by omega] at this
 rw [h6, h8, jB]; exact zf [f] (by rfl)

open Classical in
noncomputable def mnc (f : Poly p) : Poly p := if h : f = 0 then 0 else con p (jC h).choose * f
theorem zf7 : mnc (0 : Poly p) = 0 := by simp [mnc]
theorem vR {f : Poly p} (h : f ≠ 0) : Mon (mnc f) := by
 unfold mnc; rw [dif_neg h]; exact (jC h).choose_spec.2
theorem zL (f : Poly p) : mnc f ∣ f ∧ f ∣ mnc f := by
 unfold mnc
 split
 ·rename_i h; rw [h]; exact ⟨dvd_refl _, dvd_refl _⟩
 ·rename_i h
  obtain ⟨v, hv⟩ := vC (zhf (jC h).choose_spec.1);generalize (jC h).choose = c at hv;exact ⟨⟨v, by exact comb (-f) hv (zf [f, con p c, v] (by rfl))⟩, ⟨con p c, by exact zf [f, con p c] (by rfl)⟩⟩
theorem zlT {f : Poly p} {c : Int} (h : Mon (con p c * f)) : mnc f = con p c * f := by
 have hf : f ≠ 0 := fun e => h.1 (by rw [e]; exact zf [con p c] (by rfl));have hc : c % p ≠ 0 := fun e => h.1 (by rw [xf.2 e]; exact zf [f] (by rfl));obtain ⟨v, hv⟩ := vC (zhf hc);refine zhg (vR hf) h (zP _ (zL f).1) ?_;exact zp ⟨v, by exact comb (-f) hv (zf [f, con p c, v] (by rfl))⟩ (zL f).2

noncomputable def gcd (f g : Poly p) : Poly p :=
 if h : dg g = 0 then mnc f else have : dg (rem f g) < dg g := yB f fun e => h (zc.2 e); gcd g (rem f g)
termination_by dg g

theorem zc5 (f : Poly p) : gcd f 0 = mnc f := by rw [gcd, dif_pos zq]
theorem zhh (f : Poly p) {g : Poly p} (h : g ≠ 0) : gcd f g = gcd g (rem f g) := by rw [gcd, dif_neg fun e => h (zc.1 e)]

theorem zaG : ∀ (n : Nat) (f g : Poly p), dg g <= n -> (gcd f g ∣ f ∧ gcd f g ∣ g) ∧ (∃ a b, gcd f g = a * f + b * g) ∧ (f ≠ 0 ∨ g ≠ 0 -> Mon (gcd f g)) := by
 intro n
 induction n with
 | zero =>
  intro f g h;obtain rfl := zc.1 (by omega : dg g = 0);rw [zc5];obtain ⟨h1, c, hc⟩ := zL f;refine ⟨⟨h1, dvd_zero _⟩, ⟨c, 0, by rw [hc]; exact zf [f, c] (by rfl)⟩, fun h => vR (h.resolve_right fun h => h rfl)⟩
 | succ n ih =>
  intro f g h
  by_cases hg : g = 0
  ·subst hg;exact ih f 0 (by rw [zq]; omega)
  ·rw [zhh f hg];have h0 := yB f hg;obtain ⟨⟨h1, h2⟩, ⟨a, b, h3⟩, h4⟩ := ih g (rem f g) (by omega);have h5 := v3 f g;refine ⟨⟨?_, h1⟩, ⟨b, a - b * quo f g, ?_⟩, fun _ => h4 (.inl hg)⟩
   ·have := dvd_add (zP (quo f g) h1) h2
    rwa [<- h5] at this
   ·rw [h3]; exact comb (-b) h5 (zf [a, b, f, g, rem f g, quo f g] (by rfl))

theorem xu (f g : Poly p) : gcd f g ∣ f := (zaG _ f g (Nat.le_refl _)).1.1
theorem xg (f g : Poly p) : gcd f g ∣ g := (zaG _ f g (Nat.le_refl _)).1.2
theorem zf8 (f g : Poly p) : ∃ a b, gcd f g = a * f + b * g := (zaG _ f g (Nat.le_refl _)).2.1
theorem zaH {f g : Poly p} (h : f ≠ 0 ∨ g ≠ 0) : Mon (gcd f g) := (zaG _ f g (Nat.le_refl _)).2.2 h
theorem zh4 {h f g : Poly p} (h1 : h ∣ f) (h2 : h ∣ g) : h ∣ gcd f g := by
 obtain ⟨a, b, he⟩ := zf8 f g;rw [he];exact dvd_add (zP _ h1) (zP _ h2)

def Cop (f g : Poly p) : Prop := ∃ a b, a * f + b * g = 1
theorem Cop.symm {f g : Poly p} (h : Cop f g) : Cop g f := by
 obtain ⟨a, b, h⟩ := h;exact ⟨b, a, by exact comb (1) h (zf [a, b, f, g] (by rfl))⟩
theorem zc6 {f g : Poly p} (h : dg (gcd f g) = 1) : Cop f g := by
 obtain ⟨a, b, he⟩ := zf8 f g;obtain ⟨v, hv⟩ := vC h;exact ⟨v * a, v * b, by exact comb (1) hv (comb (-v) he (zf [v, a, b, f, g, gcd f g] (by rfl)))⟩
theorem Cop.mul {f g h : Poly p} (h1 : Cop f h) (h2 : Cop g h) : Cop (f * g) h := by
 obtain ⟨a, b, h1⟩ := h1;obtain ⟨c, d, h2⟩ := h2;exact ⟨a * c, a * f * d + b * c * g + b * d * h, by exact comb (c*g+d*h) h1 (comb (1) h2 (zf [a, b, c, d, f, g, h] (by rfl)))⟩
theorem Cop.dvd {f g h : Poly p} (h1 : Cop f g) (h2 : f ∣ g * h) : f ∣ h := by
 obtain ⟨a, b, h1⟩ := h1;obtain ⟨q, h2⟩ := h2;exact ⟨a * h + b * q, by exact comb (-h) h1 (comb (b) h2 (zf [a, b, f, g, h, q] (by rfl)))⟩
theorem Cop.mul_dvd {f g h : Poly p} (h1 : Cop f g) (h2 : f ∣ h) (h3 : g ∣ h) : f * g ∣ h := by
 obtain ⟨a, b, h1⟩ := h1;obtain ⟨q, h2⟩ := h2;obtain ⟨r, h3⟩ := h3;exact ⟨a * r + b * q, by exact comb (-h) h1 (comb (b*g) h2 (comb (a*f) h3 (zf [a, b, f, g, h, q, r] (by rfl))))⟩
theorem zeV (f : Poly p) : Cop 1 f := ⟨1, 0, by exact zf [f] (by rfl)⟩
theorem Cop.pow {f g : Poly p} (h : Cop f g) (n : Nat) : Cop (f ^ n) g := by
  induction n with
  | zero => have : f ^ 0 = 1 := by exact zo f
            rw [this]; exact zeV g
  | succ n ih => have : f ^ (n + 1) = f ^ n * f := by exact zd f n
                 rw [this]; exact ih.mul h

def Irr (h : Poly p) : Prop := 2 <= dg h ∧ ∀ a b, h = a * b -> dg a = 1 ∨ dg b = 1

theorem Irr.ne {h : Poly p} (hi : Irr h) : h ≠ 0 := fun e => by have := hi.1; rw [e, zq] at this; omega

theorem Irr.cop {h a : Poly p} (hi : Irr h) (hn : ¬ h ∣ a) : Cop h a := by
 obtain ⟨q, hq⟩ := xu h a;rcases hi.2 _ _ hq with h1 | h1
 ·exact zc6 h1
 ·exfalso
  obtain ⟨v, hv⟩ := vC h1;exact hn (zp ⟨v, by exact comb (-(gcd h a)) hv (comb (-v) hq (zf [gcd h a, h, q, v] (by rfl)))⟩ (xg h a))
theorem Irr.prime {h a b : Poly p} (hi : Irr h) (hd : h ∣ a * b) : h ∣ a ∨ h ∣ b := by
 by_cases ha : h ∣ a
 ·exact .inl ha
 ·exact .inr ((hi.cop ha).dvd hd)
theorem Irr.not_unit {h u : Poly p} (hi : Irr h) (hu : dg u = 1) : ¬ h ∣ u := fun hd => by
 have := zc3 hu hd;have := hi.1;omega
theorem Irr.pow {h a : Poly p} (hi : Irr h) {n : Nat} (hd : h ∣ a ^ n) : h ∣ a := by
 induction n with
 | zero =>
  have e : a ^ 0 = 1 := by exact zo a
  rw [e] at hd;exact absurd hd (hi.not_unit yA)
 | succ n ih =>
  have e : a ^ (n + 1) = a ^ n * a := by exact zd a n
  rw [e] at hd;exact (hi.prime hd).elim ih id

theorem jD {g h : Poly p} (hg : Irr g) (hh : Irr h) (mg : Mon g) (mh : Mon h) (hd : g ∣ h) : g = h := by
 refine zhg mg mh hd ?_;obtain ⟨q, rfl⟩ := hd;rcases hh.2 _ _ rfl with h1 | h1
 ·exact absurd h1 (by have := hg.1; omega)
 ·obtain ⟨v, hv⟩ := vC h1;exact ⟨v, by exact comb (-g) hv (zf [g, q, v] (by rfl))⟩

theorem vS {h : Poly p} (hi : Irr h) : Irr (mnc h) ∧ Mon (mnc h) := by
 refine ⟨?_, vR hi.ne⟩;obtain ⟨⟨q, hq⟩, ⟨r, hr⟩⟩ := zL h;have h1 := zC (zL h).1 hi.ne;have h2 := zC (zL h).2 (vR hi.ne).1;refine ⟨by have := hi.1; omega, fun a b hab => ?_⟩
 have hq1 : dg q = 1 := by
  have hm := (vR hi.ne).1;have hq0 : q ≠ 0 := fun e => hi.ne (by rw [hq, e]; exact zf [mnc h] (by rfl));have := yv hm hq0;rw [<- hq] at this;omega
 rcases hi.2 a (b * q) (by exact comb (1) hq (comb (q) hab (zf [h, a, b, q, mnc h] (by rfl)))) with h3 | h3
 ·exact .inl h3
 ·exact .inr (zc3 h3 ⟨q, rfl⟩)

theorem vD : ∀ (n : Nat) (f : Poly p), dg f <= n -> 2 <= dg f -> ∃ h, Irr h ∧ Mon h ∧ h ∣ f := by
 intro n
 induction n with
 | zero => intro f h1 h2; omega
 | succ n ih =>
  intro f h1 h2;have hf : f ≠ 0 := fun e => by rw [e, zq] at h2; omega
  by_cases hi : Irr f
  ·exact ⟨mnc f, (vS hi).1, (vS hi).2, (zL f).1⟩
  ·unfold Irr at hi;simp only [not_and, Classical.not_forall, not_or] at hi
   obtain ⟨a, b, rfl, ha, hb⟩ := hi h2;have ha0 : a ≠ 0 := fun e => hf (by rw [e]; exact zf [b] (by rfl));have hb0 : b ≠ 0 := fun e => hf (by rw [e]; exact zf [a] (by rfl));have h3 := yv ha0 hb0;have h4 : dg a ≠ 0 := fun e => ha0 (zc.1 e);have h5 : dg b ≠ 0 := fun e => hb0 (zc.1 e);obtain ⟨h, h6, h7, h8⟩ := ih a (by omega) (by omega);exact ⟨h, h6, h7, xO _ h8⟩

def Sqf (f : Poly p) : Prop := ∀ h, Irr h -> ¬ h * h ∣ f

theorem zad {f g : Poly p} (hf : f ≠ 0) (h : ∀ h, Irr h -> h ∣ f -> h ∣ g -> False) : Cop f g := by
 have hm := zaH (f := f) (g := g) (.inl hf);have h0 : dg (gcd f g) ≠ 0 := fun e => hm.1 (zc.1 e)
 by_cases h1 : dg (gcd f g) = 1
 ·exact zc6 h1
 ·obtain ⟨q, h2, _, h3⟩ := vD _ (gcd f g) (Nat.le_refl _) (by omega);exact (h q h2 (zp h3 (xu f g)) (zp h3 (xg f g))).elim

theorem Sqf.cop {f a b : Poly p} (hs : Sqf f) (hf : f ≠ 0) (h : a * b ∣ f) : Cop a b := by
 have ha : a ≠ 0 := fun e => zc1 h hf (by rw [e]; exact zf [b] (by rfl));refine zad ha fun q hq h1 h2 => hs q hq ?_;obtain ⟨x, rfl⟩ := h1;obtain ⟨y, rfl⟩ := h2;exact zp ⟨x * y, by exact zf [q, x, y] (by rfl)⟩ h
theorem Sqf.dvd {f g : Poly p} (hs : Sqf f) (h : g ∣ f) : Sqf g := fun q hq hd => hs q hq (zp hd h)

end Poly

def yj : List Int := [2, 3, 5, 7, 11, 13, 17, 19, 23, 29, 31, 37, 41, 43, 47, 53, 59, 61, 67, 71, 73, 79, 83, 89, 97]

def zhi (p k : Int) : List Int -> List Int -> List Int
 | x :: l, y :: l' => (x - k * y) % p :: zhi p k l l'
 | _, _ => []
def stir (p : Int) : Nat -> List Int
 | 0 => [1]
 | n + 1 => zhi p n (0 :: stir p n) (stir p n ++ [0])
def zhj (p : Int) : List Int := 0 :: (p - 1) :: (List.replicate (p.toNat - 2) 0 ++ [1])

theorem zf9 : yj.all (fun p => stir p p.toNat == zhj p) = true := by decide +kernel
theorem zhk : yj.all (fun p => (List.range p.toNat).all fun a => a == 0 || (List.range p.toNat).any fun b => (a : Int) * b % p == 1) = true := by decide +kernel
theorem zae : yj.all (fun p => decide (2 <= p ∧ p <= 97)) = true := by decide +kernel

class SP (p : Int) : Prop extends Pr p where
 le : p <= 97
 stir : stir p p.toNat = zhj p

theorem xw {p : Int} (h : p ∈ yj) : SP p := by
 have h1 := List.all_eq_true.1 zf9 p h;have h2 := List.all_eq_true.1 zhk p h;have h3 := List.all_eq_true.1 zae p h;simp only [beq_iff_eq, decide_eq_true_eq] at h1 h3
 refine { pos := by omega, two := h3.1, le := h3.2, stir := h1, inv := fun a ha => ?_ };rw [List.all_eq_true] at h2;have h4 := Int.emod_nonneg a (show p ≠ 0 by omega);have h5 := Int.emod_lt_of_pos a (show 0 < p by omega);have h6 := h2 (a % p).toNat (List.mem_range.2 (by omega));simp only [Bool.or_eq_true, beq_iff_eq, List.any_eq_true] at h6
 rcases h6 with h6 | ⟨b, _, h6⟩
 ·omega
 ·refine ⟨b, ?_⟩;rw [show ((a % p).toNat : Int) = a % p by omega, Int.mul_emod, Int.emod_emod_of_dvd _ (Int.dvd_refl p), <- Int.mul_emod] at h6;exact h6

namespace Poly
variable {p : Int} [Pr p]

def hev (a b : Poly p) : List Int -> Nat -> Poly p
 | [], _ => 0
 | c :: l, n => con p c * b ^ n + a * hev a b l (n - 1)

def xS (a b : Poly p) : Nat -> Poly p
 | 0 => 1
 | n + 1 => xS a b n * (a - con p n * b)


theorem zga (a b : Poly p) : ∀ (l : List Int) (n : Nat), l.length = n + 1 -> hev a b (l ++ [0]) (n + 1) = b * hev a b l n
 | [], n, h => by simp at h
 | [c], n, h => by
  have : n = 0 := by simpa using h.symm
  subst this;simp only [List.cons_append, List.nil_append, hev, y3]
  rw [zd, zo];exact zf [con p c, b, a, b ^ (0 + 1 - 1)] (by rfl)
 | c :: d :: l, n, h => by
  cases n with
  | zero => simp at h
  | succ n =>
   have ih := zga a b (d :: l) n (by simpa using h);simp only [List.cons_append] at ih ⊢
   have e1 : hev a b (c :: d :: (l ++ [0])) (n + 1 + 1) = con p c * b ^ (n + 1 + 1) + a * hev a b (d :: (l ++ [0])) (n + 1) := rfl;have e2 : hev a b (c :: d :: l) (n + 1) = con p c * b ^ (n + 1) + a * hev a b (d :: l) n := rfl;rw [e1, e2, ih, zd b (n + 1)];exact zf [a, b, con p c, b ^ (n+1), hev a b (d :: l) n] (by rfl)

theorem zgb (a b : Poly p) (k : Int) : ∀ (l l' : List Int) (n : Nat), l.length = l'.length -> hev a b (zhi p k l l') n = hev a b l n - con p k * hev a b l' n
 | [], [], n, _ => by simp only [zhi, hev]; exact zf [con p k] (by rfl)
 | x :: l, y :: l', n, h => by
  simp only [zhi, hev]
  rw [zgb a b k l l' (n - 1) (by simpa using h), zca, <- zb9, <- zeQ];exact zf [con p k, con p x, con p y, a, b ^ n, hev a b l (n-1), hev a b l' (n-1)] (by rfl)
 | [], _ :: _, n, h => by simp at h
 | _ :: _, [], n, h => by simp at h

theorem zbK {p : Int} (k : Int) : ∀ (l l' : List Int), l.length = l'.length -> (zhi p k l l').length = l.length
 | [], [], _ => rfl
 | x :: l, y :: l', h => by simp [zhi, zbK k l l' (by simpa using h)]
 | [], _ :: _, h => by simp at h
 | _ :: _, [], h => by simp at h

theorem zgc {p : Int} (n : Nat) : (stir p n).length = n + 1 := by
 induction n with
 | zero => rfl
 | succ n ih => rw [stir, zbK _ _ _ (by simp)]; simp [ih]

theorem zj7 (a b : Poly p) (n : Nat) : hev a b (stir p n) n = xS a b n := by
 induction n with
 | zero => simp only [stir, hev, xS, jB, zo]; exact zf [a] (by rfl)
 | succ n ih =>
  rw [stir, zgb _ _ _ _ _ _ (by simp), zga _ _ _ _ (zgc n), xS];simp only [hev, y3, Nat.add_sub_cancel, ih]
  exact zf [a, b, xS a b n, con p (n:Int), b ^ (n+1)] (by rfl)

theorem zlf (a b : Poly p) (m : Nat) : hev a b (List.replicate m 0 ++ [1]) m = a ^ m := by
 induction m with
 | zero => simp only [List.replicate_zero, List.nil_append, hev, jB, zo]; exact zf [a] (by rfl)
 | succ m ih =>
  rw [List.replicate_succ, List.cons_append, hev, Nat.add_sub_cancel, ih, y3, zd a m];exact zf [a, a ^ m, b ^ (m+1)] (by rfl)

section
variable {p : Int} [SP p]

theorem zc7 (a b : Poly p) : xS a b p.toNat = a ^ p.toNat - a * b ^ (p.toNat - 1) := by
 have h2 := Pr.two (p := p);rw [<- zj7, SP.stir (p := p), zhj];obtain ⟨m, hm⟩ : ∃ m, p.toNat = m + 2 := ⟨p.toNat - 2, by omega⟩
 rw [hm];simp only [hev, y3, show m + 2 - 1 = m + 1 from rfl, show m + 1 - 1 = m from rfl, show m + 2 - 2 = m from rfl, zlf]
 have h1 : con p (p - 1) = -1 := by
  rw [<- zb9, jB, xf.2 (Int.emod_self)]; exact zf [a] (by rfl)
 rw [h1, zd a (m + 1), zd a m];exact zf [a, b, a ^ m, b ^ (m+1), b ^ (m+2)] (by rfl)

theorem zgd (a b : Poly p) (n : Nat) : xS (a + b) b (n + 1) = (a + b) * xS a b n := by
 induction n with
 | zero =>
  simp only [xS]
  rw [show (((0 : Nat)) : Int) = 0 from rfl, y3]; exact zf [a, b] (by rfl)
 | succ n ih =>
  rw [xS, ih, xS, show (((n + 1 : Nat)) : Int) = (n : Int) + 1 from by omega, <- zeR, jB];exact zf [a, b, xS a b n, con p (n:Int)] (by rfl)

theorem zc8 (a b : Poly p) : (a + b) ^ p.toNat = a ^ p.toNat + b ^ p.toNat := by
 have h2 := Pr.two (p := p);obtain ⟨m, hm⟩ : ∃ m, p.toNat = m + 1 := ⟨p.toNat - 1, by omega⟩
 have h1 := zc7 (a + b) b;have h3 := zc7 a b;rw [hm] at h1 h3 ⊢;rw [zgd] at h1;rw [xS] at h3;simp only [Nat.add_sub_cancel] at h1 h3
 have h4 : con p (m : Int) = -1 := by
  have : (m : Int) = p - 1 := by omega
  rw [this, <- zb9, jB, xf.2 (Int.emod_self)]; exact zf [a] (by rfl)
 rw [h4] at h3;rw [zd b m];exact comb (-1) h1 (comb (1) h3 (zf [a, b, xS a b m, b^m, a^(m+1), (a+b)^(m+1)] (by rfl)))

theorem zcb (n : Nat) : (1 : Poly p) ^ n = 1 := by
 induction n with
 | zero => exact zo _
 | succ n ih => rw [zd, ih]; exact CR.one_mul 1
theorem zge {n : Nat} (h : 0 < n) : (0 : Poly p) ^ n = 0 := by
 obtain ⟨m, rfl⟩ : ∃ m, n = m + 1 := ⟨n - 1, by omega⟩
 rw [zd]; exact CR.mul_zero _
theorem zh5 (a b : Poly p) (n : Nat) : (a * b) ^ n = a ^ n * b ^ n := by
 induction n with
 | zero => simp only [zo]; exact (CR.one_mul 1).symm
 | succ n ih => rw [zd, ih, zd, zd]; exact zf [a, b, a^n, b^n] (by rfl)
theorem zcc (a : Poly p) (n m : Nat) : a ^ (n + m) = a ^ n * a ^ m := by
 induction m with
 | zero => rw [Nat.add_zero, zo]; exact (CR.mul_one _).symm
 | succ m ih => rw [<- Nat.add_assoc, zd, ih, zd]; exact CR.mul_assoc _ _ _
theorem zh6 (a : Poly p) (n m : Nat) : a ^ (n * m) = (a ^ n) ^ m := by
 induction m with
 | zero => rw [Nat.mul_zero, zo, zo]
 | succ m ih => rw [Nat.mul_succ, zcc, ih, zd]

theorem zaI : 0 < p.toNat := by have := Pr.two (p := p); omega

theorem zj8 (c : Int) : con p c ^ p.toNat = con p c := by
 have hn : ∀ n : Nat, con p (n : Int) ^ p.toNat = con p (n : Int) := by
  intro n
  induction n with
  | zero => rw [show (((0 : Nat)) : Int) = 0 from rfl, y3, zge zaI]
  | succ n ih => rw [show (((n + 1 : Nat)) : Int) = (n : Int) + 1 from by omega, <- zeR, zc8, ih, jB, zcb]
 have h1 := Int.emod_nonneg c (show p ≠ 0 by have := Pr.two (p := p); omega);have := hn (c % p).toNat
 rwa [show (((c % p).toNat : Nat) : Int) = c % p by omega, zca] at this

theorem zj9 (a : Poly p) : xS a 1 p.toNat = a ^ p.toNat - a := by
 rw [zc7, zcb]; rw [CR.mul_one]
theorem zgf (a b : Poly p) : (a - b) ^ p.toNat = a ^ p.toNat - b ^ p.toNat := by
 have h := zc8 (a - b) b;have : a - b + b = a := by exact zf [a, b] (by rfl)
 rw [this] at h;exact comb (-1) h (zf [(a-b)^p.toNat, a^p.toNat, b^p.toNat] (by rfl))
end

end Poly
namespace Poly
variable {p : Int} [SP p]

def Ber (f v : Poly p) : Prop := f ∣ v ^ p.toNat - v

theorem zef {h v : Poly p} (hi : Irr h) : ∀ {n : Nat}, h ∣ xS v 1 n -> ∃ s, s < n ∧ h ∣ v - con p (s : Int)
 | 0, hd => absurd hd (hi.not_unit yA)
 | n + 1, hd => by
  rw [xS] at hd;rcases hi.prime hd with h1 | h1
  ·obtain ⟨s, h2, h3⟩ := zef hi h1;exact ⟨s, by omega, h3⟩
  ·exact ⟨n, by omega, by
    have e : v - con p (n : Int) * 1 = v - con p (n : Int) := by exact zf [v, con p (n:Int)] (by rfl)
    rwa [e] at h1⟩

theorem zlg {h v : Poly p} (hi : Irr h) (hd : Ber h v) : ∃ s : Int, 0 <= s ∧ s < p ∧ h ∣ v - con p s := by
 unfold Ber at hd;rw [<- zj9] at hd;obtain ⟨s, h1, h2⟩ := zef hi hd;exact ⟨s, by omega, by have := Pr.two (p := p); omega, h2⟩

theorem zhl {h v : Poly p} (hi : 2 <= dg h) {s t : Int} (h1 : h ∣ v - con p s) (h2 : h ∣ v - con p t) : s % p = t % p := by
 have h3 : h ∣ con p (s - t) := by
  have := dvd_sub h2 h1;have e : v - con p t - (v - con p s) = con p (s - t) := by rw [<- zb9]; exact zf [v, con p s, con p t] (by rfl)
  rwa [e] at this
 have h4 : con p (s - t) = 0 := by
  refine Classical.byContradiction fun hne => ?_;have := zC h3 hne;have := v4 (p := p) (s - t);omega
 have h5 := xf.1 h4;exact Int.emod_eq_emod_iff_emod_sub_eq_zero.2 h5

theorem Ber.dvd {f g v : Poly p} (h : Ber f v) (hd : g ∣ f) : Ber g v := zp hd h
theorem Ber.congr {f v w : Poly p} (h : Ber f v) (hd : f ∣ v - w) : Ber f w := by
 unfold Ber at *;obtain ⟨q, hq⟩ := hd
 have h1 : f ∣ (v - w) ^ p.toNat - (v - w) := by
  rw [hq, zh5];obtain ⟨m, hm⟩ : ∃ m, p.toNat = m + 1 := ⟨p.toNat - 1, by have := zaI (p := p); omega⟩
  rw [hm, zd f, zd q];exact ⟨f ^ m * (q ^ m * q) - q, by exact zf [f, q, f^m, q^m] (by rfl)⟩
 rw [zgf] at h1;have := dvd_sub h h1;have e : v ^ p.toNat - v - (v ^ p.toNat - w ^ p.toNat - (v - w)) = w ^ p.toNat - w := by exact zf [v, w, v ^ p.toNat, w ^ p.toNat] (by rfl)
 rwa [e] at this

theorem zgg {f part : Poly p} (hf : f ≠ 0) (hs : Sqf f) (hd : part ∣ f) (h2 : 2 <= dg part) (hc : ∀ w, dg w < dg f -> Ber f w -> ∃ s : Int, part ∣ w - con p s) : Irr part := by
 refine ⟨h2, fun a b hab => Classical.byContradiction fun hn => ?_⟩;simp only [not_or] at hn
 obtain ⟨c, hfc⟩ := hd;have hpart : part ≠ 0 := fun e => by rw [e, zq] at h2; omega
 have ha0 : a ≠ 0 := fun e => hpart (by rw [hab, e]; exact zf [b] (by rfl));have hb0 : b ≠ 0 := fun e => hpart (by rw [hab, e]; exact zf [a] (by rfl));have hda : dg a ≠ 0 := fun e => ha0 (zc.1 e);have hdb : dg b ≠ 0 := fun e => hb0 (zc.1 e);have hfa : f = a * (b * c) := by rw [hfc, hab]; exact zf [a, b, c] (by rfl)
 have hcop : Cop a (b * c) := hs.cop hf ⟨1, by rw [<- hfa]; exact zf [f] (by rfl)⟩;obtain ⟨u, v, huv⟩ := hcop
 have hber : Ber f (u * a) := by
  unfold Ber;rw [hfa];have hcop' : Cop a (b * c) := ⟨u, v, huv⟩
  obtain ⟨m, hm⟩ : ∃ m, p.toNat = m + 1 := ⟨p.toNat - 1, by have := zaI (p := p); omega⟩
  refine hcop'.mul_dvd ?_ ?_
  ·rw [hm, zd];exact ⟨((u * a) ^ m - 1) * u, by exact zf [u, a, (u*a)^m] (by rfl)⟩
  ·have e : u * a = 1 - v * (b * c) := by exact comb (1) huv (zf [u, a, v, b, c] (by rfl))
   rw [e, zgf, zcb, hm, zd];exact ⟨v - (v * (b * c)) ^ m * v, by exact zf [v, b, c, (v*(b*c))^m] (by rfl)⟩
 have hrem := v3 (u * a) f;have hlt := yB (u * a) hf;have hbr : Ber f (rem (u * a) f) := hber.congr ⟨quo (u * a) f, by exact comb (1) hrem (zf [u, a, f, quo (u*a) f, rem (u*a) f] (by rfl))⟩;obtain ⟨s, hs'⟩ := hc _ hlt hbr
 have h3 : part ∣ u * a - con p s := by
  have h4 : part ∣ f := ⟨c, hfc⟩
  have h5 := dvd_add hs' (zP (quo (u * a) f) h4);have e : rem (u * a) f - con p s + quo (u * a) f * f = u * a - con p s := by exact comb (-1) hrem (zf [u, a, f, con p s, quo (u*a) f, rem (u*a) f] (by rfl))
  rwa [e] at h5
 have h6 : a ∣ con p s := by
  have h7 : a ∣ part := ⟨b, hab⟩
  have h8 := dvd_sub (zP u (dvd_refl a)) (zp h7 h3);have e : u * a - (u * a - con p s) = con p s := by exact zf [u, a, con p s] (by rfl)
  rwa [e] at h8
 have h9 : con p s = 0 := by
  refine Classical.byContradiction fun hne => ?_;have := zC h6 hne;have := v4 (p := p) s;omega
 rw [h9] at h3
 have h10 : b ∣ 1 := by
  have h7 : b ∣ part := ⟨a, by rw [hab]; exact zf [a, b] (by rfl)⟩
  have h8 := zp h7 h3;have h11 : b ∣ v * (b * c) := ⟨v * c, by exact zf [v, b, c] (by rfl)⟩
  have h12 := dvd_add h8 h11;have e : u * a - 0 + v * (b * c) = 1 := by exact comb (1) huv (zf [u, a, v, b, c] (by rfl))
  rwa [e] at h12
 exact hn.2 (zc3 yA h10)

end Poly

def dv (f : Nat -> Int) : Nat -> Int := fun i => ((i : Int) + 1) * f (i + 1)

theorem zmj (f g : Nat -> Int) (k : Nat) : dv (cv f g) k = cv (dv f) g k + cv f (dv g) k := by
 induction k generalizing f with
 | zero => simp [dv, cv]; omega
 | succ k ih =>
  have h1 := ih (fun i => f (i + 1));have e1 : dv (cv (fun i => f (i + 1)) g) k = ((k : Int) + 1) * cv (fun i => f (i + 1)) g (k + 1) := rfl
  have e2 : dv (cv f g) (k + 1) = ((k : Int) + 2) * (f 0 * g (k + 2) + cv (fun i => f (i + 1)) g (k + 1)) := by
   unfold dv; rw [cv]; congr 1
  have e3 : cv (dv f) g (k + 1) = f 1 * g (k + 1) + cv (fun i => dv f (i + 1)) g k := by
   rw [cv]; simp [dv]
  have e4 : cv f (dv g) (k + 1) = f 0 * (((k : Int) + 2) * g (k + 2)) + cv (fun i => f (i + 1)) (dv g) k := by
   rw [cv]; unfold dv; congr 3
  have e5 : (fun i => dv f (i + 1)) = fun i => dv (fun i => f (i + 1)) i + f (i + 1 + 1) := by
   funext i
   unfold dv;rw [show ((i + 1 : Nat) : Int) + 1 = ((i : Int) + 1) + 1 from by omega, Int.add_mul ((i : Int) + 1)]; simp
  have e6 : cv (fun i => f (i + 1)) g (k + 1) = f 1 * g (k + 1) + cv (fun i => f (i + 1 + 1)) g k := by rw [cv]
  rw [e2, e3, e4, e5, zeO];rw [e1] at h1
  have e7 : ((k : Int) + 2) * cv (fun i => f (i + 1)) g (k + 1) = ((k : Int) + 1) * cv (fun i => f (i + 1)) g (k + 1) + cv (fun i => f (i + 1)) g (k + 1) := by
   rw [show (k : Int) + 2 = ((k : Int) + 1) + 1 from by omega, Int.add_mul]; simp
  have e8 : ((k : Int) + 2) * (f 0 * g (k + 2)) = f 0 * (((k : Int) + 2) * g (k + 2)) := by
   rw [<- Int.mul_assoc, Int.mul_comm _ (f 0), Int.mul_assoc]
  rw [Int.mul_add, e7, e8, h1, e6];have e9 : (fun i => dv (fun i => f (i + 1)) i) = dv (fun i => f (i + 1)) := rfl;omega

namespace Poly
variable {p : Int} [SP p]

def der (f : Poly p) : Poly p := of p (mkL (dg f) (dv (cf f.l)))
theorem zbg (f : Poly p) (i : Nat) : cf (der f).l i = dv (cf f.l) i % p := by
 rw [der, yo, xI]
 split
 ·rfl
 ·rename_i h
  unfold dv;rw [yl (f := f) (by omega)]; simp
theorem zlU {p : Int} (f : Nat -> Int) (i : Nat) : dv (fun i => f i % p) i % p = dv f i % p := by
 unfold dv;rw [Int.mul_emod, Int.emod_emod_of_dvd _ (Int.dvd_refl p), <- Int.mul_emod]
theorem zeW (f g : Poly p) : der (f * g) = der f * g + f * der g := zI fun i => by
 have e1 : cf (der f).l = fun i => dv (cf f.l) i % p := funext (zbg f);have e2 : cf (der g).l = fun i => dv (cf g.l) i % p := funext (zbg g);rw [zbg, zaa, zlU, zmj, yL, xb, xb, e1, e2, ki, kG (cf f.l) (fun i => dv (cf g.l) i % p), ki, kG (cf f.l) (dv (cf g.l)), <- Int.add_emod]
theorem zbh {f : Poly p} (h : f ≠ 0) : dg (der f) < dg f := by
 have h0 : dg f ≠ 0 := fun e => h (zc.1 e)
 have : dg (der f) <= dg f - 1 := kP fun i hi => by
  rw [zbg]; unfold dv; rw [yl (f := f) (by omega)]; simp
 omega

theorem zgh (h : Poly p) (n : Nat) : h ^ n ∣ der (h ^ (n + 1)) := by
 induction n with
 | zero => rw [zo]; exact zb8 _
 | succ n ih =>
  rw [zd h (n + 1), zeW, zd h n];rw [zd h n] at ih;obtain ⟨q, hq⟩ := ih;rw [hq];exact ⟨q + der h, by exact zf [h, q, der h, h^n] (by rfl)⟩

theorem zc9 {h f : Poly p} {n : Nat} (hd : h ^ (n + 1) ∣ f) : h ^ n ∣ der f := by
 obtain ⟨u, rfl⟩ := hd;rw [zeW];refine dvd_add (xO _ (zgh h n)) ?_;rw [zd];exact ⟨h * der u, by exact zf [h, der u, h^n] (by rfl)⟩

theorem zbi {h : Poly p} (hi : 2 <= dg h) (n : Nat) : n < dg (h ^ n) := by
 have h0 : h ≠ 0 := fun e => by rw [e, zq] at hi; omega
 induction n with
 | zero => rw [zo, yA]; omega
 | succ n ih =>
  have h1 : h ^ n ≠ 0 := fun e => by rw [e, zq] at ih; omega
  have := yv h1 h0;rw [zd]; omega

theorem zka {f q c : Poly p} (hf : f ≠ 0) (he : f = q * c) (hc : ∀ h, h ∣ f -> h ∣ der f -> h ∣ c) : Sqf q := by
 intro h hi hd
 have key : ∀ n : Nat, h ^ n ∣ f := by
  intro n
  induction n with
  | zero => rw [zo]; exact zb8 _
  | succ n ih =>
   cases n with
   | zero =>
    rw [zd, zo, he];obtain ⟨r, hr⟩ := hd;exact ⟨h * r * c, by exact comb (c) hr (zf [q, c, h, r] (by rfl))⟩
   | succ n =>
    have h1 : h ^ n ∣ f := zp ⟨h, zd h n⟩ ih;obtain ⟨a, ha⟩ := hc _ h1 (zc9 ih);obtain ⟨b, hb⟩ := hd;rw [zd, zd, he, ha, hb];exact ⟨b * a, by exact zf [h, a, b, h^n] (by rfl)⟩
 have h1 := zbi hi.1 (dg f);have h2 := zC (key (dg f)) hf;omega

theorem zkb {f q c rest s : Poly p} (he : f = q * c) (hs : f = rest * s) (hr : rest ≠ 0) (hc : c ∣ der f) (h1 : Cop rest q) (h2 : Cop rest s) : der rest = 0 := by
 have h3 : rest ∣ c := h1.dvd ⟨s, by rw [<- he, hs]⟩;have h4 := zp h3 hc;rw [hs, zeW] at h4
 have h5 : rest ∣ s * der rest := by
  have := dvd_sub h4 (xO (der s) (dvd_refl rest));have e : der rest * s + rest * der s - rest * der s = s * der rest := by exact zf [der rest, der s, rest, s] (by rfl)
  rwa [e] at this
 have h6 := h2.dvd h5;refine Classical.byContradiction fun hne => ?_;have := zC h6 hne;have := zbh hr;omega

theorem zkc (a b : Nat) : mono p 1 a * mono p 1 b = mono p 1 (a + b) := zI fun i => by
 rw [vQ, jz, jz]
 by_cases h : a <= i
 ·rw [if_pos h]
  by_cases h' : i = a + b
  ·rw [if_pos (by omega), if_pos h']; simp
  ·rw [if_neg (by omega), if_neg h']; simp
 ·rw [if_neg h, if_neg (by omega)]
theorem zda (a n : Nat) : mono p 1 a ^ n = mono p 1 (a * n) := by
 induction n with
 | zero => rw [zo]; rfl
 | succ n ih => rw [zd, ih, zkc, Nat.mul_succ]

def ev (a : Poly p) : List Int -> Poly p
 | [] => 0
 | c :: l => con p c + a * ev a l

theorem zh7 (a : Poly p) (l : List Int) : ev a l ^ p.toNat = ev (a ^ p.toNat) l := by
 induction l with
 | nil => exact zge zaI
 | cons c l ih => rw [ev, zc8, zj8, zh5, ih, ev]

theorem zdb {m : Nat} (hm : 0 < m) (l : List Int) (k : Nat) : cf (ev (mono p 1 m) l).l k = if k % m = 0 then cf l (k / m) % p else 0 := by
 induction l generalizing k with
 | nil => rw [ev, y6, yJ]; simp
 | cons c l ih =>
  rw [ev, yL, xc, vQ]
  by_cases hk : m <= k
  ·rw [if_pos hk, ih, if_neg (by omega)];have e1 : (k - m) % m = k % m := (Nat.mod_eq_sub_mod hk).symm;have e2 : k / m = (k - m) / m + 1 := Nat.div_eq_sub_div hm hk;rw [e1]
   split
   ·rw [e2, zx]; simp
   ·simp
  ·rw [if_neg hk, Int.add_zero]
   by_cases h0 : k = 0
   ·subst h0; simp [cf]
   ·rw [if_neg h0, if_neg (by rw [Nat.mod_eq_of_lt (by omega)]; exact h0)]; simp

theorem zlV (f : Poly p) : ev (mono p 1 1) f.l = f := zI fun i => by
 rw [zdb (by omega)]; simp [vZ, Nat.mod_one]

theorem zkd (f : Poly p) (k : Nat) : cf (f ^ p.toNat).l k = if k % p.toNat = 0 then cf f.l (k / p.toNat) else 0 := by
 have h1 := zh7 (mono p 1 1) f.l;rw [zlV, zda, Nat.one_mul] at h1;rw [h1, zdb zaI]
 split
 ·exact vZ _ _
 ·rfl

theorem zke {f r : Poly p} (h : der f = 0) (hr : ∀ i, cf r.l i = cf f.l (i * p.toNat)) : r ^ p.toNat = f := by
 refine zI fun k => ?_;rw [zkd]
 split
 ·rename_i hk
  rw [hr, Nat.div_mul_cancel (Nat.dvd_of_mod_eq_zero hk)]
 ·rename_i hk
  cases k with
  | zero => simp at hk
  | succ k =>
   have h1 := zbg f k;rw [h, y6] at h1;unfold dv at h1;refine Classical.byContradiction fun hne => ?_;refine Pr.mul_ne (p := p) (a := (k : Int) + 1) (b := cf f.l (k + 1)) (fun h2 => hk ?_) (ya (Ne.symm hne)) h1.symm
   have h3 : ((k + 1 : Nat) : Int) % ((p.toNat : Nat) : Int) = 0 := by
    have := Pr.two (p := p);rw [show ((p.toNat : Nat) : Int) = p by omega]; exact_mod_cast h2
   exact_mod_cast h3

end Poly

def zw (f : Nat -> Int) : Nat -> Int
 | 0 => 0
 | n + 1 => zw f n + f n

theorem xd {f g : Nat -> Int} {n : Nat} (h : ∀ i, i < n -> f i = g i) : zw f n = zw g n := by
 induction n with
 | zero => rfl
 | succ n ih => rw [zw, zw, ih fun i hi => h i (by omega), h n (by omega)]
theorem vE (f g : Nat -> Int) (n : Nat) : zw (fun i => f i + g i) n = zw f n + zw g n := by
 induction n with
 | zero => rfl
 | succ n ih => simp only [zw, ih]; omega
theorem vH (a : Int) (f : Nat -> Int) (n : Nat) : zw (fun i => a * f i) n = a * zw f n := by
 induction n with
 | zero => simp [zw]
 | succ n ih => simp only [zw, ih, Int.mul_add]
theorem jl {f : Nat -> Int} {n : Nat} (h : ∀ i, i < n -> f i = 0) : zw f n = 0 := by
 induction n with
 | zero => rfl
 | succ n ih => rw [zw, ih fun i hi => h i (by omega), h n (by omega)]; rfl
theorem yw (p : Int) {f g : Nat -> Int} {n : Nat} (h : ∀ i, i < n -> f i % p = g i % p) : zw f n % p = zw g n % p := by
 induction n with
 | zero => rfl
 | succ n ih => rw [zw, zw, Int.add_emod, ih fun i hi => h i (by omega), h n (by omega), <- Int.add_emod]
theorem xT {f : Nat -> Int} {n k : Nat} (hk : k < n) (h : ∀ i, i < n -> i ≠ k -> f i = 0) : zw f n = f k := by
 induction n with
 | zero => omega
 | succ n ih =>
  rw [zw]
  by_cases he : k = n
  ·subst he; rw [jl fun i hi => h i (by omega) (by omega)]; simp
  ·rw [ih (by omega) fun i hi hne => h i (by omega) hne, h n (by omega) (by omega)]; simp
theorem ziW (f : Nat -> Nat -> Int) (n m : Nat) : zw (fun i => zw (f i) m) n = zw (fun j => zw (fun i => f i j) n) m := by
 induction n with
 | zero => simp only [zw]; exact (jl fun _ _ => rfl).symm
 | succ n ih => simp only [zw, ih, <- vE]

def vT (p : Int) (n : Nat) (r c : Nat -> Int) : Prop := zw (fun i => r i * c i) n % p = 0
def Sol (p : Int) (n m : Nat) (R : Nat -> Nat -> Int) (c : Nat -> Int) : Prop := ∀ k, k < m -> vT p n (R k) c

theorem xU {p : Int} {n : Nat} {r r' c c' : Nat -> Int} (hr : ∀ i, i < n -> r i % p = r' i % p) (hc : ∀ i, i < n -> c i % p = c' i % p) : vT p n r c ↔ vT p n r' c' := by
 unfold vT;rw [yw p (g := fun i => r' i * c' i) fun i hi => by rw [Int.mul_emod, hr i hi, hc i hi, <- Int.mul_emod]]
theorem zeg {p : Int} {n : Nat} {r r' c : Nat -> Int} (a : Int) (h : vT p n r c) (h' : vT p n r' c) : vT p n (fun i => r i + a * r' i) c := by
 unfold vT at *
 have e : zw (fun i => (r i + a * r' i) * c i) n = zw (fun i => r i * c i) n + a * zw (fun i => r' i * c i) n := by
  rw [<- vH, <- vE];exact xd fun i _ => by rw [Int.add_mul, Int.mul_assoc]
 rw [e, Int.add_emod, h, Int.mul_emod, h']; simp
theorem jE {p : Int} {n : Nat} {r c : Nat -> Int} (a : Int) (h : vT p n r c) : vT p n (fun i => a * r i) c := by
 unfold vT at *
 have e : zw (fun i => a * r i * c i) n = a * zw (fun i => r i * c i) n := by
  rw [<- vH];exact xd fun i _ => by rw [Int.mul_assoc]
 rw [e, Int.mul_emod, h]; simp

theorem zkf {p : Int} {n m a b : Nat} {R R' : Nat -> Nat -> Int} (ha : a < m) (hb : b < m) (h1 : R' a = R b) (h2 : R' b = R a) (h3 : ∀ k, k < m -> k ≠ a -> k ≠ b -> R' k = R k) (c : Nat -> Int) : Sol p n m R' c ↔ Sol p n m R c := by
 constructor
 ·intro h k hk
  by_cases hka : k = a
  ·subst hka; rw [<- h2]; exact h b hb
  ·by_cases hkb : k = b
   ·subst hkb; rw [<- h1]; exact h a ha
   ·rw [<- h3 k hk hka hkb]; exact h k hk
 ·intro h k hk
  by_cases hka : k = a
  ·subst hka; rw [h1]; exact h b hb
  ·by_cases hkb : k = b
   ·subst hkb; rw [h2]; exact h a ha
   ·rw [h3 k hk hka hkb]; exact h k hk

structure Steps (p : Int) (n : Nat) (col : Nat) (piv : List Nat) (R : Nat -> Nat -> Int) : Prop where
 le : piv.length <= n
 lt : ∀ x ∈ piv, x < col
 nodup : piv.Nodup
 one : ∀ i x, piv[i]? = some x -> R i x % p = 1
 zero : ∀ i x, piv[i]? = some x -> ∀ k, k < n -> k ≠ i -> R k x % p = 0
 rest : ∀ k, piv.length <= k -> k < n -> ∀ x, x < col -> R k x % p = 0

theorem Steps.start (p : Int) (n : Nat) (R : Nat -> Nat -> Int) : Steps p n 0 [] R :=
 ⟨by simp, by simp, by simp, by simp, by simp, fun k _ _ x hx => by omega⟩

theorem Steps.skip {p : Int} {n col : Nat} {piv : List Nat} {R : Nat -> Nat -> Int} (h : Steps p n col piv R) (h0 : ∀ k, piv.length <= k -> k < n -> R k col % p = 0) : Steps p n (col + 1) piv R :=
 ⟨h.le, fun x hx => by have := h.lt x hx; omega, h.nodup, h.one, h.zero, fun k hk hkn x hx => by
  by_cases he : x = col
  ·subst he; exact h0 k hk hkn
  ·exact h.rest k hk hkn x (by omega)⟩

def vI (_p : Int) (piv : List Nat) (R : Nat -> Nat -> Int) (col : Nat) (x : Nat) : Int :=
 if x = col then 1 else match piv.idxOf? x with | some i => -(R i col) | none => 0

theorem zQ (p a : Int) : a % p % p = a % p := Int.emod_emod_of_dvd _ (Int.dvd_refl p)
theorem xv {p a a' : Int} (b : Int) (h : a % p = a' % p) : a * b % p = a' * b % p := by rw [Int.mul_emod, h, <- Int.mul_emod]
theorem yz {p a a' : Int} (b : Int) (h : a % p = a' % p) : b * a % p = b * a' % p := by rw [Int.mul_emod, h, <- Int.mul_emod]
theorem zZ {p a : Int} (b : Int) (h : a % p = 0) : b * a % p = 0 := by rw [Int.mul_emod, h]; simp
theorem kH {p a a' b b' : Int} (h : a % p = a' % p) (k : b % p = b' % p) : (a - b) % p = (a' - b') % p := by rw [Int.sub_emod, h, k, <- Int.sub_emod]

theorem Steps.pivot {p : Int} {n col : Nat} {piv : List Nat} {R R' : Nat -> Nat -> Int} {s : Int} (h : Steps p n col piv R) (hp : (1 : Int) % p = 1) (hc : col < n) (hat : piv.length < n) (hs : s * R piv.length col % p = 1)
  (h1 : ∀ x, x < n -> R' piv.length x % p = (s * R piv.length x) % p)
  (h2 : ∀ i, i < n -> i ≠ piv.length -> ∀ x, x < n -> R' i x % p = (R i x - R i col * (s * R piv.length x)) % p) : Steps p n (col + 1) (piv ++ [col]) R' := by
 have hnew : ∀ i x, (piv ++ [col])[i]? = some x -> (i < piv.length ∧ piv[i]? = some x) ∨ (i = piv.length ∧ x = col) := by
  intro i x hx;rcases Nat.lt_or_ge i piv.length with hlt | hge
  ·rw [List.getElem?_append_left hlt] at hx; exact .inl ⟨hlt, hx⟩
  ·rw [List.getElem?_append_right hge] at hx;cases hi : i - piv.length with
   | zero => rw [hi] at hx; simp at hx; exact .inr ⟨by omega, hx.symm⟩
   | succ j => rw [hi] at hx; simp at hx
 have hzat : ∀ x, x < col -> R piv.length x % p = 0 := fun x hx => h.rest _ (Nat.le_refl _) hat x hx
 have hkeep : ∀ i, i < n -> i ≠ piv.length -> ∀ x, x < col -> R' i x % p = R i x % p := fun i hi hne x hx => by
  rw [h2 i hi hne x (by omega), <- Int.sub_zero (R i x)];refine (kH (by rw [Int.sub_zero]) ?_).trans (by rw [Int.sub_zero]);rw [<- Int.mul_assoc, zZ _ (hzat x hx)]; simp
 have hcol : ∀ i, i < n -> i ≠ piv.length -> R' i col % p = 0 := fun i hi hne => by
  rw [h2 i hi hne col hc];have : (R i col - R i col * (s * R piv.length col)) % p = (R i col - R i col * 1) % p := kH rfl (yz _ (by rw [hs, hp]));rw [this]; simp
 refine ⟨by simp; omega, fun x hx => ?_, ?_, fun i x hx => ?_, fun i x hx k hk hne => ?_, fun k hk hkn x hx => ?_⟩
 ·rcases List.mem_append.1 hx with hx | hx
  ·have := h.lt x hx; omega
  ·simp at hx; omega
 ·refine List.nodup_append.2 ⟨h.nodup, by simp, fun a ha b hb => ?_⟩;simp at hb
  have := h.lt a ha;omega
 ·rcases hnew i x hx with ⟨hi, hx'⟩ | ⟨rfl, rfl⟩
  ·have hxc := h.lt x (List.mem_of_getElem? hx');rw [hkeep i (by have := h.le; omega) (by omega) x hxc]; exact h.one i x hx'
  ·rw [h1 _ hc]; exact hs
 ·rcases hnew i x hx with ⟨hi, hx'⟩ | ⟨rfl, rfl⟩
  ·have hxc := h.lt x (List.mem_of_getElem? hx')
   by_cases hka : k = piv.length
   ·subst hka;rw [h1 x (by omega), zZ _ (hzat x hxc)]
   ·rw [hkeep k hk hka x hxc]; exact h.zero i x hx' k hk hne
  ·exact hcol k hk hne
 ·simp only [List.length_append, List.length_singleton] at hk
  by_cases hxc : x = col
  ·subst hxc; exact hcol k hkn (by omega)
  ·rw [hkeep k hkn (by omega) x (by omega)]; exact h.rest k (by omega) hkn x (by omega)

theorem Steps.swap {p : Int} {n col : Nat} {piv : List Nat} {R R' : Nat -> Nat -> Int} {b : Nat} (h : Steps p n col piv R) (hb : piv.length <= b) (hbn : b < n) (h1 : R' piv.length = R b) (h2 : R' b = R piv.length) (h3 : ∀ k, k < n -> k ≠ piv.length -> k ≠ b -> R' k = R k) : Steps p n col piv R' := by
 have hlow : ∀ i, i < piv.length -> R' i = R i := fun i hi => h3 i (by omega) (by omega) (by omega)
 have hrest : ∀ k, piv.length <= k -> k < n -> ∀ x, x < col -> R' k x % p = 0 := fun k hk hkn x hx => by
  by_cases hka : k = piv.length
  ·subst hka; rw [h1]; exact h.rest b hb hbn x hx
  ·by_cases hkb : k = b
   ·subst hkb; rw [h2]; exact h.rest _ (Nat.le_refl _) (by omega) x hx
   ·rw [h3 k hkn hka hkb]; exact h.rest k hk hkn x hx
 refine ⟨h.le, h.lt, h.nodup, fun i x hx => ?_, fun i x hx k hk hne => ?_, hrest⟩
 ·rw [hlow i (List.getElem?_eq_some_iff.1 hx).1]; exact h.one i x hx
 ·rcases Nat.lt_or_ge k piv.length with hlt | hge
  ·rw [hlow k hlt]; exact h.zero i x hx k hk hne
  ·exact hrest k hge hk x (h.lt x (List.mem_of_getElem? hx))

theorem jF {piv : List Nat} (hn : piv.Nodup) {i x : Nat} (h : piv[i]? = some x) : piv.idxOf? x = some i := by
 obtain ⟨hi, he⟩ := List.getElem?_eq_some_iff.1 h;rw [List.idxOf?_eq_some_iff];refine ⟨hi, by simpa using he, fun j hj => ?_⟩;have h1 : piv[j]'(by omega) ≠ piv[i] := List.pairwise_iff_getElem.1 hn j i (by omega) hi hj;simp only [ne_eq]
 rw [<- he]; exact h1
theorem zaJ {piv : List Nat} {x : Nat} (h : x ∉ piv) : piv.idxOf? x = none := by
 rw [List.idxOf?_eq_none_iff]; exact h

theorem zkg {f : Nat -> Int} {n a b : Nat} (hab : a ≠ b) (ha : a < n) (hb : b < n) (h : ∀ i, i < n -> i ≠ a -> i ≠ b -> f i = 0) : zw f n = f a + f b := by
 have e : zw f n = zw (fun i => (if i = a then f i else 0) + (if i = a then 0 else f i)) n := xd fun i _ => by split <;> simp
 rw [e, vE, xT ha fun i _ hne => by simp [hne], xT (k := b) hb fun i hi hne => by
  by_cases hia : i = a
  ·simp [hia]
  ·simp [hia, h i hi hia hne]]
 simp [Ne.symm hab]

theorem Steps.free {p : Int} {n : Nat} {piv : List Nat} {R : Nat -> Nat -> Int} (h : Steps p n n piv R) {col : Nat} (hc : col < n) (hf : col ∉ piv) : Sol p n n R (vI p piv R col) := by
 intro k hk;unfold vT;rcases Nat.lt_or_ge k piv.length with hlt | hge
 ·have hx := List.getElem?_eq_getElem hlt;have hxl := h.lt _ (List.mem_of_getElem? hx);have hne : piv[k] ≠ col := fun e => hf (e ▸ List.getElem_mem hlt)
  have e1 : zw (fun x => R k x * vI p piv R col x) n % p = zw (fun x => if x = piv[k] then -(R k col) else if x = col then R k col else 0) n % p := by
   refine yw p fun x hxn => ?_
   by_cases hxc : x = col
   ·subst hxc;simp [vI, Ne.symm hne]
   ·by_cases hxp : x ∈ piv
    ·obtain ⟨i, hi, he⟩ := List.mem_iff_getElem.1 hxp;have hix : piv[i]? = some x := by rw [List.getElem?_eq_getElem hi, he]
     have e2 : vI p piv R col x = -(R i col) := by simp [vI, hxc, jF h.nodup hix]
     rw [e2]
     by_cases hik : i = k
     ·subst hik;have h1 := h.one i x hix;simp only [he, if_true]
      rw [xv (a' := 1) _ (by
       rw [h1];have := zQ p (R i x);rw [h1] at this; exact this.symm)]
      simp
     ·have h0 := h.zero i x hix k hk (Ne.symm hik)
      have hne2 : x ≠ piv[k] := fun e => hik (by
       have := jF h.nodup hix;rw [e, jF h.nodup hx] at this;exact (Option.some.inj this).symm)
      rw [if_neg hne2, if_neg hxc, Int.mul_comm, zZ _ h0]; simp
    ·have hne2 : x ≠ piv[k] := fun e => hxp (e ▸ List.getElem_mem hlt);simp [vI, hxc, zaJ hxp, hne2]
  rw [e1, zkg (a := piv[k]) (b := col) hne hxl hc fun i _ h1 h2 => by simp [h1, h2]];simp [Ne.symm hne, Int.add_left_neg]
 ·rw [yw p (g := fun _ => 0) fun x hx => by rw [Int.mul_comm, zZ _ (h.rest k hge hk x hx)]; simp, jl fun _ _ => rfl]; simp

theorem Steps.all {p : Int} {n : Nat} {piv : List Nat} {R : Nat -> Nat -> Int} (h : Steps p n n piv R) {c : Nat -> Int} (hs : Sol p n n R c) : ∀ x, x < n -> c x % p = zw (fun col => if col ∈ piv then 0 else c col * vI p piv R col x) n % p := by
 intro x hx
 by_cases hxp : x ∈ piv
 ·obtain ⟨i, hi, he⟩ := List.mem_iff_getElem.1 hxp;have hix : piv[i]? = some x := by rw [List.getElem?_eq_getElem hi, he]
  have hin : i < n := by have := h.le; omega
  have h1 := hs i hin;unfold vT at h1
  have e1 : zw (fun col => R i col * c col) n % p = zw (fun col => (if col = x then c x else 0) + (if col ∈ piv then 0 else R i col * c col)) n % p := by
   refine yw p fun col hcn => ?_
   by_cases hcp : col ∈ piv
   ·obtain ⟨j, hj, hje⟩ := List.mem_iff_getElem.1 hcp;have hjc : piv[j]? = some col := by rw [List.getElem?_eq_getElem hj, hje]
    by_cases hij : j = i
    ·subst hij;have hcx : col = x := by rw [hix] at hjc; exact (Option.some.inj hjc).symm
     subst hcx;have h2 := h.one j col hjc;simp only [if_true, hcp, Int.add_zero]
     rw [xv (a' := 1) _ (by
      rw [h2];have := zQ p (R j col);rw [h2] at this; exact this.symm)]
     simp
    ·have hcx : col ≠ x := fun e => hij (by
      have := jF h.nodup hix;rw [<- e, jF h.nodup hjc] at this;exact Option.some.inj this)
     rw [if_neg hcx, if_pos hcp, Int.mul_comm, zZ _ (h.zero j col hjc i hin (Ne.symm hij))]; simp
   ·have hcx : col ≠ x := fun e => hcp (e ▸ hxp);simp [hcx, hcp]
  rw [e1, vE, xT (k := x) hx fun i _ hne => by simp [hne]] at h1;simp only [if_true] at h1
  have e2 : zw (fun col => if col ∈ piv then 0 else c col * vI p piv R col x) n = -1 * zw (fun col => if col ∈ piv then 0 else R i col * c col) n := by
   rw [<- vH];refine xd fun col _ => ?_
   by_cases hcp : col ∈ piv
   ·simp [hcp]
   ·have hcx : x ≠ col := fun e => hcp (e ▸ hxp);simp only [hcp, if_false]
    simp only [vI, hcx, if_false, jF h.nodup hix]
    rw [Int.mul_comm, Int.neg_mul]; omega
  rw [e2];have h3 : c x = (c x + zw (fun col => if col ∈ piv then 0 else R i col * c col) n) - zw (fun col => if col ∈ piv then 0 else R i col * c col) n := by omega
  rw [h3, Int.sub_emod, h1];rw [show -1 * zw (fun col => if col ∈ piv then 0 else R i col * c col) n = 0 - zw (fun col => if col ∈ piv then 0 else R i col * c col) n from by omega, Int.sub_emod 0];simp [zlc]
 ·rw [xT (k := x) hx fun i _ hne => by
   by_cases hip : i ∈ piv
   ·simp [hip]
   ·simp [hip, vI, Ne.symm hne, zaJ hxp]]
  simp [hxp, vI]


structure Half (p : Int) (n : Nat) (M : Nat -> Nat -> Int) (col : Nat) (used : Nat -> Prop) (L T : Nat -> Nat -> Int) : Prop where
 comb : ∀ k, k < n -> ∀ x, x < n -> L k x % p = zw (fun j => T k j * M j x) n % p
 span : ∀ c : Nat -> Int, ∃ d : Nat -> Int, ∀ j, j < n -> c j % p = zw (fun k => d k * T k j) n % p
 piv : ∀ k, k < n -> used k -> ∃ x, x < col ∧ x < n ∧ L k x % p ≠ 0 ∧ ∀ k', k' < n -> k' ≠ k -> L k' x % p = 0
 rest : ∀ k, k < n -> ¬ used k -> ∀ x, x < col -> L k x % p = 0

theorem Half.start (p : Int) (n : Nat) (M T : Nat -> Nat -> Int) (hT : ∀ i, i < n -> ∀ j, j < n -> T i j = if i = j then 1 else 0) : Half p n M 0 (fun _ => False) M T := by
 refine ⟨fun k hk x hx => ?_, fun c => ⟨c, fun j hj => ?_⟩, fun k _ h => h.elim, fun k _ _ x hx => by omega⟩
 ·rw [xT (k := k) hk fun i hi hne => by rw [hT k hk i hi]; simp [Ne.symm hne], hT k hk k hk]; simp
 ·rw [xT (k := j) hj fun i hi hne => by rw [hT i hi j hj]; simp [hne], hT j hj j hj]; simp

theorem Half.skip {p : Int} {n : Nat} {M : Nat -> Nat -> Int} {col : Nat} {used : Nat -> Prop} {L T : Nat -> Nat -> Int} (h : Half p n M col used L T) (h0 : ∀ k, k < n -> ¬ used k -> L k col % p = 0) : Half p n M (col + 1) used L T :=
 ⟨h.comb, h.span, fun k hk hu => by obtain ⟨x, h1, h2⟩ := h.piv k hk hu; exact ⟨x, by omega, h2⟩, fun k hk hu x hx => by
  by_cases he : x = col
  ·subst he; exact h0 k hk hu
  ·exact h.rest k hk hu x (by omega)⟩

theorem Half.pivot {p : Int} {n : Nat} {M : Nat -> Nat -> Int} {col : Nat} {used : Nat -> Prop} {L T L' T' : Nat -> Nat -> Int} {at' : Nat} {q : Nat -> Int} (h : Half p n M col used L T) (hc : col < n) (hat : at' < n) (hu : ¬ used at') (hne : L at' col % p ≠ 0)
  (hq0 : q at' = 0) (hq : ∀ i, i < n -> i ≠ at' -> q i * L at' col % p = L i col % p) (hL : ∀ i, i < n -> ∀ x, x < n -> L' i x % p = (L i x - q i * L at' x) % p) (hT : ∀ i, i < n -> ∀ x, x < n -> T' i x % p = (T i x - q i * T at' x) % p) :
  Half p n M (col + 1) (fun k => k = at' ∨ used k) L' T' := by
 have hLat : ∀ x, x < n -> L' at' x % p = L at' x % p := fun x hx => by rw [hL _ hat x hx, hq0]; simp
 have hTat : ∀ x, x < n -> T' at' x % p = T at' x % p := fun x hx => by rw [hT _ hat x hx, hq0]; simp
 have hzat : ∀ x, x < col -> L at' x % p = 0 := fun x hx => h.rest at' hat hu x hx
 have hkeep : ∀ i, i < n -> ∀ x, x < col -> L' i x % p = L i x % p := fun i hi x hx => by
  rw [hL i hi x (by omega)];refine (kH (a' := L i x) (b' := 0) rfl (by rw [zZ _ (hzat x hx)]; simp)).trans (by rw [Int.sub_zero])
 have hcol : ∀ i, i < n -> i ≠ at' -> L' i col % p = 0 := fun i hi hne => by
  rw [hL i hi col hc];exact (kH rfl (hq i hi hne)).trans (by simp)
 refine ⟨fun k hk x hx => ?_, fun c => ?_, fun k hk hu' => ?_, fun k hk hu' x hx => ?_⟩
 ·have e1 : zw (fun j => T' k j * M j x) n % p = zw (fun j => T k j * M j x + -q k * (T at' j * M j x)) n % p := by
   refine yw p fun j hj => ?_;rw [xv _ (hT k hk j hj)]
   congr 1
   rw [Int.sub_mul, Int.mul_assoc, Int.neg_mul]; omega
  rw [e1, vE, vH, hL k hk x hx];have e2 : zw (fun j => T k j * M j x) n + -q k * zw (fun j => T at' j * M j x) n = zw (fun j => T k j * M j x) n - q k * zw (fun j => T at' j * M j x) n := by rw [Int.neg_mul]; omega
  rw [e2];exact kH (h.comb k hk x hx) (yz _ (h.comb at' hat x hx))
 ·obtain ⟨d, hd⟩ := h.span c;refine ⟨fun k => d k + if k = at' then zw (fun i => d i * q i) n else 0, fun j hj => ?_⟩;rw [hd j hj]
  have e1 : zw (fun k => d k * T k j) n % p = zw (fun k => d k * T' k j + T' at' j * (d k * q k)) n % p := by
   refine yw p fun k hk => ?_
   have h1 : T k j % p = (T' k j + q k * T' at' j) % p := by
    have h2 := hT k hk j hj;rw [Int.add_emod, h2, Int.mul_emod, hTat j hj, <- Int.mul_emod, <- Int.add_emod]
    congr 1; omega
   rw [yz _ h1]
   congr 1
   rw [Int.mul_add, <- Int.mul_assoc, Int.mul_comm (T' at' j)]
  rw [e1, vE, vH]
  have e2 : zw (fun k => (d k + if k = at' then zw (fun i => d i * q i) n else 0) * T' k j) n = zw (fun k => d k * T' k j + (if k = at' then zw (fun i => d i * q i) n * T' k j else 0)) n := by
   refine xd fun k _ => ?_;rw [Int.add_mul]; split <;> simp
  rw [e2, vE, xT (k := at') (f := fun k => if k = at' then zw (fun i => d i * q i) n * T' k j else 0) hat fun i _ hne => by simp [hne]];simp [Int.mul_comm]
 ·by_cases hka : k = at'
  ·subst hka;refine ⟨col, by omega, hc, ?_, fun k' hk' hne' => hcol k' hk' hne'⟩;rw [hLat col hc]; exact hne
  ·obtain ⟨x, h1, h2, h3, h4⟩ := h.piv k hk (hu'.resolve_left hka);refine ⟨x, by omega, h2, by rw [hkeep k hk x h1]; exact h3, fun k' hk' hne' => ?_⟩;rw [hkeep k' hk' x h1]; exact h4 k' hk' hne'
 ·simp only [not_or] at hu'
  by_cases hxc : x = col
  ·subst hxc; exact hcol k hk hu'.1
  ·rw [hkeep k hk x (by omega)]; exact h.rest k hk hu'.2 x (by omega)

theorem Half.free {p : Int} {n : Nat} {M : Nat -> Nat -> Int} {used : Nat -> Prop} {L T : Nat -> Nat -> Int} (h : Half p n M n used L T) {k : Nat} (hk : k < n) (hu : ¬ used k) : ∀ x, x < n -> zw (fun j => T k j * M j x) n % p = 0 := fun x hx => by
 rw [<- h.comb k hk x hx]; exact h.rest k hk hu x hx

theorem Half.all {p : Int} [Pr p] {n : Nat} {M : Nat -> Nat -> Int} {used : Nat -> Prop} {L T : Nat -> Nat -> Int} (h : Half p n M n used L T) {w : Nat -> Int} (hw : ∀ x, x < n -> zw (fun j => w j * M j x) n % p = 0)
  {j : Nat} (hj : j < n) (h0 : ∀ k, k < n -> ¬ used k -> T k j % p = 0) : w j % p = 0 := by
 obtain ⟨d, hd⟩ := h.span w
 have h1 : ∀ x, x < n -> zw (fun k => d k * L k x) n % p = 0 := by
  intro x hx
  have e1 : zw (fun k => d k * L k x) n % p = zw (fun k => zw (fun j => d k * (T k j * M j x)) n) n % p := by
   refine yw p fun k hk => ?_;rw [vH, yz _ (h.comb k hk x hx)]
  rw [e1, ziW, <- hw x hx];refine yw p fun j hj => ?_;rw [xv _ (hd j hj)]
  congr 1
  rw [Int.mul_comm _ (M j x), <- vH];exact xd fun k _ => by rw [<- Int.mul_assoc, Int.mul_comm]
 have h2 : ∀ k, k < n -> used k -> d k % p = 0 := by
  intro k hk hu;obtain ⟨x, _, hxn, h3, h4⟩ := h.piv k hk hu;have h5 := h1 x hxn
  rw [yw p (g := fun k' => if k' = k then d k * L k x else 0) fun k' hk' => by
   by_cases he : k' = k
   ·subst he; simp
   ·rw [zZ _ (h4 k' hk' he)]; simp [he], xT (k := k) hk fun i _ hne => by simp [hne]] at h5
  simp only [if_true] at h5
  exact Classical.byContradiction fun hne => Pr.mul_ne hne h3 h5
 rw [hd j hj, yw p (g := fun _ => 0) fun k hk => by
  by_cases hu : used k
  ·rw [Int.mul_comm, zZ _ (h2 k hk hu)]; simp
  ·rw [zZ _ (h0 k hk hu)]; simp, jl fun _ _ => rfl]
 simp

namespace Poly
variable {p : Int} [SP p]

def z6 (g : Nat -> Poly p) : Nat -> Poly p
 | 0 => 0
 | n + 1 => z6 g n + g n
theorem zhm (g : Nat -> Poly p) (n : Nat) : z6 g (n + 1) = g 0 + z6 (fun i => g (i + 1)) n := by
 induction n with
 | zero => simp only [z6]; exact zf [g 0] (by rfl)
 | succ n ih => rw [z6, ih, z6]; exact CR.add_assoc _ _ _
theorem zdc {f g : Nat -> Poly p} {n : Nat} (h : ∀ i, i < n -> f i = g i) : z6 f n = z6 g n := by
 induction n with
 | zero => rfl
 | succ n ih => rw [z6, z6, ih fun i hi => h i (by omega), h n (by omega)]
theorem zkh (a : Poly p) (g : Nat -> Poly p) (n : Nat) : z6 (fun i => a * g i) n = a * z6 g n := by
 induction n with
 | zero => simp only [z6]; exact (CR.mul_zero a).symm
 | succ n ih => simp only [z6, ih]; exact (CR.mul_add _ _ _).symm
theorem zgi (f g : Nat -> Poly p) (n : Nat) : z6 (fun i => f i - g i) n = z6 f n - z6 g n := by
 induction n with
 | zero => simp only [z6]; exact (CR.sub_self 0).symm
 | succ n ih => simp only [z6, ih]; exact zf [z6 f n, z6 g n, f n, g n] (by rfl)
theorem ziX {f : Nat -> Poly p} {n : Nat} (h : ∀ i, i < n -> f i = 0) : z6 f n = 0 := by
 induction n with
 | zero => rfl
 | succ n ih => rw [z6, ih fun i hi => h i (by omega), h n (by omega)]; exact CR.add_zero 0
theorem zki {f : Poly p} {g : Nat -> Poly p} {n : Nat} (h : ∀ i, i < n -> f ∣ g i) : f ∣ z6 g n := by
 induction n with
 | zero => exact dvd_zero _
 | succ n ih => exact dvd_add (ih fun i hi => h i (by omega)) (h n (by omega))
theorem zeX (c : Nat -> Int) (g : Nat -> Poly p) (n x : Nat) : cf (z6 (fun j => con p (c j) * g j) n).l x = zw (fun j => cf (g j).l x * c j) n % p := by
 induction n with
 | zero => rw [z6, y6, zw]; simp
 | succ n ih => rw [z6, yL, ih, zc2, zw, <- Int.add_emod, Int.mul_comm (c n)]
theorem zlh {g : Nat -> Poly p} {n m : Nat} (h : ∀ i, i < n -> dg (g i) <= m) : dg (z6 g n) <= m := by
 induction n with
 | zero => rw [z6, zq]; omega
 | succ n ih =>
  have h1 := ih fun i hi => h i (by omega);have h2 := h n (by omega);have := zj4 (z6 g n) (g n);rw [z6]; omega

theorem zkj (a : Poly p) (l : List Int) {n : Nat} (h : l.length <= n) : ev a l = z6 (fun j => con p (cf l j) * a ^ j) n := by
 induction l generalizing n with
 | nil => exact (ziX fun i _ => by rw [yJ, y3]; exact CR.zero_mul _).symm
 | cons c l ih =>
  obtain ⟨m, rfl⟩ : ∃ m, n = m + 1 := ⟨n - 1, by simp at h; omega⟩
  rw [ev, ih (n := m) (by simpa using h), zhm, <- zkh, yu, zo]
  have : z6 (fun i => con p (cf (c :: l) (i + 1)) * a ^ (i + 1)) m = z6 (fun i => a * (con p (cf l i) * a ^ i)) m := zdc fun i _ => by
   rw [zx, zd]; exact zf [con p (cf l i), a, a^i] (by rfl)
  rw [this]; rw [CR.mul_one]

abbrev X (p : Int) [Pos p] : Poly p := mono p 1 1

noncomputable def kq (f : Poly p) (i : Nat) : Poly p := rem (X p ^ (p.toNat * i)) f - X p ^ i

theorem dg_X (i : Nat) : dg (X p ^ i) <= i + 1 := by
 rw [zda];exact kP fun j hj => by rw [jz, if_neg (by omega)]

theorem zli {f : Poly p} {n i : Nat} (hf : dg f = n + 1) (hi : i < n) : dg (kq f i) <= n := by
 have hf0 : f ≠ 0 := fun e => by rw [e, zq] at hf; omega
 have h1 := yB (X p ^ (p.toNat * i)) hf0;have h2 := dg_X (p := p) i;have h3 := zcZ (rem (X p ^ (p.toNat * i)) f) (X p ^ i);unfold kq; omega

theorem zeY {f w : Poly p} {n : Nat} (hf : dg f = n + 1) (hw : dg w <= n) : Ber f w ↔ ∀ x, x < n -> zw (fun j => cf (kq f j).l x * cf w.l j) n % p = 0 := by
 have hf0 : f ≠ 0 := fun e => by rw [e, zq] at hf; omega
 have h1 : w ^ p.toNat - w = z6 (fun j => con p (cf w.l j) * (X p ^ (p.toNat * j) - X p ^ j)) n := by
  have e1 := zh7 (X p) w.l;rw [zlV, zkj _ _ hw] at e1;have e2 := zlV w;rw [zkj (X p) w.l hw] at e2
  have e3 : z6 (fun j => con p (cf w.l j) * (X p ^ p.toNat) ^ j) n - z6 (fun j => con p (cf w.l j) * X p ^ j) n = z6 (fun j => con p (cf w.l j) * (X p ^ (p.toNat * j) - X p ^ j)) n := by
   rw [<- zgi];exact zdc fun j _ => by rw [zh6]; exact zf [con p (cf w.l j), X p ^ j, (X p ^ p.toNat) ^ j] (by rfl)
  rwa [e2, <- e1] at e3
 have h2 : f ∣ (w ^ p.toNat - w) - z6 (fun j => con p (cf w.l j) * kq f j) n := by
  rw [h1, <- zgi];refine zki fun j _ => ?_;have := v3 (X p ^ (p.toNat * j)) f;unfold kq;exact ⟨con p (cf w.l j) * quo (X p ^ (p.toNat * j)) f, by exact comb (con p (cf w.l j)) this (zf [f, con p (cf w.l j), X p ^ j, X p ^ (p.toNat * j), quo (X p ^ (p.toNat * j)) f, rem (X p ^ (p.toNat * j)) f] (by rfl))⟩
 have h3 : dg (z6 (fun j => con p (cf w.l j) * kq f j) n) <= n := zlh fun i hi => by
  have h4 := zli hf hi;have h5 := yy (con p (cf w.l i)) (kq f i);have h6 := v4 (p := p) (cf w.l i);omega
 have h4 : Ber f w ↔ z6 (fun j => con p (cf w.l j) * kq f j) n = 0 := by
  unfold Ber
  constructor
  ·intro h;refine Classical.byContradiction fun hne => ?_;have h5 := dvd_sub h h2;have e : w ^ p.toNat - w - (w ^ p.toNat - w - z6 (fun j => con p (cf w.l j) * kq f j) n) = z6 (fun j => con p (cf w.l j) * kq f j) n := by exact zf [w ^ p.toNat, w, z6 (fun j => con p (cf w.l j) * kq f j) n] (by rfl)
   rw [e] at h5;have := zC h5 hne;omega
  ·intro h;rw [h] at h2;have e : w ^ p.toNat - w - 0 = w ^ p.toNat - w := by exact zf [w ^ p.toNat, w] (by rfl)
   rwa [e] at h2
 rw [h4]
 constructor
 ·intro h x _;rw [<- zeX, h, y6]
 ·intro h;refine zI fun x => ?_;rw [y6];rcases Nat.lt_or_ge x n with hx | hx
  ·rw [zeX]; exact h x hx
  ·exact yl (by omega)

end Poly
namespace Poly
variable {p : Int} [SP p]

def zE (h : Poly p) (e : Nat) (f : Poly p) : Prop := ∃ u, f = h ^ e * u ∧ ¬ h ∣ u

theorem zE.unique {h f : Poly p} (hh : h ≠ 0) {e e' : Nat} (h1 : zE h e f) (h2 : zE h e' f) : e = e' := by
 have key : ∀ {e e' : Nat} {u u' : Poly p}, h ^ e * u = h ^ e' * u' -> ¬ h ∣ u' -> e <= e' := by
  intro e e' u u' he hn;rcases Nat.lt_or_ge e' e with hlt | hge
  ·exfalso
   obtain ⟨k, rfl⟩ : ∃ k, e = e' + k + 1 := ⟨e - e' - 1, by omega⟩
   have hp0 : h ^ e' ≠ 0 := by
    clear he hlt
    induction e' with
    | zero => rw [zo]; exact zc0
    | succ n ih => rw [zd]; exact mul_ne ih hh
   rw [Nat.add_assoc, zcc] at he;have h3 : h ^ e' * (h ^ (k + 1) * u) = h ^ e' * u' := by exact comb (1) he (zf [u, u', h^e', h^(k+1)] (by rfl))
   have h4 := zac hp0 h3;exact hn ⟨h ^ k * u, by rw [<- h4, zd]; exact zf [h, u, h^k] (by rfl)⟩
  ·exact hge
 obtain ⟨u, h3, h4⟩ := h1;obtain ⟨u', h5, h6⟩ := h2;exact Nat.le_antisymm (key (h3.symm.trans h5) h6) (key (h5.symm.trans h3) h4)

theorem zE.mul {h f g : Poly p} (hi : Irr h) {e e' : Nat} (h1 : zE h e f) (h2 : zE h e' g) : zE h (e + e') (f * g) := by
 obtain ⟨u, rfl, h4⟩ := h1;obtain ⟨u', rfl, h6⟩ := h2;exact ⟨u * u', by rw [zcc]; exact zf [u, u', h^e, h^e'] (by rfl), fun hd => (hi.prime hd).elim h4 h6⟩
theorem zT {h f : Poly p} : zE h 0 f ↔ ¬ h ∣ f := by
 constructor
 ·rintro ⟨u, rfl, hn⟩;rw [zo];have : 1 * u = u := by exact zf [u] (by rfl)
  rwa [this]
 ·intro hn;exact ⟨f, by rw [zo]; exact zf [f] (by rfl), hn⟩
theorem zE.pow {h f : Poly p} (hi : Irr h) {e : Nat} (h1 : zE h e f) (n : Nat) : zE h (e * n) (f ^ n) := by
 induction n with
 | zero => rw [Nat.mul_zero, zo, zT]; exact hi.not_unit yA
 | succ n ih => rw [Nat.mul_succ, zd]; exact ih.mul hi h1
theorem zgj {h : Poly p} (hi : Irr h) : zE h 1 h := ⟨1, by
 have e : h ^ 1 = h := by rw [show (1 : Nat) = 0 + 1 from rfl, zd, zo]; exact zf [h] (by rfl)
 rw [e]; exact zf [h] (by rfl), hi.not_unit yA⟩
theorem yM {h : Poly p} (hi : 2 <= dg h) : ∀ (n : Nat) (f : Poly p), f ≠ 0 -> dg f <= n -> ∃ e, zE h e f := by
 intro n
 induction n with
 | zero => intro f hf hn; exact absurd (zc.1 (by omega)) hf
 | succ n ih =>
  intro f hf hn
  by_cases hd : h ∣ f
  ·obtain ⟨q, rfl⟩ := hd;have hh : h ≠ 0 := fun e => hf (by rw [e]; exact zf [q] (by rfl));have hq : q ≠ 0 := fun e => hf (by rw [e]; exact zf [h] (by rfl));have h1 := yv hh hq;obtain ⟨e, u, h2, h3⟩ := ih q hq (by omega);exact ⟨e + 1, u, by rw [zd, h2]; exact zf [h, u, h^e] (by rfl), h3⟩
  ·exact ⟨0, zT.2 hd⟩
theorem zE.dvd {h f : Poly p} {e : Nat} (h1 : zE h e f) (he : 1 <= e) : h ∣ f := by
 obtain ⟨u, rfl, _⟩ := h1;obtain ⟨n, rfl⟩ : ∃ n, e = n + 1 := ⟨e - 1, by omega⟩
 exact ⟨h ^ n * u, by rw [zd]; exact zf [h, u, h^n] (by rfl)⟩

def ltP (f g : Poly p) : Prop := dg f < dg g ∨ dg f = dg g ∧ ∃ i, cf f.l i < cf g.l i ∧ ∀ j, i < j -> cf f.l j = cf g.l j
theorem zaf {p : Int} (f : Poly p) : ¬ ltP f f := by
 rintro (h | ⟨_, i, h, _⟩) <;> omega
theorem zbj {p : Int} {f g h : Poly p} (h1 : ltP f g) (h2 : ltP g h) : ltP f h := by
 rcases h1 with h1 | ⟨h1, i, hi, hi'⟩ <;> rcases h2 with h2 | ⟨h2, j, hj, hj'⟩
 ·exact .inl (by omega)
 ·exact .inl (by omega)
 ·exact .inl (by omega)
 ·refine .inr ⟨by omega, ?_⟩;rcases Nat.lt_trichotomy i j with h | h | h
  ·exact ⟨j, by rw [hi' j h]; exact hj, fun k hk => by rw [hi' k (by omega), hj' k hk]⟩
  ·subst h; exact ⟨i, by omega, fun k hk => by rw [hi' k hk, hj' k hk]⟩
  ·exact ⟨i, by rw [<- hj' i h]; exact hi, fun k hk => by rw [hi' k hk, hj' k (by omega)]⟩
theorem zeh {p : Int} {f g : Poly p} (h : f ≠ g) : ltP f g ∨ ltP g f := by
 rcases Nat.lt_trichotomy (dg f) (dg g) with h1 | h1 | h1
 ·exact .inl (.inl h1)
 ·have : ∀ n, n <= dg f -> (∀ j, n <= j -> cf f.l j = cf g.l j) -> ltP f g ∨ ltP g f := by
   intro n
   induction n with
   | zero => intro _ hj; exact absurd (zI fun i => hj i (Nat.zero_le _)) h
   | succ n ih =>
    intro hn hj;rcases Int.lt_trichotomy (cf f.l n) (cf g.l n) with h2 | h2 | h2
    ·exact .inl (.inr ⟨h1, n, h2, fun j hj' => hj j hj'⟩)
    ·exact ih (by omega) fun j hj' => by
      rcases Nat.eq_or_lt_of_le hj' with rfl | h3
      ·exact h2
      ·exact hj j h3
    ·exact .inr (.inr ⟨h1.symm, n, h2, fun j hj' => (hj j hj').symm⟩)
  exact this (dg f) (Nat.le_refl _) fun j hj => by rw [yl hj, yl (by omega)]
 ·exact .inr (.inl h1)

theorem zei {α : Type} {lt : α -> α -> Prop} (irr : ∀ a, ¬ lt a a) (tr : ∀ a b c, lt a b -> lt b c -> lt a c) : ∀ {l l' : List α}, l.Pairwise lt -> l'.Pairwise lt -> (∀ x, x ∈ l ↔ x ∈ l') -> l = l'
 | [], [], _, _, _ => rfl
 | [], b :: l', _, _, h => absurd ((h b).2 (by simp)) (by simp)
 | a :: l, [], _, _, h => absurd ((h a).1 (by simp)) (by simp)
 | a :: l, b :: l', h1, h2, h => by
  rw [List.pairwise_cons] at h1 h2
  have hab : a = b := by
   rcases List.mem_cons.1 ((h a).1 (by simp)) with h3 | h3
   ·exact h3
   ·rcases List.mem_cons.1 ((h b).2 (by simp)) with h4 | h4
    ·exact h4.symm
    ·exact absurd (tr _ _ _ (h2.1 a h3) (h1.1 b h4)) (irr b)
  subst hab;rw [zei irr tr h1.2 h2.2 fun x => ?_]
  constructor
  ·intro hx;rcases List.mem_cons.1 ((h x).1 (by simp [hx])) with h3 | h3
   ·subst h3; exact absurd (h1.1 x hx) (irr x)
   ·exact h3
  ·intro hx;rcases List.mem_cons.1 ((h x).2 (by simp [hx])) with h3 | h3
   ·subst h3; exact absurd (h2.1 x hx) (irr x)
   ·exact h3

def kr (f : Poly p) (x : Poly p × Nat) : Prop := Irr x.1 ∧ Mon x.1 ∧ 1 <= x.2 ∧ zE x.1 x.2 f
def yg (f : Poly p) (F : List (Poly p × Nat)) : Prop := F.Pairwise (fun x y => ltP x.1 y.1) ∧ ∀ x, x ∈ F ↔ kr f x
theorem yg.unique {f : Poly p} {F F' : List (Poly p × Nat)} (h : yg f F) (h' : yg f F') : F = F' :=
 zei (lt := fun x y : Poly p × Nat => ltP x.1 y.1) (fun x => zaf x.1) (fun _ _ _ h1 h2 => zbj h1 h2) h.1 h'.1 fun x => (h.2 x).trans (h'.2 x).symm

def zag (f : Poly p) (L : List (Poly p)) : Prop := L.Nodup ∧ ∀ h, h ∈ L ↔ (Irr h ∧ Mon h ∧ h ∣ f)

structure Parts (f : Poly p) (L : List (Poly p)) : Prop where
 each : ∀ a ∈ L, Mon a ∧ 2 <= dg a ∧ a ∣ f
 all : ∀ h, Irr h -> h ∣ f -> ∃ a ∈ L, h ∣ a
 apart : L.Pairwise fun a b => ∀ h, Irr h -> h ∣ a -> h ∣ b -> False

theorem Parts.start {f : Poly p} (hm : Mon f) (h2 : 2 <= dg f) : Parts f [f] :=
 ⟨by simp [hm, h2, dvd_refl], fun h hi hd => ⟨f, by simp, hd⟩, by simp⟩

theorem Parts.irrs {f : Poly p} {L : List (Poly p)} (h : Parts f L) (hi : ∀ a ∈ L, Irr a) : zag f L := by
 refine ⟨?_, fun g => ⟨fun hg => ⟨hi g hg, (h.each g hg).1, (h.each g hg).2.2⟩, fun ⟨h1, h2, h3⟩ => ?_⟩⟩
 ·have : L.Pairwise fun a b => a ∈ L -> a ≠ b := h.apart.imp fun {a b} hab ha (he : a = b) => hab a (hi a ha) (dvd_refl a) (by rw [<- he]; exact dvd_refl a);exact List.pairwise_iff_getElem.2 fun i j hi' hj' hij => (List.pairwise_iff_getElem.1 this i j hi' hj' hij) (List.getElem_mem _)
 ·obtain ⟨a, ha, hd⟩ := h.all g h1 h3;rw [jD h1 (hi a ha) h2 (h.each a ha).1 hd]; exact ha

noncomputable def zdH (v a : Poly p) (s : Nat) : List (Poly p) := if 2 <= dg (gcd a (v - con p (s : Int))) then [gcd a (v - con p (s : Int))] else []
noncomputable def yT (v a : Poly p) (n : Nat) : List (Poly p) := (List.range n).flatMap (zdH v a)
noncomputable def zD (v : Poly p) (L : List (Poly p)) : List (Poly p) := L.flatMap fun a => yT v a p.toNat

theorem zaK {v a g : Poly p} {n : Nat} : g ∈ yT v a n ↔ ∃ s, s < n ∧ 2 <= dg (gcd a (v - con p (s : Int))) ∧ g = gcd a (v - con p (s : Int)) := by
 simp only [yT, List.mem_flatMap, List.mem_range, zdH]
 constructor
 ·rintro ⟨s, h1, h2⟩
  split at h2
  ·rename_i h3; simp at h2; exact ⟨s, h1, h3, h2⟩
  ·cases h2
 ·rintro ⟨s, h1, h2, h3⟩;exact ⟨s, h1, by rw [if_pos h2]; simp [h3]⟩

theorem zkk {h v : Poly p} (hi : Irr h) {s t : Nat} (hs : (s : Int) < p) (ht : (t : Int) < p) (h1 : h ∣ v - con p (s : Int)) (h2 : h ∣ v - con p (t : Int)) : s = t := by
 have := zhl hi.1 h1 h2;rw [Int.emod_eq_of_lt (by omega) hs, Int.emod_eq_of_lt (by omega) ht] at this;omega

theorem zej {v a : Poly p} {n : Nat} (hn : (n : Int) <= p) : (yT v a n).Pairwise fun x y => ∀ h, Irr h -> h ∣ x -> h ∣ y -> False := by
 induction n with
 | zero => simp [yT]
 | succ n ih =>
  have e : yT v a (n + 1) = yT v a n ++ zdH v a n := by simp [yT, List.range_succ]
  rw [e, List.pairwise_append];refine ⟨ih (by omega), ?_, fun x hx y hy h hi h1 h2 => ?_⟩
  ·unfold zdH; split <;> simp
  ·obtain ⟨s, hs, _, rfl⟩ := zaK.1 hx;unfold zdH at hy
   split at hy
   ·simp at hy; subst hy
    have := zkk (p := p) hi (s := s) (t := n) (by omega) (by omega) (zp h1 (xg _ _)) (zp h2 (xg _ _));omega
   ·cases hy

theorem zlj {v a h : Poly p} (hv : Ber h v) (hi : Irr h) (hd : h ∣ a) (ha : a ≠ 0) : ∃ g ∈ yT v a p.toNat, h ∣ g := by
 obtain ⟨s, h1, h2, h3⟩ := zlg hi hv;have h4 := zh4 hd h3;have hm := zaH (f := a) (g := v - con p s) (.inl ha);have h5 := zC h4 hm.1;have h6 := hi.1;have e : ((s.toNat : Nat) : Int) = s := by omega
 refine ⟨_, zaK.2 ⟨s.toNat, by omega, ?_, rfl⟩, ?_⟩
 ·rw [e]; omega
 ·rw [e]; exact h4

theorem Parts.cut {f v : Poly p} {L : List (Poly p)} (h : Parts f L) (hv : Ber f v) : Parts f (zD v L) ∧ ∀ a' ∈ zD v L, (∃ s : Int, a' ∣ v - con p s) ∧ ∃ a ∈ L, a' ∣ a := by
 have hmem : ∀ a' ∈ zD v L, ∃ a ∈ L, ∃ s : Nat, 2 <= dg a' ∧ a' = gcd a (v - con p (s : Int)) := by
  intro a' ha';obtain ⟨a, ha, hg⟩ := List.mem_flatMap.1 ha';obtain ⟨s, _, h2, rfl⟩ := zaK.1 hg;exact ⟨a, ha, s, h2, rfl⟩
 refine ⟨⟨fun a' ha' => ?_, fun q hq hd => ?_, ?_⟩, fun a' ha' => ?_⟩
 ·obtain ⟨a, ha, s, h2, rfl⟩ := hmem a' ha';exact ⟨zaH (.inl (h.each a ha).1.1), h2, zp (xu _ _) (h.each a ha).2.2⟩
 ·obtain ⟨a, ha, hqa⟩ := h.all q hq hd;obtain ⟨g, hg, hqg⟩ := zlj (hv.dvd hd) hq hqa (h.each a ha).1.1;exact ⟨g, List.mem_flatMap.2 ⟨a, ha, hg⟩, hqg⟩
 ·unfold zD;rw [List.pairwise_flatMap];refine ⟨fun a _ => zej (by have := Pr.two (p := p); omega), h.apart.imp fun {a b} hab x hx y hy q hq h1 h2 => ?_⟩;obtain ⟨s, _, _, rfl⟩ := zaK.1 hx;obtain ⟨t, _, _, rfl⟩ := zaK.1 hy;exact hab q hq (zp h1 (xu _ _)) (zp h2 (xu _ _))
 ·obtain ⟨a, ha, s, h2, rfl⟩ := hmem a' ha';exact ⟨⟨s, xg _ _⟩, a, ha, xu _ _⟩

end Poly

theorem zgk (n m : Int) (hm : 0 < m) : (n.tmod m + m).tmod m = n % m := by
 have h1 := Int.lt_tmod_of_pos n hm;rw [Int.tmod_eq_emod_of_nonneg (by omega), Int.add_emod_right];rw [Int.tmod_eq_emod]
 split
 ·simp
 ·rw [show (m.natAbs : Int) = m by omega, Int.sub_emod, Int.emod_self]; simp

abbrev isP (p : Int) : Bool := decide (p ∈ yj)

theorem zhn : (List.range 98).all (fun n => decide ((n : Int) ∈ yj) == (decide (2 <= n) && (List.range 10).all fun d => !(decide (2 <= d ∧ d * d <= n ∧ n % d = 0)))) = true := by decide +kernel
theorem jG {n : Int} (h : n <= 97) : n ∈ yj ↔ 2 <= n ∧ ∀ d : Int, 2 <= d -> d * d <= n -> n % d ≠ 0 := by
 rcases Int.lt_or_le n 2 with h2 | h2
 ·constructor
  ·intro hm;have := List.all_eq_true.1 zae n hm;simp only [decide_eq_true_eq] at this
   omega
  ·intro h3; omega
 ·obtain ⟨k, rfl⟩ : ∃ k : Nat, n = k := ⟨n.toNat, by omega⟩
  have h3 := List.all_eq_true.1 zhn k (List.mem_range.2 (by omega));simp only [beq_iff_eq] at h3
  have h4 : ((k : Int) ∈ yj) ↔ decide ((k : Int) ∈ yj) = true := by simp
  rw [h4, h3];simp only [Bool.and_eq_true, decide_eq_true_eq, List.all_eq_true, List.mem_range, Bool.not_eq_true', decide_eq_false_iff_not, not_and]
  constructor
  ·rintro ⟨h5, h6⟩;refine ⟨h2, fun d hd hdd hr => ?_⟩
   have h9 : d < 10 := by
    rcases Int.lt_or_le d 10 with h | h
    ·exact h
    ·have : 10 * 10 <= d * d := Int.mul_le_mul h h (by omega) (by omega);omega
   obtain ⟨m, rfl⟩ : ∃ m : Nat, d = m := ⟨d.toNat, by omega⟩
   refine h6 m (by omega) (by omega) (by exact_mod_cast hdd) ?_;omega
  ·rintro ⟨_, h6⟩;refine ⟨by omega, fun d hd h7 h8 h9 => h6 d (by omega) (by exact_mod_cast h8) (by omega)⟩
theorem jm {n : Int} (h : n ∈ yj) : 2 <= n ∧ n <= 97 := by
 have := List.all_eq_true.1 zae n h
 simpa using this

structure Bz (a b r x y s u v : Int) : Prop where
 r0 : 0 <= r
 s0 : 0 <= s
 e1 : a * x + b * y = r
 e2 : a * u + b * v = s
 g : ∀ d : Int, (d ∣ a ∧ d ∣ b) ↔ (d ∣ r ∧ d ∣ s)
 bd : ∃ ε X U Y V : Int, (ε = 1 ∨ ε = -1) ∧ 0 <= X ∧ 0 <= U ∧ 0 <= Y ∧ 0 <= V ∧ x = ε * X ∧ u = -(ε * U) ∧ y = -(ε * Y) ∧ v = ε * V ∧ U * r + X * s = b ∧ V * r + Y * s = a

theorem Bz.start {a b : Int} (ha : 0 <= a) (hb : 0 <= b) : Bz a b a 1 0 b 0 1 :=
 ⟨ha, hb, by omega, by omega, fun _ => Iff.rfl, 1, 1, 0, 0, 1, .inl rfl, by omega, by omega, by omega, by omega, by omega, by omega, by omega, by omega, by omega, by omega⟩

theorem jn {q s r : Int} (hs : 1 <= s) (hq : 0 <= q) (h : q * s <= r) : q <= r := by
 have : q * 1 <= q * s := Int.mul_le_mul_of_nonneg_left hs hq;omega

structure BzB (a b r x y s u v q : Int) : Prop where
 q0 : 0 <= q
 qr : q <= r
 qs : 0 <= q * s ∧ q * s <= r
 qu : -b <= q * u ∧ q * u <= b
 qv : -a <= q * v ∧ q * v <= a
 bx : -b <= x ∧ x <= b
 by' : -a <= y ∧ y <= a
 nx : -b <= x - q * u ∧ x - q * u <= b
 ny : -a <= y - q * v ∧ y - q * v <= a

theorem kI {ε z B : Int} (he : ε = 1 ∨ ε = -1) (h0 : 0 <= z) (h : z <= B) : -B <= ε * z ∧ ε * z <= B := by
 rcases he with rfl | rfl <;> omega
theorem Bz.step {a b r x y s u v : Int} (h : Bz a b r x y s u v) (hs : s ≠ 0) : BzB a b r x y s u v (r / s) ∧ Bz a b s u v (r - r / s * s) (x - r / s * u) (y - r / s * v) := by
 obtain ⟨h1, h2, h3, h4, h5, ε, X, U, Y, V, he, hX, hU, hY, hV, rfl, rfl, rfl, rfl, h6, h7⟩ := h;have hs1 : 1 <= s := by omega
 have hm := Int.emod_nonneg r hs;have hm2 := Int.emod_lt_of_pos r (show 0 < s by omega);have hd : r = r / s * s + r % s := by have := Int.mul_ediv_add_emod r s; rw [Int.mul_comm] at this; omega
 have hq : 0 <= r / s := Int.ediv_nonneg h1 h2;generalize hqq : r / s = q at *;generalize hrr : r % s = r' at *;have hqs0 : 0 <= q * s := Int.mul_nonneg hq h2;have hqs : q * s <= r := by omega
 have hUr : 0 <= U * r := Int.mul_nonneg hU h1;have hVr : 0 <= V * r := Int.mul_nonneg hV h1;have hXs : 0 <= X * s := Int.mul_nonneg hX h2;have hYs : 0 <= Y * s := Int.mul_nonneg hY h2;have hXb : X <= b := jn (s := s) hs1 hX (by omega);have hYa : Y <= a := jn (s := s) hs1 hY (by omega);have hqU : 0 <= q * U := Int.mul_nonneg hq hU;have hqV : 0 <= q * V := Int.mul_nonneg hq hV
 have k1 : q * U * s <= U * r := by
  have : U * (q * s) <= U * r := Int.mul_le_mul_of_nonneg_left hqs hU;have e : q * U * s = U * (q * s) := by rw [Int.mul_comm q U, Int.mul_assoc]
  omega
 have k2 : q * V * s <= V * r := by
  have : V * (q * s) <= V * r := Int.mul_le_mul_of_nonneg_left hqs hV;have e : q * V * s = V * (q * s) := by rw [Int.mul_comm q V, Int.mul_assoc]
  omega
 have hXU : X + q * U <= b := jn (s := s) hs1 (by omega) (by rw [Int.add_mul]; omega);have hYV : Y + q * V <= a := jn (s := s) hs1 (by omega) (by rw [Int.add_mul]; omega);have e1 : q * -(ε * U) = -(ε * (q * U)) := by rw [Int.mul_neg, <- Int.mul_assoc, Int.mul_comm q ε, Int.mul_assoc]
 have e2 : q * (ε * V) = ε * (q * V) := by rw [<- Int.mul_assoc, Int.mul_comm q ε, Int.mul_assoc]
 have e3 : ε * X - q * -(ε * U) = ε * (X + q * U) := by rw [e1, Int.mul_add]; omega
 have e4 : -(ε * Y) - q * (ε * V) = -(ε * (Y + q * V)) := by rw [e2, Int.mul_add]; omega
 refine ⟨⟨hq, jn hs1 hq hqs, ⟨hqs0, hqs⟩, ?_, ?_, kI he hX hXb, ?_, ?_, ?_⟩, h2, by omega, h4, ?_, fun d => ?_, -ε, U, X + q * U, V, Y + q * V, by omega, hU, by omega, hV, by omega, ?_, ?_, ?_, ?_, ?_, ?_⟩
 ·rw [e1]; have := kI he hqU (show q * U <= b by omega); omega
 ·rw [e2]; exact kI he hqV (show q * V <= a by omega)
 ·have := kI he hY hYa; omega
 ·rw [e3]; exact kI he (by omega) hXU
 ·rw [e4]; have := kI he (by omega) hYV; omega
 ·rw [Int.mul_sub, Int.mul_sub];have i1 : a * (q * -(ε * U)) = q * (a * -(ε * U)) := by rw [<- Int.mul_assoc, Int.mul_comm a q, Int.mul_assoc]
  have i2 : b * (q * (ε * V)) = q * (b * (ε * V)) := by rw [<- Int.mul_assoc, Int.mul_comm b q, Int.mul_assoc]
  have i3 : q * (a * -(ε * U)) + q * (b * (ε * V)) = q * s := by rw [<- Int.mul_add, h4]
  omega
 ·rw [h5 d]
  constructor
  ·rintro ⟨h8, h9⟩; exact ⟨h9, Int.dvd_sub h8 (Int.dvd_mul_of_dvd_right h9)⟩
  ·rintro ⟨h8, h9⟩;refine ⟨?_, h8⟩;have := Int.dvd_add h9 (Int.dvd_mul_of_dvd_right h8 (b := q))
   rwa [show r - q * s + q * s = r by omega] at this
 ·rw [Int.neg_mul]
 ·rw [Int.neg_mul, e3]; omega
 ·rw [Int.neg_mul]; omega
 ·rw [Int.neg_mul, e4]
 ·rw [Int.add_mul, Int.mul_sub];have : U * (q * s) = q * U * s := by rw [Int.mul_comm q U, Int.mul_assoc]
  omega
 ·rw [Int.add_mul, Int.mul_sub];have : V * (q * s) = q * V * s := by rw [Int.mul_comm q V, Int.mul_assoc]
  omega
theorem Bz.fin {a b r x y u v : Int} (h : Bz a b r x y 0 u v) : a * x + b * y = r ∧ 0 <= r ∧ r ∣ a ∧ r ∣ b := by
 have := (h.g r).2 ⟨Int.dvd_refl r, Int.dvd_zero r⟩;exact ⟨h.e1, h.r0, this.1, this.2⟩

def xe (m a : Int) : Int := (((List.range m.toNat).find? fun b : Nat => a * (b : Int) % m == 1 % m).getD 0 : Nat)
theorem zeZ {m a x : Int} (hm : 0 < m) (h : a * x % m = 1 % m) : xe m a = x % m := by
 unfold xe;have h0 := Int.emod_nonneg x (show m ≠ 0 by omega);have h1 := Int.emod_lt_of_pos x hm;cases hf : (List.range m.toNat).find? fun b : Nat => a * (b : Int) % m == 1 % m with
 | none =>
  exfalso
  rw [List.find?_eq_none] at hf;have h2 := hf (x % m).toNat (List.mem_range.2 (by omega));simp only [beq_iff_eq] at h2
  rw [show ((x % m).toNat : Int) = x % m by omega, Int.mul_emod, Int.emod_emod_of_dvd _ (Int.dvd_refl m), <- Int.mul_emod] at h2;exact h2 h
 | some b =>
  have h2 := List.find?_some hf;have h3 := List.mem_range.1 (List.mem_of_find?_eq_some hf);simp only [beq_iff_eq] at h2
  simp only [Option.getD_some]
  -- both are inverses
  have h4 : a * b * x % m = (b : Int) % m := by
   rw [Int.mul_assoc, Int.mul_comm (b : Int) x, <- Int.mul_assoc, Int.mul_emod, h, <- Int.mul_emod, Int.one_mul]
  have h5 : a * b * x % m = x % m := by
   rw [Int.mul_emod, h2, <- Int.mul_emod, Int.one_mul]
  rw [<- h5, h4, Int.emod_eq_of_lt (by omega) (by omega)]
theorem xJ {p a : Int} [Pr p] (h : a % p ≠ 0) : 0 <= xe p a ∧ xe p a < p ∧ a * xe p a % p = 1 := by
 have hp := Pr.two (p := p);obtain ⟨b, hb⟩ := Pr.inv (p := p) a h;have h1 : (1 : Int) % p = 1 := Int.emod_eq_of_lt (by omega) (by omega);rw [zeZ (m := p) (x := b) (by omega) (by rw [hb, h1])];refine ⟨Int.emod_nonneg _ (by omega), Int.emod_lt_of_pos _ (by omega), ?_⟩;rw [Int.mul_emod, Int.emod_emod_of_dvd _ (Int.dvd_refl p), <- Int.mul_emod, hb]
theorem zkl {p a : Int} [Pr p] (h : a % p ≠ 0) : xe p (a % p) = xe p a := by
 have hp := Pr.two (p := p);obtain ⟨h1, h2, h3⟩ := xJ h;rw [zeZ (m := p) (x := xe p a) (by omega), Int.emod_eq_of_lt h1 h2];rw [Int.mul_emod, Int.emod_emod_of_dvd _ (Int.dvd_refl p), <- Int.mul_emod, h3, Int.emod_eq_of_lt (by omega) (by omega)]

theorem zdI {p a r : Int} [Pr p] (ha : a % p ≠ 0) (h0 : 0 <= r) (h1 : r ∣ a) (h2 : r ∣ p) : r = 1 := by
 obtain ⟨c, rfl⟩ := h1;obtain ⟨d, hd⟩ := h2;have hp := Pr.two (p := p)
 -- r is a unit by p, so p divides d, so r = 1
 by_cases hr : r % p = 0
 ·exact absurd (by rw [Int.mul_emod, hr]; simp) ha
 ·obtain ⟨b, hb⟩ := Pr.inv (p := p) r hr
  have h3 : d % p = 0 := by
   have h4 : r * b * d % p = d % p := by rw [Int.mul_emod, hb, Int.one_mul, Int.emod_emod_of_dvd _ (Int.dvd_refl p)]
   rw [<- h4, show r * b * d = p * b by rw [Int.mul_assoc, Int.mul_comm b d, <- Int.mul_assoc, <- hd]];exact Int.mul_emod_right p b
  obtain ⟨k, hk⟩ := Int.dvd_of_emod_eq_zero h3;rw [hk, <- Int.mul_assoc, Int.mul_comm r p, Int.mul_assoc] at hd
  have h5 : r * k = 1 := by
   have : p * (r * k) = p * 1 := by omega
   exact Int.eq_of_mul_eq_mul_left (by omega) this
  have hr1 : r ≠ 0 := fun h => by rw [h, Int.zero_mul] at h5; omega
  have hk1 : 1 <= k := by
   rcases Int.lt_or_le k 1 with h | h
   ·have : r * k <= r * 0 := Int.mul_le_mul_of_nonneg_left (by omega) h0;omega
   ·exact h
  have : r * 1 <= r * k := Int.mul_le_mul_of_nonneg_left hk1 h0;omega
theorem Bz.inv {p a r x y u v : Int} [Pr p] (ha : a % p ≠ 0) (h : Bz a p r x y 0 u v) : x % p = xe p a := by
 have hp := Pr.two (p := p);obtain ⟨h1, h2, h3, h4⟩ := h.fin;have hr := zdI ha h2 h3 h4;subst hr;refine (zeZ (m := p) (by omega) ?_).symm;have : a * x = 1 + p * -y := by rw [Int.mul_neg]; omega
 rw [this, Int.add_mul_emod_self_left]


theorem yN {l : List Int} {i : Nat} (h : i < l.length) (x : Int) (j : Nat) : cf (l.set i x) j = if j = i then x else cf l j := by
 unfold cf;simp only [List.getD_eq_getElem?_getD, List.getElem?_set]
 by_cases hj : i = j
 ·subst hj; simp [h]
 ·simp [hj, Ne.symm hj]
theorem zR (n : Nat) (j : Nat) : cf (List.replicate n 0) j = 0 := by
 unfold cf;simp only [List.getD_eq_getElem?_getD, List.getElem?_replicate]
 split <;> rfl
theorem zh8 (l : List Int) (n j : Nat) : cf (l.take n) j = if j < n then cf l j else 0 := by
 unfold cf;simp only [List.getD_eq_getElem?_getD, List.getElem?_take]
 split <;> rfl
theorem zlk (l : List Int) (n j : Nat) : cf (l.drop n) j = cf l (n + j) := by
 unfold cf;simp only [List.getD_eq_getElem?_getD, List.getElem?_drop]
theorem zkm {l m : List Int} (h : l.length = m.length) (he : ∀ j, j < l.length -> cf l j = cf m j) : l = m := by
 apply List.ext_getElem h;intro j h1 h2;have := he j h1
 rwa [vB h1, vB h2] at this
theorem zkn {l : List Int} {j : Nat} (h : j < l.length) : cf l j ∈ l := by rw [vB h]; exact List.getElem_mem h

theorem kt {l m : List Int} (h : ∀ j, cf l j = cf m j) : zv l = zv m :=
 yK (xH l) (xH m) fun j => by rw [xR, xR, h]
theorem zcd {l : List Int} {n : Nat} (hn : n <= l.length) (h0 : ∀ j, n <= j -> cf l j = 0) (h : n = 0 ∨ cf l (n - 1) ≠ 0) : l.take n = zv l := by
 refine yK ?_ (xH l) fun j => ?_
 ·intro m hm;rw [List.length_take, Nat.min_eq_left hn] at hm;subst hm;rw [zh8, if_pos (by omega)];rcases h with h | h
  ·omega
  ·exact h
 ·rw [zh8, xR]
  split
  ·rfl
  ·exact (h0 j (by omega)).symm
theorem ziY : zv [] = [] := rfl

def Bd (M : Int) (l : List Int) : Prop := ∀ j, -M <= cf l j ∧ cf l j <= M
theorem Bd.trim {M : Int} {l : List Int} (h : Bd M l) : Bd M (zv l) := fun j => by rw [xR]; exact h j
namespace Poly
variable {p : Int} [SP p]
theorem jS (f : Poly p) (j : Nat) : 0 <= cf f.l j ∧ cf f.l j < p := by
 have hp := Pr.two (p := p)
 by_cases hj : j < f.l.length
 ·exact f.ok.1 _ (zkn hj)
 ·rw [zY (by omega)]; omega
theorem kL (f : Poly p) : Bd 97 f.l := fun j => by
 have h := jS f j; have := SP.le (p := p); omega
end Poly

theorem zlD {A B : Int} (hA : 0 <= A) (hB : 0 <= B) {n : Nat} (f g : Nat -> Int) (hf : ∀ j, -A <= f j ∧ f j <= A) (hf0 : ∀ j, n <= j -> f j = 0) (hg : ∀ j, -B <= g j ∧ g j <= B) :
  ∀ k, -((n : Int) * (A * B)) <= cv f g k ∧ cv f g k <= (n : Int) * (A * B) := by
 have hAB : 0 <= A * B := Int.mul_nonneg hA hB
 have hm : ∀ i j, -(A * B) <= f i * g j ∧ f i * g j <= A * B := by
  intro i j;have h1 := hf i;have h2 := hg j
  have e1 : (f i * g j).natAbs <= (A * B).natAbs := by
   rw [Int.natAbs_mul, Int.natAbs_mul];exact Nat.mul_le_mul (by omega) (by omega)
  omega
 intro k
 induction n generalizing f k with
 | zero =>
  have : cv f g k = 0 := yf fun i _ => hf0 i (Nat.zero_le _);rw [this]; simp
 | succ n ih =>
  have e : ((n + 1 : Nat) : Int) * (A * B) = (n : Int) * (A * B) + A * B := by rw [Int.natCast_add, Int.add_mul]; simp
  rw [e];have hn : 0 <= (n : Int) * (A * B) := Int.mul_nonneg (by omega) hAB;cases k with
  | zero =>
   have := hm 0 0;simp only [cv]; omega
  | succ k =>
   have h1 := ih (fun i => f (i + 1)) (fun j => hf (j + 1)) (fun j hj => hf0 (j + 1) (by omega)) (fun i j => hm (i + 1) j) k;have h2 := hm 0 (k + 1);have h3 : cv f g (k + 1) = f 0 * g (k + 1) + cv (fun i => f (i + 1)) g k := rfl;rw [h3]; omega

def part (f g : Nat -> Int) (i k j : Nat) : Int := cv (fun x => if x < i then f x else 0) g j + (if i <= j ∧ j < i + k then f i * g (j - i) else 0)
theorem ziZ (c : Int) (i : Nat) (g : Nat -> Int) (j : Nat) : cv (fun x => if x = i then c else 0) g j = if i <= j then c * g (j - i) else 0 := Poly.cv_mono c i g j
theorem zgl {f g : Nat -> Int} {m : Nat} (hg : ∀ j, m <= j -> g j = 0) (i j : Nat) : part f g i m j = part f g (i + 1) 0 j := by
 unfold part;rw [if_neg (show ¬ (i + 1 <= j ∧ j < i + 1 + 0) by omega), Int.add_zero]
 have e : (fun x => if x < i + 1 then f x else 0) = fun x => (if x < i then f x else 0) + (if x = i then f i else 0) := by
  funext x
  by_cases h : x < i
  ·rw [if_pos h, if_pos (by omega), if_neg (by omega)]; omega
  ·by_cases h2 : x = i
   ·subst h2; rw [if_pos (by omega), if_neg h, if_pos rfl]; omega
   ·rw [if_neg (by omega), if_neg h, if_neg h2]; rfl
 rw [e, zeO, ziZ]
 congr 1
 by_cases h : i <= j
 ·rw [if_pos h]
  by_cases h2 : j < i + m
  ·rw [if_pos ⟨h, h2⟩]
  ·rw [if_neg (by omega), hg _ (by omega), Int.mul_zero]
 ·rw [if_neg (by omega), if_neg h]
theorem zdd (f g : Nat -> Int) (j : Nat) : part f g 0 0 j = 0 := by
 unfold part;rw [if_neg (by omega), yf fun i _ => by simp]; rfl
theorem zbk (f g : Nat -> Int) (i k j : Nat) : part f g i (k + 1) j = if j = i + k then part f g i k j + f i * g k else part f g i k j := by
 unfold part
 by_cases h : j = i + k
 ·subst h;rw [if_pos rfl, if_pos ⟨by omega, by omega⟩, if_neg (by omega), show i + k - i = k by omega]; omega
 ·rw [if_neg h]
  congr 1
  by_cases h2 : i <= j ∧ j < i + k
  ·rw [if_pos h2, if_pos ⟨h2.1, by omega⟩]
  ·rw [if_neg h2, if_neg (by omega)]
theorem zgm {f g : Nat -> Int} {n : Nat} (hf : ∀ j, n <= j -> f j = 0) (j : Nat) : part f g n 0 j = cv f g j := by
 unfold part;rw [if_neg (by omega), Int.add_zero]
 congr 1
 funext x
 split
 ·rfl
 ·exact (hf x (by omega)).symm
theorem zh9 {A B : Int} (hA : 0 <= A) (hB : 0 <= B) {f g : Nat -> Int} (hf : ∀ j, -A <= f j ∧ f j <= A) (hg : ∀ j, -B <= g j ∧ g j <= B) (i k j : Nat) :
  -(((i : Int) + 1) * (A * B)) <= part f g i k j ∧ part f g i k j <= ((i : Int) + 1) * (A * B) := by
 have h1 := zlD hA hB (n := i) (fun x => if x < i then f x else 0) g (fun j => by split; exact hf j; omega) (fun j hj => if_neg (by omega)) hg j;have hAB : 0 <= A * B := Int.mul_nonneg hA hB
 have h2 : -(A * B) <= f i * g (j - i) ∧ f i * g (j - i) <= A * B := by
  have h1 := hf i;have h2 := hg (j - i)
  have e1 : (f i * g (j - i)).natAbs <= (A * B).natAbs := by
   rw [Int.natAbs_mul, Int.natAbs_mul];exact Nat.mul_le_mul (by omega) (by omega)
  omega
 unfold part;rw [Int.add_mul, Int.one_mul]
 split <;> omega

theorem kQ (f : Int -> Int) {xs : List Int} {i : Nat} (h : i < xs.length) : (xs.take (i + 1)).map f = (xs.take i).map f ++ [f (xs.getD i 0)] := by
 rw [List.take_add_one, List.map_append, List.getElem?_eq_getElem h, List.getD_eq_getElem?_getD, List.getElem?_eq_getElem h]; rfl

theorem zaL (n : Nat) (f : Nat -> Int) : mkL (n + 1) f = mkL n f ++ [f n] := by simp [mkL, List.range_succ]
theorem zgn {out f g : List Int} (h : ∀ j, cf out j = cf f j + cf g j) : zv out = zv (kj f g) := kt fun j => by rw [h, vP]
theorem zgo {out f g : List Int} (h : ∀ j, cf out j = cv (cf f) (cf g) j) : zv out = zv (jy f g) := kt fun j => by rw [h, zb7]
theorem zaM {f g : List Int} (h : f = [] ∨ g = []) : zv (jy f g) = [] := by
 rw [<- ziY];refine kt fun j => ?_;rw [zb7, yJ];rcases h with rfl | rfl
 ·exact yf fun i _ => yJ i
 ·rw [kG]; exact yf fun i _ => yJ i
theorem zde (p : Int) (l : List Int) : nrm p (zv l) = nrm p l := yK (jk _ _) (jk _ _) fun j => by rw [zbf, zbf, xR]

theorem ze0 {p : Int} {l : List Int} (h : ∀ j, 0 <= cf l j ∧ cf l j < p) : nrm p l = zv l :=
 yK (jk p l) (xH l) fun j => by rw [zbf, xR, Int.emod_eq_of_lt (h j).1 (h j).2]

namespace Poly
variable {p : Int} [SP p]

structure DivI (p : Int) [SP p] (F G : Poly p) (nq k : Nat) (r q : List Int) : Prop where
 rl : r.length = dg F
 ql : q.length = nq
 eq : F = of p q * G + of p r
 z : ∀ j, k + dg G <= j + 1 -> cf r j = 0
 rr : ∀ j, 0 <= cf r j ∧ cf r j < p
 qr : ∀ j, 0 <= cf q j ∧ cf q j < p
 qz : ∀ j, j < k -> cf q j = 0

theorem DivI.start (F G : Poly p) {nq : Nat} (h : dg F + 1 <= nq + dg G) : DivI p F G nq nq F.l (List.replicate nq 0) := by
 have hp := Pr.two (p := p);refine ⟨rfl, by simp, ?_, fun j hj => yl (by omega), fun j => jS F j, fun j => by rw [zR]; omega, fun j _ => zR _ _⟩;have h0 : of p (List.replicate nq 0) = (0 : Poly p) := zI fun i => by rw [yo, zR, y6]; simp
 rw [h0, of_l];exact zf [F, G] (by rfl)

theorem DivI.step {F G : Poly p} {nq k : Nat} {r q r' : List Int} (h : DivI p F G nq (k + 1) r q) (hG : G ≠ 0) (hk : k < nq) (c : Int) (hc : c = cf r (k + dg G - 1) * xe p (cf G.l (dg G - 1)) % p)
  (hl : r'.length = r.length) (hr : ∀ j, cf r' j = if k <= j ∧ j < k + dg G then (cf r j - c * cf G.l (j - k)) % p else cf r j) : DivI p F G nq k r' (q.set k c) := by
 have hp := Pr.two (p := p);have hm : dg G ≠ 0 := fun e => hG (zc.1 e);have hcr : 0 <= c ∧ c < p := by rw [hc]; exact ⟨Int.emod_nonneg _ (by omega), Int.emod_lt_of_pos _ (by omega)⟩
 have hql := h.ql;have hlead : cf G.l (dg G - 1) % p ≠ 0 := ya (yS (by omega));have hinv := (xJ (p := p) hlead).2.2
 have e1 : of p (q.set k c) = of p q + mono p c k := zI fun i => by
  rw [yo, yL, yo, jz, yN (by omega)]
  by_cases hi : i = k
  ·subst hi; rw [if_pos rfl, if_pos rfl, h.qz i (by omega)]; simp
  ·rw [if_neg hi, if_neg hi]; simp
 have e2 : of p r' = of p r - mono p c k * G := zI fun i => by
  rw [yo, k9, yo, vQ, hr]
  by_cases hi : k <= i
  ·rw [if_pos hi]
   by_cases hi2 : i < k + dg G
   ·rw [if_pos ⟨hi, hi2⟩];rw [Int.emod_emod_of_dvd _ (Int.dvd_refl p), <- Int.sub_emod]
   ·rw [if_neg (by omega), yl (f := G) (by omega)]; simp
  ·rw [if_neg (by omega), if_neg hi]; simp
 refine ⟨by rw [hl, h.rl], by simpa using hql, ?_, fun j hj => ?_, fun j => ?_, fun j => ?_, fun j hj => ?_⟩
 ·rw [e1, e2];exact comb 1 h.eq (zf [F, G, of p q, of p r, mono p c k] (by rfl))
 ·rw [hr]
  by_cases hj2 : j < k + dg G
  ·obtain rfl : j = k + dg G - 1 := by omega
   rw [if_pos (by omega), show k + dg G - 1 - k = dg G - 1 by omega, hc];generalize cf r (k + dg G - 1) = a;generalize xe p (cf G.l (dg G - 1)) = v at hinv;generalize cf G.l (dg G - 1) = l at hinv;rw [Int.sub_emod, Int.mul_emod (a * v % p), Int.emod_emod_of_dvd _ (Int.dvd_refl p), <- Int.mul_emod, show a * v * l = a * (l * v) by rw [Int.mul_assoc, Int.mul_comm v l], Int.mul_emod a, hinv, Int.mul_one, Int.emod_emod_of_dvd _ (Int.dvd_refl p)];simp
  ·rw [if_neg (by omega)]; exact h.z j (by omega)
 ·rw [hr]
  split
  ·exact ⟨Int.emod_nonneg _ (by omega), Int.emod_lt_of_pos _ (by omega)⟩
  ·exact h.rr j
 ·rw [yN (by omega)]
  split
  ·exact hcr
  ·exact h.qr j
 ·rw [yN (by omega), if_neg (by omega)];exact h.qz j (by omega)

theorem DivI.fin {F G : Poly p} {nq : Nat} {r q : List Int} (h : DivI p F G nq 0 r q) (hG : G ≠ 0) : zv q = (quo F G).l ∧ zv r = (rem F G).l := by
 have hm : dg G ≠ 0 := fun e => hG (zc.1 e)
 have h1 := zeP (q := of p q) (r := of p r) h.eq (by
  have : dg (of p r) <= dg G - 1 := kP fun j hj => by rw [yo, h.z j (by omega)]; simp
  omega)
 rw [h1.1, h1.2];exact ⟨(ze0 h.qr).symm, (ze0 h.rr).symm⟩

theorem zgp {p : Int} {c : Int} {g : Nat -> Int} {r o : List Int} {k i n : Nat} (hn : o.length = n) (hi : k + i < n) (h : ∀ j, cf o j = if k <= j ∧ j < k + i then (cf r j - c * g (j - k)) % p else cf r j) :
  cf o (k + i) = cf r (k + i) ∧ ∀ j, cf (o.set (k + i) ((cf o (k + i) - c * g i) % p)) j = if k <= j ∧ j < k + (i + 1) then (cf r j - c * g (j - k)) % p else cf r j := by
 have h0 : cf o (k + i) = cf r (k + i) := by rw [h, if_neg (by omega)]
 refine ⟨h0, fun j => ?_⟩;rw [yN (by omega), h0, h]
 by_cases hj : j = k + i
 ·subst hj; rw [if_pos rfl, if_pos (by omega), show k + i - k = i by omega]
 ·rw [if_neg hj]
  by_cases h2 : k <= j ∧ j < k + i
  ·rw [if_pos h2, if_pos (by omega)]
  ·rw [if_neg h2, if_neg (by omega)]

end Poly
namespace Poly
variable {p : Int} [SP p]

theorem zdJ {f a b : Poly p} (hf : f ≠ 0) (h : f ∣ a - b) : rem a f = rem b f := by
 obtain ⟨q, hq⟩ := h;have h1 := v3 b f;have h2 := yB b hf;exact (zeP (q := q + quo b f) (comb 1 hq (comb 1 h1 (zf [a, b, f, q, quo b f, rem b f] (by rfl)))) h2).2
theorem zgq (a f : Poly p) : f ∣ a - rem a f := ⟨quo a f, comb 1 (v3 a f) (zf [a, f, quo a f, rem a f] (by rfl))⟩
theorem yU {a b f : Poly p} (hf : f ≠ 0) : rem (rem a f * b) f = rem (a * b) f := by
 refine (zdJ hf ?_).symm;obtain ⟨q, hq⟩ := zgq a f;exact ⟨q * b, comb b hq (zf [a, b, f, q, rem a f] (by rfl))⟩
theorem v5 {a b f : Poly p} (hf : f ≠ 0) : rem (a * rem b f) f = rem (a * b) f := by
 have e : a * rem b f = rem b f * a := zf [a, rem b f] (by rfl);have e2 : b * a = a * b := zf [a, b] (by rfl);rw [e, yU hf, e2]
theorem zek {a f : Poly p} (h : dg a < dg f) : rem a f = a := (zeP (q := 0) (f := a) (g := f) (zf [a, f] (by rfl)) h).2
theorem ze1 {a f : Poly p} (hf : f ≠ 0) (n : Nat) : rem (rem a f ^ n) f = rem (a ^ n) f := by
 induction n with
 | zero => rfl
 | succ n ih => rw [zd, zd, v5 hf, <- yU hf, ih, yU hf]
theorem ze2 (a : Poly p) (n : Nat) : a ^ n = (a * a) ^ (n / 2) * a ^ (n % 2) := by
 have h1 : (a * a) ^ (n / 2) = a ^ (2 * (n / 2)) := by
  rw [zh6]
  congr 1
  show a * a = 1 * a * a
  rw [CR.one_mul]
 rw [h1, <- zcc]
 congr 1; omega
theorem zgr {o b f g : Poly p} (hf : f ≠ 0) {n : Nat} (h : rem (o * b ^ n) f = g) :
  rem ((if n % 2 = 1 then rem (o * b) f else o) * rem (b * b) f ^ (n / 2)) f = g := by
 rw [<- v5 hf, ze1 hf, v5 hf, <- h, ze2 b n]
 split
 ·rename_i hn
  have e1 : b ^ (n % 2) = b := by rw [hn]; exact CR.one_mul b
  have e2 : o * b * (b * b) ^ (n / 2) = o * ((b * b) ^ (n / 2) * b) := zf [o, b, (b * b) ^ (n / 2)] (by rfl);rw [yU hf, e1, e2]
 ·rename_i hn
  have e1 : b ^ (n % 2) = 1 := by rw [show n % 2 = 0 by omega]; rfl
  rw [e1, CR.mul_one]

theorem zia {c : Int} (h0 : 0 < c) (h1 : c < p) : (con p c).l = [c] := by
 refine yK (con p c).ok.2 ?_ fun i => ?_
 ·intro n hn;have : n = 0 := by simpa using hn.symm
  subst this;show c ≠ 0
  omega
 ·rw [xc, Int.emod_eq_of_lt (by omega) h1];cases i <;> simp [cf]
theorem zgs : (1 : Poly p).l = [1] := by
 have hp := Pr.two (p := p);exact zia (c := 1) (by omega) (by omega)
theorem zko {F : Poly p} (hF : F ≠ 0) : 0 < xe p (cf F.l (dg F - 1)) ∧ xe p (cf F.l (dg F - 1)) < p ∧ F * con p (xe p (cf F.l (dg F - 1))) = mnc F := by
 have hp := Pr.two (p := p);have hd : dg F ≠ 0 := fun e => hF (zc.1 e);have hl : cf F.l (dg F - 1) % p ≠ 0 := ya (yS (by omega));obtain ⟨h1, h2, h3⟩ := xJ hl;generalize xe p (cf F.l (dg F - 1)) = c at h1 h2 h3;have hc0 : c ≠ 0 := fun e => by rw [e, Int.mul_zero, Int.zero_emod] at h3; omega
 have hcm : c % p ≠ 0 := by rw [Int.emod_eq_of_lt h1 h2]; exact hc0
 refine ⟨by omega, h2, ?_⟩
 have hm : Mon (con p c * F) := by
  refine ⟨mul_ne (zeU hcm) hF, ?_⟩;rw [zc4 (zeU hcm) hF, zj6 hcm, Int.emod_eq_of_lt h1 h2, Int.mul_comm];exact h3
 rw [zlT hm];exact zf [F, con p c] (by rfl)
theorem zi0 (F G : Poly p) (hF : F ≠ 0) : dg (gcd F G) <= dg F := zC (xu F G) hF
end Poly

theorem zi1 {p : Int} {n m a0 : Nat} {R R' : Nat -> Nat -> Int} {s b : Int} (hab : s * b % p = 1) (ha : a0 < m) (h1 : ∀ x, x < n -> R' a0 x % p = (s * R a0 x) % p)
  (h2 : ∀ i, i < m -> i ≠ a0 -> ∃ t : Int, ∀ x, x < n -> R' i x % p = (R i x - t * (s * R a0 x)) % p) (c : Nat -> Int) : Sol p n m R' c ↔ Sol p n m R c := by
 constructor
 ·intro h
  have hat : vT p n (R a0) c := by
   have h3 := jE b (h a0 ha);refine (xU (fun x hx => ?_) (fun _ _ => rfl)).1 h3;rw [yz b (h1 x hx), <- Int.mul_assoc, Int.mul_comm b s, Int.mul_emod, hab, Int.one_mul, zQ]
  intro k hk
  by_cases he : k = a0
  ·subst he; exact hat
  ·obtain ⟨t, ht⟩ := h2 k hk he;have h3 := zeg t (h k hk) (jE s hat);refine (xU (fun x hx => ?_) (fun _ _ => rfl)).1 h3;rw [Int.add_emod, ht x hx, <- Int.add_emod]
   congr 1; omega
 ·intro h k hk
  by_cases he : k = a0
  ·subst he;exact (xU (fun x hx => h1 x hx) (fun _ _ => rfl)).2 (jE s (h k hk))
  ·obtain ⟨t, ht⟩ := h2 k hk he;have h3 := zeg (-t) (h k hk) (jE s (h a0 ha));refine (xU (fun x hx => ?_) (fun _ _ => rfl)).2 h3;rw [ht x hx]
   congr 1; rw [Int.neg_mul]; omega

namespace Poly
variable {p : Int} [SP p]

def zdf (L : List (Poly p)) (w : Poly p) : Prop := ∀ C : Poly p -> Prop, C 0 -> (∀ a b, C a -> C b -> C (a + b)) -> (∀ (c : Int) a, C a -> C (con p c * a)) -> (∀ a ∈ L, C a) -> C w

theorem zkp {L : List (Poly p)} {g : Nat -> Poly p} {n : Nat} (h : ∀ i, i < n -> zdf L (g i)) : zdf L (z6 g n) := by
 intro C h0 ha hc hL
 induction n with
 | zero => exact h0
 | succ n ih => exact ha _ _ (ih fun i hi => h i (by omega)) (h n (by omega) C h0 ha hc hL)

def zbL (p : Int) [SP p] (n : Nat) (piv : List Nat) (R : Nat -> Nat -> Int) (col : Nat) : Poly p := of p (mkL n (vI p piv R col))
theorem zaN (n : Nat) (piv : List Nat) (R : Nat -> Nat -> Int) (col x : Nat) : cf (zbL p n piv R col).l x = if x < n then vI p piv R col x % p else 0 := by
 rw [zbL, yo, xI]; split <;> simp

def xy (p : Int) [SP p] (n : Nat) (piv : List Nat) (R : Nat -> Nat -> Int) (m : Nat) : List (Poly p) := ((List.range m).filter fun c => !piv.contains c).map (zbL p n piv R)
theorem zdg (n : Nat) (piv : List Nat) (R : Nat -> Nat -> Int) (m : Nat) : xy p n piv R (m + 1) = if m ∈ piv then xy p n piv R m else xy p n piv R m ++ [zbL p n piv R m] := by
 unfold xy;rw [List.range_succ, List.filter_append]
 by_cases h : m ∈ piv
 ·simp [h]
 ·simp [h]

structure Basis (p : Int) [SP p] (n : Nat) (R : Nat -> Nat -> Int) (L : List (Poly p)) : Prop where
 few : L.length <= n
 sol : ∀ w ∈ L, dg w <= n ∧ Sol p n n R (cf w.l)
 span : ∀ w : Poly p, dg w <= n -> Sol p n n R (cf w.l) -> zdf L w

theorem Steps.basis {n : Nat} {piv : List Nat} {R R0 : Nat -> Nat -> Int} (h : Steps p n n piv R) (he : ∀ c, Sol p n n R c ↔ Sol p n n R0 c) : Basis p n R0 (xy p n piv R n) := by
 refine ⟨?_, ?_, ?_⟩
 ·unfold xy;rw [List.length_map];exact Nat.le_trans (List.length_filter_le _ _) (by simp)
 ·intro w hw;obtain ⟨col, hc, rfl⟩ := List.mem_map.1 hw;simp only [List.mem_filter, List.mem_range, Bool.not_eq_true', List.contains_eq_mem, decide_eq_false_iff_not] at hc
  refine ⟨kP fun i hi => by rw [zaN, if_neg (by omega)], (he _).1 fun k hk => ?_⟩;refine (xU (fun _ _ => rfl) (fun i hi => ?_)).1 (h.free hc.1 hc.2 k hk);rw [zaN, if_pos hi, zQ]
 ·intro w hw hs;have h1 := h.all ((he _).2 hs)
  have e : w = z6 (fun col => con p (if col ∈ piv then 0 else cf w.l col) * zbL p n piv R col) n := zI fun x => by
   rw [zeX (fun col => if col ∈ piv then 0 else cf w.l col)]
   by_cases hx : x < n
   ·rw [<- vZ w x, h1 x hx];refine yw p fun col hcol => ?_;rw [zaN, if_pos hx]
    split
    ·simp
    ·rw [Int.mul_comm, xv _ (zQ p _)]
   ·rw [yl (by omega)];rw [jl fun i _ => by rw [zaN, if_neg hx, Int.zero_mul]]; simp
  rw [e];refine zkp fun col hcol => ?_;intro C h0 ha hc hL
  by_cases hp : col ∈ piv
  ·rw [if_pos hp, y3, CR.zero_mul]; exact h0
  ·rw [if_neg hp];refine hc _ _ (hL _ (List.mem_map.2 ⟨col, ?_, rfl⟩));simp [hcol, hp]

structure Ker (f : Poly p) (L : List (Poly p)) : Prop where
 few : L.length <= dg f
 ber : ∀ w ∈ L, Ber f w ∧ dg w < dg f
 span : ∀ w : Poly p, dg w < dg f -> Ber f w -> zdf L w
noncomputable def zbl (f : Poly p) (k i : Nat) : Int := cf (kq f i).l k
theorem Basis.ker {f : Poly p} {n : Nat} {L : List (Poly p)} (hf : dg f = n + 1) (h : Basis p n (zbl f) L) : Ker f L := by
 have hb : ∀ w : Poly p, dg w <= n -> (Ber f w ↔ Sol p n n (zbl f) (cf w.l)) := fun w hw => zeY hf hw;exact ⟨by have := h.few; omega, fun w hw => ⟨(hb w (h.sol w hw).1).2 (h.sol w hw).2, by have := (h.sol w hw).1; omega⟩, fun w hw hB => h.span w (by omega) ((hb w (by omega)).1 hB)⟩

theorem zkq {L : List (Poly p)} {a : Poly p} (h : ∀ w ∈ L, ∃ s : Int, a ∣ w - con p s) {w : Poly p} (hw : zdf L w) : ∃ s : Int, a ∣ w - con p s := by
 refine hw (fun w => ∃ s : Int, a ∣ w - con p s) ⟨0, ?_⟩ ?_ ?_ h
 ·rw [y3, CR.sub_self]; exact dvd_zero _
 ·rintro x y ⟨s, q, hq⟩ ⟨t, r, hr⟩;refine ⟨s + t, q + r, ?_⟩;rw [<- zeR];exact comb 1 hq (comb 1 hr (zf [x, y, a, q, r, con p s, con p t] (by rfl)))
 ·rintro c x ⟨s, q, hq⟩;refine ⟨c * s, con p c * q, ?_⟩;rw [<- zeQ];exact comb (con p c) hq (zf [x, a, q, con p c, con p s] (by rfl))

theorem Parts.done {f : Poly p} {P L : List (Poly p)} (hf : f ≠ 0) (hs : Sqf f) (hk : Ker f L) (hp : Parts f P) (hc : ∀ a ∈ P, ∀ w ∈ L, ∃ s : Int, a ∣ w - con p s) : zag f P :=
 hp.irrs fun a ha => zgg hf hs (hp.each a ha).2.2 (hp.each a ha).2.1 fun w hw hb => zkq (hc a ha) (hk.span w hw hb)

structure Cut (f : Poly p) (B P : List (Poly p)) : Prop where
 parts : Parts f P
 con : ∀ a ∈ P, ∀ w ∈ B, ∃ s : Int, a ∣ w - Poly.con p s
theorem Cut.start {f : Poly p} (hm : Mon f) (h2 : 2 <= dg f) : Cut f [] [f] := ⟨Parts.start hm h2, by simp⟩
theorem Cut.next {f v : Poly p} {B P : List (Poly p)} (h : Cut f B P) (hv : Ber f v) : Cut f (B ++ [v]) (zD v P) := by
 obtain ⟨h1, h2⟩ := h.parts.cut hv;refine ⟨h1, fun a ha w hw => ?_⟩;obtain ⟨h3, a0, ha0, h4⟩ := h2 a ha;rcases List.mem_append.1 hw with hw | hw
 ·obtain ⟨s, hs⟩ := h.con a0 ha0 w hw;exact ⟨s, zp h4 hs⟩
 ·simp at hw; subst hw; exact h3
theorem Cut.done {f : Poly p} {L P : List (Poly p)} (hf : f ≠ 0) (hs : Sqf f) (hk : Ker f L) (h : Cut f L P) : zag f P := Parts.done hf hs hk h.parts h.con

theorem X_l : (X p).l = [0, 1] := by
 have hp := Pr.two (p := p);refine yK (X p).ok.2 ?_ fun i => ?_
 ·intro n hn;have : n = 1 := by simpa using hn.symm
  subst this;show (1 : Int) ≠ 0
  omega
 ·rw [jz, Int.emod_eq_of_lt (by omega) (by omega)]
  match i with
  | 0 => rfl
  | 1 => rfl
  | i + 2 => rw [if_neg (by omega), zY (by simp)]
theorem zll (i a : Nat) : cf (X p ^ i).l a = if a = i then 1 else 0 := by
 have hp := Pr.two (p := p);rw [zda, Nat.one_mul, jz, Int.emod_eq_of_lt (by omega) (by omega)]
theorem ze3 (f : Poly p) (a i : Nat) : zbl f a i = (cf (rem (X p ^ (p.toNat * i)) f).l a - if a = i then 1 else 0) % p := by
 unfold zbl kq;rw [k9, zll]

end Poly
namespace Poly
variable {p : Int} [SP p]

def zdh : List (Poly p) -> Poly p
 | [] => 1
 | a :: l => a * zdh l
theorem zgt {a : Poly p} : ∀ {l : List (Poly p)}, (∀ b ∈ l, Cop a b) -> Cop a (zdh l)
 | [], _ => (zeV a).symm
 | b :: l, h => by
  have h1 := h b (by simp);have h2 := zgt (l := l) fun c hc => h c (by simp [hc]);exact (h1.symm.mul h2.symm).symm
theorem zdi {f : Poly p} (hf : f ≠ 0) : ∀ {l : List (Poly p)}, (∀ a ∈ l, a ∣ f) -> l.Pairwise (fun a b => ∀ h, Irr h -> h ∣ a -> h ∣ b -> False) -> zdh l ∣ f
 | [], _, _ => zb8 f
 | a :: l, h, hp => by
  rw [List.pairwise_cons] at hp;have h1 := zdi hf (l := l) (fun b hb => h b (by simp [hb])) hp.2;have ha := h a (by simp);exact (zgt fun b hb => zad (zc1 ha hf) (hp.1 b hb)).mul_dvd ha h1
theorem ze4 : ∀ {l : List (Poly p)}, (∀ a ∈ l, 2 <= dg a) -> l.length + 1 <= dg (zdh l)
 | [], _ => by rw [zdh, yA]; simp
 | a :: l, h => by
  have h1 := ze4 (l := l) fun b hb => h b (by simp [hb]);have h2 := h a (by simp);have ha : a ≠ 0 := fun e => by rw [e, zq] at h2; omega
  have hl : zdh l ≠ 0 := fun e => by rw [e, zq] at h1; omega
  have := yv ha hl;rw [zdh, List.length_cons]; omega
theorem Parts.few {f : Poly p} {P : List (Poly p)} (h : Parts f P) (hf : f ≠ 0) : P.length + 1 <= dg f :=
 Nat.le_trans (ze4 fun a ha => (h.each a ha).2.1) (zC (zdi hf (fun a ha => (h.each a ha).2.2) h.apart) hf)
theorem zag.few {f : Poly p} {P : List (Poly p)} (h : zag f P) (hf : f ≠ 0) : P.length + 1 <= dg f := by
 refine Nat.le_trans (ze4 (l := P) fun a ha => ((h.2 a).1 ha).1.1) (zC (zdi hf (fun a ha => ((h.2 a).1 ha).2.2) ?_) hf);refine List.pairwise_iff_getElem.2 fun i j hi hj hij q hq h1 h2 => ?_;have ha := (h.2 _).1 (List.getElem_mem hi);have hb := (h.2 _).1 (List.getElem_mem hj);have e1 := jD (vS hq).1 ha.1 (vS hq).2 ha.2.1 (zp (zL q).1 h1);have e2 := jD (vS hq).1 hb.1 (vS hq).2 hb.2.1 (zp (zL q).1 h2);exact List.pairwise_iff_getElem.1 h.1 i j hi hj hij (e1.symm.trans e2)

theorem jo (v a : Poly p) (n : Nat) : yT v a (n + 1) = yT v a n ++ zdH v a n := by simp [yT, List.range_succ]
theorem zkr (v a : Poly p) {n m : Nat} (h : n <= m) : (yT v a n).length <= (yT v a m).length := by
  induction m with
  | zero => obtain rfl : n = 0 := by omega
            exact Nat.le_refl _
  | succ m ih =>
    rcases Nat.eq_or_lt_of_le h with rfl | h'
    · exact Nat.le_refl _
    · have := ih (by omega)
      rw [jo, List.length_append]; omega
theorem zbM (v : Poly p) {P : List (Poly p)} {j : Nat} (h : j < P.length) : zD v (P.take (j + 1)) = zD v (P.take j) ++ yT v (P.getD j 0) p.toNat := by
 unfold zD;rw [List.take_add_one, List.flatMap_append, List.getElem?_eq_getElem h, List.getD_eq_getElem?_getD, List.getElem?_eq_getElem h];simp
theorem zho (v : Poly p) (P : List (Poly p)) (j : Nat) : (zD v (P.take j)).length <= (zD v P).length := by
 conv => rhs; rw [<- List.take_append_drop j P]
 unfold zD;rw [List.flatMap_append, List.length_append]; omega
theorem zlm (v : Poly p) {P : List (Poly p)} {j a : Nat} (h : j < P.length) (ha : a <= p.toNat) : (zD v (P.take j) ++ yT v (P.getD j 0) a).length <= (zD v P).length := by
 have h1 := zho v P (j + 1);rw [zbM v h, List.length_append] at h1;have h2 := zkr v (P.getD j 0) ha;rw [List.length_append]; omega

theorem zel (v : Poly p) (a : Int) : nrm p (zv (kj v.l [-a])) = (v - con p a).l := by
 rw [zde];show (of p (kj v.l [-a])).l = _
 congr 1
 refine zI fun i => ?_;rw [yo, vP, k9, xc];cases i with
 | zero => rw [if_pos rfl, yu]; rw [Int.sub_emod, Int.emod_emod_of_dvd _ (Int.dvd_refl p), <- Int.sub_emod]; congr 1
 | succ i => rw [if_neg (by omega), zx, yJ]; simp
theorem zgu {L : List (Poly p)} {j : Nat} (h : j < L.length) : L.getD j 0 ∈ L := by
 rw [List.getD_eq_getElem?_getD, List.getElem?_eq_getElem h]; exact List.getElem_mem h
theorem zi2 {L : List (Poly p)} {j : Nat} (h : j < L.length) : L.take (j + 1) = L.take j ++ [L.getD j 0] := by
 rw [List.take_add_one, List.getD_eq_getElem?_getD, List.getElem?_eq_getElem h]; rfl

end Poly
namespace Poly
variable {p : Int} [SP p]

theorem zib {h : Poly p} (hm : Mon h) (n : Nat) : Mon (h ^ n) := by
 induction n with
 | zero => rw [zo]; exact zeT
 | succ n ih => rw [zd]; exact ih.mul hm
theorem Mon.left {f g : Poly p} (hf : Mon g) (h : Mon (f * g)) : Mon f := by
 rw [vh] at h; exact hf.right h

structure Peel (f : Poly p) (P : List (Poly p)) (k : Nat) (r : Poly p) (L : List (Poly p × Nat)) : Prop where
 mon : Mon r
 len : L.length = k
 le : k <= P.length
 cut : ∃ s, f = r * s ∧ ∀ h, Irr h -> Mon h -> h ∣ s -> ∃ j, j < k ∧ h = P.getD j 0
 fac : ∀ j, j < k -> (L.getD j (0, 0)).1 = P.getD j 0 ∧ 1 <= (L.getD j (0, 0)).2 ∧ zE (P.getD j 0) (L.getD j (0, 0)).2 f
 out : ∀ j, j < k -> ¬ P.getD j 0 ∣ r
 rest : ∀ h e, Irr h -> Mon h -> (∀ j, j < k -> h ≠ P.getD j 0) -> (zE h e f ↔ zE h e r)

theorem Peel.start {f : Poly p} (hm : Mon f) (P : List (Poly p)) : Peel f P 0 f [] :=
 ⟨hm, rfl, Nat.zero_le _, ⟨1, by exact zf [f] (by rfl), fun h hi _ hd => (hi.not_unit yA hd).elim⟩, fun j hj => absurd hj (by omega), fun j hj => absurd hj (by omega), fun _ _ _ _ _ => Iff.rfl⟩

theorem zah {P : List (Poly p)} (h : P.Nodup) {i j : Nat} (hi : i < P.length) (hj : j < P.length) (e : P.getD i 0 = P.getD j 0) : i = j := by
 rw [List.getD_eq_getElem?_getD, List.getD_eq_getElem?_getD, List.getElem?_eq_getElem hi, List.getElem?_eq_getElem hj] at e;exact (List.getElem_inj h).1 (by simpa using e)

theorem zbm {α : Type} {d x : α} {L : List α} {j : Nat} : (L ++ [x]).getD j d = if j < L.length then L.getD j d else if j = L.length then x else d := by
 simp only [List.getD_eq_getElem?_getD, List.getElem?_append]
 by_cases h : j < L.length
 ·simp [h]
 ·by_cases h2 : j = L.length
  ·simp [h2]
  ·rw [if_neg h, if_neg h, if_neg h2, List.getElem?_eq_none (by simp; omega)]; rfl

theorem Peel.step {f r r' : Poly p} {P : List (Poly p)} {k n : Nat} {L : List (Poly p × Nat)} (h : Peel f P k r L) (hP : P.Nodup) (hk : k < P.length) (hi : Irr (P.getD k 0)) (hm : Mon (P.getD k 0)) (hd : P.getD k 0 ∣ f)
  (he : r = P.getD k 0 ^ n * r') (hn : ¬ P.getD k 0 ∣ r') : Peel f P (k + 1) r' (L ++ [(P.getD k 0, n)]) := by
 have hr' : r' ∣ r := ⟨P.getD k 0 ^ n, by rw [he]; exact vh _ _⟩
 have hmult : zE (P.getD k 0) n r := ⟨r', he, hn⟩
 have hmf : zE (P.getD k 0) n f := (h.rest _ _ hi hm fun j hj e => by have := zah hP hk (by have := h.le; omega) e; omega).2 hmult
 have hn1 : 1 <= n := by
  rcases Nat.eq_zero_or_pos n with h0 | h0
  ·subst h0; exact absurd hd (zT.1 hmf)
  ·exact h0
 refine ⟨(zib hm n).right (he ▸ h.mon), by simp [h.len], hk, ?_, fun j hj => ?_, fun j hj => ?_, fun q e hq hqm hqn => ?_⟩
 ·obtain ⟨s, h1, h2⟩ := h.cut;refine ⟨P.getD k 0 ^ n * s, by rw [h1, he]; exact zf [P.getD k 0 ^ n, r', s] (by rfl), fun q hq hqm hqd => ?_⟩;rcases hq.prime hqd with h3 | h3
  ·exact ⟨k, by omega, jD hq hi hqm hm (hq.pow h3)⟩
  ·obtain ⟨j, hj, e⟩ := h2 q hq hqm h3;exact ⟨j, by omega, e⟩
 ·rw [zbm]
  by_cases hjk : j = k
  ·subst hjk;rw [if_neg (by have := h.len; omega), if_pos h.len.symm];exact ⟨rfl, hn1, hmf⟩
  ·rw [if_pos (by have := h.len; omega)];exact h.fac j (by omega)
 ·by_cases hjk : j = k
  ·subst hjk; exact hn
  ·exact fun hdj => h.out j (by omega) (zp hdj hr')
 ·rw [h.rest q e hq hqm fun j hj => hqn j (by omega)];have hne : ¬ q ∣ P.getD k 0 := fun hd' => hqn k (by omega) (jD hq hi hqm hm hd');have h0 : zE q 0 (P.getD k 0 ^ n) := zT.2 fun hd' => hne (hq.pow hd');have r0 : r' ≠ 0 := fun e0 => h.mon.1 (by rw [he, e0]; exact zf [P.getD k 0 ^ n] (by rfl))
  have up : ∀ e', zE q e' r' -> zE q e' r := fun e' h1 => by
   have := h0.mul hq h1;rw [Nat.zero_add] at this;rw [he]; exact this
  refine ⟨fun h1 => ?_, up e⟩;obtain ⟨e', h2⟩ := yM hq.1 _ r' r0 (Nat.le_refl _);rw [h1.unique hq.ne (up e' h2)]; exact h2

theorem zic {f g : Poly p} (hf : f ≠ 0) (h : ∀ h, Irr h -> Mon h -> h ∣ f -> h ∣ g -> False) : Cop f g :=
 zad hf fun q hq h1 h2 => by
  obtain ⟨hi, hm⟩ := vS hq;exact h _ hi hm (zp (zL q).1 h1) (zp (zL q).1 h2)

theorem Peel.fin {f r : Poly p} {P : List (Poly p)} {L : List (Poly p × Nat)} (h : Peel f P P.length r L) (_hf : Mon f) {q c : Poly p} (hq : zag q P) (he : f = q * c) (hc : c ∣ der f) :
  der r = 0 ∧ ∀ x, kr f x ↔ x ∈ L ∨ kr r x := by
 have hr0 := h.mon.1
 have hidx : ∀ {g : Poly p}, g ∈ P -> ∃ j, j < P.length ∧ g = P.getD j 0 := fun {g} hg => by
  obtain ⟨j, hj, e⟩ := List.getElem_of_mem hg;exact ⟨j, hj, by rw [List.getD_eq_getElem?_getD, List.getElem?_eq_getElem hj]; exact e.symm⟩
 constructor
 ·obtain ⟨s, h1, h2⟩ := h.cut;refine zkb he h1 hr0 hc (zic hr0 fun g hg hgm h3 h4 => ?_) (zic hr0 fun g hg hgm h3 h4 => ?_)
  ·obtain ⟨j, hj, rfl⟩ := hidx ((hq.2 g).2 ⟨hg, hgm, h4⟩);exact h.out j hj h3
  ·obtain ⟨j, hj, rfl⟩ := h2 g hg hgm h4;exact h.out j hj h3
 ·have hL : ∀ x, x ∈ L ↔ ∃ j, j < P.length ∧ x = L.getD j (0, 0) := fun x => by
   constructor
   ·intro hx;obtain ⟨j, hj, e⟩ := List.getElem_of_mem hx;exact ⟨j, by have := h.len; omega, by rw [List.getD_eq_getElem?_getD, List.getElem?_eq_getElem hj]; exact e.symm⟩
   ·rintro ⟨j, hj, rfl⟩;have hj' : j < L.length := by have := h.len; omega
    rw [List.getD_eq_getElem?_getD, List.getElem?_eq_getElem hj'];exact List.getElem_mem hj'
  rintro ⟨g, e⟩;rw [hL]
  constructor
  ·rintro ⟨h1, h2, h3, h4⟩
   by_cases hg : ∃ j, j < P.length ∧ g = P.getD j 0
   ·obtain ⟨j, hj, rfl⟩ := hg;obtain ⟨h5, h6, h7⟩ := h.fac j hj;refine .inl ⟨j, hj, ?_⟩;have : e = (L.getD j (0, 0)).2 := h4.unique h1.ne h7;exact Prod.ext h5.symm this
   ·exact .inr ⟨h1, h2, h3, (h.rest g e h1 h2 fun j hj e' => hg ⟨j, hj, e'⟩).1 h4⟩
  ·rintro (⟨j, hj, hx⟩ | ⟨h1, h2, h3, h4⟩)
   ·obtain ⟨h5, h6, h7⟩ := h.fac j hj;rw [hx]
    have hmem : P.getD j 0 ∈ P := by
     rw [List.getD_eq_getElem?_getD, List.getElem?_eq_getElem hj]; exact List.getElem_mem hj
    obtain ⟨h8, h9, _⟩ := (hq.2 _).1 hmem;exact ⟨by rw [h5]; exact h8, by rw [h5]; exact h9, h6, by rw [h5]; exact h7⟩
   ·refine ⟨h1, h2, h3, (h.rest g e h1 h2 fun j hj e' => ?_).2 h4⟩;have hd : g ∣ r := h4.dvd h3;exact h.out j hj (e' ▸ hd)

theorem jH {f g : Poly p} (h : f ∣ g) (h' : g ∣ f) (hf : f ≠ 0) {q : Poly p} (hq : Irr q) (e : Nat) (h1 : zE q e f) : zE q e g := by
 obtain ⟨u, rfl⟩ := h;obtain ⟨v, hv⟩ := h'
 have huv : u * v = 1 := by
  have h3 : f * (u * v) = f * 1 := by
   have : f * (u * v) = f * u * v := by exact zf [f, u, v] (by rfl)
   rw [this, <- hv]; exact zf [f] (by rfl)
  exact zac hf h3
 have hu : ¬ q ∣ u := fun hd => by
  have h4 : q ∣ u * v := by obtain ⟨w, hw⟩ := hd; exact ⟨w * v, by rw [hw]; exact zf [q, w, v] (by rfl)⟩
  rw [huv] at h4;exact hq.not_unit yA h4
 have := h1.mul hq (zT.2 hu)
 rwa [Nat.add_zero] at this
theorem zem {f : Poly p} (hf : f ≠ 0) (x : Poly p × Nat) : kr (mnc f) x ↔ kr f x := by
 obtain ⟨h1, h2⟩ := zL f;exact ⟨fun ⟨a, b, c, d⟩ => ⟨a, b, c, jH h1 h2 (vR hf).1 a _ d⟩, fun ⟨a, b, c, d⟩ => ⟨a, b, c, jH h2 h1 hf a _ d⟩⟩

theorem zai {f : Poly p} (h : dg f = 1) (x : Poly p × Nat) : ¬ kr f x := fun ⟨a, _, c, d⟩ => a.not_unit h (d.dvd c)

theorem zbn {g f : Poly p} (hg : g ≠ 0) {n : Nat} (hn : 1 <= n) (he : g ^ n = f) (x : Poly p × Nat) : kr f x ↔ ∃ e, kr g (x.1, e) ∧ x.2 = n * e := by
 subst he
 constructor
 ·rintro ⟨a, b, c, d⟩;obtain ⟨e, h1⟩ := yM a.1 _ g hg (Nat.le_refl _);have h2 := h1.pow a n;have h3 := d.unique a.ne h2;refine ⟨e, ⟨a, b, ?_, h1⟩, by rw [h3, Nat.mul_comm]⟩;rcases Nat.eq_zero_or_pos e with h4 | h4
  ·subst h4; omega
  ·exact h4
 ·rintro ⟨e, ⟨a, b, c, d⟩, h⟩;refine ⟨a, b, ?_, ?_⟩
  ·rw [h]; exact Nat.mul_pos hn c
  ·rw [h, Nat.mul_comm]; exact d.pow a n

theorem zen {f : Poly p} (hm : Mon f) (hd : der f = 0) {l : List Int} {n : Nat} (hl : l.length = n) (hc : ∀ i, i < n -> cf l i = cf f.l (i * p.toNat)) (h1 : dg f <= n * p.toNat) (h2 : n * p.toNat < dg f + p.toNat) :
  ∃ g : Poly p, g.l = l ∧ Mon g ∧ g ^ p.toNat = f ∧ dg g <= dg f ∧ (2 <= dg f -> dg g < dg f) := by
 have hp := Pr.two (p := p);have hp2 : 2 <= p.toNat := by omega
 have hcf : ∀ i, cf l i = cf f.l (i * p.toNat) := fun i => by
  by_cases hi : i < n
  ·exact hc i hi
  ·rw [zY (by omega), yl];have : n * p.toNat <= i * p.toNat := Nat.mul_le_mul_right _ (by omega);omega
 have hof : ∀ i, cf (of p l).l i = cf f.l (i * p.toNat) := fun i => by
  rw [yo, hcf, f.ok.cf_mod]
 have hpow := zke hd hof;have hf0 := hm.1
 have hd1 : 1 <= dg f := by
  rcases Nat.eq_zero_or_pos (dg f) with h | h
  ·exact absurd (zc.1 h) hf0
  ·exact h
 have hn1 : 1 <= n := by
  rcases Nat.eq_zero_or_pos n with h | h
  ·subst h; omega
  ·exact h
 -- its last coefficient
 obtain ⟨m, rfl⟩ : ∃ m, n = m + 1 := ⟨n - 1, by omega⟩
 have hlast : dg f = m * p.toNat + 1 := by
  have hne : cf f.l (dg f - 1) ≠ 0 := by have := yS (f := f) (n := dg f - 1) (by omega); exact this
  have hk : (dg f - 1) % p.toNat = 0 := by
   refine Classical.byContradiction fun hk => hne ?_;have e := zkd (of p l) (dg f - 1)
   rwa [hpow, if_neg hk] at e
  have h3 : dg f - 1 = (dg f - 1) / p.toNat * p.toNat := (Nat.div_mul_cancel (Nat.dvd_of_mod_eq_zero hk)).symm;generalize (dg f - 1) / p.toNat = t at h3
  have h4 : t = m := by
   have e1 : (m + 1) * p.toNat = m * p.toNat + p.toNat := Nat.succ_mul _ _;rcases Nat.lt_trichotomy t m with h | h | h
   ·have : (t + 1) * p.toNat <= m * p.toNat := Nat.mul_le_mul_right _ h;have e2 : (t + 1) * p.toNat = t * p.toNat + p.toNat := Nat.succ_mul _ _;omega
   ·exact h
   ·have : (m + 1) * p.toNat <= t * p.toNat := Nat.mul_le_mul_right _ h;omega
  subst h4; omega
 have hone : cf (of p l).l m = 1 := by
  rw [hof];have := hm.2;unfold lc at this;rw [hlast] at this
  simpa using this
 have hdg : dg (of p l) = m + 1 := by
  have h5 := zlB (f := of p l) (n := m) (by rw [hone]; decide);have h6 := zaF (p := p) l;omega
 refine ⟨of p l, zkm (by show dg (of p l) = _; omega) fun j hj => ?_, ⟨fun e => ?_, ?_⟩, hpow, ?_, fun h => ?_⟩
 ·rw [hof, hcf]
 ·rw [e, zq] at hdg; omega
 ·unfold lc; rw [hdg]; exact hone
 ·have : m * 2 <= m * p.toNat := Nat.mul_le_mul_left _ hp2;omega
 ·have : m * 2 <= m * p.toNat := Nat.mul_le_mul_left _ hp2
  have : 1 <= m := by
   rcases Nat.eq_zero_or_pos m with h0 | h0
   ·subst h0; simp at hlast; omega
   ·exact h0
  omega

end Poly
namespace Poly
variable {p : Int} [SP p]

def v6 (f : Poly p) (G : List (Poly p × Nat)) : Prop := (G.map Prod.fst).Nodup ∧ ∀ x, x ∈ G ↔ kr f x

theorem v6.few {f : Poly p} {G : List (Poly p × Nat)} (h : v6 f G) (hf : f ≠ 0) : G.length + 1 <= dg f := by
 have : zag f (G.map Prod.fst) := ⟨h.1, fun g => ?_⟩
 ·have := this.few hf
  simpa using this
 ·rw [List.mem_map]
  constructor
  ·rintro ⟨x, hx, rfl⟩;obtain ⟨a, b, c, d⟩ := (h.2 x).1 hx;exact ⟨a, b, d.dvd c⟩
  ·rintro ⟨a, b, c⟩;obtain ⟨e, he⟩ := yM a.1 _ f hf (Nat.le_refl _);refine ⟨(g, e), (h.2 _).2 ⟨a, b, ?_, he⟩, rfl⟩;rcases Nat.eq_zero_or_pos e with h0 | h0
   ·subst h0; exact absurd c (zT.1 he)
   ·exact h0
theorem yg.facs {f : Poly p} {F : List (Poly p × Nat)} (h : yg f F) : v6 f F :=
 ⟨by
  refine List.Pairwise.map _ (R := fun x y : Poly p × Nat => ltP x.1 y.1) (fun x y hxy e => zaf y.1 (by rw [e] at hxy; exact hxy)) h.1, h.2⟩

theorem v6.unit {r : Poly p} (h : dg r = 1) : v6 r [] := ⟨List.nodup_nil, fun x => ⟨fun hx => by simp at hx, fun hx => (zai h x hx).elim⟩⟩

def up (n : Nat) (F : List (Poly p × Nat)) : List (Poly p × Nat) := F.map fun x => (x.1, n * x.2)
theorem v6.up {g f : Poly p} (hg : g ≠ 0) {n : Nat} (hn : 1 <= n) (he : g ^ n = f) {F : List (Poly p × Nat)} (h : v6 g F) : v6 f (up n F) := by
 refine ⟨?_, fun x => ?_⟩
 ·have : (Poly.up n F).map Prod.fst = F.map Prod.fst := by unfold Poly.up; rw [List.map_map]; rfl
  rw [this]; exact h.1
 ·rw [zbn hg hn he];unfold Poly.up;rw [List.mem_map]
  constructor
  ·rintro ⟨y, hy, rfl⟩;exact ⟨y.2, (h.2 _).1 hy, rfl⟩
  ·rintro ⟨e, h1, h2⟩;exact ⟨(x.1, e), (h.2 _).2 h1, Prod.ext rfl h2.symm⟩

theorem Peel.fstL {f r : Poly p} {P : List (Poly p)} {L : List (Poly p × Nat)} (h : Peel f P P.length r L) : L.map Prod.fst = P := by
 refine List.ext_getElem (by simpa using h.len) fun i h1 h2 => ?_;have h3 := (h.fac i h2).1;have h1' : i < L.length := by simpa using h1
 rw [List.getD_eq_getElem?_getD, List.getD_eq_getElem?_getD, List.getElem?_eq_getElem h1', List.getElem?_eq_getElem h2] at h3
 simpa using h3

theorem Peel.facs {f r : Poly p} {P : List (Poly p)} {L F : List (Poly p × Nat)} (h : Peel f P P.length r L) (hf : Mon f) {q c : Poly p} (hq : zag q P) (he : f = q * c) (hc : c ∣ der f) (hF : v6 r F) : v6 f (L ++ F) := by
 obtain ⟨_, h2⟩ := h.fin hf hq he hc;refine ⟨?_, fun x => by rw [h2, List.mem_append, hF.2]⟩;rw [List.map_append, h.fstL];refine List.nodup_append.2 ⟨hq.1, hF.1, fun a ha b hb e => ?_⟩;subst e;obtain ⟨x, hx, rfl⟩ := List.mem_map.1 hb;obtain ⟨a1, a2, a3, a4⟩ := (hF.2 x).1 hx;obtain ⟨j, hj, hje⟩ := List.getElem_of_mem ha;refine h.out j hj ?_;rw [List.getD_eq_getElem?_getD, List.getElem?_eq_getElem hj];show P[j] ∣ r
 rw [hje]; exact a4.dvd a3

theorem v6.mnc {f : Poly p} (hf : f ≠ 0) {G : List (Poly p × Nat)} (h : v6 (mnc f) G) : v6 f G := ⟨h.1, fun x => by rw [h.2, zem hf]⟩

theorem zlE (f : Poly p) : nrm p (mkL (f.l.length - 1) (dv (cf f.l))) = (der f).l := by
 refine yK (jk _ _) (der f).ok.2 fun j => ?_;rw [zbf, zbg, xI]
 by_cases h : j < f.l.length - 1
 ·rw [if_pos h]
 ·rw [if_neg h];unfold dv;rw [zY (by omega)]; simp

theorem zid {f : Poly p} (hm : Mon f) (hd : der f ≠ 0) : f = quo f (gcd f (der f)) * gcd f (der f) ∧ Mon (quo f (gcd f (der f))) ∧ Sqf (quo f (gcd f (der f))) ∧ 2 <= dg (quo f (gcd f (der f))) ∧ dg (quo f (gcd f (der f))) <= dg f ∧ gcd f (der f) ∣ der f ∧ gcd f (der f) ≠ 0 := by
 have hg := zaH (f := f) (g := der f) (.inl hm.1)
 have h1 : f = quo f (gcd f (der f)) * gcd f (der f) := by
  have h2 := v3 f (gcd f (der f));rw [(ko hg.1).1 (xu f (der f))] at h2;have e : ∀ a : Poly p, a + 0 = a := fun a => by exact zf [a] (by rfl)
  rw [e] at h2; exact h2
 have hq0 : quo f (gcd f (der f)) ≠ 0 := fun e => hm.1 (by rw [h1, e]; exact zf [gcd f (der f)] (by rfl));have hmq : Mon (quo f (gcd f (der f))) := hg.left (h1 ▸ hm);refine ⟨h1, hmq, zka hm.1 h1 (fun h a b => zh4 a b), ?_, ?_, xg _ _, hg.1⟩
 ·refine Classical.byContradiction fun h2 => ?_;have h3 := yv hq0 hg.1;rw [<- h1] at h3;have h4 := zC (xg f (der f)) hd;have h5 := zbh hm.1;have h6 : dg (quo f (gcd f (der f))) ≠ 0 := fun e => hq0 (zc.1 e);omega
 ·exact zC ⟨gcd f (der f), h1⟩ hm.1

end Poly
namespace Poly
variable {p : Int} [SP p]

def zaO (f v : Poly p) (s : Nat) (O : List (Poly p)) : Prop := O.Nodup ∧ ∀ h, h ∈ O ↔ Irr h ∧ Mon h ∧ ∃ a ∈ yT v f s, h ∣ a

theorem zaO.start (f v : Poly p) : zaO f v 0 [] := ⟨List.nodup_nil, fun h => ⟨fun hh => by simp at hh, fun ⟨_, _, a, ha, _⟩ => by simp [yT] at ha⟩⟩
theorem zaO.skip {f v : Poly p} {s : Nat} {O : List (Poly p)} (h : zaO f v s O) (hd : ¬ 2 <= dg (gcd f (v - con p (s : Int)))) : zaO f v (s + 1) O := by
 have e : yT v f (s + 1) = yT v f s := by rw [jo, zdH, if_neg hd, List.append_nil]
 unfold zaO at *;rw [e]; exact h
theorem zaO.step {f v : Poly p} {s : Nat} {O P : List (Poly p)} (h : zaO f v s O) (hs : (s : Int) < p) (hd : 2 <= dg (gcd f (v - con p (s : Int)))) (hP : zag (gcd f (v - con p (s : Int))) P) : zaO f v (s + 1) (O ++ P) := by
 have e : yT v f (s + 1) = yT v f s ++ [gcd f (v - con p (s : Int))] := by rw [jo, zdH, if_pos hd]
 have hap := zej (v := v) (a := f) (n := s + 1) (by omega);rw [e] at hap;refine ⟨List.nodup_append.2 ⟨h.1, hP.1, fun a ha b hb hab => ?_⟩, fun q => ?_⟩
 ·subst hab;obtain ⟨a1, a2, c, hc, h3⟩ := (h.2 a).1 ha;obtain ⟨_, _, h4⟩ := (hP.2 a).1 hb;exact (List.pairwise_append.1 hap).2.2 c hc _ (by simp) a a1 h3 h4
 ·rw [e, List.mem_append, h.2, hP.2]
  constructor
  ·rintro (⟨a1, a2, c, hc, h3⟩ | ⟨a1, a2, h3⟩)
   ·exact ⟨a1, a2, c, by simp [hc], h3⟩
   ·exact ⟨a1, a2, _, by simp, h3⟩
  ·rintro ⟨a1, a2, c, hc, h3⟩;rcases List.mem_append.1 hc with hc | hc
   ·exact .inl ⟨a1, a2, c, hc, h3⟩
   ·simp at hc; subst hc; exact .inr ⟨a1, a2, h3⟩
theorem zaO.fin {f v : Poly p} {O : List (Poly p)} (h : zaO f v p.toNat O) (hm : Mon f) (hd : 2 <= dg f) (hv : Ber f v) : zag f O := by
 have hc := (Parts.start hm hd).cut hv;have e : zD v [f] = yT v f p.toNat := by simp [zD]
 rw [e] at hc;refine ⟨h.1, fun q => ?_⟩;rw [h.2]
 constructor
 ·rintro ⟨a1, a2, c, h1, h2⟩;exact ⟨a1, a2, zp h2 (hc.1.each c h1).2.2⟩
 ·rintro ⟨a1, a2, h1⟩;obtain ⟨c, h2, h3⟩ := hc.1.all q a1 h1;exact ⟨a1, a2, c, h2, h3⟩
theorem zks {f v : Poly p} {n : Nat} (_hf : dg f = n + 1) (h2 : 2 <= dg v) (hv : dg v <= n) (s : Int) : dg (gcd f (v - con p s)) <= n := by
 have h1 : v - con p s ≠ 0 := fun e => by
  have h3 := zj4 (v - con p s) (con p s);have e2 : v - con p s + con p s = v := by exact zf [v, con p s] (by rfl)
  rw [e2, e, zq] at h3;have := v4 (p := p) s;omega
 have h3 := zC (xg f (v - con p s)) h1;have h4 := zcZ v (con p s);have := v4 (p := p) s;omega

end Poly

def zJ {α : Type} (G : List α) (k : Nat) (x : α) : List α := G.take k ++ [x] ++ G.drop k
theorem zdj {α : Type} {G : List α} {k j : Nat} {x d : α} (hk : k <= G.length) (h : j < k) : (zJ G k x).getD j d = G.getD j d := by
 rw [zJ, List.append_assoc, List.getD_eq_getElem?_getD, List.getD_eq_getElem?_getD, List.getElem?_append_left (by simp; omega), List.getElem?_take_of_lt h]
theorem zdk {α : Type} {G : List α} {k : Nat} {x d : α} (hk : k <= G.length) : (zJ G k x).getD k d = x := by
 simp [zJ, List.getD_eq_getElem?_getD, Nat.min_eq_left hk]
theorem zdl {α : Type} {G : List α} {k j : Nat} {x d : α} (hk : k <= G.length) : (zJ G k x).getD (k + 1 + j) d = G.getD (k + j) d := by
 rw [zJ, List.getD_eq_getElem?_getD, List.getD_eq_getElem?_getD, List.getElem?_append_right (by simp [Nat.min_eq_left hk]), List.getElem?_drop];simp [Nat.min_eq_left hk]
theorem zbo {α : Type} {G : List α} {k : Nat} {x y : α} : y ∈ zJ G k x ↔ y = x ∨ y ∈ G := by
 have : y ∈ G ↔ y ∈ G.take k ++ G.drop k := by rw [List.take_append_drop]
 rw [this, zJ];simp only [List.mem_append, List.mem_singleton]
 constructor
 ·rintro ((h | h) | h)
  ·exact .inr (.inl h)
  ·exact .inl h
  ·exact .inr (.inr h)
 ·rintro (h | h | h)
  ·exact .inl (.inr h)
  ·exact .inl (.inl h)
  ·exact .inr h
theorem zaP {α : Type} {G : List α} {k : Nat} {x : α} (hk : k <= G.length) : (zJ G k x).length = G.length + 1 := by
 simp [zJ]; omega

namespace Poly
variable {p : Int} [SP p]

abbrev Srt (G : List (Poly p × Nat)) : Prop := G.Pairwise fun x y => ltP x.1 y.1

theorem xP {α : Type} {d : α} {G : List α} {j : Nat} (h : j < G.length) : G.getD j d = G[j] := by
 rw [List.getD_eq_getElem?_getD, List.getElem?_eq_getElem h]; rfl

theorem Srt.put {G : List (Poly p × Nat)} (h : Srt G) {k : Nat} {x : Poly p × Nat} (hk : k <= G.length) (h1 : ∀ j, j < k -> ltP (G.getD j (0, 0)).1 x.1) (h2 : k = G.length ∨ ¬ ltP (G.getD k (0, 0)).1 x.1) (hn : ∀ y ∈ G, y.1 ≠ x.1) : Srt (zJ G k x) := by
 have hG := h;rw [<- List.take_append_drop k G] at hG;obtain ⟨a1, a2, a3⟩ := List.pairwise_append.1 hG
 have ht : ∀ a ∈ G.take k, ltP a.1 x.1 := fun a ha => by
  obtain ⟨j, hj, e⟩ := List.getElem_of_mem ha;have hj' : j < k ∧ j < G.length := by simp at hj; omega
  have := h1 j hj'.1;rw [xP hj'.2] at this;rw [List.getElem_take] at e;rw [<- e]; exact this
 have hd : ∀ a ∈ G.drop k, ltP x.1 a.1 := fun a ha => by
  obtain ⟨j, hj, e⟩ := List.getElem_of_mem ha;have hj' : k + j < G.length := by simp at hj; omega
  rw [List.getElem_drop] at e;have hk' : k < G.length := by omega
  have hx := h2.resolve_left (by omega);rw [xP hk'] at hx;have hlt : ltP x.1 G[k].1 := (zeh (hn G[k] (List.getElem_mem hk'))).resolve_left hx;rcases Nat.eq_zero_or_pos j with h0 | h0
  ·subst h0; rw [<- e]; exact hlt
  ·rw [<- e];exact zbj hlt (List.pairwise_iff_getElem.1 h k (k + j) hk' hj' (by omega))
 refine List.pairwise_append.2 ⟨List.pairwise_append.2 ⟨a1, List.pairwise_singleton _ _, fun a ha b hb => ?_⟩, a2, fun a ha b hb => ?_⟩
 ·rw [List.mem_singleton.1 hb]; exact ht a ha
 ·rcases List.mem_append.1 ha with h' | h'
  ·exact a3 a h' b hb
  ·rw [List.mem_singleton.1 h']; exact hd b hb

structure PutOf (f : Poly p) (t : Nat) (G G' : List (Poly p × Nat)) : Prop where
 srt : Srt G'
 mem : ∀ x, x ∈ G' ↔ x ∈ G ∨ ∃ e, kr f (x.1, e) ∧ x.2 = t * e

theorem PutOf.unit {f : Poly p} (h : dg f = 1) {t : Nat} {G : List (Poly p × Nat)} (hG : Srt G) : PutOf f t G G :=
 ⟨hG, fun _x => ⟨.inl, fun hx => hx.elim id fun ⟨_e, he, _⟩ => (zai h _ he).elim⟩⟩
theorem PutOf.root {g f : Poly p} (hg : g ≠ 0) {n t : Nat} (hn : 1 <= n) (he : g ^ n = f) {G G' : List (Poly p × Nat)} (h : PutOf g (n * t) G G') : PutOf f t G G' :=
 ⟨h.srt, fun x => by
  rw [h.mem];refine or_congr Iff.rfl ⟨fun ⟨e, h1, h2⟩ => ⟨n * e, (zbn hg hn he _).2 ⟨e, h1, rfl⟩, by rw [h2, Nat.mul_comm n t, Nat.mul_assoc]⟩, fun ⟨e, h1, h2⟩ => ?_⟩;obtain ⟨e', h3, h4⟩ := (zbn hg hn he _).1 h1;have h4 : e = n * e' := h4;exact ⟨e', h3, by rw [h2, h4, Nat.mul_comm n t, Nat.mul_assoc]⟩⟩
theorem PutOf.fac {f : Poly p} {F : List (Poly p × Nat)} (h : PutOf f 1 [] F) : yg f F :=
 ⟨h.srt, fun x => by
  rw [h.mem];refine ⟨fun hx => hx.elim (fun h => by simp at h) fun ⟨e, h1, h2⟩ => ?_, fun hx => .inr ⟨x.2, hx, by omega⟩⟩;obtain rfl : e = x.2 := by omega
  exact h1⟩

structure Putting (f : Poly p) (P : List (Poly p)) (t : Nat) (G : List (Poly p × Nat)) (k : Nat) (r : Poly p) (L H : List (Poly p × Nat)) : Prop where
 peel : Peel f P k r L
 srt : Srt H
 mem : ∀ x, x ∈ H ↔ x ∈ G ∨ x ∈ up t L
 len : H.length = G.length + k

theorem Putting.start {f : Poly p} (hm : Mon f) (P : List (Poly p)) (t : Nat) {G : List (Poly p × Nat)} (hG : Srt G) : Putting f P t G 0 f [] G :=
 ⟨Peel.start hm P, hG, fun x => by simp [up], rfl⟩

theorem zhp {p : Int} {t : Nat} {L : List (Poly p × Nat)} {x : Poly p × Nat} (h : x ∈ up t L) : ∃ y ∈ L, x = (y.1, t * y.2) := by
 obtain ⟨y, hy, e⟩ := List.mem_map.1 h;exact ⟨y, hy, e.symm⟩

theorem Peel.mem_fst {f r : Poly p} {P : List (Poly p)} {k : Nat} {L : List (Poly p × Nat)} (h : Peel f P k r L) {y : Poly p × Nat} (hy : y ∈ L) : ∃ j, j < k ∧ y.1 = P.getD j 0 := by
 obtain ⟨j, hj, e⟩ := List.getElem_of_mem hy;have hjk : j < k := by rw [<- h.len]; exact hj
 have := (h.fac j hjk).1;rw [xP hj, e] at this;exact ⟨j, hjk, this⟩

theorem Putting.step {f r r' : Poly p} {P : List (Poly p)} {t k n i : Nat} {G L H : List (Poly p × Nat)} (h : Putting f P t G k r L H) (hG : ∀ x ∈ G, ¬ x.1 ∣ f) (hP : P.Nodup) (hk : k < P.length) (hi : Irr (P.getD k 0)) (hm : Mon (P.getD k 0)) (hd : P.getD k 0 ∣ f)
  (he : r = P.getD k 0 ^ n * r') (hn : ¬ P.getD k 0 ∣ r') (hil : i <= H.length) (h1 : ∀ j, j < i -> ltP (H.getD j (0, 0)).1 (P.getD k 0)) (h2 : i = H.length ∨ ¬ ltP (H.getD i (0, 0)).1 (P.getD k 0)) :
  Putting f P t G (k + 1) r' (L ++ [(P.getD k 0, n)]) (zJ H i (P.getD k 0, n * t)) := by
 refine ⟨h.peel.step hP hk hi hm hd he hn, h.srt.put hil h1 h2 fun y hy e => ?_, fun x => ?_, by rw [zaP hil, h.len]; omega⟩
 ·have e : y.1 = P.getD k 0 := e;rcases (h.mem y).1 hy with hy | hy
  ·exact hG y hy (e ▸ hd)
  ·obtain ⟨z, hz, rfl⟩ := zhp hy;obtain ⟨j, hj, e'⟩ := h.peel.mem_fst hz;have := zah hP hk (by omega) (e.symm.trans e');omega
 ·rw [zbo, h.mem];have : up t (L ++ [(P.getD k 0, n)]) = up t L ++ [(P.getD k 0, n * t)] := by simp [up, Nat.mul_comm]
  rw [this, List.mem_append, List.mem_singleton]
  constructor
  ·rintro (h | h | h)
   ·exact .inr (.inr h)
   ·exact .inl h
   ·exact .inr (.inl h)
  ·rintro (h | h | h)
   ·exact .inr (.inl h)
   ·exact .inr (.inr h)
   ·exact .inl h

theorem Putting.apart {f r : Poly p} {P : List (Poly p)} {t : Nat} {G L H : List (Poly p × Nat)} (h : Putting f P t G P.length r L H) (hG : ∀ x ∈ G, ¬ x.1 ∣ f) : ∀ x ∈ H, ¬ x.1 ∣ r := by
 intro x hx hd;rcases (h.mem x).1 hx with hx | hx
 ·obtain ⟨s, hs, _⟩ := h.peel.cut;exact hG x hx (zp hd ⟨s, hs⟩)
 ·obtain ⟨z, hz, rfl⟩ := zhp hx;obtain ⟨j, hj, e'⟩ := h.peel.mem_fst hz;exact h.peel.out j hj (by rw [<- e']; exact hd)

theorem Putting.fin {f r : Poly p} {P : List (Poly p)} {t : Nat} {G L H G' : List (Poly p × Nat)} (h : Putting f P t G P.length r L H) (hf : Mon f) {q c : Poly p} (hq : zag q P) (he : f = q * c) (hc : c ∣ der f) (hG' : PutOf r t H G') : PutOf f t G G' := by
 obtain ⟨_, h2⟩ := h.peel.fin hf hq he hc;refine ⟨hG'.srt, fun x => ?_⟩;rw [hG'.mem, h.mem]
 constructor
 ·rintro ((h3 | h3) | ⟨e, h3, h4⟩)
  ·exact .inl h3
  ·obtain ⟨z, hz, rfl⟩ := zhp h3;exact .inr ⟨z.2, (h2 _).2 (.inl hz), rfl⟩
  ·exact .inr ⟨e, (h2 _).2 (.inr h3), h4⟩
 ·rintro (h3 | ⟨e, h3, h4⟩)
  ·exact .inl (.inl h3)
  ·rcases (h2 _).1 h3 with h5 | h5
   ·refine .inl (.inr (List.mem_map.2 ⟨_, h5, Prod.ext rfl h4.symm⟩))
   ·exact .inr ⟨e, h5, h4⟩

theorem Peel.less {f r : Poly p} {P : List (Poly p)} {L : List (Poly p × Nat)} (h : Peel f P P.length r L) (hf : Mon f) {q c : Poly p} (hq : zag q P) (he : f = q * c) (hq2 : 2 <= dg q) : dg r < dg f := by
 obtain ⟨g, g1, g2, g3⟩ := vD _ q (Nat.le_refl _) hq2;obtain ⟨j, hj, e⟩ := List.getElem_of_mem ((hq.2 g).2 ⟨g1, g2, g3⟩);have hg : g = P.getD j 0 := by rw [xP hj, e]
 obtain ⟨s, hs, _⟩ := h.cut;have hr0 := h.mon.1;have hs0 : s ≠ 0 := fun e => hf.1 (by rw [hs, e]; exact zf [r] (by rfl));have h1 := yv hr0 hs0;rw [<- hs] at h1
 have hgs : g ∣ s := by
  have : g ∣ r * s := by rw [<- hs, he]; exact zp g3 ⟨c, rfl⟩
  rcases g1.prime this with h2 | h2
  ·exact absurd (hg ▸ h2) (h.out j hj)
  ·exact h2
 have h2 := zC hgs hs0;have h3 := g1.1;omega

theorem zgv {a : Poly p} {n : Nat} (h : 1 <= n) : a ∣ a ^ n := by
 obtain ⟨m, rfl⟩ : ∃ m, n = m + 1 := ⟨n - 1, by omega⟩
 exact ⟨a ^ m, by rw [zd]; exact vh _ _⟩

theorem zkt {g f : Poly p} (hg : Mon g) (he : g ^ p.toNat = f) (h2 : 2 <= dg f) : p.toNat < dg f := by
 have : 2 <= dg g := by
  refine Classical.byContradiction fun h => ?_
  have h1 : dg g = 1 := by
   have : dg g ≠ 0 := fun e => hg.1 (zc.1 e);omega
  have h3 : g = 1 := zhg hg zeT (zf6 h1 _) (zb8 g);rw [h3, zcb] at he;rw [<- he, yA] at h2;omega
 have := zbi this p.toNat;rw [he] at this;exact this

theorem zhq {f h : Poly p} (hf : f ≠ 0) (hF : yg f [(h, 1)]) : Irr f := by
 obtain ⟨h1, h2, _, u, hu, hn⟩ := (hF.2 (h, 1)).1 (by simp);have h1 : Irr h := h1;have h2 : Mon h := h2;have hu : f = h * u := by rw [hu, zd, zo]; exact zf [h, u] (by rfl)
 have hu0 : u ≠ 0 := fun e => hf (by rw [hu, e]; exact zf [h] (by rfl))
 have hd : dg u = 1 := by
  have h0 : dg u ≠ 0 := fun e => hu0 (zc.1 e);rcases Nat.lt_or_ge (dg u) 2 with h3 | h3
  ·omega
  ·obtain ⟨g, g1, g2, g3⟩ := vD _ u (Nat.le_refl _) h3;have hgf : g ∣ f := by rw [hu]; exact zP h g3
   obtain ⟨e, he⟩ := yM g1.1 _ f hf (Nat.le_refl _)
   have he1 : 1 <= e := by
    rcases Nat.eq_zero_or_pos e with h4 | h4
    ·subst h4; exact absurd hgf (zT.1 he)
    ·exact h4
   have hm := (hF.2 (g, e)).2 ⟨g1, g2, he1, he⟩;rw [List.mem_singleton] at hm;have : g = h := congrArg Prod.fst hm;rw [this] at g3;exact absurd g3 hn
 obtain ⟨v, hv⟩ := vC hd
 have hv0 : v ≠ 0 := fun e => by
  rw [e] at hv;exact zc0 (p := p) (by rw [<- hv]; exact zf [u] (by rfl))
 have hdv : dg v = 1 := by
  have := yv hu0 hv0;rw [hv, yA] at this;omega
 have hdf := yv h1.ne hu0;rw [<- hu] at hdf;refine ⟨by have := h1.1; omega, fun a b hab => ?_⟩
 have hh : h = a * (b * v) := by
  have : h = f * v := by
   have e : h * u * v = h * (u * v) := by exact zf [h, u, v] (by rfl)
   rw [hu, e, hv]; exact zf [h] (by rfl)
  rw [this, hab]; exact zf [a, b, v] (by rfl)
 rcases h1.2 _ _ hh with h3 | h3
 ·exact .inl h3
 ·have hb0 : b ≠ 0 := fun e => hf (by rw [hab, e]; exact zf [a] (by rfl));have := yv hb0 hv0;exact .inr (by omega)

theorem zhr {f : Poly p} (hf : Irr f) : yg f [(mnc f, 1)] := by
 obtain ⟨a1, a2⟩ := zL f;obtain ⟨b1, b2⟩ := vS hf;have hm : zE (mnc f) 1 f := jH a1 a2 b2.1 b1 1 (zgj b1);refine ⟨List.pairwise_singleton _ _, fun x => ?_⟩;rw [List.mem_singleton]
 constructor
 ·rintro rfl;exact ⟨b1, b2, Nat.le_refl _, hm⟩
 ·rintro ⟨c1, c2, c3, c4⟩;have h1 : x.1 = mnc f := jD c1 b1 c2 b2 (zp (c4.dvd c3) a2)
  have h2 : x.2 = 1 := by
   rw [h1] at c4;exact c4.unique b1.ne hm
  exact Prod.ext h1 h2

theorem zhs {G : List (Poly p × Nat)} (f : Poly p) : ∃ k, k <= G.length ∧ (∀ j, j < k -> ltP (G.getD j (0, 0)).1 f) ∧ (k = G.length ∨ ¬ ltP (G.getD k (0, 0)).1 f) := by
 have go : ∀ n, n <= G.length -> (∀ j, j < n -> ltP (G.getD j (0, 0)).1 f) ∨ ∃ k, k <= G.length ∧ (∀ j, j < k -> ltP (G.getD j (0, 0)).1 f) ∧ (k = G.length ∨ ¬ ltP (G.getD k (0, 0)).1 f) := by
  intro n
  induction n with
  | zero => intro _; exact .inl fun j hj => by omega
  | succ n ih =>
   intro hn;rcases ih (by omega) with h | h
   ·by_cases hl : ltP (G.getD n (0, 0)).1 f
    ·exact .inl fun j hj => by
      by_cases hj2 : j = n
      ·subst hj2; exact hl
      ·exact h j (by omega)
    ·exact .inr ⟨n, by omega, h, .inr hl⟩
   ·exact .inr h
 rcases go G.length (Nat.le_refl _) with h | h
 ·exact ⟨G.length, Nat.le_refl _, h, .inl rfl⟩
 ·exact h

theorem zbN : ∀ (n : Nat) (f : Poly p), dg f <= n -> f ≠ 0 -> ∃ F, yg f F
 | 0, f, hd, hf => absurd (zc.1 (by omega)) hf
 | n + 1, f, hd, hf => by
  by_cases h1 : dg f = 1
  ·exact ⟨[], List.Pairwise.nil, fun x => ⟨fun hx => by simp at hx, fun hx => (zai h1 _ hx).elim⟩⟩
  have h2 : dg f ≠ 0 := fun e => hf (zc.1 e);obtain ⟨h, hi, hm, hdv⟩ := vD _ f (Nat.le_refl _) (by omega);obtain ⟨e, he⟩ := yM hi.1 _ f hf (Nat.le_refl _)
  have he1 : 1 <= e := by
   rcases Nat.eq_zero_or_pos e with h0 | h0
   ·subst h0; exact absurd hdv (zT.1 he)
   ·exact h0
  obtain ⟨u, hu1, hu2⟩ := id he;have hu0 : u ≠ 0 := fun e0 => hf (by rw [hu1, e0]; exact zf [h ^ e] (by rfl));have hp0 : h ^ e ≠ 0 := fun e0 => hf (by rw [hu1, e0]; exact zf [u] (by rfl));have hdg := yv hp0 hu0;rw [<- hu1] at hdg;have hpd := zbi hi.1 e;obtain ⟨F, hF⟩ := zbN n u (by omega) hu0;obtain ⟨k, hk, hk1, hk2⟩ := zhs (G := F) h;have hnot : ∀ g : Poly p, Irr g -> Mon g -> g ≠ h -> ¬ g ∣ h ^ e := fun g gi gm hne hd => hne (jD gi hi gm hm (gi.pow hd));refine ⟨zJ F k (h, e), Srt.put hF.1 hk hk1 hk2 (fun y hy e0 => ?_), fun x => ?_⟩
  ·obtain ⟨_, _, a3, a4⟩ := (hF.2 y).1 hy;have e0 : y.1 = h := e0;exact hu2 (by rw [<- e0]; exact a4.dvd a3)
  ·rw [zbo, hF.2]
   constructor
   ·rintro (rfl | ⟨a1, a2, a3, a4⟩)
    ·exact ⟨hi, hm, he1, he⟩
    ·refine ⟨a1, a2, a3, ?_⟩;have hne : x.1 ≠ h := fun e0 => hu2 (by rw [<- e0]; exact a4.dvd a3);have := zE.mul a1 (zT.2 (hnot _ a1 a2 hne)) a4;rw [Nat.zero_add, <- hu1] at this;exact this
   ·rintro ⟨a1, a2, a3, a4⟩
    by_cases hx : x.1 = h
    ·left
     have : x.2 = e := zE.unique hi.ne (by rw [<- hx]; exact a4) he;exact Prod.ext hx this
    ·right
     obtain ⟨e', he'⟩ := yM a1.1 _ u hu0 (Nat.le_refl _);have h5 := zE.mul a1 (zT.2 (hnot _ a1 a2 hx)) he';rw [Nat.zero_add, <- hu1] at h5;rw [zE.unique a1.ne h5 a4] at he';exact ⟨a1, a2, a3, he'⟩
theorem zht {f : Poly p} (hf : f ≠ 0) : ∃ F, yg f F := zbN _ f (Nat.le_refl _) hf

end Poly
namespace Poly

def num (p : Nat) : List Int -> Nat
 | [] => 0
 | c :: l => c.toNat + p * num p l

def Digs (p : Nat) (l : List Int) : Prop := ∀ x ∈ l, 0 <= x ∧ x < p
theorem zku {p : Nat} (hp : 2 <= p) : ∀ {l : List Int}, Digs p l -> num p l < p ^ l.length
 | [], _ => by simp [num]
 | c :: l, hd => by
  have h1 := zku hp (l := l) fun x hx => hd x (by simp [hx]);have hc := hd c (by simp)
  have h2 : p * num p l + p <= p * p ^ l.length := by
   have := Nat.mul_le_mul_left p h1;rw [Nat.mul_succ] at this; exact this
  simp only [num, List.length_cons, Nat.pow_succ, Nat.mul_comm (p ^ l.length) p]
  omega
theorem zdm {p : Nat} : ∀ (l m : List Int), num p (l ++ m) = num p l + p ^ l.length * num p m
 | [], m => by simp [num]
 | c :: l, m => by
  simp only [List.cons_append, num, zdm l m, List.length_cons, Nat.pow_succ]
  rw [Nat.mul_add, <- Nat.mul_assoc, Nat.mul_comm (p ^ l.length) p, Nat.add_assoc]

theorem zi3 {p : Nat} (l : List Int) (i : Nat) (h : i <= l.length) : num p l = num p (l.take i) + p ^ i * num p (l.drop i) := by
 have := zdm (p := p) (l.take i) (l.drop i)
 rwa [List.take_append_drop, List.length_take, Nat.min_eq_left h] at this
theorem zkv {p : Nat} {l : List Int} {i : Nat} (h : i < l.length) : num p (l.drop i) = (cf l i).toNat + p * num p (l.drop (i + 1)) := by
 rw [List.drop_eq_getElem_cons h, num, vB h]
structure Top (p d : Nat) (l : List Int) : Prop where
 len : l.length = d + 1
 one : cf l d = 1
 digs : Digs p l
theorem Top.last {p d : Nat} {l : List Int} (h : Top p d l) : kh l := fun n hn => by
 have := h.len;obtain rfl : n = d := by omega
 rw [h.one]; omega
theorem Top.num_eq {p d : Nat} {l : List Int} (h : Top p d l) : num p l = num p (l.take d) + p ^ d := by
 have h1 := h.len;rw [zi3 l d (by omega), zkv (by omega), h.one, List.drop_of_length_le (by omega)];simp [num]
theorem Top.take_lt {p d : Nat} (hp : 2 <= p) {l : List Int} (h : Top p d l) : num p (l.take d) < p ^ d := by
 have h1 := zku hp (l := l.take d) fun x hx => h.digs x (List.mem_of_mem_take hx);rw [List.length_take, h.len, Nat.min_eq_left (by omega)] at h1;exact h1
theorem Top.range {p d : Nat} (hp : 2 <= p) {l : List Int} (h : Top p d l) : p ^ d <= num p l ∧ num p l < 2 * p ^ d := by
 have h2 := h.num_eq;have h3 := h.take_lt hp;omega
end Poly
namespace Poly
variable {p : Int} [SP p]

def One (f x : Poly p) (e : Nat) : Prop := f ∣ x ^ e - 1
/- powers that are 1 -/
end Poly
namespace Poly
variable {p : Int} [SP p]

def PrN (l : Nat) : Prop := 2 <= l ∧ ∀ d, d ∣ l -> d = 1 ∨ d = l
def zml (f x : Poly p) (e : Nat) : Prop := 0 < e ∧ One f x e ∧ ∀ d, One f x d -> e ∣ d
def zkw : List (Nat × Nat) -> Nat
 | [] => 1
 | x :: l => x.1 ^ x.2 * zkw l
structure FacN (n : Nat) (L : List (Nat × Nat)) : Prop where
 prod : zkw L = n
 pr : ∀ x ∈ L, PrN x.1 ∧ 1 <= x.2
 one : L.Pairwise fun x y => x.1 ≠ y.1
end Poly
namespace Poly

structure FacS (n : Nat) (L : List (Nat × Nat)) : Prop where
 prod : zkw L = n
 pr : ∀ x ∈ L, PrN x.1 ∧ 1 <= x.2
 sort : L.Pairwise fun x y => x.1 < y.1
/- a search for factors that goes up -/
/- orders, by steps down -/
structure OrdI {p : Int} [SP p] (f x : Poly p) (n : Nat) (L : List (Nat × Nat)) (i e : Nat) : Prop where
 pos : 0 < e
 dvd : e ∣ n
 one : One f x e
 todo : ∀ y ∈ L.drop i, y.1 ^ y.2 ∣ e
 done : ∀ y ∈ L.take i, y.1 ∣ e -> ¬ One f x (e / y.1)
structure OrdJ {p : Int} [SP p] (f x : Poly p) (n : Nat) (L : List (Nat × Nat)) (i : Nat) (l k j e : Nat) : Prop where
 pos : 0 < e
 dvd : e ∣ n
 one : One f x e
 todo : ∀ y ∈ L.drop (i + 1), y.1 ^ y.2 ∣ e
 done : ∀ y ∈ L.take i, y.1 ∣ e -> ¬ One f x (e / y.1)
 at_ : (∃ m, e = l ^ (k - j) * m ∧ ¬ l ∣ m ∧ j <= k) ∨ ¬ One f x (e / l)
end Poly
namespace Poly

end Poly
namespace Poly
variable {p : Int} [SP p]

structure CofI (f h a b u v : Poly p) : Prop where
 a0 : a ≠ 0
 lt : dg b < dg a
 cop : Cop a b
 ua : f ∣ u * h - a
 vb : f ∣ v * h - b
 dv : dg v + dg a <= dg f + 1
 du : dg u + dg a <= dg f
end Poly
namespace Poly
variable {p : Int} [SP p]

noncomputable def frN (f X : Poly p) : Nat -> Poly p
 | 0 => X
 | k + 1 => rem (frN f X k ^ p.toNat) f
structure Per (f X : Poly p) (m : Nat) : Prop where
 pos : 0 < m
 back : frN f X m = X
 first : ∀ k, 0 < k -> k < m -> frN f X k ≠ X
end Poly
namespace Poly
variable {p : Int} [SP p]

def z8 (F : List (Poly p × Nat)) : Nat -> Poly p
 | 0 => 1
 | k + 1 => z8 F k * (F.getD k (0, 0)).1 ^ (F.getD k (0, 0)).2

theorem yg.at {f : Poly p} {F : List (Poly p × Nat)} (h : yg f F) {j : Nat} (hj : j < F.length) : kr f (F.getD j (0, 0)) := by
 refine (h.2 _).1 ?_;rw [xP hj]; exact List.getElem_mem hj
theorem yg.ne_at {f : Poly p} {F : List (Poly p × Nat)} (h : yg f F) {i j : Nat} (hij : i < j) (hj : j < F.length) : (F.getD i (0, 0)).1 ≠ (F.getD j (0, 0)).1 := by
 have := List.pairwise_iff_getElem.1 h.1 i j (by omega) hj hij;rw [xP (show i < F.length by omega), xP hj];intro e;rw [e] at this;exact zaf _ this
theorem yg.cop_at {f : Poly p} {F : List (Poly p × Nat)} (h : yg f F) {i j : Nat} (hij : i < j) (hj : j < F.length) : Cop (F.getD i (0, 0)).1 (F.getD j (0, 0)).1 :=
 (h.at (by omega)).1.cop fun hd => h.ne_at hij hj (jD (h.at (by omega)).1 (h.at hj).1 (h.at (by omega)).2.1 (h.at hj).2.1 hd)

theorem zgw {f : Poly p} {F : List (Poly p × Nat)} (h : yg f F) : ∀ k j, k <= j -> j < F.length -> Cop (z8 F k) (F.getD j (0, 0)).1
 | 0, _, _, _ => zeV _
 | k + 1, j, hk, hj => (zgw h k j (by omega) hj).mul ((h.cop_at (by omega) hj).pow _)
theorem zaQ {f : Poly p} {F : List (Poly p × Nat)} (h : yg f F) : ∀ k, k <= F.length -> z8 F k ∣ f
 | 0, _ => zf6 yA f
 | k + 1, hk => by
  refine Cop.mul_dvd ((zgw h k k (Nat.le_refl _) (by omega)).symm.pow _).symm (zaQ h k (by omega)) ?_;obtain ⟨u, hu, _⟩ := (h.at (j := k) (by omega)).2.2.2;exact ⟨u, hu⟩
theorem zdn {F : List (Poly p × Nat)} : ∀ {k j}, j < k -> (F.getD j (0, 0)).1 ^ (F.getD j (0, 0)).2 ∣ z8 F k
 | 0, _, h => absurd h (by omega)
 | k + 1, j, h => by
  by_cases hj : j = k
  ·subst hj; exact zP _ (dvd_refl _)
  ·exact xO _ (zdn (by omega))
theorem zgx {f : Poly p} {F : List (Poly p × Nat)} (h : yg f F) : ∀ k, k <= F.length -> Mon (z8 F k)
 | 0, _ => zeT
 | k + 1, hk => (zgx h k (by omega)).mul (zib (h.at (by omega)).2.1 _)
theorem zhu {g : Poly p} (h : g ≠ 0) : ∀ n : Nat, g ^ n ≠ 0
 | 0 => zc0
 | n + 1 => mul_ne (zhu h n) h

theorem zkx {f : Poly p} {F : List (Poly p × Nat)} (h : yg f F) (hf : f ≠ 0) : f = con p (lc f) * z8 F F.length := by
 obtain ⟨r, hr⟩ := zaQ h F.length (Nat.le_refl _);have hm := zgx h F.length (Nat.le_refl _);have hr0 : r ≠ 0 := fun e => hf (by rw [hr, e]; exact zf [z8 F F.length] (by rfl))
 have hr1 : dg r <= 1 := by
  refine Nat.le_of_not_lt fun h2 => ?_;obtain ⟨g, hg, hgm, hgr⟩ := vD _ r (Nat.le_refl _) h2;have hgf : g ∣ f := by rw [hr]; exact zP _ hgr
  obtain ⟨e, he⟩ := yM hg.1 _ f hf (Nat.le_refl _)
  have he1 : 1 <= e := by
   rcases Nat.eq_zero_or_pos e with h0 | h0
   ·subst h0; exact absurd hgf (zT.1 he)
   ·exact h0
  obtain ⟨j, hj, hjF⟩ := List.mem_iff_getElem.1 ((h.2 (g, e)).2 ⟨hg, hgm, he1, he⟩);have hd := zdn (F := F) hj;rw [xP hj, hjF] at hd;obtain ⟨w, hw⟩ := hd;obtain ⟨u, hu, hun⟩ := he;have hw : z8 F F.length = g ^ e * w := hw;refine hun ?_
  have : g ^ e * u = g ^ e * (w * r) := by
   rw [<- hu, hr, hw]; exact zf [g ^ e, w, r] (by rfl)
  rw [zac (zhu hg.ne e) this];exact zP _ hgr
 have hc := zeS hr1
 have hl : lc f = lc r := by
  have h1 := zc4 hm.1 hr0;rw [<- hr, hm.2] at h1;have h2 := jS r (dg r - 1);rw [h1, Int.one_mul];exact Int.emod_eq_of_lt h2.1 h2.2
 have hd1 : dg r = 1 := by
  have : dg r ≠ 0 := fun e => hr0 (zc.1 e);omega
 have hlr : lc r = cf r.l 0 := by unfold lc; rw [hd1]
 rw [hl, hlr, <- hc];rw [hr];exact zf [z8 F F.length, r] (by rfl)

theorem zie {g : Poly p} (h : g ≠ 0) : ∀ n : Nat, dg (g ^ n) = n * (dg g - 1) + 1
 | 0 => by rw [zo, yA]; omega
 | n + 1 => by
  have h1 := zie h n;have h2 := yv (zhu h n) h;have h3 : dg g ≠ 0 := fun e => h (zc.1 e);rw [zd, Nat.succ_mul];omega

end Poly
end Go.Proofs.YtlmckocbhcpmdaaGreat
