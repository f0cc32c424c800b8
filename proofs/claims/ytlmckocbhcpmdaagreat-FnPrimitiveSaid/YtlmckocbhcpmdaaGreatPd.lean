/- Plain mathematics of polynomials by a prime. No conditions. -/
import Derived.Test.YtlmckocbhcpmdaaGreatPc
namespace Go.Proofs.YtlmckocbhcpmdaaGreat

class CR (α : Type) [Add α] [Mul α] [Neg α] [Sub α] [OfNat α 0] [OfNat α 1] : Prop where
 add_comm : ∀ a b : α, a + b = b + a
 add_assoc : ∀ a b c : α, a + b + c = a + (b + c)
 add_zero : ∀ a : α, a + 0 = a
 add_neg : ∀ a : α, a + -a = 0
 sub_def : ∀ a b : α, a - b = a + -b
 mul_comm : ∀ a b : α, a * b = b * a
 mul_assoc : ∀ a b c : α, a * b * c = a * (b * c)
 one_mul : ∀ a : α, 1 * a = a
 add_mul : ∀ a b c : α, (a + b) * c = a * c + b * c

inductive RE where
 | at (n : Nat)
 | zero
 | one
 | add (a b : RE)
 | sub (a b : RE)
 | mul (a b : RE)
 | neg (a : RE)

abbrev RM := List (Bool × List Nat)

def znH (a : Nat) : List Nat -> List Nat
 | [] => [a]
 | b :: l => bif Nat.ble a b then a :: b :: l else b :: znH a l
def zk5 : List Nat -> List Nat -> List Nat
 | [], m => m
 | a :: l, m => znH a (zk5 l m)
def zei : RM -> RM
 | [] => []
 | (s, m) :: r => (!s, m) :: zei r
def zmd (s : Bool) (m : List Nat) : RM -> RM
 | [] => []
 | (t, k) :: r => (s == t, zk5 m k) :: zmd s m r
def zme : RM -> RM -> RM
 | [], _ => []
 | (s, m) :: r, k => zmd s m k ++ zme r k
def RE.ex : RE -> RM
 | .at n => [(true, [n])]
 | .zero => []
 | .one => [(true, [])]
 | .add a b => a.ex ++ b.ex
 | .sub a b => a.ex ++ zei b.ex
 | .mul a b => zme a.ex b.ex
 | .neg a => zei a.ex
def zjd (s : Bool) (m : List Nat) : RM -> Option RM
 | [] => none
 | (t, k) :: r => bif t == s && k == m then some r else match zjd s m r with
  | some r' => some ((t, k) :: r')
  | none => none
def zhV : Nat -> RM -> Bool
 | _, [] => true
 | 0, _ => false
 | n + 1, (s, m) :: r => match zjd (!s) m r with
  | some r' => zhV n r'
  | none => false
def RE.chk (a b : RE) : Bool := zhV 1000 (a.ex ++ zei b.ex)

section
variable {α : Type} [Add α] [Mul α] [Neg α] [Sub α] [OfNat α 0] [OfNat α 1]

def atM (ctx : List α) (n : Nat) : α := match ctx, n with
 | [], _ => 0
 | a :: _, 0 => a
 | _ :: r, n + 1 => atM r n
def RE.ev (ctx : List α) : RE -> α
 | .at n => atM ctx n
 | .zero => 0
 | .one => 1
 | .add a b => a.ev ctx + b.ev ctx
 | .sub a b => a.ev ctx - b.ev ctx
 | .mul a b => a.ev ctx * b.ev ctx
 | .neg a => -a.ev ctx
def evN (ctx : List α) : List Nat -> α
 | [] => 1
 | a :: l => atM ctx a * evN ctx l
def ev1 (ctx : List α) (s : Bool) (m : List Nat) : α := bif s then evN ctx m else -evN ctx m
def evM (ctx : List α) : RM -> α
 | [] => 0
 | (s, m) :: r => ev1 ctx s m + evM ctx r

variable [CR α]
namespace CR
theorem zero_add (a : α) : 0 + a = a := by rw [CR.add_comm, CR.add_zero]
theorem left_cancel {a b c : α} (h : a + b = a + c) : b = c := by
 have h1 : -a + (a + b) = -a + (a + c) := by rw [h]
 rw [<- CR.add_assoc, <- CR.add_assoc, CR.add_comm (-a) a, CR.add_neg, zero_add, zero_add] at h1;exact h1
theorem left_comm (a b c : α) : a + (b + c) = b + (a + c) := by rw [<- CR.add_assoc, CR.add_comm a b, CR.add_assoc]
theorem mul_left_comm (a b c : α) : a * (b * c) = b * (a * c) := by rw [<- CR.mul_assoc, CR.mul_comm a b, CR.mul_assoc]
theorem zero_mul (a : α) : 0 * a = 0 := by
 have h : 0 * a + 0 * a = 0 * a + 0 := by rw [<- CR.add_mul, CR.add_zero, CR.add_zero]
 exact left_cancel h
theorem jh {a b : α} (h : a + b = 0) : b = -a := left_cancel (by rw [h, CR.add_neg])
theorem neg_zero : -(0 : α) = 0 := (jh (CR.add_zero 0)).symm
theorem neg_neg (a : α) : -(-a) = a := (jh (by rw [CR.add_comm, CR.add_neg])).symm
theorem neg_add (a b : α) : -(a + b) = -a + -b := (jh (by
 rw [CR.add_assoc, left_comm b, <- CR.add_assoc, CR.add_neg, CR.add_neg, CR.add_zero])).symm
theorem neg_mul (a b : α) : -a * b = -(a * b) := jh (by rw [<- CR.add_mul, CR.add_neg, zero_mul])
theorem mul_zero (a : α) : a * 0 = 0 := by rw [CR.mul_comm, zero_mul]
theorem mul_neg (a b : α) : a * -b = -(a * b) := by rw [CR.mul_comm, neg_mul, CR.mul_comm]
theorem mul_add (a b c : α) : a * (b + c) = a * b + a * c := by rw [CR.mul_comm, CR.add_mul, CR.mul_comm b, CR.mul_comm c]
theorem mul_one (a : α) : a * 1 = a := by rw [CR.mul_comm, CR.one_mul]
theorem sub_self (a : α) : a - a = 0 := by rw [CR.sub_def, CR.add_neg]
theorem eq_of_sub {a b : α} (h : a - b = 0) : a = b := by
 rw [CR.sub_def] at h;have := jh (a := -b) (b := a) (by rw [CR.add_comm, h]);rw [this, neg_neg]
end CR

theorem zj7 (ctx : List α) (a : Nat) : ∀ l, evN ctx (znH a l) = atM ctx a * evN ctx l
 | [] => rfl
 | b :: l => by
  unfold znH;cases Nat.ble a b
  ·simp only [cond_false, evN, zj7 ctx a l, CR.mul_left_comm]
  ·rfl
theorem zj8 (ctx : List α) : ∀ l m, evN ctx (zk5 l m) = evN ctx l * evN ctx m
 | [], m => by simp only [zk5, evN, CR.one_mul]
 | a :: l, m => by simp only [zk5, evN, zj7, zj8 ctx l m, CR.mul_assoc]
theorem zbE (ctx : List α) : ∀ a b, evM ctx (a ++ b) = evM ctx a + evM ctx b
 | [], b => by simp only [List.nil_append, evM, CR.zero_add]
 | (s, m) :: a, b => by simp only [List.cons_append, evM, zbE ctx a b, CR.add_assoc]
theorem zj9 (ctx : List α) (s : Bool) (m : List Nat) : ev1 ctx (!s) m = -ev1 ctx s m := by
 cases s <;> simp [ev1, CR.neg_neg]
theorem zbF (ctx : List α) : ∀ a, evM ctx (zei a) = -evM ctx a
 | [] => by simp only [zei, evM, CR.neg_zero]
 | (s, m) :: a => by simp only [zei, evM, zbF ctx a, zj9, CR.neg_add]
theorem znI (ctx : List α) (s t : Bool) (m k : List Nat) : ev1 ctx (s == t) (zk5 m k) = ev1 ctx s m * ev1 ctx t k := by
 cases s <;> cases t <;> simp [ev1, zj8, CR.neg_mul, CR.mul_neg, CR.neg_neg]
theorem zhW (ctx : List α) (s : Bool) (m : List Nat) : ∀ b, evM ctx (zmd s m b) = ev1 ctx s m * evM ctx b
 | [] => by simp only [zmd, evM, CR.mul_zero]
 | (t, k) :: b => by simp only [zmd, evM, zhW ctx s m b, znI, CR.mul_add]
theorem zka (ctx : List α) : ∀ a b, evM ctx (zme a b) = evM ctx a * evM ctx b
 | [], b => by simp only [zme, evM, CR.zero_mul]
 | (s, m) :: a, b => by simp only [zme, evM, zbE, zhW, zka ctx a b, CR.add_mul]
theorem zbG (ctx : List α) : ∀ e : RE, evM ctx e.ex = e.ev ctx
 | .at n => by simp only [RE.ex, evM, ev1, cond_true, evN, RE.ev, CR.mul_one, CR.add_zero]
 | .zero => rfl
 | .one => by simp only [RE.ex, evM, ev1, cond_true, evN, RE.ev, CR.add_zero]
 | .add a b => by simp only [RE.ex, RE.ev, zbE, zbG ctx a, zbG ctx b]
 | .sub a b => by simp only [RE.ex, RE.ev, zbE, zbF, zbG ctx a, zbG ctx b, CR.sub_def]
 | .mul a b => by simp only [RE.ex, RE.ev, zka, zbG ctx a, zbG ctx b]
 | .neg a => by simp only [RE.ex, RE.ev, zbF, zbG ctx a]
theorem zkb (ctx : List α) (s : Bool) (m : List Nat) : ∀ (r r' : RM), zjd s m r = some r' -> evM ctx r = ev1 ctx s m + evM ctx r'
 | [], _, h => by simp [zjd] at h
 | (t, k) :: r, r', h => by
  unfold zjd at h;cases hc : (t == s && k == m)
  ·rw [hc] at h;simp only [cond_false] at h
   cases hr : zjd s m r with
   | none => rw [hr] at h; simp at h
   | some r2 =>
    rw [hr] at h;simp only [Option.some.injEq] at h
    subst h;simp only [evM, zkb ctx s m r r2 hr, CR.left_comm]
  ·rw [hc] at h;simp only [cond_true, Option.some.injEq] at h
   subst h;simp only [Bool.and_eq_true, beq_iff_eq] at hc
   obtain ⟨rfl, rfl⟩ := hc
   rfl
theorem zej (ctx : List α) : ∀ n (r : RM), zhV n r = true -> evM ctx r = 0
 | _, [], _ => rfl
 | 0, _ :: _, h => by simp [zhV] at h
 | n + 1, (s, m) :: r, h => by
  unfold zhV at h;cases hr : zjd (!s) m r with
  | none => rw [hr] at h; simp at h
  | some r' =>
   rw [hr] at h;simp only [evM, zkb ctx (!s) m r r' hr, zj9, zej ctx n r' h]
   rw [CR.add_zero, CR.add_neg]

class Rf (ctx : List α) (x : α) (e : outParam RE) : Prop where
 eq : e.ev ctx = x

omit [CR α]
instance (priority := high) rfAdd (ctx : List α) (x y : α) (a b : RE) [h : Rf ctx x a] [k : Rf ctx y b] : Rf ctx (x + y) (.add a b) := ⟨by rw [RE.ev, h.eq, k.eq]⟩
instance (priority := high) rfSub (ctx : List α) (x y : α) (a b : RE) [h : Rf ctx x a] [k : Rf ctx y b] : Rf ctx (x - y) (.sub a b) := ⟨by rw [RE.ev, h.eq, k.eq]⟩
instance (priority := high) rfMul (ctx : List α) (x y : α) (a b : RE) [h : Rf ctx x a] [k : Rf ctx y b] : Rf ctx (x * y) (.mul a b) := ⟨by rw [RE.ev, h.eq, k.eq]⟩
instance (priority := high) rfNeg (ctx : List α) (x : α) (a : RE) [h : Rf ctx x a] : Rf ctx (-x) (.neg a) := ⟨by rw [RE.ev, h.eq]⟩
instance (priority := high) rfZero (ctx : List α) : Rf ctx (0 : α) .zero := ⟨rfl⟩
instance (priority := high) rfOne (ctx : List α) : Rf ctx (1 : α) .one := ⟨rfl⟩
instance (priority := low) rfAt0 (x : α) (l : List α) : Rf (x :: l) x (.at 0) := ⟨rfl⟩
instance (priority := low) rfAt1 (x a : α) (l : List α) : Rf (a :: x :: l) x (.at 1) := ⟨rfl⟩
instance (priority := low) rfAt2 (x a b : α) (l : List α) : Rf (a :: b :: x :: l) x (.at 2) := ⟨rfl⟩
instance (priority := low) rfAt3 (x a b c : α) (l : List α) : Rf (a :: b :: c :: x :: l) x (.at 3) := ⟨rfl⟩
instance (priority := low) rfAt4 (x a b c d : α) (l : List α) : Rf (a :: b :: c :: d :: x :: l) x (.at 4) := ⟨rfl⟩
instance (priority := low) rfAt5 (x a b c d e : α) (l : List α) : Rf (a :: b :: c :: d :: e :: x :: l) x (.at 5) := ⟨rfl⟩
instance (priority := low) rfAt6 (x a b c d e f : α) (l : List α) : Rf (a :: b :: c :: d :: e :: f :: x :: l) x (.at 6) := ⟨rfl⟩
instance (priority := low) rfAt7 (x a b c d e f g : α) (l : List α) : Rf (a :: b :: c :: d :: e :: f :: g :: x :: l) x (.at 7) := ⟨rfl⟩
instance (priority := low) rfAt8 (x a b c d e f g h : α) (l : List α) : Rf (a :: b :: c :: d :: e :: f :: g :: h :: x :: l) x (.at 8) := ⟨rfl⟩

theorem zh [CR α] (ctx : List α) {x y : α} {a b : RE} [h : Rf ctx x a] [k : Rf ctx y b] (hc : RE.chk a b = true) : x = y := by
 have h1 := zej ctx _ _ hc;rw [zbE, zbF, zbG, zbG, h.eq, k.eq, <- CR.sub_def] at h1;exact CR.eq_of_sub h1

theorem comb [CR α] (c : α) {a b x y : α} (h : a = b) (e : x - c * a = y - c * b) : x = y := by
 subst h;rw [CR.sub_def, CR.sub_def, CR.add_comm, CR.add_comm y] at e;exact CR.left_cancel e
end

example {α : Type} [Add α] [Mul α] [Neg α] [Sub α] [OfNat α 0] [OfNat α 1] [CR α] (a b c : α) : (a + b) * (a - b) + c * (1 + 1) = a * a - b * b + c + c := zh [a, b, c] (by rfl)
example {α : Type} [Add α] [Mul α] [Neg α] [Sub α] [OfNat α 0] [OfNat α 1] [CR α] (a b c d : α) (h : a = b * c) : a * d + 0 = c * (b * d) := comb d h (zh [a, b, c, d] (by rfl))

def cf (l : List Int) (i : Nat) : Int := l.getD i 0

theorem yW (i : Nat) : cf [] i = 0 := by simp [cf]
theorem yb (a : Int) (l : List Int) : cf (a :: l) 0 = a := rfl
theorem zv (a : Int) (l : List Int) (i : Nat) : cf (a :: l) (i + 1) = cf l i := by simp [cf]
theorem ya {l : List Int} {i : Nat} (h : l.length <= i) : cf l i = 0 := by
 simp [cf, List.getD_eq_getElem?_getD, List.getElem?_eq_none h]
theorem yF {l : List Int} {i : Nat} (h : i < l.length) : cf l i = l[i] := by
 simp [cf, List.getD_eq_getElem?_getD, List.getElem?_eq_getElem h]

def zE : List Int -> List Int
 | [] => []
 | a :: l => match zE l with
  | [] => if a = 0 then [] else [a]
  | b :: r => a :: b :: r

theorem vq (l : List Int) (i : Nat) : cf (zE l) i = cf l i := by
 induction l generalizing i with
 | nil => rfl
 | cons a l ih =>
  unfold zE
  split
  ·rename_i h
   have h0 : ∀ i, cf l i = 0 := fun i => by rw [<- ih, h, yW]
   split
   ·rename_i ha
    cases i with
    | zero => rw [yW, yb, ha]
    | succ i => rw [yW, zv, h0]
   ·cases i with
    | zero => rfl
    | succ i => rw [zv, zv, yW, h0]
  ·rename_i b r h
   cases i with
   | zero => rfl
   | succ i => rw [zv, zv, <- ih, h]

theorem zk6 {l : List Int} {x : Int} (h : x ∈ zE l) : x ∈ l := by
 induction l with
 | nil => exact h
 | cons a l ih =>
  unfold zE at h
  split at h
  ·split at h
   ·cases h
   ·simp at h; simp [h]
  ·rename_i b r hb
   rcases List.mem_cons.1 h with h | h
   ·simp [h]
   ·exact List.mem_cons_of_mem _ (ih (hb ▸ h))

theorem vS (l : List Int) : (zE l).length <= l.length := by
 induction l with
 | nil => simp [zE]
 | cons a l ih =>
  unfold zE
  split
  ·split <;> simp
  ·rename_i b r hb
   rw [hb] at ih; simpa using ih

def vL (l : List Int) : Prop := ∀ n, l.length = n + 1 -> cf l n ≠ 0

theorem va (l : List Int) : vL (zE l) := by
 induction l with
 | nil => intro n h; simp [zE] at h
 | cons a l ih =>
  intro n;unfold zE
  split
  ·split
   ·intro h; simp at h
   ·rename_i ha
    intro h;have : n = 0 := by simpa using h.symm
    subst this; exact ha
  ·rename_i b r hb
   intro h;have hn : n = r.length + 1 := by simpa using h.symm
   subst hn;rw [zv];rw [hb] at ih;exact ih r.length (by simp)

theorem yX {l l' : List Int} (h : vL l) (h' : vL l') (he : ∀ i, cf l i = cf l' i) : l = l' := by
 have hlen : ∀ {l l' : List Int}, vL l -> vL l' -> (∀ i, cf l i = cf l' i) -> l.length <= l'.length := by
  intro l l' h h' he;rcases Nat.lt_or_ge l'.length l.length with hlt | hge
  ·exfalso
   have h1 := h (l.length - 1) (by omega);rw [he, ya (by omega)] at h1;exact h1 rfl
  ·exact hge
 have hl : l.length = l'.length := Nat.le_antisymm (hlen h h' he) (hlen h' h fun i => (he i).symm);refine List.ext_getElem hl fun i h1 h2 => ?_;rw [<- yF h1, <- yF h2, he]

def cv (f g : Nat -> Int) : Nat -> Int
 | 0 => f 0 * g 0
 | k + 1 => f 0 * g (k + 1) + cv (fun i => f (i + 1)) g k

theorem zmf (f g : Nat -> Int) (k : Nat) : cv f g (k + 1) = f (k + 1) * g 0 + cv f (fun i => g (i + 1)) k := by
 induction k generalizing f with
 | zero => simp only [cv]; omega
 | succ k ih =>
  rw [cv, ih, cv]; omega

theorem zaM (f g : Nat -> Int) (k : Nat) : cv f g k = cv g f k := by
 induction k generalizing f g with
 | zero => simp only [cv]; exact Int.mul_comm _ _
 | succ k ih => rw [zmf, cv, ih, Int.mul_comm]

theorem zgz (f f' g : Nat -> Int) (k : Nat) : cv (fun i => f i + f' i) g k = cv f g k + cv f' g k := by
 induction k generalizing f f' with
 | zero => simp only [cv]; exact Int.add_mul _ _ _
 | succ k ih => simp only [cv, ih, Int.add_mul]; omega

theorem zkc (a : Int) (f g : Nat -> Int) (k : Nat) : cv (fun i => a * f i) g k = a * cv f g k := by
 induction k generalizing f with
 | zero => simp only [cv]; exact Int.mul_assoc _ _ _
 | succ k ih => simp only [cv, ih, Int.mul_add, Int.mul_assoc]

theorem zmg (f g h : Nat -> Int) (k : Nat) : cv (cv f g) h k = cv f (cv g h) k := by
 induction k generalizing f with
 | zero => simp only [cv]; exact Int.mul_assoc _ _ _
 | succ k ih =>
  have e : (fun i => cv f g (i + 1)) = fun i => f 0 * g (i + 1) + cv (fun i => f (i + 1)) g i := rfl;rw [cv, e, zgz, zkc, ih];simp only [cv]
  rw [Int.mul_add, Int.mul_assoc]; omega

theorem yq {f g : Nat -> Int} {k : Nat} (hf : ∀ i, i <= k -> f i = 0) : cv f g k = 0 := by
 induction k generalizing f with
 | zero => simp [cv, hf 0 (Nat.le_refl _)]
 | succ k ih => simp only [cv, hf 0 (Nat.zero_le _), ih (f := fun i => f (i + 1)) (fun i hi => hf _ (by omega))]; simp

theorem zod {f g : Nat -> Int} {n m : Nat} (hf : ∀ i, n <= i -> f i = 0) (hg : ∀ i, m <= i -> g i = 0) {k : Nat} (hk : n + m <= k + 1) : cv f g k = 0 := by
 induction n generalizing f k with
 | zero => exact yq fun i _ => hf i (Nat.zero_le _)
 | succ n ih =>
  cases k with
  | zero => simp only [cv, hg 0 (by omega), Int.mul_zero]
  | succ k => simp only [cv, hg (k + 1) (by omega), ih (f := fun i => f (i + 1)) (fun i hi => hf _ (by omega)) (k := k) (by omega)]; simp

theorem zor {f g : Nat -> Int} {n m : Nat} (hf : ∀ i, n < i -> f i = 0) (hg : ∀ i, m < i -> g i = 0) : cv f g (n + m) = f n * g m := by
 induction n generalizing f with
 | zero =>
  cases m with
  | zero => rfl
  | succ m =>
   rw [show 0 + (m + 1) = m + 1 from by omega, cv, yq (f := fun i => f (i + 1)) (fun i _ => hf _ (by omega))]; simp
 | succ n ih =>
  rw [show n + 1 + m = n + m + 1 from by omega, cv, hg (n + m + 1) (by omega), ih (f := fun i => f (i + 1)) (fun i hi => hf _ (by omega))]; simp

theorem zmh (g : Nat -> Int) (k : Nat) : cv (cf [1]) g k = g k := by
 cases k with
 | zero => simp [cv, cf]
 | succ k =>
  rw [cv, yq (f := fun i => cf [1] (i + 1)) (fun i _ => by simp [cf])];simp [cf]

theorem zap (p : Int) (f g : Nat -> Int) (k : Nat) : cv (fun i => f i % p) g k % p = cv f g k % p := by
 induction k generalizing f with
 | zero => simp only [cv]; rw [Int.mul_emod, Int.emod_emod_of_dvd _ (Int.dvd_refl p), <- Int.mul_emod]
 | succ k ih =>
  simp only [cv]
  rw [Int.add_emod, ih (fun i => f (i + 1)), Int.mul_emod, Int.emod_emod_of_dvd _ (Int.dvd_refl p), <- Int.mul_emod, <- Int.add_emod]

theorem znJ (p a : Int) : (-(a % p)) % p = (-a) % p := by
 rw [show -(a % p) = -1 * (a % p) from by omega, show -a = -1 * a from by omega, Int.mul_emod, Int.emod_emod_of_dvd _ (Int.dvd_refl p), <- Int.mul_emod]

def mkL (n : Nat) (f : Nat -> Int) : List Int := (List.range n).map f
theorem vd (n : Nat) (f : Nat -> Int) (i : Nat) : cf (mkL n f) i = if i < n then f i else 0 := by
 split
 ·rename_i h
  rw [yF (by simpa [mkL] using h)]; simp [mkL]
 ·rename_i h
  exact ya (by simpa [mkL] using h)
theorem yg (n : Nat) (f : Nat -> Int) : (mkL n f).length = n := by simp [mkL]

def zaq (a b : List Int) : List Int := mkL (max a.length b.length) fun i => cf a i + cf b i
def kq (a b : List Int) : List Int := mkL (a.length + b.length - 1) (cv (cf a) (cf b))
def zar (c : Int) (a : List Int) : List Int := a.map (c * ·)

theorem jA (a b : List Int) (i : Nat) : cf (zaq a b) i = cf a i + cf b i := by
 rw [zaq, vd]
 split
 ·rfl
 ·rename_i h
  rw [ya (by omega), ya (by omega)]; rfl
theorem zdu (a b : List Int) (i : Nat) : cf (kq a b) i = cv (cf a) (cf b) i := by
 rw [kq, vd]
 split
 ·rfl
 ·rename_i h
  exact (zod (n := a.length) (m := b.length) (fun i hi => ya hi) (fun i hi => ya hi) (by omega)).symm
theorem zek (c : Int) (a : List Int) (i : Nat) : cf (zar c a) i = c * cf a i := by
 by_cases h : i < a.length
 ·rw [yF (by simpa [zar] using h), yF h]; simp [zar]
 ·rw [ya (by simpa [zar] using h), ya (by omega)]; simp
theorem zk7 (p : Int) (a : List Int) (i : Nat) : cf (a.map (· % p)) i = cf a i % p := by
 by_cases h : i < a.length
 ·rw [yF (by simpa using h), yF h]; simp
 ·rw [ya (by simpa using h), ya (by omega)]; simp

def nrm (p : Int) (a : List Int) : List Int := zE (a.map (· % p))
theorem zcl (p : Int) (a : List Int) (i : Nat) : cf (nrm p a) i = cf a i % p := by rw [nrm, vq, zk7]
theorem j1 (p : Int) (a : List Int) : vL (nrm p a) := va _

class Pos (p : Int) : Prop where
 pos : 0 < p

def Nrm (p : Int) (l : List Int) : Prop := (∀ x ∈ l, 0 <= x ∧ x < p) ∧ vL l

theorem zos {p : Int} [h : Pos p] (a : List Int) : Nrm p (nrm p a) := by
 refine ⟨fun x hx => ?_, j1 p a⟩;have := zk6 hx;rw [List.mem_map] at this;obtain ⟨y, _, rfl⟩ := this;exact ⟨Int.emod_nonneg _ (by have := h.pos; omega), Int.emod_lt_of_pos _ h.pos⟩

theorem Nrm.cf_mod {p : Int} {l : List Int} (h : Nrm p l) (i : Nat) : cf l i % p = cf l i := by
 by_cases hi : i < l.length
 ·rw [yF hi];have := h.1 _ (List.getElem_mem hi);exact Int.emod_eq_of_lt this.1 this.2
 ·rw [ya (by omega)]; simp
theorem zmi {p : Int} {l : List Int} (h : Nrm p l) : nrm p l = l := yX (j1 _ _) h.2 fun i => by rw [zcl, h.cf_mod]

structure Poly (p : Int) where
 l : List Int
 ok : Nrm p l

namespace Poly
variable {p : Int}

theorem vO {f g : Poly p} (h : f.l = g.l) : f = g := by
 cases f; cases g; cases h; rfl
theorem zR {f g : Poly p} (h : ∀ i, cf f.l i = cf g.l i) : f = g := vO (yX f.ok.2 g.ok.2 h)

instance : DecidableEq (Poly p) := fun f g => if h : f.l = g.l then isTrue (vO h) else isFalse fun e => h (e ▸ rfl)

variable [Pos p]
def of (p : Int) [Pos p] (a : List Int) : Poly p := ⟨nrm p a, zos a⟩
theorem yE (a : List Int) (i : Nat) : cf (of p a).l i = cf a i % p := zcl p a i
theorem of_l (f : Poly p) : of p f.l = f := vO (zmi f.ok)
theorem zoe {a b : List Int} (h : ∀ i, cf a i % p = cf b i % p) : of p a = of p b := zR fun i => by rw [yE, yE, h]
instance : Add (Poly p) := ⟨fun f g => of p (zaq f.l g.l)⟩
instance : Mul (Poly p) := ⟨fun f g => of p (kq f.l g.l)⟩
instance : Neg (Poly p) := ⟨fun f => of p (zar (-1) f.l)⟩
instance : Sub (Poly p) := ⟨fun f g => of p (zaq f.l (zar (-1) g.l))⟩
instance : NatCast (Poly p) := ⟨fun n => of p [(n : Int)]⟩
instance : IntCast (Poly p) := ⟨fun n => of p [n]⟩
instance (n : Nat) : OfNat (Poly p) n := ⟨of p [(n : Int)]⟩
instance : SMul Nat (Poly p) := ⟨fun n f => of p [(n : Int)] * f⟩
instance : SMul Int (Poly p) := ⟨fun n f => of p [n] * f⟩
def npow (f : Poly p) : Nat -> Poly p
 | 0 => 1
 | n + 1 => npow f n * f
instance : HPow (Poly p) Nat (Poly p) := ⟨npow⟩

theorem yY (f g : Poly p) (i : Nat) : cf (f + g).l i = (cf f.l i + cf g.l i) % p := by
 show cf (of p _).l i = _
 rw [yE, jA]
theorem xy (f g : Poly p) (i : Nat) : cf (f * g).l i = cv (cf f.l) (cf g.l) i % p := by
 show cf (of p _).l i = _
 rw [yE, zdu]
theorem zmj (f : Poly p) (i : Nat) : cf (-f).l i = (-cf f.l i) % p := by
 show cf (of p _).l i = _
 rw [yE, zek]; congr 1; omega
theorem zbg (f g : Poly p) (i : Nat) : cf (f - g).l i = (cf f.l i - cf g.l i) % p := by
 show cf (of p _).l i = _
 rw [yE, jA, zek]; congr 1; omega
theorem zcm : (0 : Poly p).l = [] := by
 refine yX (0 : Poly p).ok.2 (fun n h => by simp at h) fun i => ?_;show cf (of p [((0 : Nat) : Int)]).l i = _
 rw [yE, yW];cases i with
 | zero => simp [cf]
 | succ i => rw [zv, yW]; simp
theorem xr (i : Nat) : cf (0 : Poly p).l i = 0 := by rw [zcm, yW]
theorem zje (i : Nat) : cf (1 : Poly p).l i = cf [1] i % p := yE _ _

theorem zot (a b : List Int) : of p (zaq a b) = of p a + of p b := zR fun i => by
 rw [yE, jA, yY, yE, yE]; exact Int.add_emod _ _ _
theorem jM {p : Int} (f : Poly p) (i : Nat) : cf f.l i % p = cf f.l i := f.ok.cf_mod i

theorem zfR (f g : Poly p) : f + g = g + f := zR fun i => by rw [yY, yY, Int.add_comm]
theorem zk8 (f : Poly p) : f + 0 = f := zR fun i => by rw [yY, xr, Int.add_zero, jM]
theorem zjf (f g h : Poly p) : f + g + h = f + (g + h) := zR fun i => by
 rw [yY, yY, yY, yY, Int.emod_add_emod, Int.add_emod_emod, Int.add_assoc]
theorem v6 (f g : Poly p) : f * g = g * f := zR fun i => by rw [xy, xy, zaM]
theorem zbh (f g : Poly p) : cf (f * g).l = fun i => cv (cf f.l) (cf g.l) i % p := funext fun i => xy f g i
theorem zjg (f g h : Poly p) : f * g * h = f * (g * h) := zR fun i => by
 rw [xy, zbh, zap, xy, zbh, zaM (cf f.l), zap, zmg, zaM (cf f.l)]
theorem zmk (f : Poly p) : 1 * f = f := zR fun i => by
 have e : cf (1 : Poly p).l = fun i => cf [1] i % p := funext zje;rw [xy, e, zap, zmh, jM]
theorem zjh (f g : Poly p) : cf (f + g).l = fun i => (cf f.l i + cf g.l i) % p := funext fun i => yY f g i
theorem zml (f g h : Poly p) : (f + g) * h = f * h + g * h := zR fun i => by
 rw [xy, zjh, zap, zgz, yY, xy, xy, <- Int.add_emod]
theorem zdi (f : Poly p) : -f + f = 0 := zR fun i => by
 rw [yY, zmj, xr, Int.emod_add_emod]; simp [Int.add_left_neg]
theorem znK (f g : Poly p) : f - g = f + -g := zR fun i => by
 rw [zbg, yY, zmj, Int.add_emod_emod, Int.sub_eq_add_neg]
theorem zmm (a b : Int) : of p [a + b] = of p [a] + of p [b] := by
 rw [<- zot]; exact zoe fun i => by rw [jA]; cases i <;> simp [cf]

theorem zmn (f : Poly p) : f + -f = 0 := by rw [zfR, zdi]
instance : CR (Poly p) where
 add_comm := zfR
 add_assoc := zjf
 add_zero := zk8
 add_neg := zmn
 sub_def := znK
 mul_comm := v6
 mul_assoc := zjg
 one_mul := zmk
 add_mul := zml
theorem pow_succ' (b : Poly p) (n : Nat) : b ^ (n + 1) = b ^ n * b := rfl
theorem zt (b : Poly p) : b ^ 0 = 1 := rfl

example (f g h : Poly p) : (f + g) * (f - g) + h * (1 + 1) = f * f - g * g + h + h := zh [f, g, h] (by rfl)

end Poly

class Pr (p : Int) : Prop extends Pos p where
 two : 2 <= p
 inv : ∀ a : Int, a % p ≠ 0 -> ∃ b : Int, a * b % p = 1

theorem Pr.mul_ne {p : Int} [h : Pr p] {a b : Int} (ha : a % p ≠ 0) (hb : b % p ≠ 0) : a * b % p ≠ 0 := by
 intro he;obtain ⟨c, hc⟩ := h.inv a ha;have h1 : a * c * b % p = b % p := by rw [Int.mul_emod, hc, Int.one_mul, Int.emod_emod_of_dvd _ (Int.dvd_refl p)]
 have h2 : a * c * b % p = 0 := by
  rw [show a * c * b = c * (a * b) from by rw [Int.mul_comm a c, Int.mul_assoc], Int.mul_emod, he, Int.mul_zero, Int.zero_emod]
 exact hb (h1.symm.trans h2)

namespace Poly
variable {p : Int}

def dg (f : Poly p) : Nat := f.l.length

theorem yz {f : Poly p} {i : Nat} (h : dg f <= i) : cf f.l i = 0 := ya h
theorem yO {f : Poly p} {n : Nat} (h : dg f = n + 1) : cf f.l n ≠ 0 := f.ok.2 n h
theorem za0 {f : Poly p} {n : Nat} (h : ∀ i, n <= i -> cf f.l i = 0) : dg f <= n := by
 rcases Nat.lt_or_ge n (dg f) with hlt | hge
 ·exfalso
  exact yO (f := f) (n := dg f - 1) (by omega) (h _ (by omega))
 ·exact hge
theorem zof {f : Poly p} {n : Nat} (h : cf f.l n ≠ 0) : n < dg f := by
 rcases Nat.lt_or_ge n (dg f) with hlt | hge
 ·exact hlt
 ·exact absurd (yz hge) h

theorem zbH [Pos p] (a : List Int) : dg (of p a) <= a.length := za0 fun i hi => by rw [yE, ya hi]; simp

theorem ze [Pos p] {f : Poly p} : dg f = 0 ↔ f = 0 := by
 constructor
 ·intro h;refine zR fun i => ?_;rw [xr, yz (by omega)]
 ·rintro rfl;show (0 : Poly p).l.length = 0
  rw [zcm]; rfl

theorem zA [Pos p] : dg (0 : Poly p) = 0 := ze.2 rfl

theorem zmo [Pos p] (f g : Poly p) : dg (f + g) <= max (dg f) (dg g) := za0 fun i hi => by
 rw [yY, yz (by omega), yz (by omega)]; simp
theorem zbi [Pos p] (f g : Poly p) : dg (f - g) <= max (dg f) (dg g) := za0 fun i hi => by
 rw [zbg, yz (by omega), yz (by omega)]; simp
theorem j2 [Pos p] (f g : Poly p) : dg (f * g) <= dg f + dg g - 1 := za0 fun i hi => by
 rw [xy, zod (n := dg f) (m := dg g) (fun i hi => yz hi) (fun i hi => yz hi) (by omega)]; simp

theorem ye {f : Poly p} {i : Nat} (h : cf f.l i ≠ 0) : cf f.l i % p ≠ 0 := by rw [f.ok.cf_mod]; exact h

section
variable [Pr p]

theorem zhX {f g : Poly p} {n m : Nat} (hf : dg f = n + 1) (hg : dg g = m + 1) : cf (f * g).l (n + m) = cf f.l n * cf g.l m % p := by
 rw [xy, zor (fun i hi => yz (by omega)) (fun i hi => yz (by omega))]

theorem yZ {f g : Poly p} (hf : f ≠ 0) (hg : g ≠ 0) : dg (f * g) + 1 = dg f + dg g := by
 have h1 : dg f ≠ 0 := fun h => hf (ze.1 h);have h2 : dg g ≠ 0 := fun h => hg (ze.1 h);obtain ⟨n, hn⟩ := Nat.exists_eq_succ_of_ne_zero h1;obtain ⟨m, hm⟩ := Nat.exists_eq_succ_of_ne_zero h2
 have h3 : cf (f * g).l (n + m) ≠ 0 := by
  rw [zhX hn hm];exact Pr.mul_ne (ye (yO hn)) (ye (yO hm))
 have h4 := zof h3;have h5 := j2 f g;omega

theorem mul_ne {f g : Poly p} (hf : f ≠ 0) (hg : g ≠ 0) : f * g ≠ 0 := by
 intro h;have h1 := yZ hf hg;have h2 : dg f ≠ 0 := fun h => hf (ze.1 h);have h3 : dg g ≠ 0 := fun h => hg (ze.1 h);rw [h, zA] at h1;omega
theorem mul_eq_zero {f g : Poly p} (h : f * g = 0) : f = 0 ∨ g = 0 := by
 by_cases hf : f = 0
 ·exact .inl hf
 ·by_cases hg : g = 0
  ·exact .inr hg
  ·exact absurd h (mul_ne hf hg)
theorem zel {f g h : Poly p} (hf : f ≠ 0) (he : f * g = f * h) : g = h := by
 have : f * (g - h) = 0 := by exact comb (1) he (zh [f, g, h] (by rfl))
 rcases mul_eq_zero this with h1 | h1
 ·exact absurd h1 hf
 ·exact comb (1) h1 (zh [g, h] (by rfl))

theorem zgA : (1 : Poly p) ≠ 0 := by
 intro h;have h1 := zje (p := p) 0;rw [h, xr, yb, Int.emod_eq_of_lt (by omega) (by have := Pr.two (p := p); omega)] at h1;cases h1
theorem yJ : dg (1 : Poly p) = 1 := by
 have h1 : dg (1 : Poly p) <= 1 := zbH [((1 : Nat) : Int)];have h2 : dg (1 : Poly p) ≠ 0 := fun h => zgA (ze.1 h);omega
end

def mono (p : Int) [Pos p] (c : Int) (k : Nat) : Poly p := of p (List.replicate k 0 ++ [c])
theorem zmp (c : Int) (k i : Nat) : cf (List.replicate k 0 ++ [c]) i = if i = k then c else 0 := by
 induction k generalizing i with
 | zero => cases i with
  | zero => rfl
  | succ i => simp [cf]
 | succ k ih =>
  cases i with
  | zero => simp [cf, List.replicate_succ]
  | succ i =>
   rw [List.replicate_succ, List.cons_append, zv, ih];simp
theorem cv_mono (c : Int) (k : Nat) (g : Nat -> Int) (i : Nat) : cv (fun j => if j = k then c else 0) g i = if k <= i then c * g (i - k) else 0 := by
 induction k generalizing i with
 | zero =>
  cases i with
  | zero => simp [cv]
  | succ i =>
   rw [cv, yq (f := fun j => if j + 1 = 0 then c else 0) (fun i _ => by simp)];simp
 | succ k ih =>
  cases i with
  | zero => simp [cv]
  | succ i =>
   rw [cv];have : (fun j => if j + 1 = k + 1 then c else 0) = fun j => if j = k then c else 0 := by funext j; simp
   rw [this, ih];simp
theorem kr [Pos p] (c : Int) (k i : Nat) : cf (mono p c k).l i = if i = k then c % p else 0 := by
 rw [mono, yE, zmp]; split <;> simp
theorem jB [Pos p] (c : Int) (k : Nat) (g : Poly p) (i : Nat) : cf (mono p c k * g).l i = if k <= i then c * cf g.l (i - k) % p else 0 := by
 have e : cf (mono p c k).l = fun i => (if i = k then c else 0) % p := funext fun i => by rw [kr]; split <;> simp
 rw [xy, e, zap, cv_mono]; split <;> simp

section
variable [Pr p]

theorem kt (g : Poly p) (hg : g ≠ 0) : ∀ (n : Nat) (f : Poly p), dg f <= n -> ∃ q r : Poly p, f = q * g + r ∧ dg r < dg g := by
 have hg0 : dg g ≠ 0 := fun h => hg (ze.1 h);intro n
 induction n with
 | zero =>
  intro f hf;exact ⟨0, f, by exact zh [f, g] (by rfl), by omega⟩
 | succ n ih =>
  intro f hf
  by_cases hlt : dg f < dg g
  ·exact ⟨0, f, by exact zh [f, g] (by rfl), hlt⟩
  ·by_cases hle : dg f <= n
   ·exact ih f hle
   ·obtain ⟨m, hm⟩ := Nat.exists_eq_succ_of_ne_zero hg0;obtain ⟨b, hb⟩ := Pr.inv (p := p) _ (ye (yO hm))
    obtain ⟨q, r, h1, h2⟩ := ih (f - mono p (cf f.l n * b) (n - m) * g) (by
     refine za0 fun i hi => ?_;rw [zbg, jB, if_pos (by omega)];rcases Nat.eq_or_lt_of_le hi with rfl | hlt'
     ·rw [show n - (n - m) = m by omega];rw [Int.sub_emod, Int.emod_emod_of_dvd _ (Int.dvd_refl p), <- Int.sub_emod]
      have : cf f.l n - cf f.l n * b * cf g.l m = cf f.l n * (1 - cf g.l m * b) := by
       rw [Int.mul_sub, Int.mul_one, Int.mul_assoc, Int.mul_comm b]
      rw [this, Int.mul_emod, Int.sub_emod, hb];have h1 : (1 : Int) % p = 1 := Int.emod_eq_of_lt (by omega) (by have := Pr.two (p := p); omega);rw [h1]; simp
     ·rw [yz (f := f) (by omega), yz (f := g) (by omega)]; simp)
    exact ⟨q + mono p (cf f.l n * b) (n - m), r, by exact comb (1) h1 (zh [f, q, mono p (cf f.l n * b) (n - m), g, r] (by rfl)), h2⟩

theorem zji {f g q r q' r' : Poly p} (h : f = q * g + r) (hr : dg r < dg g) (h' : f = q' * g + r') (hr' : dg r' < dg g) : q = q' ∧ r = r' := by
 have h1 : (q - q') * g = r' - r := by exact comb (1) h' (comb (-1) h (zh [f, q, g, r, q', r'] (by rfl)))
 by_cases hq : q - q' = 0
 ·refine ⟨by exact comb (1) hq (zh [q, q'] (by rfl)), ?_⟩;rw [hq] at h1;exact comb (1) h1 (zh [r, r', g] (by rfl))
 ·exfalso
  have hg : g ≠ 0 := fun h => by rw [h, zA] at hr; omega
  have h2 := yZ hq hg;rw [h1] at h2;have h3 := zbi r' r;have h4 : dg (q - q') ≠ 0 := fun h => hq (ze.1 h);omega

open Classical in
noncomputable def znL (f g : Poly p) : Poly p × Poly p := if hg : g = 0 then (0, f) else ⟨(kt g hg _ f (Nat.le_refl _)).choose, (kt g hg _ f (Nat.le_refl _)).choose_spec.choose⟩
noncomputable def quo (f g : Poly p) : Poly p := (znL f g).1
noncomputable def rem (f g : Poly p) : Poly p := (znL f g).2

theorem jN (f g : Poly p) : f = quo f g * g + rem f g := by
 unfold quo rem znL
 split
 ·show f = 0 * g + f; exact zh [f, g] (by rfl)
 ·rename_i hg
  exact (kt g hg _ f (Nat.le_refl _)).choose_spec.choose_spec.1
theorem zN (f : Poly p) {g : Poly p} (hg : g ≠ 0) : dg (rem f g) < dg g := by
 unfold rem znL;rw [dif_neg hg];exact (kt g hg _ f (Nat.le_refl _)).choose_spec.choose_spec.2
theorem zgB {f g q r : Poly p} (h : f = q * g + r) (hr : dg r < dg g) : quo f g = q ∧ rem f g = r := by
 have hg : g ≠ 0 := fun h => by rw [h, zA] at hr; omega
 exact zji (jN f g) (zN f hg) h hr

def Dvd' (g f : Poly p) : Prop := ∃ q, f = g * q
instance : Dvd (Poly p) := ⟨Dvd'⟩
theorem dvd_refl (f : Poly p) : f ∣ f := ⟨1, by exact zh [f] (by rfl)⟩
theorem dvd_zero (f : Poly p) : f ∣ 0 := ⟨0, by exact zh [f] (by rfl)⟩
theorem one_dvd (f : Poly p) : 1 ∣ f := ⟨f, by exact zh [f] (by rfl)⟩
theorem dvd_trans {f g h : Poly p} (h1 : f ∣ g) (h2 : g ∣ h) : f ∣ h := by
 obtain ⟨a, rfl⟩ := h1;obtain ⟨b, rfl⟩ := h2;exact ⟨a * b, by exact zh [f, a, b] (by rfl)⟩
theorem dvd_mul_left {f g : Poly p} (h : Poly p) (h1 : f ∣ g) : f ∣ h * g := by
 obtain ⟨a, rfl⟩ := h1;exact ⟨h * a, by exact zh [f, a, h] (by rfl)⟩
theorem dvd_mul_right {f g : Poly p} (h : Poly p) (h1 : f ∣ g) : f ∣ g * h := by
 obtain ⟨a, rfl⟩ := h1;exact ⟨a * h, by exact zh [f, a, h] (by rfl)⟩
theorem dvd_add {f g h : Poly p} (h1 : f ∣ g) (h2 : f ∣ h) : f ∣ g + h := by
 obtain ⟨a, rfl⟩ := h1;obtain ⟨b, rfl⟩ := h2;exact ⟨a + b, by exact zh [f, a, b] (by rfl)⟩
theorem dvd_sub {f g h : Poly p} (h1 : f ∣ g) (h2 : f ∣ h) : f ∣ g - h := by
 obtain ⟨a, rfl⟩ := h1;obtain ⟨b, rfl⟩ := h2;exact ⟨a - b, by exact zh [f, a, b] (by rfl)⟩
theorem vr {g f : Poly p} (hg : g ≠ 0) : g ∣ f ↔ rem f g = 0 := by
 constructor
 ·rintro ⟨q, rfl⟩;exact (zgB (q := q) (r := 0) (by exact zh [g, q] (by rfl)) (by rw [zA]; have : dg g ≠ 0 := fun h => hg (ze.1 h); omega)).2
 ·intro h;have := jN f g;rw [h] at this;exact ⟨quo f g, by exact comb (1) this (zh [f, g, quo f g] (by rfl))⟩
theorem zM {g f : Poly p} (h : g ∣ f) (hf : f ≠ 0) : dg g <= dg f := by
 obtain ⟨q, rfl⟩ := h;have hg : g ≠ 0 := fun h => hf (by rw [h]; exact zh [q] (by rfl));have hq : q ≠ 0 := fun h => hf (by rw [h]; exact zh [g] (by rfl));have h1 := yZ hg hq;have : dg q ≠ 0 := fun h => hq (ze.1 h);omega
theorem zem {g f : Poly p} (h : g ∣ f) (hf : f ≠ 0) : g ≠ 0 := by
 rintro rfl;obtain ⟨q, rfl⟩ := h;exact hf (by exact zh [q] (by rfl))
end

end Poly
namespace Poly
variable {p : Int} [Pr p]

def con (p : Int) [Pos p] (c : Int) : Poly p := of p [c]
theorem xz (c : Int) (i : Nat) : cf (con p c).l i = if i = 0 then c % p else 0 := by
 rw [con, yE]; cases i <;> simp [cf]
theorem zen (c : Int) (f : Poly p) (i : Nat) : cf (con p c * f).l i = c * cf f.l i % p := by
 have e : cf (con p c).l = fun i => c * cf [1] i % p := funext fun i => by rw [xz]; cases i <;> simp [cf]
 rw [xy, e, zap, zkc, zmh]
theorem zgC (a b : Int) : con p a * con p b = con p (a * b) := zR fun i => by
 rw [zen, xz, xz]; split <;> simp [Int.mul_emod]
theorem zgD (a b : Int) : con p a + con p b = con p (a + b) := (zmm a b).symm
theorem zdv (a b : Int) : con p a - con p b = con p (a - b) := zR fun i => by
 rw [zbg, xz, xz, xz]; split
 ·exact (Int.sub_emod _ _ _).symm
 ·simp
theorem zdw (a : Int) : con p (a % p) = con p a := zR fun i => by rw [xz, xz]; simp
theorem xk : con p 0 = 0 := zR fun i => by rw [xz, xr]; simp
theorem ku : con p 1 = 1 := rfl
theorem xC {a : Int} : con p a = 0 ↔ a % p = 0 := by
 constructor
 ·intro h;have := xz (p := p) a 0;rw [h, xr] at this
  simpa using this.symm
 ·intro h;rw [<- zdw, h, xk]
theorem jO (a : Int) : dg (con p a) <= 1 := zbH [a]
theorem zjj {a : Int} (h : a % p ≠ 0) : dg (con p a) = 1 := by
 have h1 := jO (p := p) a;have h2 : dg (con p a) ≠ 0 := fun h' => h (xC.1 (ze.1 h'));omega
theorem zjk {f : Poly p} (h : dg f <= 1) : f = con p (cf f.l 0) := zR fun i => by
 rw [xz];cases i with
 | zero => simp [jM]
 | succ i => rw [yz (by omega)]; simp

theorem ji {u : Poly p} (h : dg u = 1) : ∃ v, u * v = 1 := by
 have h0 := yO (f := u) (n := 0) h;obtain ⟨b, hb⟩ := Pr.inv (p := p) _ (ye h0);refine ⟨con p b, ?_⟩;rw [zjk (f := u) (by omega), zgC, <- zdw, hb]; rfl
theorem zmq {u : Poly p} (h : dg u = 1) (f : Poly p) : u ∣ f := by
 obtain ⟨v, hv⟩ := ji h;exact ⟨v * f, by exact comb (-f) hv (zh [f, u, v] (by rfl))⟩
theorem zeo {u f : Poly p} (h : dg u = 1) (hf : f ∣ u) : dg f = 1 := by
 have hu : u ≠ 0 := fun e => by rw [e, zA] at h; cases h
 have h1 := zM hf hu;have h2 : dg f ≠ 0 := fun e => zem hf hu (ze.1 e);omega

def lc (f : Poly p) : Int := cf f.l (dg f - 1)
def Mon (f : Poly p) : Prop := f ≠ 0 ∧ lc f = 1
theorem zoX {f : Poly p} (h : f ≠ 0) : lc f ≠ 0 := by
 have : dg f ≠ 0 := fun e => h (ze.1 e);exact yO (n := dg f - 1) (by omega)
theorem zgE {f g : Poly p} (hf : f ≠ 0) (hg : g ≠ 0) : lc (f * g) = lc f * lc g % p := by
 have h1 : dg f ≠ 0 := fun e => hf (ze.1 e);have h2 : dg g ≠ 0 := fun e => hg (ze.1 e);have h3 := yZ hf hg;have := zhX (f := f) (g := g) (n := dg f - 1) (m := dg g - 1) (by omega) (by omega);unfold lc;rw [show dg (f * g) - 1 = dg f - 1 + (dg g - 1) by omega, this]
theorem zkd : (1 : Int) % p = 1 := Int.emod_eq_of_lt (by omega) (by have := Pr.two (p := p); omega)
theorem Mon.mul {f g : Poly p} (hf : Mon f) (hg : Mon g) : Mon (f * g) :=
 ⟨mul_ne hf.1 hg.1, by rw [zgE hf.1 hg.1, hf.2, hg.2]; exact zkd⟩
theorem zke : Mon (1 : Poly p) := ⟨zgA, by
 unfold lc;rw [yJ, zje];exact zkd⟩
theorem Mon.right {f g : Poly p} (hf : Mon f) (h : Mon (f * g)) : Mon g := by
 have hg : g ≠ 0 := fun e => h.1 (by rw [e]; exact zh [f] (by rfl));refine ⟨hg, ?_⟩;have := zgE hf.1 hg;rw [h.2, hf.2, Int.one_mul] at this;rw [this]; exact (jM g _).symm
theorem zmr {c : Int} (h : c % p ≠ 0) : lc (con p c) = c % p := by
 unfold lc;rw [zjj h, xz]; rfl
theorem zgF {c : Int} (h : c % p ≠ 0) : con p c ≠ 0 := fun e => h (xC.1 e)
theorem kv {f : Poly p} (hf : f ≠ 0) : ∃ c : Int, c % p ≠ 0 ∧ Mon (con p c * f) := by
 obtain ⟨b, hb⟩ := Pr.inv (p := p) (lc f) (ye (zoX hf))
 have hb' : b % p ≠ 0 := by
  intro h;rw [Int.mul_emod, h, Int.mul_zero, Int.zero_emod] at hb; cases hb
 refine ⟨b, hb', mul_ne (zgF hb') hf, ?_⟩;rw [zgE (zgF hb') hf, zmr hb', Int.mul_comm, Int.mul_emod, Int.emod_emod_of_dvd _ (Int.dvd_refl p), <- Int.mul_emod, hb]

theorem zjl {f g : Poly p} (hf : Mon f) (hg : Mon g) (h1 : f ∣ g) (h2 : g ∣ f) : f = g := by
 obtain ⟨q, rfl⟩ := h1;have h3 := zM h2 hf.1;have hq : q ≠ 0 := fun e => hg.1 (by rw [e]; exact zh [f] (by rfl));have h4 := yZ hf.1 hq;have h5 : dg q ≠ 0 := fun e => hq (ze.1 e);have h6 : q = con p (cf q.l 0) := zjk (by omega);have h7 := hf.right hg
 have h8 : cf q.l 0 = 1 := by
  have := h7.2;unfold lc at this
  rwa [show dg q - 1 = 0 by omega] at this
 rw [h6, h8, ku]; exact zh [f] (by rfl)

open Classical in
noncomputable def mnc (f : Poly p) : Poly p := if h : f = 0 then 0 else con p (kv h).choose * f
theorem zhY : mnc (0 : Poly p) = 0 := by simp [mnc]
theorem jC {f : Poly p} (h : f ≠ 0) : Mon (mnc f) := by
 unfold mnc; rw [dif_neg h]; exact (kv h).choose_spec.2
theorem zT (f : Poly p) : mnc f ∣ f ∧ f ∣ mnc f := by
 unfold mnc
 split
 ·rename_i h; rw [h]; exact ⟨dvd_refl _, dvd_refl _⟩
 ·rename_i h
  obtain ⟨v, hv⟩ := ji (zjj (kv h).choose_spec.1);generalize (kv h).choose = c at hv;exact ⟨⟨v, by exact comb (-f) hv (zh [f, con p c, v] (by rfl))⟩, ⟨con p c, by exact zh [f, con p c] (by rfl)⟩⟩
theorem zou {f : Poly p} {c : Int} (h : Mon (con p c * f)) : mnc f = con p c * f := by
 have hf : f ≠ 0 := fun e => h.1 (by rw [e]; exact zh [con p c] (by rfl));have hc : c % p ≠ 0 := fun e => h.1 (by rw [xC.2 e]; exact zh [f] (by rfl));obtain ⟨v, hv⟩ := ji (zjj hc);refine zjl (jC hf) h (dvd_mul_left _ (zT f).1) ?_;exact dvd_trans ⟨v, by exact comb (-f) hv (zh [f, con p c, v] (by rfl))⟩ (zT f).2

noncomputable def gcd (f g : Poly p) : Poly p :=
 if h : dg g = 0 then mnc f else have : dg (rem f g) < dg g := zN f fun e => h (ze.2 e); gcd g (rem f g)
termination_by dg g

theorem zep (f : Poly p) : gcd f 0 = mnc f := by rw [gcd, dif_pos zA]
theorem zjm (f : Poly p) {g : Poly p} (h : g ≠ 0) : gcd f g = gcd g (rem f g) := by rw [gcd, dif_neg fun e => h (ze.1 e)]

theorem zbI : ∀ (n : Nat) (f g : Poly p), dg g <= n -> (gcd f g ∣ f ∧ gcd f g ∣ g) ∧ (∃ a b, gcd f g = a * f + b * g) ∧ (f ≠ 0 ∨ g ≠ 0 -> Mon (gcd f g)) := by
 intro n
 induction n with
 | zero =>
  intro f g h;obtain rfl := ze.1 (by omega : dg g = 0);rw [zep];obtain ⟨h1, c, hc⟩ := zT f;refine ⟨⟨h1, dvd_zero _⟩, ⟨c, 0, by rw [hc]; exact zh [f, c] (by rfl)⟩, fun h => jC (h.resolve_right fun h => h rfl)⟩
 | succ n ih =>
  intro f g h
  by_cases hg : g = 0
  ·subst hg;exact ih f 0 (by rw [zA]; omega)
  ·rw [zjm f hg];have h0 := zN f hg;obtain ⟨⟨h1, h2⟩, ⟨a, b, h3⟩, h4⟩ := ih g (rem f g) (by omega);have h5 := jN f g;refine ⟨⟨?_, h1⟩, ⟨b, a - b * quo f g, ?_⟩, fun _ => h4 (.inl hg)⟩
   ·have := dvd_add (dvd_mul_left (quo f g) h1) h2
    rwa [<- h5] at this
   ·rw [h3]; exact comb (-b) h5 (zh [a, b, f, g, rem f g, quo f g] (by rfl))

theorem xS (f g : Poly p) : gcd f g ∣ f := (zbI _ f g (Nat.le_refl _)).1.1
theorem xD (f g : Poly p) : gcd f g ∣ g := (zbI _ f g (Nat.le_refl _)).1.2
theorem zhZ (f g : Poly p) : ∃ a b, gcd f g = a * f + b * g := (zbI _ f g (Nat.le_refl _)).2.1
theorem zbJ {f g : Poly p} (h : f ≠ 0 ∨ g ≠ 0) : Mon (gcd f g) := (zbI _ f g (Nat.le_refl _)).2.2 h
theorem zkf {h f g : Poly p} (h1 : h ∣ f) (h2 : h ∣ g) : h ∣ gcd f g := by
 obtain ⟨a, b, he⟩ := zhZ f g;rw [he];exact dvd_add (dvd_mul_left _ h1) (dvd_mul_left _ h2)

def Cop (f g : Poly p) : Prop := ∃ a b, a * f + b * g = 1
theorem Cop.symm {f g : Poly p} (h : Cop f g) : Cop g f := by
 obtain ⟨a, b, h⟩ := h;exact ⟨b, a, by exact comb (1) h (zh [a, b, f, g] (by rfl))⟩
theorem zeq {f g : Poly p} (h : dg (gcd f g) = 1) : Cop f g := by
 obtain ⟨a, b, he⟩ := zhZ f g;obtain ⟨v, hv⟩ := ji h;exact ⟨v * a, v * b, by exact comb (1) hv (comb (-v) he (zh [v, a, b, f, g, gcd f g] (by rfl)))⟩
theorem Cop.mul {f g h : Poly p} (h1 : Cop f h) (h2 : Cop g h) : Cop (f * g) h := by
 obtain ⟨a, b, h1⟩ := h1;obtain ⟨c, d, h2⟩ := h2;exact ⟨a * c, a * f * d + b * c * g + b * d * h, by exact comb (c*g+d*h) h1 (comb (1) h2 (zh [a, b, c, d, f, g, h] (by rfl)))⟩
theorem Cop.dvd {f g h : Poly p} (h1 : Cop f g) (h2 : f ∣ g * h) : f ∣ h := by
 obtain ⟨a, b, h1⟩ := h1;obtain ⟨q, h2⟩ := h2;exact ⟨a * h + b * q, by exact comb (-h) h1 (comb (b) h2 (zh [a, b, f, g, h, q] (by rfl)))⟩
theorem Cop.mul_dvd {f g h : Poly p} (h1 : Cop f g) (h2 : f ∣ h) (h3 : g ∣ h) : f * g ∣ h := by
 obtain ⟨a, b, h1⟩ := h1;obtain ⟨q, h2⟩ := h2;obtain ⟨r, h3⟩ := h3;exact ⟨a * r + b * q, by exact comb (-h) h1 (comb (b*g) h2 (comb (a*f) h3 (zh [a, b, f, g, h, q, r] (by rfl))))⟩
theorem znM (f : Poly p) : Cop 1 f := ⟨1, 0, by exact zh [f] (by rfl)⟩
def Irr (h : Poly p) : Prop := 2 <= dg h ∧ ∀ a b, h = a * b -> dg a = 1 ∨ dg b = 1

theorem Irr.ne {h : Poly p} (hi : Irr h) : h ≠ 0 := fun e => by have := hi.1; rw [e, zA] at this; omega

theorem Irr.cop {h a : Poly p} (hi : Irr h) (hn : ¬ h ∣ a) : Cop h a := by
 obtain ⟨q, hq⟩ := xS h a;rcases hi.2 _ _ hq with h1 | h1
 ·exact zeq h1
 ·exfalso
  obtain ⟨v, hv⟩ := ji h1;exact hn (dvd_trans ⟨v, by exact comb (-(gcd h a)) hv (comb (-v) hq (zh [gcd h a, h, q, v] (by rfl)))⟩ (xD h a))
theorem Irr.prime {h a b : Poly p} (hi : Irr h) (hd : h ∣ a * b) : h ∣ a ∨ h ∣ b := by
 by_cases ha : h ∣ a
 ·exact .inl ha
 ·exact .inr ((hi.cop ha).dvd hd)
theorem Irr.not_unit {h u : Poly p} (hi : Irr h) (hu : dg u = 1) : ¬ h ∣ u := fun hd => by
 have := zeo hu hd;have := hi.1;omega
theorem Irr.pow {h a : Poly p} (hi : Irr h) {n : Nat} (hd : h ∣ a ^ n) : h ∣ a := by
 induction n with
 | zero =>
  have e : a ^ 0 = 1 := by exact zt a
  rw [e] at hd;exact absurd hd (hi.not_unit yJ)
 | succ n ih =>
  have e : a ^ (n + 1) = a ^ n * a := by exact pow_succ' a n
  rw [e] at hd;exact (hi.prime hd).elim ih id

theorem zbj {g h : Poly p} (hg : Irr g) (hh : Irr h) (mg : Mon g) (mh : Mon h) (hd : g ∣ h) : g = h := by
 refine zjl mg mh hd ?_;obtain ⟨q, rfl⟩ := hd;rcases hh.2 _ _ rfl with h1 | h1
 ·exact absurd h1 (by have := hg.1; omega)
 ·obtain ⟨v, hv⟩ := ji h1;exact ⟨v, by exact comb (-g) hv (zh [g, q, v] (by rfl))⟩

theorem jD {h : Poly p} (hi : Irr h) : Irr (mnc h) ∧ Mon (mnc h) := by
 refine ⟨?_, jC hi.ne⟩;obtain ⟨⟨q, hq⟩, ⟨r, hr⟩⟩ := zT h;have h1 := zM (zT h).1 hi.ne;have h2 := zM (zT h).2 (jC hi.ne).1;refine ⟨by have := hi.1; omega, fun a b hab => ?_⟩
 have hq1 : dg q = 1 := by
  have hm := (jC hi.ne).1;have hq0 : q ≠ 0 := fun e => hi.ne (by rw [hq, e]; exact zh [mnc h] (by rfl));have := yZ hm hq0;rw [<- hq] at this;omega
 rcases hi.2 a (b * q) (by exact comb (1) hq (comb (q) hab (zh [h, a, b, q, mnc h] (by rfl)))) with h3 | h3
 ·exact .inl h3
 ·exact .inr (zeo h3 ⟨q, rfl⟩)

theorem zbk : ∀ (n : Nat) (f : Poly p), dg f <= n -> 2 <= dg f -> ∃ h, Irr h ∧ Mon h ∧ h ∣ f := by
 intro n
 induction n with
 | zero => intro f h1 h2; omega
 | succ n ih =>
  intro f h1 h2;have hf : f ≠ 0 := fun e => by rw [e, zA] at h2; omega
  by_cases hi : Irr f
  ·exact ⟨mnc f, (jD hi).1, (jD hi).2, (zT f).1⟩
  ·unfold Irr at hi;simp only [not_and, Classical.not_forall, not_or] at hi
   obtain ⟨a, b, rfl, ha, hb⟩ := hi h2;have ha0 : a ≠ 0 := fun e => hf (by rw [e]; exact zh [b] (by rfl));have hb0 : b ≠ 0 := fun e => hf (by rw [e]; exact zh [a] (by rfl));have h3 := yZ ha0 hb0;have h4 : dg a ≠ 0 := fun e => ha0 (ze.1 e);have h5 : dg b ≠ 0 := fun e => hb0 (ze.1 e);obtain ⟨h, h6, h7, h8⟩ := ih a (by omega) (by omega);exact ⟨h, h6, h7, dvd_mul_right _ h8⟩

def Sqf (f : Poly p) : Prop := ∀ h, Irr h -> ¬ h * h ∣ f

theorem zbl {f g : Poly p} (hf : f ≠ 0) (h : ∀ h, Irr h -> h ∣ f -> h ∣ g -> False) : Cop f g := by
 have hm := zbJ (f := f) (g := g) (.inl hf);have h0 : dg (gcd f g) ≠ 0 := fun e => hm.1 (ze.1 e)
 by_cases h1 : dg (gcd f g) = 1
 ·exact zeq h1
 ·obtain ⟨q, h2, _, h3⟩ := zbk _ (gcd f g) (Nat.le_refl _) (by omega);exact (h q h2 (dvd_trans h3 (xS f g)) (dvd_trans h3 (xD f g))).elim

theorem Sqf.cop {f a b : Poly p} (hs : Sqf f) (hf : f ≠ 0) (h : a * b ∣ f) : Cop a b := by
 have ha : a ≠ 0 := fun e => zem h hf (by rw [e]; exact zh [b] (by rfl));refine zbl ha fun q hq h1 h2 => hs q hq ?_;obtain ⟨x, rfl⟩ := h1;obtain ⟨y, rfl⟩ := h2;exact dvd_trans ⟨x * y, by exact zh [q, x, y] (by rfl)⟩ h
theorem Sqf.dvd {f g : Poly p} (hs : Sqf f) (h : g ∣ f) : Sqf g := fun q hq hd => hs q hq (dvd_trans hd h)

end Poly

def zO : List Int := [2, 3, 5, 7, 11, 13, 17, 19, 23, 29, 31, 37, 41, 43, 47, 53, 59, 61, 67, 71, 73, 79, 83, 89, 97]

def zjn (p k : Int) : List Int -> List Int -> List Int
 | x :: l, y :: l' => (x - k * y) % p :: zjn p k l l'
 | _, _ => []
def stir (p : Int) : Nat -> List Int
 | 0 => [1]
 | n + 1 => zjn p n (0 :: stir p n) (stir p n ++ [0])
def zjo (p : Int) : List Int := 0 :: (p - 1) :: (List.replicate (p.toNat - 2) 0 ++ [1])

theorem zh0 : zO.all (fun p => stir p p.toNat == zjo p) = true := by decide +kernel
theorem zjp : zO.all (fun p => (List.range p.toNat).all fun a => a == 0 || (List.range p.toNat).any fun b => (a : Int) * b % p == 1) = true := by decide +kernel
theorem zbm : zO.all (fun p => decide (2 <= p ∧ p <= 97)) = true := by decide +kernel

class SP (p : Int) : Prop extends Pr p where
 le : p <= 97
 stir : stir p p.toNat = zjo p

theorem yk {p : Int} (h : p ∈ zO) : SP p := by
 have h1 := List.all_eq_true.1 zh0 p h;have h2 := List.all_eq_true.1 zjp p h;have h3 := List.all_eq_true.1 zbm p h;simp only [beq_iff_eq, decide_eq_true_eq] at h1 h3
 refine { pos := by omega, two := h3.1, le := h3.2, stir := h1, inv := fun a ha => ?_ };rw [List.all_eq_true] at h2;have h4 := Int.emod_nonneg a (show p ≠ 0 by omega);have h5 := Int.emod_lt_of_pos a (show 0 < p by omega);have h6 := h2 (a % p).toNat (List.mem_range.2 (by omega));simp only [Bool.or_eq_true, beq_iff_eq, List.any_eq_true] at h6
 rcases h6 with h6 | ⟨b, _, h6⟩
 ·omega
 ·refine ⟨b, ?_⟩;rw [show ((a % p).toNat : Int) = a % p by omega, Int.mul_emod, Int.emod_emod_of_dvd _ (Int.dvd_refl p), <- Int.mul_emod] at h6;exact h6

namespace Poly
variable {p : Int} [Pr p]

def hev (a b : Poly p) : List Int -> Nat -> Poly p
 | [], _ => 0
 | c :: l, n => con p c * b ^ n + a * hev a b l (n - 1)

def vu (a b : Poly p) : Nat -> Poly p
 | 0 => 1
 | n + 1 => vu a b n * (a - con p n * b)


theorem zh1 (a b : Poly p) : ∀ (l : List Int) (n : Nat), l.length = n + 1 -> hev a b (l ++ [0]) (n + 1) = b * hev a b l n
 | [], n, h => by simp at h
 | [c], n, h => by
  have : n = 0 := by simpa using h.symm
  subst this;simp only [List.cons_append, List.nil_append, hev, xk]
  rw [pow_succ', zt];exact zh [con p c, b, a, b ^ (0 + 1 - 1)] (by rfl)
 | c :: d :: l, n, h => by
  cases n with
  | zero => simp at h
  | succ n =>
   have ih := zh1 a b (d :: l) n (by simpa using h);simp only [List.cons_append] at ih ⊢
   have e1 : hev a b (c :: d :: (l ++ [0])) (n + 1 + 1) = con p c * b ^ (n + 1 + 1) + a * hev a b (d :: (l ++ [0])) (n + 1) := rfl;have e2 : hev a b (c :: d :: l) (n + 1) = con p c * b ^ (n + 1) + a * hev a b (d :: l) n := rfl;rw [e1, e2, ih, pow_succ' b (n + 1)];exact zh [a, b, con p c, b ^ (n+1), hev a b (d :: l) n] (by rfl)

theorem zh2 (a b : Poly p) (k : Int) : ∀ (l l' : List Int) (n : Nat), l.length = l'.length -> hev a b (zjn p k l l') n = hev a b l n - con p k * hev a b l' n
 | [], [], n, _ => by simp only [zjn, hev]; exact zh [con p k] (by rfl)
 | x :: l, y :: l', n, h => by
  simp only [zjn, hev]
  rw [zh2 a b k l l' (n - 1) (by simpa using h), zdw, <- zdv, <- zgC];exact zh [con p k, con p x, con p y, a, b ^ n, hev a b l (n-1), hev a b l' (n-1)] (by rfl)
 | [], _ :: _, n, h => by simp at h
 | _ :: _, [], n, h => by simp at h

theorem zc1 {p : Int} (k : Int) : ∀ (l l' : List Int), l.length = l'.length -> (zjn p k l l').length = l.length
 | [], [], _ => rfl
 | x :: l, y :: l', h => by simp [zjn, zc1 k l l' (by simpa using h)]
 | [], _ :: _, h => by simp at h
 | _ :: _, [], h => by simp at h

theorem zh3 {p : Int} (n : Nat) : (stir p n).length = n + 1 := by
 induction n with
 | zero => rfl
 | succ n ih => rw [stir, zc1 _ _ _ (by simp)]; simp [ih]

theorem zms (a b : Poly p) (n : Nat) : hev a b (stir p n) n = vu a b n := by
 induction n with
 | zero => simp only [stir, hev, vu, ku, zt]; exact zh [a] (by rfl)
 | succ n ih =>
  rw [stir, zh2 _ _ _ _ _ _ (by simp), zh1 _ _ _ _ (zh3 n), vu];simp only [hev, xk, Nat.add_sub_cancel, ih]
  exact zh [a, b, vu a b n, con p (n:Int), b ^ (n+1)] (by rfl)

theorem znN (a b : Poly p) (m : Nat) : hev a b (List.replicate m 0 ++ [1]) m = a ^ m := by
 induction m with
 | zero => simp only [List.replicate_zero, List.nil_append, hev, ku, zt]; exact zh [a] (by rfl)
 | succ m ih =>
  rw [List.replicate_succ, List.cons_append, hev, Nat.add_sub_cancel, ih, xk, pow_succ' a m];exact zh [a, a ^ m, b ^ (m+1)] (by rfl)

section
variable {p : Int} [SP p]

theorem zer (a b : Poly p) : vu a b p.toNat = a ^ p.toNat - a * b ^ (p.toNat - 1) := by
 have h2 := Pr.two (p := p);rw [<- zms, SP.stir (p := p), zjo];obtain ⟨m, hm⟩ : ∃ m, p.toNat = m + 2 := ⟨p.toNat - 2, by omega⟩
 rw [hm];simp only [hev, xk, show m + 2 - 1 = m + 1 from rfl, show m + 1 - 1 = m from rfl, show m + 2 - 2 = m from rfl, znN]
 have h1 : con p (p - 1) = -1 := by
  rw [<- zdv, ku, xC.2 (Int.emod_self)]; exact zh [a] (by rfl)
 rw [h1, pow_succ' a (m + 1), pow_succ' a m];exact zh [a, b, a ^ m, b ^ (m+1), b ^ (m+2)] (by rfl)

theorem zh4 (a b : Poly p) (n : Nat) : vu (a + b) b (n + 1) = (a + b) * vu a b n := by
 induction n with
 | zero =>
  simp only [vu]
  rw [show (((0 : Nat)) : Int) = 0 from rfl, xk]; exact zh [a, b] (by rfl)
 | succ n ih =>
  rw [vu, ih, vu, show (((n + 1 : Nat)) : Int) = (n : Int) + 1 from by omega, <- zgD, ku];exact zh [a, b, vu a b n, con p (n:Int)] (by rfl)

theorem zes (a b : Poly p) : (a + b) ^ p.toNat = a ^ p.toNat + b ^ p.toNat := by
 have h2 := Pr.two (p := p);obtain ⟨m, hm⟩ : ∃ m, p.toNat = m + 1 := ⟨p.toNat - 1, by omega⟩
 have h1 := zer (a + b) b;have h3 := zer a b;rw [hm] at h1 h3 ⊢;rw [zh4] at h1;rw [vu] at h3;simp only [Nat.add_sub_cancel] at h1 h3
 have h4 : con p (m : Int) = -1 := by
  have : (m : Int) = p - 1 := by omega
  rw [this, <- zdv, ku, xC.2 (Int.emod_self)]; exact zh [a] (by rfl)
 rw [h4] at h3;rw [pow_succ' b m];exact comb (-1) h1 (comb (1) h3 (zh [a, b, vu a b m, b^m, a^(m+1), (a+b)^(m+1)] (by rfl)))

theorem zbK (n : Nat) : (1 : Poly p) ^ n = 1 := by
 induction n with
 | zero => exact zt _
 | succ n ih => rw [pow_succ', ih]; exact CR.one_mul 1
theorem zh5 {n : Nat} (h : 0 < n) : (0 : Poly p) ^ n = 0 := by
 obtain ⟨m, rfl⟩ : ∃ m, n = m + 1 := ⟨n - 1, by omega⟩
 rw [pow_succ']; exact CR.mul_zero _
theorem zdx (a b : Poly p) (n : Nat) : (a * b) ^ n = a ^ n * b ^ n := by
 induction n with
 | zero => simp only [zt]; exact (CR.one_mul 1).symm
 | succ n ih => rw [pow_succ', ih, pow_succ', pow_succ']; exact zh [a, b, a^n, b^n] (by rfl)
theorem pow_add (a : Poly p) (n m : Nat) : a ^ (n + m) = a ^ n * a ^ m := by
 induction m with
 | zero => rw [Nat.add_zero, zt]; exact (CR.mul_one _).symm
 | succ m ih => rw [<- Nat.add_assoc, pow_succ', ih, pow_succ']; exact CR.mul_assoc _ _ _
theorem zdy (a : Poly p) (n m : Nat) : a ^ (n * m) = (a ^ n) ^ m := by
 induction m with
 | zero => rw [Nat.mul_zero, zt, zt]
 | succ m ih => rw [Nat.mul_succ, pow_add, ih, pow_succ']

theorem zbL : 0 < p.toNat := by have := Pr.two (p := p); omega

theorem zmt (c : Int) : con p c ^ p.toNat = con p c := by
 have hn : ∀ n : Nat, con p (n : Int) ^ p.toNat = con p (n : Int) := by
  intro n
  induction n with
  | zero => rw [show (((0 : Nat)) : Int) = 0 from rfl, xk, zh5 zbL]
  | succ n ih => rw [show (((n + 1 : Nat)) : Int) = (n : Int) + 1 from by omega, <- zgD, zes, ih, ku, zbK]
 have h1 := Int.emod_nonneg c (show p ≠ 0 by have := Pr.two (p := p); omega);have := hn (c % p).toNat
 rwa [show (((c % p).toNat : Nat) : Int) = c % p by omega, zdw] at this

theorem zmu (a : Poly p) : vu a 1 p.toNat = a ^ p.toNat - a := by
 rw [zer, zbK]; rw [CR.mul_one]
theorem zh6 (a b : Poly p) : (a - b) ^ p.toNat = a ^ p.toNat - b ^ p.toNat := by
 have h := zes (a - b) b;have : a - b + b = a := by exact zh [a, b] (by rfl)
 rw [this] at h;exact comb (-1) h (zh [(a-b)^p.toNat, a^p.toNat, b^p.toNat] (by rfl))
end

end Poly
namespace Poly
variable {p : Int} [SP p]

def Ber (f v : Poly p) : Prop := f ∣ v ^ p.toNat - v

theorem zfS {h v : Poly p} (hi : Irr h) : ∀ {n : Nat}, h ∣ vu v 1 n -> ∃ s, s < n ∧ h ∣ v - con p (s : Int)
 | 0, hd => absurd hd (hi.not_unit yJ)
 | n + 1, hd => by
  rw [vu] at hd;rcases hi.prime hd with h1 | h1
  ·obtain ⟨s, h2, h3⟩ := zfS hi h1;exact ⟨s, by omega, h3⟩
  ·exact ⟨n, by omega, by
    have e : v - con p (n : Int) * 1 = v - con p (n : Int) := by exact zh [v, con p (n:Int)] (by rfl)
    rwa [e] at h1⟩

theorem znO {h v : Poly p} (hi : Irr h) (hd : Ber h v) : ∃ s : Int, 0 <= s ∧ s < p ∧ h ∣ v - con p s := by
 unfold Ber at hd;rw [<- zmu] at hd;obtain ⟨s, h1, h2⟩ := zfS hi hd;exact ⟨s, by omega, by have := Pr.two (p := p); omega, h2⟩

theorem zjq {h v : Poly p} (hi : 2 <= dg h) {s t : Int} (h1 : h ∣ v - con p s) (h2 : h ∣ v - con p t) : s % p = t % p := by
 have h3 : h ∣ con p (s - t) := by
  have := dvd_sub h2 h1;have e : v - con p t - (v - con p s) = con p (s - t) := by rw [<- zdv]; exact zh [v, con p s, con p t] (by rfl)
  rwa [e] at this
 have h4 : con p (s - t) = 0 := by
  refine Classical.byContradiction fun hne => ?_;have := zM h3 hne;have := jO (p := p) (s - t);omega
 have h5 := xC.1 h4;exact Int.emod_eq_emod_iff_emod_sub_eq_zero.2 h5

theorem Ber.dvd {f g v : Poly p} (h : Ber f v) (hd : g ∣ f) : Ber g v := dvd_trans hd h
theorem Ber.congr {f v w : Poly p} (h : Ber f v) (hd : f ∣ v - w) : Ber f w := by
 unfold Ber at *;obtain ⟨q, hq⟩ := hd
 have h1 : f ∣ (v - w) ^ p.toNat - (v - w) := by
  rw [hq, zdx];obtain ⟨m, hm⟩ : ∃ m, p.toNat = m + 1 := ⟨p.toNat - 1, by have := zbL (p := p); omega⟩
  rw [hm, pow_succ' f, pow_succ' q];exact ⟨f ^ m * (q ^ m * q) - q, by exact zh [f, q, f^m, q^m] (by rfl)⟩
 rw [zh6] at h1;have := dvd_sub h h1;have e : v ^ p.toNat - v - (v ^ p.toNat - w ^ p.toNat - (v - w)) = w ^ p.toNat - w := by exact zh [v, w, v ^ p.toNat, w ^ p.toNat] (by rfl)
 rwa [e] at this

theorem zh7 {f part : Poly p} (hf : f ≠ 0) (hs : Sqf f) (hd : part ∣ f) (h2 : 2 <= dg part) (hc : ∀ w, dg w < dg f -> Ber f w -> ∃ s : Int, part ∣ w - con p s) : Irr part := by
 refine ⟨h2, fun a b hab => Classical.byContradiction fun hn => ?_⟩;simp only [not_or] at hn
 obtain ⟨c, hfc⟩ := hd;have hpart : part ≠ 0 := fun e => by rw [e, zA] at h2; omega
 have ha0 : a ≠ 0 := fun e => hpart (by rw [hab, e]; exact zh [b] (by rfl));have hb0 : b ≠ 0 := fun e => hpart (by rw [hab, e]; exact zh [a] (by rfl));have hda : dg a ≠ 0 := fun e => ha0 (ze.1 e);have hdb : dg b ≠ 0 := fun e => hb0 (ze.1 e);have hfa : f = a * (b * c) := by rw [hfc, hab]; exact zh [a, b, c] (by rfl)
 have hcop : Cop a (b * c) := hs.cop hf ⟨1, by rw [<- hfa]; exact zh [f] (by rfl)⟩;obtain ⟨u, v, huv⟩ := hcop
 have hber : Ber f (u * a) := by
  unfold Ber;rw [hfa];have hcop' : Cop a (b * c) := ⟨u, v, huv⟩
  obtain ⟨m, hm⟩ : ∃ m, p.toNat = m + 1 := ⟨p.toNat - 1, by have := zbL (p := p); omega⟩
  refine hcop'.mul_dvd ?_ ?_
  ·rw [hm, pow_succ'];exact ⟨((u * a) ^ m - 1) * u, by exact zh [u, a, (u*a)^m] (by rfl)⟩
  ·have e : u * a = 1 - v * (b * c) := by exact comb (1) huv (zh [u, a, v, b, c] (by rfl))
   rw [e, zh6, zbK, hm, pow_succ'];exact ⟨v - (v * (b * c)) ^ m * v, by exact zh [v, b, c, (v*(b*c))^m] (by rfl)⟩
 have hrem := jN (u * a) f;have hlt := zN (u * a) hf;have hbr : Ber f (rem (u * a) f) := hber.congr ⟨quo (u * a) f, by exact comb (1) hrem (zh [u, a, f, quo (u*a) f, rem (u*a) f] (by rfl))⟩;obtain ⟨s, hs'⟩ := hc _ hlt hbr
 have h3 : part ∣ u * a - con p s := by
  have h4 : part ∣ f := ⟨c, hfc⟩
  have h5 := dvd_add hs' (dvd_mul_left (quo (u * a) f) h4);have e : rem (u * a) f - con p s + quo (u * a) f * f = u * a - con p s := by exact comb (-1) hrem (zh [u, a, f, con p s, quo (u*a) f, rem (u*a) f] (by rfl))
  rwa [e] at h5
 have h6 : a ∣ con p s := by
  have h7 : a ∣ part := ⟨b, hab⟩
  have h8 := dvd_sub (dvd_mul_left u (dvd_refl a)) (dvd_trans h7 h3);have e : u * a - (u * a - con p s) = con p s := by exact zh [u, a, con p s] (by rfl)
  rwa [e] at h8
 have h9 : con p s = 0 := by
  refine Classical.byContradiction fun hne => ?_;have := zM h6 hne;have := jO (p := p) s;omega
 rw [h9] at h3
 have h10 : b ∣ 1 := by
  have h7 : b ∣ part := ⟨a, by rw [hab]; exact zh [a, b] (by rfl)⟩
  have h8 := dvd_trans h7 h3;have h11 : b ∣ v * (b * c) := ⟨v * c, by exact zh [v, b, c] (by rfl)⟩
  have h12 := dvd_add h8 h11;have e : u * a - 0 + v * (b * c) = 1 := by exact comb (1) huv (zh [u, a, v, b, c] (by rfl))
  rwa [e] at h12
 exact hn.2 (zeo yJ h10)

end Poly

def dv (f : Nat -> Int) : Nat -> Int := fun i => ((i : Int) + 1) * f (i + 1)

theorem zoY (f g : Nat -> Int) (k : Nat) : dv (cv f g) k = cv (dv f) g k + cv f (dv g) k := by
 induction k generalizing f with
 | zero => simp [dv, cv]; omega
 | succ k ih =>
  have h1 := ih (fun i => f (i + 1));have e1 : dv (cv (fun i => f (i + 1)) g) k = ((k : Int) + 1) * cv (fun i => f (i + 1)) g (k + 1) := rfl
  have e2 : dv (cv f g) (k + 1) = ((k : Int) + 2) * (f 0 * g (k + 2) + cv (fun i => f (i + 1)) g (k + 1)) := by
   unfold dv; rw [cv]; congr 1
  have e3 : cv (dv f) g (k + 1) = f 1 * g (k + 1) + cv (fun i => dv f (i + 1)) g k := by
   rw [cv]; simp [dv]
  have e4 : cv f (dv g) (k + 1) = f 0 * (((k : Int) + 2) * g (k + 2)) + cv (fun i => f (i + 1)) (dv g) k := by
   rw [cv]; unfold dv; congr 3
  have e5 : (fun i => dv f (i + 1)) = fun i => dv (fun i => f (i + 1)) i + f (i + 1 + 1) := by
   funext i
   unfold dv;rw [show ((i + 1 : Nat) : Int) + 1 = ((i : Int) + 1) + 1 from by omega, Int.add_mul ((i : Int) + 1)]; simp
  have e6 : cv (fun i => f (i + 1)) g (k + 1) = f 1 * g (k + 1) + cv (fun i => f (i + 1 + 1)) g k := by rw [cv]
  rw [e2, e3, e4, e5, zgz];rw [e1] at h1
  have e7 : ((k : Int) + 2) * cv (fun i => f (i + 1)) g (k + 1) = ((k : Int) + 1) * cv (fun i => f (i + 1)) g (k + 1) + cv (fun i => f (i + 1)) g (k + 1) := by
   rw [show (k : Int) + 2 = ((k : Int) + 1) + 1 from by omega, Int.add_mul]; simp
  have e8 : ((k : Int) + 2) * (f 0 * g (k + 2)) = f 0 * (((k : Int) + 2) * g (k + 2)) := by
   rw [<- Int.mul_assoc, Int.mul_comm _ (f 0), Int.mul_assoc]
  rw [Int.mul_add, e7, e8, h1, e6];have e9 : (fun i => dv (fun i => f (i + 1)) i) = dv (fun i => f (i + 1)) := rfl;omega

namespace Poly
variable {p : Int} [SP p]

def der (f : Poly p) : Poly p := of p (mkL (dg f) (dv (cf f.l)))
theorem zcn (f : Poly p) (i : Nat) : cf (der f).l i = dv (cf f.l) i % p := by
 rw [der, yE, vd]
 split
 ·rfl
 ·rename_i h
  unfold dv;rw [yz (f := f) (by omega)]; simp
theorem zov {p : Int} (f : Nat -> Int) (i : Nat) : dv (fun i => f i % p) i % p = dv f i % p := by
 unfold dv;rw [Int.mul_emod, Int.emod_emod_of_dvd _ (Int.dvd_refl p), <- Int.mul_emod]
theorem zgG (f g : Poly p) : der (f * g) = der f * g + f * der g := zR fun i => by
 have e1 : cf (der f).l = fun i => dv (cf f.l) i % p := funext (zcn f);have e2 : cf (der g).l = fun i => dv (cf g.l) i % p := funext (zcn g);rw [zcn, zbh, zov, zoY, yY, xy, xy, e1, e2, zap, zaM (cf f.l) (fun i => dv (cf g.l) i % p), zap, zaM (cf f.l) (dv (cf g.l)), <- Int.add_emod]
theorem zco {f : Poly p} (h : f ≠ 0) : dg (der f) < dg f := by
 have h0 : dg f ≠ 0 := fun e => h (ze.1 e)
 have : dg (der f) <= dg f - 1 := za0 fun i hi => by
  rw [zcn]; unfold dv; rw [yz (f := f) (by omega)]; simp
 omega

theorem zh8 (h : Poly p) (n : Nat) : h ^ n ∣ der (h ^ (n + 1)) := by
 induction n with
 | zero => rw [zt]; exact one_dvd _
 | succ n ih =>
  rw [pow_succ' h (n + 1), zgG, pow_succ' h n];rw [pow_succ' h n] at ih;obtain ⟨q, hq⟩ := ih;rw [hq];exact ⟨q + der h, by exact zh [h, q, der h, h^n] (by rfl)⟩

theorem zet {h f : Poly p} {n : Nat} (hd : h ^ (n + 1) ∣ f) : h ^ n ∣ der f := by
 obtain ⟨u, rfl⟩ := hd;rw [zgG];refine dvd_add (dvd_mul_right _ (zh8 h n)) ?_;rw [pow_succ'];exact ⟨h * der u, by exact zh [h, der u, h^n] (by rfl)⟩

theorem zeu {h : Poly p} (hi : 2 <= dg h) (n : Nat) : n < dg (h ^ n) := by
 have h0 : h ≠ 0 := fun e => by rw [e, zA] at hi; omega
 induction n with
 | zero => rw [zt, yJ]; omega
 | succ n ih =>
  have h1 : h ^ n ≠ 0 := fun e => by rw [e, zA] at ih; omega
  have := yZ h1 h0;rw [pow_succ']; omega

theorem zmv {f q c : Poly p} (hf : f ≠ 0) (he : f = q * c) (hc : ∀ h, h ∣ f -> h ∣ der f -> h ∣ c) : Sqf q := by
 intro h hi hd
 have key : ∀ n : Nat, h ^ n ∣ f := by
  intro n
  induction n with
  | zero => rw [zt]; exact one_dvd _
  | succ n ih =>
   cases n with
   | zero =>
    rw [pow_succ', zt, he];obtain ⟨r, hr⟩ := hd;exact ⟨h * r * c, by exact comb (c) hr (zh [q, c, h, r] (by rfl))⟩
   | succ n =>
    have h1 : h ^ n ∣ f := dvd_trans ⟨h, pow_succ' h n⟩ ih;obtain ⟨a, ha⟩ := hc _ h1 (zet ih);obtain ⟨b, hb⟩ := hd;rw [pow_succ', pow_succ', he, ha, hb];exact ⟨b * a, by exact zh [h, a, b, h^n] (by rfl)⟩
 have h1 := zeu hi.1 (dg f);have h2 := zM (key (dg f)) hf;omega

theorem zmw {f q c rest s : Poly p} (he : f = q * c) (hs : f = rest * s) (hr : rest ≠ 0) (hc : c ∣ der f) (h1 : Cop rest q) (h2 : Cop rest s) : der rest = 0 := by
 have h3 : rest ∣ c := h1.dvd ⟨s, by rw [<- he, hs]⟩;have h4 := dvd_trans h3 hc;rw [hs, zgG] at h4
 have h5 : rest ∣ s * der rest := by
  have := dvd_sub h4 (dvd_mul_right (der s) (dvd_refl rest));have e : der rest * s + rest * der s - rest * der s = s * der rest := by exact zh [der rest, der s, rest, s] (by rfl)
  rwa [e] at this
 have h6 := h2.dvd h5;refine Classical.byContradiction fun hne => ?_;have := zM h6 hne;have := zco hr;omega

theorem zmx (a b : Nat) : mono p 1 a * mono p 1 b = mono p 1 (a + b) := zR fun i => by
 rw [jB, kr, kr]
 by_cases h : a <= i
 ·rw [if_pos h]
  by_cases h' : i = a + b
  ·rw [if_pos (by omega), if_pos h']; simp
  ·rw [if_neg (by omega), if_neg h']; simp
 ·rw [if_neg h, if_neg (by omega)]
theorem zev (a n : Nat) : mono p 1 a ^ n = mono p 1 (a * n) := by
 induction n with
 | zero => rw [zt]; rfl
 | succ n ih => rw [pow_succ', ih, zmx, Nat.mul_succ]

def ev (a : Poly p) : List Int -> Poly p
 | [] => 0
 | c :: l => con p c + a * ev a l

theorem zkg (a : Poly p) (l : List Int) : ev a l ^ p.toNat = ev (a ^ p.toNat) l := by
 induction l with
 | nil => exact zh5 zbL
 | cons c l ih => rw [ev, zes, zmt, zdx, ih, ev]

theorem zew {m : Nat} (hm : 0 < m) (l : List Int) (k : Nat) : cf (ev (mono p 1 m) l).l k = if k % m = 0 then cf l (k / m) % p else 0 := by
 induction l generalizing k with
 | nil => rw [ev, xr, yW]; simp
 | cons c l ih =>
  rw [ev, yY, xz, jB]
  by_cases hk : m <= k
  ·rw [if_pos hk, ih, if_neg (by omega)];have e1 : (k - m) % m = k % m := (Nat.mod_eq_sub_mod hk).symm;have e2 : k / m = (k - m) / m + 1 := Nat.div_eq_sub_div hm hk;rw [e1]
   split
   ·rw [e2, zv]; simp
   ·simp
  ·rw [if_neg hk, Int.add_zero]
   by_cases h0 : k = 0
   ·subst h0; simp [cf]
   ·rw [if_neg h0, if_neg (by rw [Nat.mod_eq_of_lt (by omega)]; exact h0)]; simp

theorem zow (f : Poly p) : ev (mono p 1 1) f.l = f := zR fun i => by
 rw [zew (by omega)]; simp [jM, Nat.mod_one]

theorem zmy (f : Poly p) (k : Nat) : cf (f ^ p.toNat).l k = if k % p.toNat = 0 then cf f.l (k / p.toNat) else 0 := by
 have h1 := zkg (mono p 1 1) f.l;rw [zow, zev, Nat.one_mul] at h1;rw [h1, zew zbL]
 split
 ·exact jM _ _
 ·rfl

theorem zmz {f r : Poly p} (h : der f = 0) (hr : ∀ i, cf r.l i = cf f.l (i * p.toNat)) : r ^ p.toNat = f := by
 refine zR fun k => ?_;rw [zmy]
 split
 ·rename_i hk
  rw [hr, Nat.div_mul_cancel (Nat.dvd_of_mod_eq_zero hk)]
 ·rename_i hk
  cases k with
  | zero => simp at hk
  | succ k =>
   have h1 := zcn f k;rw [h, xr] at h1;unfold dv at h1;refine Classical.byContradiction fun hne => ?_;refine Pr.mul_ne (p := p) (a := (k : Int) + 1) (b := cf f.l (k + 1)) (fun h2 => hk ?_) (ye (Ne.symm hne)) h1.symm
   have h3 : ((k + 1 : Nat) : Int) % ((p.toNat : Nat) : Int) = 0 := by
    have := Pr.two (p := p);rw [show ((p.toNat : Nat) : Int) = p by omega]; exact_mod_cast h2
   exact_mod_cast h3

end Poly

def zF (f : Nat -> Int) : Nat -> Int
 | 0 => 0
 | n + 1 => zF f n + f n

theorem xA {f g : Nat -> Int} {n : Nat} (h : ∀ i, i < n -> f i = g i) : zF f n = zF g n := by
 induction n with
 | zero => rfl
 | succ n ih => rw [zF, zF, ih fun i hi => h i (by omega), h n (by omega)]
theorem jk (f g : Nat -> Int) (n : Nat) : zF (fun i => f i + g i) n = zF f n + zF g n := by
 induction n with
 | zero => rfl
 | succ n ih => simp only [zF, ih]; omega
theorem jl (a : Int) (f : Nat -> Int) (n : Nat) : zF (fun i => a * f i) n = a * zF f n := by
 induction n with
 | zero => simp [zF]
 | succ n ih => simp only [zF, ih, Int.mul_add]
theorem j3 {f : Nat -> Int} {n : Nat} (h : ∀ i, i < n -> f i = 0) : zF f n = 0 := by
 induction n with
 | zero => rfl
 | succ n ih => rw [zF, ih fun i hi => h i (by omega), h n (by omega)]; rfl
theorem yL (p : Int) {f g : Nat -> Int} {n : Nat} (h : ∀ i, i < n -> f i % p = g i % p) : zF f n % p = zF g n % p := by
 induction n with
 | zero => rfl
 | succ n ih => rw [zF, zF, Int.add_emod, ih fun i hi => h i (by omega), h n (by omega), <- Int.add_emod]
theorem vw {f : Nat -> Int} {n k : Nat} (hk : k < n) (h : ∀ i, i < n -> i ≠ k -> f i = 0) : zF f n = f k := by
 induction n with
 | zero => omega
 | succ n ih =>
  rw [zF]
  by_cases he : k = n
  ·subst he; rw [j3 fun i hi => h i (by omega) (by omega)]; simp
  ·rw [ih (by omega) fun i hi hne => h i (by omega) hne, h n (by omega) (by omega)]; simp
theorem zk9 (f : Nat -> Nat -> Int) (n m : Nat) : zF (fun i => zF (f i) m) n = zF (fun j => zF (fun i => f i j) n) m := by
 induction n with
 | zero => simp only [zF]; exact (j3 fun _ _ => rfl).symm
 | succ n ih => simp only [zF, ih, <- jk]

def jE (p : Int) (n : Nat) (r c : Nat -> Int) : Prop := zF (fun i => r i * c i) n % p = 0
def Sol (p : Int) (n m : Nat) (R : Nat -> Nat -> Int) (c : Nat -> Int) : Prop := ∀ k, k < m -> jE p n (R k) c

theorem vz {p : Int} {n : Nat} {r r' c c' : Nat -> Int} (hr : ∀ i, i < n -> r i % p = r' i % p) (hc : ∀ i, i < n -> c i % p = c' i % p) : jE p n r c ↔ jE p n r' c' := by
 unfold jE;rw [yL p (g := fun i => r' i * c' i) fun i hi => by rw [Int.mul_emod, hr i hi, hc i hi, <- Int.mul_emod]]
theorem zfT {p : Int} {n : Nat} {r r' c : Nat -> Int} (a : Int) (h : jE p n r c) (h' : jE p n r' c) : jE p n (fun i => r i + a * r' i) c := by
 unfold jE at *
 have e : zF (fun i => (r i + a * r' i) * c i) n = zF (fun i => r i * c i) n + a * zF (fun i => r' i * c i) n := by
  rw [<- jl, <- jk];exact xA fun i _ => by rw [Int.add_mul, Int.mul_assoc]
 rw [e, Int.add_emod, h, Int.mul_emod, h']; simp
theorem kw {p : Int} {n : Nat} {r c : Nat -> Int} (a : Int) (h : jE p n r c) : jE p n (fun i => a * r i) c := by
 unfold jE at *
 have e : zF (fun i => a * r i * c i) n = a * zF (fun i => r i * c i) n := by
  rw [<- jl];exact xA fun i _ => by rw [Int.mul_assoc]
 rw [e, Int.mul_emod, h]; simp

theorem zmA {p : Int} {n m a b : Nat} {R R' : Nat -> Nat -> Int} (ha : a < m) (hb : b < m) (h1 : R' a = R b) (h2 : R' b = R a) (h3 : ∀ k, k < m -> k ≠ a -> k ≠ b -> R' k = R k) (c : Nat -> Int) : Sol p n m R' c ↔ Sol p n m R c := by
 constructor
 ·intro h k hk
  by_cases hka : k = a
  ·subst hka; rw [<- h2]; exact h b hb
  ·by_cases hkb : k = b
   ·subst hkb; rw [<- h1]; exact h a ha
   ·rw [<- h3 k hk hka hkb]; exact h k hk
 ·intro h k hk
  by_cases hka : k = a
  ·subst hka; rw [h1]; exact h b hb
  ·by_cases hkb : k = b
   ·subst hkb; rw [h2]; exact h a ha
   ·rw [h3 k hk hka hkb]; exact h k hk

structure Steps (p : Int) (n : Nat) (col : Nat) (piv : List Nat) (R : Nat -> Nat -> Int) : Prop where
 le : piv.length <= n
 lt : ∀ x ∈ piv, x < col
 nodup : piv.Nodup
 one : ∀ i x, piv[i]? = some x -> R i x % p = 1
 zero : ∀ i x, piv[i]? = some x -> ∀ k, k < n -> k ≠ i -> R k x % p = 0
 rest : ∀ k, piv.length <= k -> k < n -> ∀ x, x < col -> R k x % p = 0

theorem Steps.start (p : Int) (n : Nat) (R : Nat -> Nat -> Int) : Steps p n 0 [] R :=
 ⟨by simp, by simp, by simp, by simp, by simp, fun k _ _ x hx => by omega⟩

theorem Steps.skip {p : Int} {n col : Nat} {piv : List Nat} {R : Nat -> Nat -> Int} (h : Steps p n col piv R) (h0 : ∀ k, piv.length <= k -> k < n -> R k col % p = 0) : Steps p n (col + 1) piv R :=
 ⟨h.le, fun x hx => by have := h.lt x hx; omega, h.nodup, h.one, h.zero, fun k hk hkn x hx => by
  by_cases he : x = col
  ·subst he; exact h0 k hk hkn
  ·exact h.rest k hk hkn x (by omega)⟩

def jm (_p : Int) (piv : List Nat) (R : Nat -> Nat -> Int) (col : Nat) (x : Nat) : Int :=
 if x = col then 1 else match piv.idxOf? x with | some i => -(R i col) | none => 0

theorem zZ (p a : Int) : a % p % p = a % p := Int.emod_emod_of_dvd _ (Int.dvd_refl p)
theorem mul_mod_left {p a a' : Int} (b : Int) (h : a % p = a' % p) : a * b % p = a' * b % p := by rw [Int.mul_emod, h, <- Int.mul_emod]
theorem yN {p a a' : Int} (b : Int) (h : a % p = a' % p) : b * a % p = b * a' % p := by rw [Int.mul_emod, h, <- Int.mul_emod]
theorem yc {p a : Int} (b : Int) (h : a % p = 0) : b * a % p = 0 := by rw [Int.mul_emod, h]; simp
theorem zaN {p a a' b b' : Int} (h : a % p = a' % p) (k : b % p = b' % p) : (a - b) % p = (a' - b') % p := by rw [Int.sub_emod, h, k, <- Int.sub_emod]

theorem Steps.pivot {p : Int} {n col : Nat} {piv : List Nat} {R R' : Nat -> Nat -> Int} {s : Int} (h : Steps p n col piv R) (hp : (1 : Int) % p = 1) (hc : col < n) (hat : piv.length < n) (hs : s * R piv.length col % p = 1)
  (h1 : ∀ x, x < n -> R' piv.length x % p = (s * R piv.length x) % p)
  (h2 : ∀ i, i < n -> i ≠ piv.length -> ∀ x, x < n -> R' i x % p = (R i x - R i col * (s * R piv.length x)) % p) : Steps p n (col + 1) (piv ++ [col]) R' := by
 have hnew : ∀ i x, (piv ++ [col])[i]? = some x -> (i < piv.length ∧ piv[i]? = some x) ∨ (i = piv.length ∧ x = col) := by
  intro i x hx;rcases Nat.lt_or_ge i piv.length with hlt | hge
  ·rw [List.getElem?_append_left hlt] at hx; exact .inl ⟨hlt, hx⟩
  ·rw [List.getElem?_append_right hge] at hx;cases hi : i - piv.length with
   | zero => rw [hi] at hx; simp at hx; exact .inr ⟨by omega, hx.symm⟩
   | succ j => rw [hi] at hx; simp at hx
 have hzat : ∀ x, x < col -> R piv.length x % p = 0 := fun x hx => h.rest _ (Nat.le_refl _) hat x hx
 have hkeep : ∀ i, i < n -> i ≠ piv.length -> ∀ x, x < col -> R' i x % p = R i x % p := fun i hi hne x hx => by
  rw [h2 i hi hne x (by omega), <- Int.sub_zero (R i x)];refine (zaN (by rw [Int.sub_zero]) ?_).trans (by rw [Int.sub_zero]);rw [<- Int.mul_assoc, yc _ (hzat x hx)]; simp
 have hcol : ∀ i, i < n -> i ≠ piv.length -> R' i col % p = 0 := fun i hi hne => by
  rw [h2 i hi hne col hc];have : (R i col - R i col * (s * R piv.length col)) % p = (R i col - R i col * 1) % p := zaN rfl (yN _ (by rw [hs, hp]));rw [this]; simp
 refine ⟨by simp; omega, fun x hx => ?_, ?_, fun i x hx => ?_, fun i x hx k hk hne => ?_, fun k hk hkn x hx => ?_⟩
 ·rcases List.mem_append.1 hx with hx | hx
  ·have := h.lt x hx; omega
  ·simp at hx; omega
 ·refine List.nodup_append.2 ⟨h.nodup, by simp, fun a ha b hb => ?_⟩;simp at hb
  have := h.lt a ha;omega
 ·rcases hnew i x hx with ⟨hi, hx'⟩ | ⟨rfl, rfl⟩
  ·have hxc := h.lt x (List.mem_of_getElem? hx');rw [hkeep i (by have := h.le; omega) (by omega) x hxc]; exact h.one i x hx'
  ·rw [h1 _ hc]; exact hs
 ·rcases hnew i x hx with ⟨hi, hx'⟩ | ⟨rfl, rfl⟩
  ·have hxc := h.lt x (List.mem_of_getElem? hx')
   by_cases hka : k = piv.length
   ·subst hka;rw [h1 x (by omega), yc _ (hzat x hxc)]
   ·rw [hkeep k hk hka x hxc]; exact h.zero i x hx' k hk hne
  ·exact hcol k hk hne
 ·simp only [List.length_append, List.length_singleton] at hk
  by_cases hxc : x = col
  ·subst hxc; exact hcol k hkn (by omega)
  ·rw [hkeep k hkn (by omega) x (by omega)]; exact h.rest k (by omega) hkn x (by omega)

theorem Steps.swap {p : Int} {n col : Nat} {piv : List Nat} {R R' : Nat -> Nat -> Int} {b : Nat} (h : Steps p n col piv R) (hb : piv.length <= b) (hbn : b < n) (h1 : R' piv.length = R b) (h2 : R' b = R piv.length) (h3 : ∀ k, k < n -> k ≠ piv.length -> k ≠ b -> R' k = R k) : Steps p n col piv R' := by
 have hlow : ∀ i, i < piv.length -> R' i = R i := fun i hi => h3 i (by omega) (by omega) (by omega)
 have hrest : ∀ k, piv.length <= k -> k < n -> ∀ x, x < col -> R' k x % p = 0 := fun k hk hkn x hx => by
  by_cases hka : k = piv.length
  ·subst hka; rw [h1]; exact h.rest b hb hbn x hx
  ·by_cases hkb : k = b
   ·subst hkb; rw [h2]; exact h.rest _ (Nat.le_refl _) (by omega) x hx
   ·rw [h3 k hkn hka hkb]; exact h.rest k hk hkn x hx
 refine ⟨h.le, h.lt, h.nodup, fun i x hx => ?_, fun i x hx k hk hne => ?_, hrest⟩
 ·rw [hlow i (List.getElem?_eq_some_iff.1 hx).1]; exact h.one i x hx
 ·rcases Nat.lt_or_ge k piv.length with hlt | hge
  ·rw [hlow k hlt]; exact h.zero i x hx k hk hne
  ·exact hrest k hge hk x (h.lt x (List.mem_of_getElem? hx))

theorem kz {piv : List Nat} (hn : piv.Nodup) {i x : Nat} (h : piv[i]? = some x) : piv.idxOf? x = some i := by
 obtain ⟨hi, he⟩ := List.getElem?_eq_some_iff.1 h;rw [List.idxOf?_eq_some_iff];refine ⟨hi, by simpa using he, fun j hj => ?_⟩;have h1 : piv[j]'(by omega) ≠ piv[i] := List.pairwise_iff_getElem.1 hn j i (by omega) hi hj;simp only [ne_eq]
 rw [<- he]; exact h1
theorem zbM {piv : List Nat} {x : Nat} (h : x ∉ piv) : piv.idxOf? x = none := by
 rw [List.idxOf?_eq_none_iff]; exact h

theorem zmB {f : Nat -> Int} {n a b : Nat} (hab : a ≠ b) (ha : a < n) (hb : b < n) (h : ∀ i, i < n -> i ≠ a -> i ≠ b -> f i = 0) : zF f n = f a + f b := by
 have e : zF f n = zF (fun i => (if i = a then f i else 0) + (if i = a then 0 else f i)) n := xA fun i _ => by split <;> simp
 rw [e, jk, vw ha fun i _ hne => by simp [hne], vw (k := b) hb fun i hi hne => by
  by_cases hia : i = a
  ·simp [hia]
  ·simp [hia, h i hi hia hne]]
 simp [Ne.symm hab]

theorem Steps.free {p : Int} {n : Nat} {piv : List Nat} {R : Nat -> Nat -> Int} (h : Steps p n n piv R) {col : Nat} (hc : col < n) (hf : col ∉ piv) : Sol p n n R (jm p piv R col) := by
 intro k hk;unfold jE;rcases Nat.lt_or_ge k piv.length with hlt | hge
 ·have hx := List.getElem?_eq_getElem hlt;have hxl := h.lt _ (List.mem_of_getElem? hx);have hne : piv[k] ≠ col := fun e => hf (e ▸ List.getElem_mem hlt)
  have e1 : zF (fun x => R k x * jm p piv R col x) n % p = zF (fun x => if x = piv[k] then -(R k col) else if x = col then R k col else 0) n % p := by
   refine yL p fun x hxn => ?_
   by_cases hxc : x = col
   ·subst hxc;simp [jm, Ne.symm hne]
   ·by_cases hxp : x ∈ piv
    ·obtain ⟨i, hi, he⟩ := List.mem_iff_getElem.1 hxp;have hix : piv[i]? = some x := by rw [List.getElem?_eq_getElem hi, he]
     have e2 : jm p piv R col x = -(R i col) := by simp [jm, hxc, kz h.nodup hix]
     rw [e2]
     by_cases hik : i = k
     ·subst hik;have h1 := h.one i x hix;simp only [he, if_true]
      rw [mul_mod_left (a' := 1) _ (by
       rw [h1];have := zZ p (R i x);rw [h1] at this; exact this.symm)]
      simp
     ·have h0 := h.zero i x hix k hk (Ne.symm hik)
      have hne2 : x ≠ piv[k] := fun e => hik (by
       have := kz h.nodup hix;rw [e, kz h.nodup hx] at this;exact (Option.some.inj this).symm)
      rw [if_neg hne2, if_neg hxc, Int.mul_comm, yc _ h0]; simp
    ·have hne2 : x ≠ piv[k] := fun e => hxp (e ▸ List.getElem_mem hlt);simp [jm, hxc, zbM hxp, hne2]
  rw [e1, zmB (a := piv[k]) (b := col) hne hxl hc fun i _ h1 h2 => by simp [h1, h2]];simp [Ne.symm hne, Int.add_left_neg]
 ·rw [yL p (g := fun _ => 0) fun x hx => by rw [Int.mul_comm, yc _ (h.rest k hge hk x hx)]; simp, j3 fun _ _ => rfl]; simp

theorem Steps.all {p : Int} {n : Nat} {piv : List Nat} {R : Nat -> Nat -> Int} (h : Steps p n n piv R) {c : Nat -> Int} (hs : Sol p n n R c) : ∀ x, x < n -> c x % p = zF (fun col => if col ∈ piv then 0 else c col * jm p piv R col x) n % p := by
 intro x hx
 by_cases hxp : x ∈ piv
 ·obtain ⟨i, hi, he⟩ := List.mem_iff_getElem.1 hxp;have hix : piv[i]? = some x := by rw [List.getElem?_eq_getElem hi, he]
  have hin : i < n := by have := h.le; omega
  have h1 := hs i hin;unfold jE at h1
  have e1 : zF (fun col => R i col * c col) n % p = zF (fun col => (if col = x then c x else 0) + (if col ∈ piv then 0 else R i col * c col)) n % p := by
   refine yL p fun col hcn => ?_
   by_cases hcp : col ∈ piv
   ·obtain ⟨j, hj, hje⟩ := List.mem_iff_getElem.1 hcp;have hjc : piv[j]? = some col := by rw [List.getElem?_eq_getElem hj, hje]
    by_cases hij : j = i
    ·subst hij;have hcx : col = x := by rw [hix] at hjc; exact (Option.some.inj hjc).symm
     subst hcx;have h2 := h.one j col hjc;simp only [if_true, hcp, Int.add_zero]
     rw [mul_mod_left (a' := 1) _ (by
      rw [h2];have := zZ p (R j col);rw [h2] at this; exact this.symm)]
     simp
    ·have hcx : col ≠ x := fun e => hij (by
      have := kz h.nodup hix;rw [<- e, kz h.nodup hjc] at this;exact Option.some.inj this)
     rw [if_neg hcx, if_pos hcp, Int.mul_comm, yc _ (h.zero j col hjc i hin (Ne.symm hij))]; simp
   ·have hcx : col ≠ x := fun e => hcp (e ▸ hxp);simp [hcx, hcp]
  rw [e1, jk, vw (k := x) hx fun i _ hne => by simp [hne]] at h1;simp only [if_true] at h1
  have e2 : zF (fun col => if col ∈ piv then 0 else c col * jm p piv R col x) n = -1 * zF (fun col => if col ∈ piv then 0 else R i col * c col) n := by
   rw [<- jl];refine xA fun col _ => ?_
   by_cases hcp : col ∈ piv
   ·simp [hcp]
   ·have hcx : x ≠ col := fun e => hcp (e ▸ hxp);simp only [hcp, if_false]
    simp only [jm, hcx, if_false, kz h.nodup hix]
    rw [Int.mul_comm, Int.neg_mul]; omega
  rw [e2];have h3 : c x = (c x + zF (fun col => if col ∈ piv then 0 else R i col * c col) n) - zF (fun col => if col ∈ piv then 0 else R i col * c col) n := by omega
  rw [h3, Int.sub_emod, h1];rw [show -1 * zF (fun col => if col ∈ piv then 0 else R i col * c col) n = 0 - zF (fun col => if col ∈ piv then 0 else R i col * c col) n from by omega, Int.sub_emod 0];simp [znJ]
 ·rw [vw (k := x) hx fun i _ hne => by
   by_cases hip : i ∈ piv
   ·simp [hip]
   ·simp [hip, jm, Ne.symm hne, zbM hxp]]
  simp [hxp, jm]


structure Half (p : Int) (n : Nat) (M : Nat -> Nat -> Int) (col : Nat) (used : Nat -> Prop) (L T : Nat -> Nat -> Int) : Prop where
 comb : ∀ k, k < n -> ∀ x, x < n -> L k x % p = zF (fun j => T k j * M j x) n % p
 span : ∀ c : Nat -> Int, ∃ d : Nat -> Int, ∀ j, j < n -> c j % p = zF (fun k => d k * T k j) n % p
 piv : ∀ k, k < n -> used k -> ∃ x, x < col ∧ x < n ∧ L k x % p ≠ 0 ∧ ∀ k', k' < n -> k' ≠ k -> L k' x % p = 0
 rest : ∀ k, k < n -> ¬ used k -> ∀ x, x < col -> L k x % p = 0

theorem Half.start (p : Int) (n : Nat) (M T : Nat -> Nat -> Int) (hT : ∀ i, i < n -> ∀ j, j < n -> T i j = if i = j then 1 else 0) : Half p n M 0 (fun _ => False) M T := by
 refine ⟨fun k hk x hx => ?_, fun c => ⟨c, fun j hj => ?_⟩, fun k _ h => h.elim, fun k _ _ x hx => by omega⟩
 ·rw [vw (k := k) hk fun i hi hne => by rw [hT k hk i hi]; simp [Ne.symm hne], hT k hk k hk]; simp
 ·rw [vw (k := j) hj fun i hi hne => by rw [hT i hi j hj]; simp [hne], hT j hj j hj]; simp

theorem Half.skip {p : Int} {n : Nat} {M : Nat -> Nat -> Int} {col : Nat} {used : Nat -> Prop} {L T : Nat -> Nat -> Int} (h : Half p n M col used L T) (h0 : ∀ k, k < n -> ¬ used k -> L k col % p = 0) : Half p n M (col + 1) used L T :=
 ⟨h.comb, h.span, fun k hk hu => by obtain ⟨x, h1, h2⟩ := h.piv k hk hu; exact ⟨x, by omega, h2⟩, fun k hk hu x hx => by
  by_cases he : x = col
  ·subst he; exact h0 k hk hu
  ·exact h.rest k hk hu x (by omega)⟩

theorem Half.pivot {p : Int} {n : Nat} {M : Nat -> Nat -> Int} {col : Nat} {used : Nat -> Prop} {L T L' T' : Nat -> Nat -> Int} {at' : Nat} {q : Nat -> Int} (h : Half p n M col used L T) (hc : col < n) (hat : at' < n) (hu : ¬ used at') (hne : L at' col % p ≠ 0)
  (hq0 : q at' = 0) (hq : ∀ i, i < n -> i ≠ at' -> q i * L at' col % p = L i col % p) (hL : ∀ i, i < n -> ∀ x, x < n -> L' i x % p = (L i x - q i * L at' x) % p) (hT : ∀ i, i < n -> ∀ x, x < n -> T' i x % p = (T i x - q i * T at' x) % p) :
  Half p n M (col + 1) (fun k => k = at' ∨ used k) L' T' := by
 have hLat : ∀ x, x < n -> L' at' x % p = L at' x % p := fun x hx => by rw [hL _ hat x hx, hq0]; simp
 have hTat : ∀ x, x < n -> T' at' x % p = T at' x % p := fun x hx => by rw [hT _ hat x hx, hq0]; simp
 have hzat : ∀ x, x < col -> L at' x % p = 0 := fun x hx => h.rest at' hat hu x hx
 have hkeep : ∀ i, i < n -> ∀ x, x < col -> L' i x % p = L i x % p := fun i hi x hx => by
  rw [hL i hi x (by omega)];refine (zaN (a' := L i x) (b' := 0) rfl (by rw [yc _ (hzat x hx)]; simp)).trans (by rw [Int.sub_zero])
 have hcol : ∀ i, i < n -> i ≠ at' -> L' i col % p = 0 := fun i hi hne => by
  rw [hL i hi col hc];exact (zaN rfl (hq i hi hne)).trans (by simp)
 refine ⟨fun k hk x hx => ?_, fun c => ?_, fun k hk hu' => ?_, fun k hk hu' x hx => ?_⟩
 ·have e1 : zF (fun j => T' k j * M j x) n % p = zF (fun j => T k j * M j x + -q k * (T at' j * M j x)) n % p := by
   refine yL p fun j hj => ?_;rw [mul_mod_left _ (hT k hk j hj)]
   congr 1
   rw [Int.sub_mul, Int.mul_assoc, Int.neg_mul]; omega
  rw [e1, jk, jl, hL k hk x hx];have e2 : zF (fun j => T k j * M j x) n + -q k * zF (fun j => T at' j * M j x) n = zF (fun j => T k j * M j x) n - q k * zF (fun j => T at' j * M j x) n := by rw [Int.neg_mul]; omega
  rw [e2];exact zaN (h.comb k hk x hx) (yN _ (h.comb at' hat x hx))
 ·obtain ⟨d, hd⟩ := h.span c;refine ⟨fun k => d k + if k = at' then zF (fun i => d i * q i) n else 0, fun j hj => ?_⟩;rw [hd j hj]
  have e1 : zF (fun k => d k * T k j) n % p = zF (fun k => d k * T' k j + T' at' j * (d k * q k)) n % p := by
   refine yL p fun k hk => ?_
   have h1 : T k j % p = (T' k j + q k * T' at' j) % p := by
    have h2 := hT k hk j hj;rw [Int.add_emod, h2, Int.mul_emod, hTat j hj, <- Int.mul_emod, <- Int.add_emod]
    congr 1; omega
   rw [yN _ h1]
   congr 1
   rw [Int.mul_add, <- Int.mul_assoc, Int.mul_comm (T' at' j)]
  rw [e1, jk, jl]
  have e2 : zF (fun k => (d k + if k = at' then zF (fun i => d i * q i) n else 0) * T' k j) n = zF (fun k => d k * T' k j + (if k = at' then zF (fun i => d i * q i) n * T' k j else 0)) n := by
   refine xA fun k _ => ?_;rw [Int.add_mul]; split <;> simp
  rw [e2, jk, vw (k := at') (f := fun k => if k = at' then zF (fun i => d i * q i) n * T' k j else 0) hat fun i _ hne => by simp [hne]];simp [Int.mul_comm]
 ·by_cases hka : k = at'
  ·subst hka;refine ⟨col, by omega, hc, ?_, fun k' hk' hne' => hcol k' hk' hne'⟩;rw [hLat col hc]; exact hne
  ·obtain ⟨x, h1, h2, h3, h4⟩ := h.piv k hk (hu'.resolve_left hka);refine ⟨x, by omega, h2, by rw [hkeep k hk x h1]; exact h3, fun k' hk' hne' => ?_⟩;rw [hkeep k' hk' x h1]; exact h4 k' hk' hne'
 ·simp only [not_or] at hu'
  by_cases hxc : x = col
  ·subst hxc; exact hcol k hk hu'.1
  ·rw [hkeep k hk x (by omega)]; exact h.rest k hk hu'.2 x (by omega)

theorem Half.free {p : Int} {n : Nat} {M : Nat -> Nat -> Int} {used : Nat -> Prop} {L T : Nat -> Nat -> Int} (h : Half p n M n used L T) {k : Nat} (hk : k < n) (hu : ¬ used k) : ∀ x, x < n -> zF (fun j => T k j * M j x) n % p = 0 := fun x hx => by
 rw [<- h.comb k hk x hx]; exact h.rest k hk hu x hx

theorem Half.all {p : Int} [Pr p] {n : Nat} {M : Nat -> Nat -> Int} {used : Nat -> Prop} {L T : Nat -> Nat -> Int} (h : Half p n M n used L T) {w : Nat -> Int} (hw : ∀ x, x < n -> zF (fun j => w j * M j x) n % p = 0)
  {j : Nat} (hj : j < n) (h0 : ∀ k, k < n -> ¬ used k -> T k j % p = 0) : w j % p = 0 := by
 obtain ⟨d, hd⟩ := h.span w
 have h1 : ∀ x, x < n -> zF (fun k => d k * L k x) n % p = 0 := by
  intro x hx
  have e1 : zF (fun k => d k * L k x) n % p = zF (fun k => zF (fun j => d k * (T k j * M j x)) n) n % p := by
   refine yL p fun k hk => ?_;rw [jl, yN _ (h.comb k hk x hx)]
  rw [e1, zk9, <- hw x hx];refine yL p fun j hj => ?_;rw [mul_mod_left _ (hd j hj)]
  congr 1
  rw [Int.mul_comm _ (M j x), <- jl];exact xA fun k _ => by rw [<- Int.mul_assoc, Int.mul_comm]
 have h2 : ∀ k, k < n -> used k -> d k % p = 0 := by
  intro k hk hu;obtain ⟨x, _, hxn, h3, h4⟩ := h.piv k hk hu;have h5 := h1 x hxn
  rw [yL p (g := fun k' => if k' = k then d k * L k x else 0) fun k' hk' => by
   by_cases he : k' = k
   ·subst he; simp
   ·rw [yc _ (h4 k' hk' he)]; simp [he], vw (k := k) hk fun i _ hne => by simp [hne]] at h5
  simp only [if_true] at h5
  exact Classical.byContradiction fun hne => Pr.mul_ne hne h3 h5
 rw [hd j hj, yL p (g := fun _ => 0) fun k hk => by
  by_cases hu : used k
  ·rw [Int.mul_comm, yc _ (h2 k hk hu)]; simp
  ·rw [yc _ (h0 k hk hu)]; simp, j3 fun _ _ => rfl]
 simp

namespace Poly
variable {p : Int} [SP p]

def yi (g : Nat -> Poly p) : Nat -> Poly p
 | 0 => 0
 | n + 1 => yi g n + g n
theorem zjr (g : Nat -> Poly p) (n : Nat) : yi g (n + 1) = g 0 + yi (fun i => g (i + 1)) n := by
 induction n with
 | zero => simp only [yi]; exact zh [g 0] (by rfl)
 | succ n ih => rw [yi, ih, yi]; exact CR.add_assoc _ _ _
theorem zex {f g : Nat -> Poly p} {n : Nat} (h : ∀ i, i < n -> f i = g i) : yi f n = yi g n := by
 induction n with
 | zero => rfl
 | succ n ih => rw [yi, yi, ih fun i hi => h i (by omega), h n (by omega)]
theorem zmC (a : Poly p) (g : Nat -> Poly p) (n : Nat) : yi (fun i => a * g i) n = a * yi g n := by
 induction n with
 | zero => simp only [yi]; exact (CR.mul_zero a).symm
 | succ n ih => simp only [yi, ih]; exact (CR.mul_add _ _ _).symm
theorem zh9 (f g : Nat -> Poly p) (n : Nat) : yi (fun i => f i - g i) n = yi f n - yi g n := by
 induction n with
 | zero => simp only [yi]; exact (CR.sub_self 0).symm
 | succ n ih => simp only [yi, ih]; exact zh [yi f n, yi g n, f n, g n] (by rfl)
theorem zla {f : Nat -> Poly p} {n : Nat} (h : ∀ i, i < n -> f i = 0) : yi f n = 0 := by
 induction n with
 | zero => rfl
 | succ n ih => rw [yi, ih fun i hi => h i (by omega), h n (by omega)]; exact CR.add_zero 0
theorem zmD {f : Poly p} {g : Nat -> Poly p} {n : Nat} (h : ∀ i, i < n -> f ∣ g i) : f ∣ yi g n := by
 induction n with
 | zero => exact dvd_zero _
 | succ n ih => exact dvd_add (ih fun i hi => h i (by omega)) (h n (by omega))
theorem zgH (c : Nat -> Int) (g : Nat -> Poly p) (n x : Nat) : cf (yi (fun j => con p (c j) * g j) n).l x = zF (fun j => cf (g j).l x * c j) n % p := by
 induction n with
 | zero => rw [yi, xr, zF]; simp
 | succ n ih => rw [yi, yY, ih, zen, zF, <- Int.add_emod, Int.mul_comm (c n)]
theorem znP {g : Nat -> Poly p} {n m : Nat} (h : ∀ i, i < n -> dg (g i) <= m) : dg (yi g n) <= m := by
 induction n with
 | zero => rw [yi, zA]; omega
 | succ n ih =>
  have h1 := ih fun i hi => h i (by omega);have h2 := h n (by omega);have := zmo (yi g n) (g n);rw [yi]; omega

theorem zmE (a : Poly p) (l : List Int) {n : Nat} (h : l.length <= n) : ev a l = yi (fun j => con p (cf l j) * a ^ j) n := by
 induction l generalizing n with
 | nil => exact (zla fun i _ => by rw [yW, xk]; exact CR.zero_mul _).symm
 | cons c l ih =>
  obtain ⟨m, rfl⟩ : ∃ m, n = m + 1 := ⟨n - 1, by simp at h; omega⟩
  rw [ev, ih (n := m) (by simpa using h), zjr, <- zmC, yb, zt]
  have : yi (fun i => con p (cf (c :: l) (i + 1)) * a ^ (i + 1)) m = yi (fun i => a * (con p (cf l i) * a ^ i)) m := zex fun i _ => by
   rw [zv, pow_succ']; exact zh [con p (cf l i), a, a^i] (by rfl)
  rw [this]; rw [CR.mul_one]

abbrev X (p : Int) [Pos p] : Poly p := mono p 1 1

noncomputable def zas (f : Poly p) (i : Nat) : Poly p := rem (X p ^ (p.toNat * i)) f - X p ^ i

theorem dg_X (i : Nat) : dg (X p ^ i) <= i + 1 := by
 rw [zev];exact za0 fun j hj => by rw [kr, if_neg (by omega)]

theorem znQ {f : Poly p} {n i : Nat} (hf : dg f = n + 1) (hi : i < n) : dg (zas f i) <= n := by
 have hf0 : f ≠ 0 := fun e => by rw [e, zA] at hf; omega
 have h1 := zN (X p ^ (p.toNat * i)) hf0;have h2 := dg_X (p := p) i;have h3 := zbi (rem (X p ^ (p.toNat * i)) f) (X p ^ i);unfold zas; omega

theorem zgI {f w : Poly p} {n : Nat} (hf : dg f = n + 1) (hw : dg w <= n) : Ber f w ↔ ∀ x, x < n -> zF (fun j => cf (zas f j).l x * cf w.l j) n % p = 0 := by
 have hf0 : f ≠ 0 := fun e => by rw [e, zA] at hf; omega
 have h1 : w ^ p.toNat - w = yi (fun j => con p (cf w.l j) * (X p ^ (p.toNat * j) - X p ^ j)) n := by
  have e1 := zkg (X p) w.l;rw [zow, zmE _ _ hw] at e1;have e2 := zow w;rw [zmE (X p) w.l hw] at e2
  have e3 : yi (fun j => con p (cf w.l j) * (X p ^ p.toNat) ^ j) n - yi (fun j => con p (cf w.l j) * X p ^ j) n = yi (fun j => con p (cf w.l j) * (X p ^ (p.toNat * j) - X p ^ j)) n := by
   rw [<- zh9];exact zex fun j _ => by rw [zdy]; exact zh [con p (cf w.l j), X p ^ j, (X p ^ p.toNat) ^ j] (by rfl)
  rwa [e2, <- e1] at e3
 have h2 : f ∣ (w ^ p.toNat - w) - yi (fun j => con p (cf w.l j) * zas f j) n := by
  rw [h1, <- zh9];refine zmD fun j _ => ?_;have := jN (X p ^ (p.toNat * j)) f;unfold zas;exact ⟨con p (cf w.l j) * quo (X p ^ (p.toNat * j)) f, by exact comb (con p (cf w.l j)) this (zh [f, con p (cf w.l j), X p ^ j, X p ^ (p.toNat * j), quo (X p ^ (p.toNat * j)) f, rem (X p ^ (p.toNat * j)) f] (by rfl))⟩
 have h3 : dg (yi (fun j => con p (cf w.l j) * zas f j) n) <= n := znP fun i hi => by
  have h4 := znQ hf hi;have h5 := j2 (con p (cf w.l i)) (zas f i);have h6 := jO (p := p) (cf w.l i);omega
 have h4 : Ber f w ↔ yi (fun j => con p (cf w.l j) * zas f j) n = 0 := by
  unfold Ber
  constructor
  ·intro h;refine Classical.byContradiction fun hne => ?_;have h5 := dvd_sub h h2;have e : w ^ p.toNat - w - (w ^ p.toNat - w - yi (fun j => con p (cf w.l j) * zas f j) n) = yi (fun j => con p (cf w.l j) * zas f j) n := by exact zh [w ^ p.toNat, w, yi (fun j => con p (cf w.l j) * zas f j) n] (by rfl)
   rw [e] at h5;have := zM h5 hne;omega
  ·intro h;rw [h] at h2;have e : w ^ p.toNat - w - 0 = w ^ p.toNat - w := by exact zh [w ^ p.toNat, w] (by rfl)
   rwa [e] at h2
 rw [h4]
 constructor
 ·intro h x _;rw [<- zgH, h, xr]
 ·intro h;refine zR fun x => ?_;rw [xr];rcases Nat.lt_or_ge x n with hx | hx
  ·rw [zgH]; exact h x hx
  ·exact yz (by omega)

end Poly
namespace Poly
variable {p : Int} [SP p]

def zU (h : Poly p) (e : Nat) (f : Poly p) : Prop := ∃ u, f = h ^ e * u ∧ ¬ h ∣ u

theorem zU.unique {h f : Poly p} (hh : h ≠ 0) {e e' : Nat} (h1 : zU h e f) (h2 : zU h e' f) : e = e' := by
 have key : ∀ {e e' : Nat} {u u' : Poly p}, h ^ e * u = h ^ e' * u' -> ¬ h ∣ u' -> e <= e' := by
  intro e e' u u' he hn;rcases Nat.lt_or_ge e' e with hlt | hge
  ·exfalso
   obtain ⟨k, rfl⟩ : ∃ k, e = e' + k + 1 := ⟨e - e' - 1, by omega⟩
   have hp0 : h ^ e' ≠ 0 := by
    clear he hlt
    induction e' with
    | zero => rw [zt]; exact zgA
    | succ n ih => rw [pow_succ']; exact mul_ne ih hh
   rw [Nat.add_assoc, pow_add] at he;have h3 : h ^ e' * (h ^ (k + 1) * u) = h ^ e' * u' := by exact comb (1) he (zh [u, u', h^e', h^(k+1)] (by rfl))
   have h4 := zel hp0 h3;exact hn ⟨h ^ k * u, by rw [<- h4, pow_succ']; exact zh [h, u, h^k] (by rfl)⟩
  ·exact hge
 obtain ⟨u, h3, h4⟩ := h1;obtain ⟨u', h5, h6⟩ := h2;exact Nat.le_antisymm (key (h3.symm.trans h5) h6) (key (h5.symm.trans h3) h4)

theorem zU.mul {h f g : Poly p} (hi : Irr h) {e e' : Nat} (h1 : zU h e f) (h2 : zU h e' g) : zU h (e + e') (f * g) := by
 obtain ⟨u, rfl, h4⟩ := h1;obtain ⟨u', rfl, h6⟩ := h2;exact ⟨u * u', by rw [pow_add]; exact zh [u, u', h^e, h^e'] (by rfl), fun hd => (hi.prime hd).elim h4 h6⟩
theorem y0 {h f : Poly p} : zU h 0 f ↔ ¬ h ∣ f := by
 constructor
 ·rintro ⟨u, rfl, hn⟩;rw [zt];have : 1 * u = u := by exact zh [u] (by rfl)
  rwa [this]
 ·intro hn;exact ⟨f, by rw [zt]; exact zh [f] (by rfl), hn⟩
theorem zU.pow {h f : Poly p} (hi : Irr h) {e : Nat} (h1 : zU h e f) (n : Nat) : zU h (e * n) (f ^ n) := by
 induction n with
 | zero => rw [Nat.mul_zero, zt, y0]; exact hi.not_unit yJ
 | succ n ih => rw [Nat.mul_succ, pow_succ']; exact ih.mul hi h1
theorem zia {h : Poly p} (hi : Irr h) : zU h 1 h := ⟨1, by
 have e : h ^ 1 = h := by rw [show (1 : Nat) = 0 + 1 from rfl, pow_succ', zt]; exact zh [h] (by rfl)
 rw [e]; exact zh [h] (by rfl), hi.not_unit yJ⟩
theorem jF {h : Poly p} (hi : 2 <= dg h) : ∀ (n : Nat) (f : Poly p), f ≠ 0 -> dg f <= n -> ∃ e, zU h e f := by
 intro n
 induction n with
 | zero => intro f hf hn; exact absurd (ze.1 (by omega)) hf
 | succ n ih =>
  intro f hf hn
  by_cases hd : h ∣ f
  ·obtain ⟨q, rfl⟩ := hd;have hh : h ≠ 0 := fun e => hf (by rw [e]; exact zh [q] (by rfl));have hq : q ≠ 0 := fun e => hf (by rw [e]; exact zh [h] (by rfl));have h1 := yZ hh hq;obtain ⟨e, u, h2, h3⟩ := ih q hq (by omega);exact ⟨e + 1, u, by rw [pow_succ', h2]; exact zh [h, u, h^e] (by rfl), h3⟩
  ·exact ⟨0, y0.2 hd⟩
theorem zU.dvd {h f : Poly p} {e : Nat} (h1 : zU h e f) (he : 1 <= e) : h ∣ f := by
 obtain ⟨u, rfl, _⟩ := h1;obtain ⟨n, rfl⟩ : ∃ n, e = n + 1 := ⟨e - 1, by omega⟩
 exact ⟨h ^ n * u, by rw [pow_succ']; exact zh [h, u, h^n] (by rfl)⟩

def ltP (f g : Poly p) : Prop := dg f < dg g ∨ dg f = dg g ∧ ∃ i, cf f.l i < cf g.l i ∧ ∀ j, i < j -> cf f.l j = cf g.l j
theorem zey {p : Int} (f : Poly p) : ¬ ltP f f := by
 rintro (h | ⟨_, i, h, _⟩) <;> omega
theorem zcp {p : Int} {f g h : Poly p} (h1 : ltP f g) (h2 : ltP g h) : ltP f h := by
 rcases h1 with h1 | ⟨h1, i, hi, hi'⟩ <;> rcases h2 with h2 | ⟨h2, j, hj, hj'⟩
 ·exact .inl (by omega)
 ·exact .inl (by omega)
 ·exact .inl (by omega)
 ·refine .inr ⟨by omega, ?_⟩;rcases Nat.lt_trichotomy i j with h | h | h
  ·exact ⟨j, by rw [hi' j h]; exact hj, fun k hk => by rw [hi' k (by omega), hj' k hk]⟩
  ·subst h; exact ⟨i, by omega, fun k hk => by rw [hi' k hk, hj' k hk]⟩
  ·exact ⟨i, by rw [<- hj' i h]; exact hi, fun k hk => by rw [hi' k hk, hj' k (by omega)]⟩
theorem zfU {p : Int} {f g : Poly p} (h : f ≠ g) : ltP f g ∨ ltP g f := by
 rcases Nat.lt_trichotomy (dg f) (dg g) with h1 | h1 | h1
 ·exact .inl (.inl h1)
 ·have : ∀ n, n <= dg f -> (∀ j, n <= j -> cf f.l j = cf g.l j) -> ltP f g ∨ ltP g f := by
   intro n
   induction n with
   | zero => intro _ hj; exact absurd (zR fun i => hj i (Nat.zero_le _)) h
   | succ n ih =>
    intro hn hj;rcases Int.lt_trichotomy (cf f.l n) (cf g.l n) with h2 | h2 | h2
    ·exact .inl (.inr ⟨h1, n, h2, fun j hj' => hj j hj'⟩)
    ·exact ih (by omega) fun j hj' => by
      rcases Nat.eq_or_lt_of_le hj' with rfl | h3
      ·exact h2
      ·exact hj j h3
    ·exact .inr (.inr ⟨h1.symm, n, h2, fun j hj' => (hj j hj').symm⟩)
  exact this (dg f) (Nat.le_refl _) fun j hj => by rw [yz hj, yz (by omega)]
 ·exact .inr (.inl h1)

theorem zfV {α : Type} {lt : α -> α -> Prop} (irr : ∀ a, ¬ lt a a) (tr : ∀ a b c, lt a b -> lt b c -> lt a c) : ∀ {l l' : List α}, l.Pairwise lt -> l'.Pairwise lt -> (∀ x, x ∈ l ↔ x ∈ l') -> l = l'
 | [], [], _, _, _ => rfl
 | [], b :: l', _, _, h => absurd ((h b).2 (by simp)) (by simp)
 | a :: l, [], _, _, h => absurd ((h a).1 (by simp)) (by simp)
 | a :: l, b :: l', h1, h2, h => by
  rw [List.pairwise_cons] at h1 h2
  have hab : a = b := by
   rcases List.mem_cons.1 ((h a).1 (by simp)) with h3 | h3
   ·exact h3
   ·rcases List.mem_cons.1 ((h b).2 (by simp)) with h4 | h4
    ·exact h4.symm
    ·exact absurd (tr _ _ _ (h2.1 a h3) (h1.1 b h4)) (irr b)
  subst hab;rw [zfV irr tr h1.2 h2.2 fun x => ?_]
  constructor
  ·intro hx;rcases List.mem_cons.1 ((h x).1 (by simp [hx])) with h3 | h3
   ·subst h3; exact absurd (h1.1 x hx) (irr x)
   ·exact h3
  ·intro hx;rcases List.mem_cons.1 ((h x).2 (by simp [hx])) with h3 | h3
   ·subst h3; exact absurd (h2.1 x hx) (irr x)
   ·exact h3

def za1 (f : Poly p) (x : Poly p × Nat) : Prop := Irr x.1 ∧ Mon x.1 ∧ 1 <= x.2 ∧ zU x.1 x.2 f
def jG (f : Poly p) (F : List (Poly p × Nat)) : Prop := F.Pairwise (fun x y => ltP x.1 y.1) ∧ ∀ x, x ∈ F ↔ za1 f x
theorem jG.unique {f : Poly p} {F F' : List (Poly p × Nat)} (h : jG f F) (h' : jG f F') : F = F' :=
 zfV (lt := fun x y : Poly p × Nat => ltP x.1 y.1) (fun x => zey x.1) (fun _ _ _ h1 h2 => zcp h1 h2) h.1 h'.1 fun x => (h.2 x).trans (h'.2 x).symm

def zbn (f : Poly p) (L : List (Poly p)) : Prop := L.Nodup ∧ ∀ h, h ∈ L ↔ (Irr h ∧ Mon h ∧ h ∣ f)

structure Parts (f : Poly p) (L : List (Poly p)) : Prop where
 each : ∀ a ∈ L, Mon a ∧ 2 <= dg a ∧ a ∣ f
 all : ∀ h, Irr h -> h ∣ f -> ∃ a ∈ L, h ∣ a
 apart : L.Pairwise fun a b => ∀ h, Irr h -> h ∣ a -> h ∣ b -> False

theorem Parts.start {f : Poly p} (hm : Mon f) (h2 : 2 <= dg f) : Parts f [f] :=
 ⟨by simp [hm, h2, dvd_refl], fun h hi hd => ⟨f, by simp, hd⟩, by simp⟩

theorem Parts.irrs {f : Poly p} {L : List (Poly p)} (h : Parts f L) (hi : ∀ a ∈ L, Irr a) : zbn f L := by
 refine ⟨?_, fun g => ⟨fun hg => ⟨hi g hg, (h.each g hg).1, (h.each g hg).2.2⟩, fun ⟨h1, h2, h3⟩ => ?_⟩⟩
 ·have : L.Pairwise fun a b => a ∈ L -> a ≠ b := h.apart.imp fun {a b} hab ha (he : a = b) => hab a (hi a ha) (dvd_refl a) (by rw [<- he]; exact dvd_refl a);exact List.pairwise_iff_getElem.2 fun i j hi' hj' hij => (List.pairwise_iff_getElem.1 this i j hi' hj' hij) (List.getElem_mem _)
 ·obtain ⟨a, ha, hd⟩ := h.all g h1 h3;rw [zbj h1 (hi a ha) h2 (h.each a ha).1 hd]; exact ha

noncomputable def zfi (v a : Poly p) (s : Nat) : List (Poly p) := if 2 <= dg (gcd a (v - con p (s : Int))) then [gcd a (v - con p (s : Int))] else []
noncomputable def xa (v a : Poly p) (n : Nat) : List (Poly p) := (List.range n).flatMap (zfi v a)
noncomputable def zK (v : Poly p) (L : List (Poly p)) : List (Poly p) := L.flatMap fun a => xa v a p.toNat

theorem zbN {v a g : Poly p} {n : Nat} : g ∈ xa v a n ↔ ∃ s, s < n ∧ 2 <= dg (gcd a (v - con p (s : Int))) ∧ g = gcd a (v - con p (s : Int)) := by
 simp only [xa, List.mem_flatMap, List.mem_range, zfi]
 constructor
 ·rintro ⟨s, h1, h2⟩
  split at h2
  ·rename_i h3; simp at h2; exact ⟨s, h1, h3, h2⟩
  ·cases h2
 ·rintro ⟨s, h1, h2, h3⟩;exact ⟨s, h1, by rw [if_pos h2]; simp [h3]⟩

theorem zmF {h v : Poly p} (hi : Irr h) {s t : Nat} (hs : (s : Int) < p) (ht : (t : Int) < p) (h1 : h ∣ v - con p (s : Int)) (h2 : h ∣ v - con p (t : Int)) : s = t := by
 have := zjq hi.1 h1 h2;rw [Int.emod_eq_of_lt (by omega) hs, Int.emod_eq_of_lt (by omega) ht] at this;omega

theorem zfW {v a : Poly p} {n : Nat} (hn : (n : Int) <= p) : (xa v a n).Pairwise fun x y => ∀ h, Irr h -> h ∣ x -> h ∣ y -> False := by
 induction n with
 | zero => simp [xa]
 | succ n ih =>
  have e : xa v a (n + 1) = xa v a n ++ zfi v a n := by simp [xa, List.range_succ]
  rw [e, List.pairwise_append];refine ⟨ih (by omega), ?_, fun x hx y hy h hi h1 h2 => ?_⟩
  ·unfold zfi; split <;> simp
  ·obtain ⟨s, hs, _, rfl⟩ := zbN.1 hx;unfold zfi at hy
   split at hy
   ·simp at hy; subst hy
    have := zmF (p := p) hi (s := s) (t := n) (by omega) (by omega) (dvd_trans h1 (xD _ _)) (dvd_trans h2 (xD _ _));omega
   ·cases hy

theorem znR {v a h : Poly p} (hv : Ber h v) (hi : Irr h) (hd : h ∣ a) (ha : a ≠ 0) : ∃ g ∈ xa v a p.toNat, h ∣ g := by
 obtain ⟨s, h1, h2, h3⟩ := znO hi hv;have h4 := zkf hd h3;have hm := zbJ (f := a) (g := v - con p s) (.inl ha);have h5 := zM h4 hm.1;have h6 := hi.1;have e : ((s.toNat : Nat) : Int) = s := by omega
 refine ⟨_, zbN.2 ⟨s.toNat, by omega, ?_, rfl⟩, ?_⟩
 ·rw [e]; omega
 ·rw [e]; exact h4

theorem Parts.cut {f v : Poly p} {L : List (Poly p)} (h : Parts f L) (hv : Ber f v) : Parts f (zK v L) ∧ ∀ a' ∈ zK v L, (∃ s : Int, a' ∣ v - con p s) ∧ ∃ a ∈ L, a' ∣ a := by
 have hmem : ∀ a' ∈ zK v L, ∃ a ∈ L, ∃ s : Nat, 2 <= dg a' ∧ a' = gcd a (v - con p (s : Int)) := by
  intro a' ha';obtain ⟨a, ha, hg⟩ := List.mem_flatMap.1 ha';obtain ⟨s, _, h2, rfl⟩ := zbN.1 hg;exact ⟨a, ha, s, h2, rfl⟩
 refine ⟨⟨fun a' ha' => ?_, fun q hq hd => ?_, ?_⟩, fun a' ha' => ?_⟩
 ·obtain ⟨a, ha, s, h2, rfl⟩ := hmem a' ha';exact ⟨zbJ (.inl (h.each a ha).1.1), h2, dvd_trans (xS _ _) (h.each a ha).2.2⟩
 ·obtain ⟨a, ha, hqa⟩ := h.all q hq hd;obtain ⟨g, hg, hqg⟩ := znR (hv.dvd hd) hq hqa (h.each a ha).1.1;exact ⟨g, List.mem_flatMap.2 ⟨a, ha, hg⟩, hqg⟩
 ·unfold zK;rw [List.pairwise_flatMap];refine ⟨fun a _ => zfW (by have := Pr.two (p := p); omega), h.apart.imp fun {a b} hab x hx y hy q hq h1 h2 => ?_⟩;obtain ⟨s, _, _, rfl⟩ := zbN.1 hx;obtain ⟨t, _, _, rfl⟩ := zbN.1 hy;exact hab q hq (dvd_trans h1 (xS _ _)) (dvd_trans h2 (xS _ _))
 ·obtain ⟨a, ha, s, h2, rfl⟩ := hmem a' ha';exact ⟨⟨s, xD _ _⟩, a, ha, xS _ _⟩

end Poly

theorem zib (n m : Int) (hm : 0 < m) : (n.tmod m + m).tmod m = n % m := by
 have h1 := Int.lt_tmod_of_pos n hm;rw [Int.tmod_eq_emod_of_nonneg (by omega), Int.add_emod_right];rw [Int.tmod_eq_emod]
 split
 ·simp
 ·rw [show (m.natAbs : Int) = m by omega, Int.sub_emod, Int.emod_self]; simp

abbrev isP (p : Int) : Bool := decide (p ∈ zO)

theorem zjs : (List.range 98).all (fun n => decide ((n : Int) ∈ zO) == (decide (2 <= n) && (List.range 10).all fun d => !(decide (2 <= d ∧ d * d <= n ∧ n % d = 0)))) = true := by decide +kernel
theorem kA {n : Int} (h : n <= 97) : n ∈ zO ↔ 2 <= n ∧ ∀ d : Int, 2 <= d -> d * d <= n -> n % d ≠ 0 := by
 rcases Int.lt_or_le n 2 with h2 | h2
 ·constructor
  ·intro hm;have := List.all_eq_true.1 zbm n hm;simp only [decide_eq_true_eq] at this
   omega
  ·intro h3; omega
 ·obtain ⟨k, rfl⟩ : ∃ k : Nat, n = k := ⟨n.toNat, by omega⟩
  have h3 := List.all_eq_true.1 zjs k (List.mem_range.2 (by omega));simp only [beq_iff_eq] at h3
  have h4 : ((k : Int) ∈ zO) ↔ decide ((k : Int) ∈ zO) = true := by simp
  rw [h4, h3];simp only [Bool.and_eq_true, decide_eq_true_eq, List.all_eq_true, List.mem_range, Bool.not_eq_true', decide_eq_false_iff_not, not_and]
  constructor
  ·rintro ⟨h5, h6⟩;refine ⟨h2, fun d hd hdd hr => ?_⟩
   have h9 : d < 10 := by
    rcases Int.lt_or_le d 10 with h | h
    ·exact h
    ·have : 10 * 10 <= d * d := Int.mul_le_mul h h (by omega) (by omega);omega
   obtain ⟨m, rfl⟩ : ∃ m : Nat, d = m := ⟨d.toNat, by omega⟩
   refine h6 m (by omega) (by omega) (by exact_mod_cast hdd) ?_;omega
  ·rintro ⟨_, h6⟩;refine ⟨by omega, fun d hd h7 h8 h9 => h6 d (by omega) (by exact_mod_cast h8) (by omega)⟩
theorem z7 {n : Int} (h : n ∈ zO) : 2 <= n ∧ n <= 97 := by
 have := List.all_eq_true.1 zbm n h
 simpa using this

structure Bz (a b r x y s u v : Int) : Prop where
 r0 : 0 <= r
 s0 : 0 <= s
 e1 : a * x + b * y = r
 e2 : a * u + b * v = s
 g : ∀ d : Int, (d ∣ a ∧ d ∣ b) ↔ (d ∣ r ∧ d ∣ s)
 bd : ∃ ε X U Y V : Int, (ε = 1 ∨ ε = -1) ∧ 0 <= X ∧ 0 <= U ∧ 0 <= Y ∧ 0 <= V ∧ x = ε * X ∧ u = -(ε * U) ∧ y = -(ε * Y) ∧ v = ε * V ∧ U * r + X * s = b ∧ V * r + Y * s = a

theorem Bz.start {a b : Int} (ha : 0 <= a) (hb : 0 <= b) : Bz a b a 1 0 b 0 1 :=
 ⟨ha, hb, by omega, by omega, fun _ => Iff.rfl, 1, 1, 0, 0, 1, .inl rfl, by omega, by omega, by omega, by omega, by omega, by omega, by omega, by omega, by omega, by omega⟩

theorem j4 {q s r : Int} (hs : 1 <= s) (hq : 0 <= q) (h : q * s <= r) : q <= r := by
 have : q * 1 <= q * s := Int.mul_le_mul_of_nonneg_left hs hq;omega

structure BzB (a b r x y s u v q : Int) : Prop where
 q0 : 0 <= q
 qr : q <= r
 qs : 0 <= q * s ∧ q * s <= r
 qu : -b <= q * u ∧ q * u <= b
 qv : -a <= q * v ∧ q * v <= a
 bx : -b <= x ∧ x <= b
 by' : -a <= y ∧ y <= a
 nx : -b <= x - q * u ∧ x - q * u <= b
 ny : -a <= y - q * v ∧ y - q * v <= a

theorem zaO {ε z B : Int} (he : ε = 1 ∨ ε = -1) (h0 : 0 <= z) (h : z <= B) : -B <= ε * z ∧ ε * z <= B := by
 rcases he with rfl | rfl <;> omega
theorem Bz.step {a b r x y s u v : Int} (h : Bz a b r x y s u v) (hs : s ≠ 0) : BzB a b r x y s u v (r / s) ∧ Bz a b s u v (r - r / s * s) (x - r / s * u) (y - r / s * v) := by
 obtain ⟨h1, h2, h3, h4, h5, ε, X, U, Y, V, he, hX, hU, hY, hV, rfl, rfl, rfl, rfl, h6, h7⟩ := h;have hs1 : 1 <= s := by omega
 have hm := Int.emod_nonneg r hs;have hm2 := Int.emod_lt_of_pos r (show 0 < s by omega);have hd : r = r / s * s + r % s := by have := Int.mul_ediv_add_emod r s; rw [Int.mul_comm] at this; omega
 have hq : 0 <= r / s := Int.ediv_nonneg h1 h2;generalize hqq : r / s = q at *;generalize hrr : r % s = r' at *;have hqs0 : 0 <= q * s := Int.mul_nonneg hq h2;have hqs : q * s <= r := by omega
 have hUr : 0 <= U * r := Int.mul_nonneg hU h1;have hVr : 0 <= V * r := Int.mul_nonneg hV h1;have hXs : 0 <= X * s := Int.mul_nonneg hX h2;have hYs : 0 <= Y * s := Int.mul_nonneg hY h2;have hXb : X <= b := j4 (s := s) hs1 hX (by omega);have hYa : Y <= a := j4 (s := s) hs1 hY (by omega);have hqU : 0 <= q * U := Int.mul_nonneg hq hU;have hqV : 0 <= q * V := Int.mul_nonneg hq hV
 have k1 : q * U * s <= U * r := by
  have : U * (q * s) <= U * r := Int.mul_le_mul_of_nonneg_left hqs hU;have e : q * U * s = U * (q * s) := by rw [Int.mul_comm q U, Int.mul_assoc]
  omega
 have k2 : q * V * s <= V * r := by
  have : V * (q * s) <= V * r := Int.mul_le_mul_of_nonneg_left hqs hV;have e : q * V * s = V * (q * s) := by rw [Int.mul_comm q V, Int.mul_assoc]
  omega
 have hXU : X + q * U <= b := j4 (s := s) hs1 (by omega) (by rw [Int.add_mul]; omega);have hYV : Y + q * V <= a := j4 (s := s) hs1 (by omega) (by rw [Int.add_mul]; omega);have e1 : q * -(ε * U) = -(ε * (q * U)) := by rw [Int.mul_neg, <- Int.mul_assoc, Int.mul_comm q ε, Int.mul_assoc]
 have e2 : q * (ε * V) = ε * (q * V) := by rw [<- Int.mul_assoc, Int.mul_comm q ε, Int.mul_assoc]
 have e3 : ε * X - q * -(ε * U) = ε * (X + q * U) := by rw [e1, Int.mul_add]; omega
 have e4 : -(ε * Y) - q * (ε * V) = -(ε * (Y + q * V)) := by rw [e2, Int.mul_add]; omega
 refine ⟨⟨hq, j4 hs1 hq hqs, ⟨hqs0, hqs⟩, ?_, ?_, zaO he hX hXb, ?_, ?_, ?_⟩, h2, by omega, h4, ?_, fun d => ?_, -ε, U, X + q * U, V, Y + q * V, by omega, hU, by omega, hV, by omega, ?_, ?_, ?_, ?_, ?_, ?_⟩
 ·rw [e1]; have := zaO he hqU (show q * U <= b by omega); omega
 ·rw [e2]; exact zaO he hqV (show q * V <= a by omega)
 ·have := zaO he hY hYa; omega
 ·rw [e3]; exact zaO he (by omega) hXU
 ·rw [e4]; have := zaO he (by omega) hYV; omega
 ·rw [Int.mul_sub, Int.mul_sub];have i1 : a * (q * -(ε * U)) = q * (a * -(ε * U)) := by rw [<- Int.mul_assoc, Int.mul_comm a q, Int.mul_assoc]
  have i2 : b * (q * (ε * V)) = q * (b * (ε * V)) := by rw [<- Int.mul_assoc, Int.mul_comm b q, Int.mul_assoc]
  have i3 : q * (a * -(ε * U)) + q * (b * (ε * V)) = q * s := by rw [<- Int.mul_add, h4]
  omega
 ·rw [h5 d]
  constructor
  ·rintro ⟨h8, h9⟩; exact ⟨h9, Int.dvd_sub h8 (Int.dvd_mul_of_dvd_right h9)⟩
  ·rintro ⟨h8, h9⟩;refine ⟨?_, h8⟩;have := Int.dvd_add h9 (Int.dvd_mul_of_dvd_right h8 (b := q))
   rwa [show r - q * s + q * s = r by omega] at this
 ·rw [Int.neg_mul]
 ·rw [Int.neg_mul, e3]; omega
 ·rw [Int.neg_mul]; omega
 ·rw [Int.neg_mul, e4]
 ·rw [Int.add_mul, Int.mul_sub];have : U * (q * s) = q * U * s := by rw [Int.mul_comm q U, Int.mul_assoc]
  omega
 ·rw [Int.add_mul, Int.mul_sub];have : V * (q * s) = q * V * s := by rw [Int.mul_comm q V, Int.mul_assoc]
  omega
theorem Bz.fin {a b r x y u v : Int} (h : Bz a b r x y 0 u v) : a * x + b * y = r ∧ 0 <= r ∧ r ∣ a ∧ r ∣ b := by
 have := (h.g r).2 ⟨Int.dvd_refl r, Int.dvd_zero r⟩;exact ⟨h.e1, h.r0, this.1, this.2⟩

def xl (m a : Int) : Int := (((List.range m.toNat).find? fun b : Nat => a * (b : Int) % m == 1 % m).getD 0 : Nat)
theorem zgJ {m a x : Int} (hm : 0 < m) (h : a * x % m = 1 % m) : xl m a = x % m := by
 unfold xl;have h0 := Int.emod_nonneg x (show m ≠ 0 by omega);have h1 := Int.emod_lt_of_pos x hm;cases hf : (List.range m.toNat).find? fun b : Nat => a * (b : Int) % m == 1 % m with
 | none =>
  exfalso
  rw [List.find?_eq_none] at hf;have h2 := hf (x % m).toNat (List.mem_range.2 (by omega));simp only [beq_iff_eq] at h2
  rw [show ((x % m).toNat : Int) = x % m by omega, Int.mul_emod, Int.emod_emod_of_dvd _ (Int.dvd_refl m), <- Int.mul_emod] at h2;exact h2 h
 | some b =>
  have h2 := List.find?_some hf;have h3 := List.mem_range.1 (List.mem_of_find?_eq_some hf);simp only [beq_iff_eq] at h2
  simp only [Option.getD_some]
  -- both are inverses
  have h4 : a * b * x % m = (b : Int) % m := by
   rw [Int.mul_assoc, Int.mul_comm (b : Int) x, <- Int.mul_assoc, Int.mul_emod, h, <- Int.mul_emod, Int.one_mul]
  have h5 : a * b * x % m = x % m := by
   rw [Int.mul_emod, h2, <- Int.mul_emod, Int.one_mul]
  rw [<- h5, h4, Int.emod_eq_of_lt (by omega) (by omega)]
theorem xE {p a : Int} [Pr p] (h : a % p ≠ 0) : 0 <= xl p a ∧ xl p a < p ∧ a * xl p a % p = 1 := by
 have hp := Pr.two (p := p);obtain ⟨b, hb⟩ := Pr.inv (p := p) a h;have h1 : (1 : Int) % p = 1 := Int.emod_eq_of_lt (by omega) (by omega);rw [zgJ (m := p) (x := b) (by omega) (by rw [hb, h1])];refine ⟨Int.emod_nonneg _ (by omega), Int.emod_lt_of_pos _ (by omega), ?_⟩;rw [Int.mul_emod, Int.emod_emod_of_dvd _ (Int.dvd_refl p), <- Int.mul_emod, hb]
theorem zmG {p a : Int} [Pr p] (h : a % p ≠ 0) : xl p (a % p) = xl p a := by
 have hp := Pr.two (p := p);obtain ⟨h1, h2, h3⟩ := xE h;rw [zgJ (m := p) (x := xl p a) (by omega), Int.emod_eq_of_lt h1 h2];rw [Int.mul_emod, Int.emod_emod_of_dvd _ (Int.dvd_refl p), <- Int.mul_emod, h3, Int.emod_eq_of_lt (by omega) (by omega)]

theorem zfj {p a r : Int} [Pr p] (ha : a % p ≠ 0) (h0 : 0 <= r) (h1 : r ∣ a) (h2 : r ∣ p) : r = 1 := by
 obtain ⟨c, rfl⟩ := h1;obtain ⟨d, hd⟩ := h2;have hp := Pr.two (p := p)
 -- r is a unit by p, so p divides d, so r = 1
 by_cases hr : r % p = 0
 ·exact absurd (by rw [Int.mul_emod, hr]; simp) ha
 ·obtain ⟨b, hb⟩ := Pr.inv (p := p) r hr
  have h3 : d % p = 0 := by
   have h4 : r * b * d % p = d % p := by rw [Int.mul_emod, hb, Int.one_mul, Int.emod_emod_of_dvd _ (Int.dvd_refl p)]
   rw [<- h4, show r * b * d = p * b by rw [Int.mul_assoc, Int.mul_comm b d, <- Int.mul_assoc, <- hd]];exact Int.mul_emod_right p b
  obtain ⟨k, hk⟩ := Int.dvd_of_emod_eq_zero h3;rw [hk, <- Int.mul_assoc, Int.mul_comm r p, Int.mul_assoc] at hd
  have h5 : r * k = 1 := by
   have : p * (r * k) = p * 1 := by omega
   exact Int.eq_of_mul_eq_mul_left (by omega) this
  have hr1 : r ≠ 0 := fun h => by rw [h, Int.zero_mul] at h5; omega
  have hk1 : 1 <= k := by
   rcases Int.lt_or_le k 1 with h | h
   ·have : r * k <= r * 0 := Int.mul_le_mul_of_nonneg_left (by omega) h0;omega
   ·exact h
  have : r * 1 <= r * k := Int.mul_le_mul_of_nonneg_left hk1 h0;omega
theorem Bz.inv {p a r x y u v : Int} [Pr p] (ha : a % p ≠ 0) (h : Bz a p r x y 0 u v) : x % p = xl p a := by
 have hp := Pr.two (p := p);obtain ⟨h1, h2, h3, h4⟩ := h.fin;have hr := zfj ha h2 h3 h4;subst hr;refine (zgJ (m := p) (by omega) ?_).symm;have : a * x = 1 + p * -y := by rw [Int.mul_neg]; omega
 rw [this, Int.add_mul_emod_self_left]


theorem yl {l : List Int} {i : Nat} (h : i < l.length) (x : Int) (j : Nat) : cf (l.set i x) j = if j = i then x else cf l j := by
 unfold cf;simp only [List.getD_eq_getElem?_getD, List.getElem?_set]
 by_cases hj : i = j
 ·subst hj; simp [h]
 ·simp [hj, Ne.symm hj]
theorem zL (n : Nat) (j : Nat) : cf (List.replicate n 0) j = 0 := by
 unfold cf;simp only [List.getD_eq_getElem?_getD, List.getElem?_replicate]
 split <;> rfl
theorem zkh (l : List Int) (n j : Nat) : cf (l.take n) j = if j < n then cf l j else 0 := by
 unfold cf;simp only [List.getD_eq_getElem?_getD, List.getElem?_take]
 split <;> rfl
theorem znS (l : List Int) (n j : Nat) : cf (l.drop n) j = cf l (n + j) := by
 unfold cf;simp only [List.getD_eq_getElem?_getD, List.getElem?_drop]
theorem j5 {l m : List Int} (h : l.length = m.length) (he : ∀ j, j < l.length -> cf l j = cf m j) : l = m := by
 apply List.ext_getElem h;intro j h1 h2;have := he j h1
 rwa [yF h1, yF h2] at this
theorem zmH {l : List Int} {j : Nat} (h : j < l.length) : cf l j ∈ l := by rw [yF h]; exact List.getElem_mem h

theorem zat {l m : List Int} (h : ∀ j, cf l j = cf m j) : zE l = zE m :=
 yX (va l) (va m) fun j => by rw [vq, vq, h]
theorem zdz {l : List Int} {n : Nat} (hn : n <= l.length) (h0 : ∀ j, n <= j -> cf l j = 0) (h : n = 0 ∨ cf l (n - 1) ≠ 0) : l.take n = zE l := by
 refine yX ?_ (va l) fun j => ?_
 ·intro m hm;rw [List.length_take, Nat.min_eq_left hn] at hm;subst hm;rw [zkh, if_pos (by omega)];rcases h with h | h
  ·omega
  ·exact h
 ·rw [zkh, vq]
  split
  ·rfl
  ·exact (h0 j (by omega)).symm
theorem zlb : zE [] = [] := rfl

def Bd (M : Int) (l : List Int) : Prop := ∀ j, -M <= cf l j ∧ cf l j <= M
theorem Bd.trim {M : Int} {l : List Int} (h : Bd M l) : Bd M (zE l) := fun j => by rw [vq]; exact h j
namespace Poly
variable {p : Int} [SP p]
theorem za2 (f : Poly p) (j : Nat) : 0 <= cf f.l j ∧ cf f.l j < p := by
 have hp := Pr.two (p := p)
 by_cases hj : j < f.l.length
 ·exact f.ok.1 _ (zmH hj)
 ·rw [ya (by omega)]; omega
theorem kU (f : Poly p) : Bd 97 f.l := fun j => by
 have h := za2 f j; have := SP.le (p := p); omega
end Poly

theorem zog {A B : Int} (hA : 0 <= A) (hB : 0 <= B) {n : Nat} (f g : Nat -> Int) (hf : ∀ j, -A <= f j ∧ f j <= A) (hf0 : ∀ j, n <= j -> f j = 0) (hg : ∀ j, -B <= g j ∧ g j <= B) :
  ∀ k, -((n : Int) * (A * B)) <= cv f g k ∧ cv f g k <= (n : Int) * (A * B) := by
 have hAB : 0 <= A * B := Int.mul_nonneg hA hB
 have hm : ∀ i j, -(A * B) <= f i * g j ∧ f i * g j <= A * B := by
  intro i j;have h1 := hf i;have h2 := hg j
  have e1 : (f i * g j).natAbs <= (A * B).natAbs := by
   rw [Int.natAbs_mul, Int.natAbs_mul];exact Nat.mul_le_mul (by omega) (by omega)
  omega
 intro k
 induction n generalizing f k with
 | zero =>
  have : cv f g k = 0 := yq fun i _ => hf0 i (Nat.zero_le _);rw [this]; simp
 | succ n ih =>
  have e : ((n + 1 : Nat) : Int) * (A * B) = (n : Int) * (A * B) + A * B := by rw [Int.natCast_add, Int.add_mul]; simp
  rw [e];have hn : 0 <= (n : Int) * (A * B) := Int.mul_nonneg (by omega) hAB;cases k with
  | zero =>
   have := hm 0 0;simp only [cv]; omega
  | succ k =>
   have h1 := ih (fun i => f (i + 1)) (fun j => hf (j + 1)) (fun j hj => hf0 (j + 1) (by omega)) (fun i j => hm (i + 1) j) k;have h2 := hm 0 (k + 1);have h3 : cv f g (k + 1) = f 0 * g (k + 1) + cv (fun i => f (i + 1)) g k := rfl;rw [h3]; omega

def part (f g : Nat -> Int) (i k j : Nat) : Int := cv (fun x => if x < i then f x else 0) g j + (if i <= j ∧ j < i + k then f i * g (j - i) else 0)
theorem zlc (c : Int) (i : Nat) (g : Nat -> Int) (j : Nat) : cv (fun x => if x = i then c else 0) g j = if i <= j then c * g (j - i) else 0 := Poly.cv_mono c i g j
theorem zic {f g : Nat -> Int} {m : Nat} (hg : ∀ j, m <= j -> g j = 0) (i j : Nat) : part f g i m j = part f g (i + 1) 0 j := by
 unfold part;rw [if_neg (show ¬ (i + 1 <= j ∧ j < i + 1 + 0) by omega), Int.add_zero]
 have e : (fun x => if x < i + 1 then f x else 0) = fun x => (if x < i then f x else 0) + (if x = i then f i else 0) := by
  funext x
  by_cases h : x < i
  ·rw [if_pos h, if_pos (by omega), if_neg (by omega)]; omega
  ·by_cases h2 : x = i
   ·subst h2; rw [if_pos (by omega), if_neg h, if_pos rfl]; omega
   ·rw [if_neg (by omega), if_neg h, if_neg h2]; rfl
 rw [e, zgz, zlc]
 congr 1
 by_cases h : i <= j
 ·rw [if_pos h]
  by_cases h2 : j < i + m
  ·rw [if_pos ⟨h, h2⟩]
  ·rw [if_neg (by omega), hg _ (by omega), Int.mul_zero]
 ·rw [if_neg (by omega), if_neg h]
theorem zez (f g : Nat -> Int) (j : Nat) : part f g 0 0 j = 0 := by
 unfold part;rw [if_neg (by omega), yq fun i _ => by simp]; rfl
theorem zcq (f g : Nat -> Int) (i k j : Nat) : part f g i (k + 1) j = if j = i + k then part f g i k j + f i * g k else part f g i k j := by
 unfold part
 by_cases h : j = i + k
 ·subst h;rw [if_pos rfl, if_pos ⟨by omega, by omega⟩, if_neg (by omega), show i + k - i = k by omega]; omega
 ·rw [if_neg h]
  congr 1
  by_cases h2 : i <= j ∧ j < i + k
  ·rw [if_pos h2, if_pos ⟨h2.1, by omega⟩]
  ·rw [if_neg h2, if_neg (by omega)]
theorem zid {f g : Nat -> Int} {n : Nat} (hf : ∀ j, n <= j -> f j = 0) (j : Nat) : part f g n 0 j = cv f g j := by
 unfold part;rw [if_neg (by omega), Int.add_zero]
 congr 1
 funext x
 split
 ·rfl
 ·exact (hf x (by omega)).symm
theorem zki {A B : Int} (hA : 0 <= A) (hB : 0 <= B) {f g : Nat -> Int} (hf : ∀ j, -A <= f j ∧ f j <= A) (hg : ∀ j, -B <= g j ∧ g j <= B) (i k j : Nat) :
  -(((i : Int) + 1) * (A * B)) <= part f g i k j ∧ part f g i k j <= ((i : Int) + 1) * (A * B) := by
 have h1 := zog hA hB (n := i) (fun x => if x < i then f x else 0) g (fun j => by split; exact hf j; omega) (fun j hj => if_neg (by omega)) hg j;have hAB : 0 <= A * B := Int.mul_nonneg hA hB
 have h2 : -(A * B) <= f i * g (j - i) ∧ f i * g (j - i) <= A * B := by
  have h1 := hf i;have h2 := hg (j - i)
  have e1 : (f i * g (j - i)).natAbs <= (A * B).natAbs := by
   rw [Int.natAbs_mul, Int.natAbs_mul];exact Nat.mul_le_mul (by omega) (by omega)
  omega
 unfold part;rw [Int.add_mul, Int.one_mul]
 split <;> omega

theorem za3 (f : Int -> Int) {xs : List Int} {i : Nat} (h : i < xs.length) : (xs.take (i + 1)).map f = (xs.take i).map f ++ [f (xs.getD i 0)] := by
 rw [List.take_add_one, List.map_append, List.getElem?_eq_getElem h, List.getD_eq_getElem?_getD, List.getElem?_eq_getElem h]; rfl

theorem zbO (n : Nat) (f : Nat -> Int) : mkL (n + 1) f = mkL n f ++ [f n] := by simp [mkL, List.range_succ]
theorem zie {out f g : List Int} (h : ∀ j, cf out j = cf f j + cf g j) : zE out = zE (zaq f g) := zat fun j => by rw [h, jA]
theorem zif {out f g : List Int} (h : ∀ j, cf out j = cv (cf f) (cf g) j) : zE out = zE (kq f g) := zat fun j => by rw [h, zdu]
theorem zbP {f g : List Int} (h : f = [] ∨ g = []) : zE (kq f g) = [] := by
 rw [<- zlb];refine zat fun j => ?_;rw [zdu, yW];rcases h with rfl | rfl
 ·exact yq fun i _ => yW i
 ·rw [zaM]; exact yq fun i _ => yW i
theorem zeA (p : Int) (l : List Int) : nrm p (zE l) = nrm p l := yX (j1 _ _) (j1 _ _) fun j => by rw [zcl, zcl, vq]

theorem zgK {p : Int} {l : List Int} (h : ∀ j, 0 <= cf l j ∧ cf l j < p) : nrm p l = zE l :=
 yX (j1 p l) (va l) fun j => by rw [zcl, vq, Int.emod_eq_of_lt (h j).1 (h j).2]

namespace Poly
variable {p : Int} [SP p]

structure DivI (p : Int) [SP p] (F G : Poly p) (nq k : Nat) (r q : List Int) : Prop where
 rl : r.length = dg F
 ql : q.length = nq
 eq : F = of p q * G + of p r
 z : ∀ j, k + dg G <= j + 1 -> cf r j = 0
 rr : ∀ j, 0 <= cf r j ∧ cf r j < p
 qr : ∀ j, 0 <= cf q j ∧ cf q j < p
 qz : ∀ j, j < k -> cf q j = 0

theorem DivI.start (F G : Poly p) {nq : Nat} (h : dg F + 1 <= nq + dg G) : DivI p F G nq nq F.l (List.replicate nq 0) := by
 have hp := Pr.two (p := p);refine ⟨rfl, by simp, ?_, fun j hj => yz (by omega), fun j => za2 F j, fun j => by rw [zL]; omega, fun j _ => zL _ _⟩;have h0 : of p (List.replicate nq 0) = (0 : Poly p) := zR fun i => by rw [yE, zL, xr]; simp
 rw [h0, of_l];exact zh [F, G] (by rfl)

theorem DivI.step {F G : Poly p} {nq k : Nat} {r q r' : List Int} (h : DivI p F G nq (k + 1) r q) (hG : G ≠ 0) (hk : k < nq) (c : Int) (hc : c = cf r (k + dg G - 1) * xl p (cf G.l (dg G - 1)) % p)
  (hl : r'.length = r.length) (hr : ∀ j, cf r' j = if k <= j ∧ j < k + dg G then (cf r j - c * cf G.l (j - k)) % p else cf r j) : DivI p F G nq k r' (q.set k c) := by
 have hp := Pr.two (p := p);have hm : dg G ≠ 0 := fun e => hG (ze.1 e);have hcr : 0 <= c ∧ c < p := by rw [hc]; exact ⟨Int.emod_nonneg _ (by omega), Int.emod_lt_of_pos _ (by omega)⟩
 have hql := h.ql;have hlead : cf G.l (dg G - 1) % p ≠ 0 := ye (yO (by omega));have hinv := (xE (p := p) hlead).2.2
 have e1 : of p (q.set k c) = of p q + mono p c k := zR fun i => by
  rw [yE, yY, yE, kr, yl (by omega)]
  by_cases hi : i = k
  ·subst hi; rw [if_pos rfl, if_pos rfl, h.qz i (by omega)]; simp
  ·rw [if_neg hi, if_neg hi]; simp
 have e2 : of p r' = of p r - mono p c k * G := zR fun i => by
  rw [yE, zbg, yE, jB, hr]
  by_cases hi : k <= i
  ·rw [if_pos hi]
   by_cases hi2 : i < k + dg G
   ·rw [if_pos ⟨hi, hi2⟩];rw [Int.emod_emod_of_dvd _ (Int.dvd_refl p), <- Int.sub_emod]
   ·rw [if_neg (by omega), yz (f := G) (by omega)]; simp
  ·rw [if_neg (by omega), if_neg hi]; simp
 refine ⟨by rw [hl, h.rl], by simpa using hql, ?_, fun j hj => ?_, fun j => ?_, fun j => ?_, fun j hj => ?_⟩
 ·rw [e1, e2];exact comb 1 h.eq (zh [F, G, of p q, of p r, mono p c k] (by rfl))
 ·rw [hr]
  by_cases hj2 : j < k + dg G
  ·obtain rfl : j = k + dg G - 1 := by omega
   rw [if_pos (by omega), show k + dg G - 1 - k = dg G - 1 by omega, hc];generalize cf r (k + dg G - 1) = a;generalize xl p (cf G.l (dg G - 1)) = v at hinv;generalize cf G.l (dg G - 1) = l at hinv;rw [Int.sub_emod, Int.mul_emod (a * v % p), Int.emod_emod_of_dvd _ (Int.dvd_refl p), <- Int.mul_emod, show a * v * l = a * (l * v) by rw [Int.mul_assoc, Int.mul_comm v l], Int.mul_emod a, hinv, Int.mul_one, Int.emod_emod_of_dvd _ (Int.dvd_refl p)];simp
  ·rw [if_neg (by omega)]; exact h.z j (by omega)
 ·rw [hr]
  split
  ·exact ⟨Int.emod_nonneg _ (by omega), Int.emod_lt_of_pos _ (by omega)⟩
  ·exact h.rr j
 ·rw [yl (by omega)]
  split
  ·exact hcr
  ·exact h.qr j
 ·rw [yl (by omega), if_neg (by omega)];exact h.qz j (by omega)

theorem DivI.fin {F G : Poly p} {nq : Nat} {r q : List Int} (h : DivI p F G nq 0 r q) (hG : G ≠ 0) : zE q = (quo F G).l ∧ zE r = (rem F G).l := by
 have hm : dg G ≠ 0 := fun e => hG (ze.1 e)
 have h1 := zgB (q := of p q) (r := of p r) h.eq (by
  have : dg (of p r) <= dg G - 1 := za0 fun j hj => by rw [yE, h.z j (by omega)]; simp
  omega)
 rw [h1.1, h1.2];exact ⟨(zgK h.qr).symm, (zgK h.rr).symm⟩

theorem zeB {p : Int} {c : Int} {g : Nat -> Int} {r o : List Int} {k i n : Nat} (hn : o.length = n) (hi : k + i < n) (h : ∀ j, cf o j = if k <= j ∧ j < k + i then (cf r j - c * g (j - k)) % p else cf r j) :
  cf o (k + i) = cf r (k + i) ∧ ∀ j, cf (o.set (k + i) ((cf o (k + i) - c * g i) % p)) j = if k <= j ∧ j < k + (i + 1) then (cf r j - c * g (j - k)) % p else cf r j := by
 have h0 : cf o (k + i) = cf r (k + i) := by rw [h, if_neg (by omega)]
 refine ⟨h0, fun j => ?_⟩;rw [yl (by omega), h0, h]
 by_cases hj : j = k + i
 ·subst hj; rw [if_pos rfl, if_pos (by omega), show k + i - k = i by omega]
 ·rw [if_neg hj]
  by_cases h2 : k <= j ∧ j < k + i
  ·rw [if_pos h2, if_pos (by omega)]
  ·rw [if_neg h2, if_neg (by omega)]

end Poly
namespace Poly
variable {p : Int} [SP p]

theorem vn {f a b : Poly p} (hf : f ≠ 0) (h : f ∣ a - b) : rem a f = rem b f := by
 obtain ⟨q, hq⟩ := h;have h1 := jN b f;have h2 := zN b hf;exact (zgB (q := q + quo b f) (comb 1 hq (comb 1 h1 (zh [a, b, f, q, quo b f, rem b f] (by rfl)))) h2).2
theorem zau (a f : Poly p) : f ∣ a - rem a f := ⟨quo a f, comb 1 (jN a f) (zh [a, f, quo a f, rem a f] (by rfl))⟩
theorem yr {a b f : Poly p} (hf : f ≠ 0) : rem (rem a f * b) f = rem (a * b) f := by
 refine (vn hf ?_).symm;obtain ⟨q, hq⟩ := zau a f;exact ⟨q * b, comb b hq (zh [a, b, f, q, rem a f] (by rfl))⟩
theorem xm {a b f : Poly p} (hf : f ≠ 0) : rem (a * rem b f) f = rem (a * b) f := by
 have e : a * rem b f = rem b f * a := zh [a, rem b f] (by rfl);have e2 : b * a = a * b := zh [a, b] (by rfl);rw [e, yr hf, e2]
theorem zaP {a f : Poly p} (h : dg a < dg f) : rem a f = a := (zgB (q := 0) (f := a) (g := f) (zh [a, f] (by rfl)) h).2
theorem zaQ {a f : Poly p} (hf : f ≠ 0) (n : Nat) : rem (rem a f ^ n) f = rem (a ^ n) f := by
 induction n with
 | zero => rfl
 | succ n ih => rw [pow_succ', pow_succ', xm hf, <- yr hf, ih, yr hf]
theorem zgL (a : Poly p) (n : Nat) : a ^ n = (a * a) ^ (n / 2) * a ^ (n % 2) := by
 have h1 : (a * a) ^ (n / 2) = a ^ (2 * (n / 2)) := by
  rw [zdy]
  congr 1
  show a * a = 1 * a * a
  rw [CR.one_mul]
 rw [h1, <- pow_add]
 congr 1; omega
theorem zeC {o b f g : Poly p} (hf : f ≠ 0) {n : Nat} (h : rem (o * b ^ n) f = g) :
  rem ((if n % 2 = 1 then rem (o * b) f else o) * rem (b * b) f ^ (n / 2)) f = g := by
 rw [<- xm hf, zaQ hf, xm hf, <- h, zgL b n]
 split
 ·rename_i hn
  have e1 : b ^ (n % 2) = b := by rw [hn]; exact CR.one_mul b
  have e2 : o * b * (b * b) ^ (n / 2) = o * ((b * b) ^ (n / 2) * b) := zh [o, b, (b * b) ^ (n / 2)] (by rfl);rw [yr hf, e1, e2]
 ·rename_i hn
  have e1 : b ^ (n % 2) = 1 := by rw [show n % 2 = 0 by omega]; rfl
  rw [e1, CR.mul_one]

theorem zmI {c : Int} (h0 : 0 < c) (h1 : c < p) : (con p c).l = [c] := by
 refine yX (con p c).ok.2 ?_ fun i => ?_
 ·intro n hn;have : n = 0 := by simpa using hn.symm
  subst this;show c ≠ 0
  omega
 ·rw [xz, Int.emod_eq_of_lt (by omega) h1];cases i <;> simp [cf]
theorem zig : (1 : Poly p).l = [1] := by
 have hp := Pr.two (p := p);exact zmI (c := 1) (by omega) (by omega)
theorem zmJ {F : Poly p} (hF : F ≠ 0) : 0 < xl p (cf F.l (dg F - 1)) ∧ xl p (cf F.l (dg F - 1)) < p ∧ F * con p (xl p (cf F.l (dg F - 1))) = mnc F := by
 have hp := Pr.two (p := p);have hd : dg F ≠ 0 := fun e => hF (ze.1 e);have hl : cf F.l (dg F - 1) % p ≠ 0 := ye (yO (by omega));obtain ⟨h1, h2, h3⟩ := xE hl;generalize xl p (cf F.l (dg F - 1)) = c at h1 h2 h3;have hc0 : c ≠ 0 := fun e => by rw [e, Int.mul_zero, Int.zero_emod] at h3; omega
 have hcm : c % p ≠ 0 := by rw [Int.emod_eq_of_lt h1 h2]; exact hc0
 refine ⟨by omega, h2, ?_⟩
 have hm : Mon (con p c * F) := by
  refine ⟨mul_ne (zgF hcm) hF, ?_⟩;rw [zgE (zgF hcm) hF, zmr hcm, Int.emod_eq_of_lt h1 h2, Int.mul_comm];exact h3
 rw [zou hm];exact zh [F, con p c] (by rfl)
theorem zld (F G : Poly p) (hF : F ≠ 0) : dg (gcd F G) <= dg F := zM (xS F G) hF
end Poly

theorem zle {p : Int} {n m a0 : Nat} {R R' : Nat -> Nat -> Int} {s b : Int} (hab : s * b % p = 1) (ha : a0 < m) (h1 : ∀ x, x < n -> R' a0 x % p = (s * R a0 x) % p)
  (h2 : ∀ i, i < m -> i ≠ a0 -> ∃ t : Int, ∀ x, x < n -> R' i x % p = (R i x - t * (s * R a0 x)) % p) (c : Nat -> Int) : Sol p n m R' c ↔ Sol p n m R c := by
 constructor
 ·intro h
  have hat : jE p n (R a0) c := by
   have h3 := kw b (h a0 ha);refine (vz (fun x hx => ?_) (fun _ _ => rfl)).1 h3;rw [yN b (h1 x hx), <- Int.mul_assoc, Int.mul_comm b s, Int.mul_emod, hab, Int.one_mul, zZ]
  intro k hk
  by_cases he : k = a0
  ·subst he; exact hat
  ·obtain ⟨t, ht⟩ := h2 k hk he;have h3 := zfT t (h k hk) (kw s hat);refine (vz (fun x hx => ?_) (fun _ _ => rfl)).1 h3;rw [Int.add_emod, ht x hx, <- Int.add_emod]
   congr 1; omega
 ·intro h k hk
  by_cases he : k = a0
  ·subst he;exact (vz (fun x hx => h1 x hx) (fun _ _ => rfl)).2 (kw s (h k hk))
  ·obtain ⟨t, ht⟩ := h2 k hk he;have h3 := zfT (-t) (h k hk) (kw s (h a0 ha));refine (vz (fun x hx => ?_) (fun _ _ => rfl)).2 h3;rw [ht x hx]
   congr 1; rw [Int.neg_mul]; omega

namespace Poly
variable {p : Int} [SP p]

def zeD (L : List (Poly p)) (w : Poly p) : Prop := ∀ C : Poly p -> Prop, C 0 -> (∀ a b, C a -> C b -> C (a + b)) -> (∀ (c : Int) a, C a -> C (con p c * a)) -> (∀ a ∈ L, C a) -> C w

theorem zmK {L : List (Poly p)} {g : Nat -> Poly p} {n : Nat} (h : ∀ i, i < n -> zeD L (g i)) : zeD L (yi g n) := by
 intro C h0 ha hc hL
 induction n with
 | zero => exact h0
 | succ n ih => exact ha _ _ (ih fun i hi => h i (by omega)) (h n (by omega) C h0 ha hc hL)

def zc2 (p : Int) [SP p] (n : Nat) (piv : List Nat) (R : Nat -> Nat -> Int) (col : Nat) : Poly p := of p (mkL n (jm p piv R col))
theorem zbQ (n : Nat) (piv : List Nat) (R : Nat -> Nat -> Int) (col x : Nat) : cf (zc2 p n piv R col).l x = if x < n then jm p piv R col x % p else 0 := by
 rw [zc2, yE, vd]; split <;> simp

def xX (p : Int) [SP p] (n : Nat) (piv : List Nat) (R : Nat -> Nat -> Int) (m : Nat) : List (Poly p) := ((List.range m).filter fun c => !piv.contains c).map (zc2 p n piv R)
theorem zeE (n : Nat) (piv : List Nat) (R : Nat -> Nat -> Int) (m : Nat) : xX p n piv R (m + 1) = if m ∈ piv then xX p n piv R m else xX p n piv R m ++ [zc2 p n piv R m] := by
 unfold xX;rw [List.range_succ, List.filter_append]
 by_cases h : m ∈ piv
 ·simp [h]
 ·simp [h]

structure Basis (p : Int) [SP p] (n : Nat) (R : Nat -> Nat -> Int) (L : List (Poly p)) : Prop where
 few : L.length <= n
 sol : ∀ w ∈ L, dg w <= n ∧ Sol p n n R (cf w.l)
 span : ∀ w : Poly p, dg w <= n -> Sol p n n R (cf w.l) -> zeD L w

theorem Steps.basis {n : Nat} {piv : List Nat} {R R0 : Nat -> Nat -> Int} (h : Steps p n n piv R) (he : ∀ c, Sol p n n R c ↔ Sol p n n R0 c) : Basis p n R0 (xX p n piv R n) := by
 refine ⟨?_, ?_, ?_⟩
 ·unfold xX;rw [List.length_map];exact Nat.le_trans (List.length_filter_le _ _) (by simp)
 ·intro w hw;obtain ⟨col, hc, rfl⟩ := List.mem_map.1 hw;simp only [List.mem_filter, List.mem_range, Bool.not_eq_true', List.contains_eq_mem, decide_eq_false_iff_not] at hc
  refine ⟨za0 fun i hi => by rw [zbQ, if_neg (by omega)], (he _).1 fun k hk => ?_⟩;refine (vz (fun _ _ => rfl) (fun i hi => ?_)).1 (h.free hc.1 hc.2 k hk);rw [zbQ, if_pos hi, zZ]
 ·intro w hw hs;have h1 := h.all ((he _).2 hs)
  have e : w = yi (fun col => con p (if col ∈ piv then 0 else cf w.l col) * zc2 p n piv R col) n := zR fun x => by
   rw [zgH (fun col => if col ∈ piv then 0 else cf w.l col)]
   by_cases hx : x < n
   ·rw [<- jM w x, h1 x hx];refine yL p fun col hcol => ?_;rw [zbQ, if_pos hx]
    split
    ·simp
    ·rw [Int.mul_comm, mul_mod_left _ (zZ p _)]
   ·rw [yz (by omega)];rw [j3 fun i _ => by rw [zbQ, if_neg hx, Int.zero_mul]]; simp
  rw [e];refine zmK fun col hcol => ?_;intro C h0 ha hc hL
  by_cases hp : col ∈ piv
  ·rw [if_pos hp, xk, CR.zero_mul]; exact h0
  ·rw [if_neg hp];refine hc _ _ (hL _ (List.mem_map.2 ⟨col, ?_, rfl⟩));simp [hcol, hp]

structure Ker (f : Poly p) (L : List (Poly p)) : Prop where
 few : L.length <= dg f
 ber : ∀ w ∈ L, Ber f w ∧ dg w < dg f
 span : ∀ w : Poly p, dg w < dg f -> Ber f w -> zeD L w
noncomputable def zcr (f : Poly p) (k i : Nat) : Int := cf (zas f i).l k
theorem Basis.ker {f : Poly p} {n : Nat} {L : List (Poly p)} (hf : dg f = n + 1) (h : Basis p n (zcr f) L) : Ker f L := by
 have hb : ∀ w : Poly p, dg w <= n -> (Ber f w ↔ Sol p n n (zcr f) (cf w.l)) := fun w hw => zgI hf hw;exact ⟨by have := h.few; omega, fun w hw => ⟨(hb w (h.sol w hw).1).2 (h.sol w hw).2, by have := (h.sol w hw).1; omega⟩, fun w hw hB => h.span w (by omega) ((hb w (by omega)).1 hB)⟩

theorem zmL {L : List (Poly p)} {a : Poly p} (h : ∀ w ∈ L, ∃ s : Int, a ∣ w - con p s) {w : Poly p} (hw : zeD L w) : ∃ s : Int, a ∣ w - con p s := by
 refine hw (fun w => ∃ s : Int, a ∣ w - con p s) ⟨0, ?_⟩ ?_ ?_ h
 ·rw [xk, CR.sub_self]; exact dvd_zero _
 ·rintro x y ⟨s, q, hq⟩ ⟨t, r, hr⟩;refine ⟨s + t, q + r, ?_⟩;rw [<- zgD];exact comb 1 hq (comb 1 hr (zh [x, y, a, q, r, con p s, con p t] (by rfl)))
 ·rintro c x ⟨s, q, hq⟩;refine ⟨c * s, con p c * q, ?_⟩;rw [<- zgC];exact comb (con p c) hq (zh [x, a, q, con p c, con p s] (by rfl))

theorem Parts.done {f : Poly p} {P L : List (Poly p)} (hf : f ≠ 0) (hs : Sqf f) (hk : Ker f L) (hp : Parts f P) (hc : ∀ a ∈ P, ∀ w ∈ L, ∃ s : Int, a ∣ w - con p s) : zbn f P :=
 hp.irrs fun a ha => zh7 hf hs (hp.each a ha).2.2 (hp.each a ha).2.1 fun w hw hb => zmL (hc a ha) (hk.span w hw hb)

structure Cut (f : Poly p) (B P : List (Poly p)) : Prop where
 parts : Parts f P
 con : ∀ a ∈ P, ∀ w ∈ B, ∃ s : Int, a ∣ w - Poly.con p s
theorem Cut.start {f : Poly p} (hm : Mon f) (h2 : 2 <= dg f) : Cut f [] [f] := ⟨Parts.start hm h2, by simp⟩
theorem Cut.next {f v : Poly p} {B P : List (Poly p)} (h : Cut f B P) (hv : Ber f v) : Cut f (B ++ [v]) (zK v P) := by
 obtain ⟨h1, h2⟩ := h.parts.cut hv;refine ⟨h1, fun a ha w hw => ?_⟩;obtain ⟨h3, a0, ha0, h4⟩ := h2 a ha;rcases List.mem_append.1 hw with hw | hw
 ·obtain ⟨s, hs⟩ := h.con a0 ha0 w hw;exact ⟨s, dvd_trans h4 hs⟩
 ·simp at hw; subst hw; exact h3
theorem Cut.done {f : Poly p} {L P : List (Poly p)} (hf : f ≠ 0) (hs : Sqf f) (hk : Ker f L) (h : Cut f L P) : zbn f P := Parts.done hf hs hk h.parts h.con

theorem X_l : (X p).l = [0, 1] := by
 have hp := Pr.two (p := p);refine yX (X p).ok.2 ?_ fun i => ?_
 ·intro n hn;have : n = 1 := by simpa using hn.symm
  subst this;show (1 : Int) ≠ 0
  omega
 ·rw [kr, Int.emod_eq_of_lt (by omega) (by omega)]
  match i with
  | 0 => rfl
  | 1 => rfl
  | i + 2 => rw [if_neg (by omega), ya (by simp)]
theorem znT (i a : Nat) : cf (X p ^ i).l a = if a = i then 1 else 0 := by
 have hp := Pr.two (p := p);rw [zev, Nat.one_mul, kr, Int.emod_eq_of_lt (by omega) (by omega)]
theorem zgM (f : Poly p) (a i : Nat) : zcr f a i = (cf (rem (X p ^ (p.toNat * i)) f).l a - if a = i then 1 else 0) % p := by
 unfold zcr zas;rw [zbg, znT]

end Poly
namespace Poly
variable {p : Int} [SP p]

def y1 : List (Poly p) -> Poly p
 | [] => 1
 | a :: l => a * y1 l
theorem zih {a : Poly p} : ∀ {l : List (Poly p)}, (∀ b ∈ l, Cop a b) -> Cop a (y1 l)
 | [], _ => (znM a).symm
 | b :: l, h => by
  have h1 := h b (by simp);have h2 := zih (l := l) fun c hc => h c (by simp [hc]);exact (h1.symm.mul h2.symm).symm
theorem zeF {f : Poly p} (hf : f ≠ 0) : ∀ {l : List (Poly p)}, (∀ a ∈ l, a ∣ f) -> l.Pairwise (fun a b => ∀ h, Irr h -> h ∣ a -> h ∣ b -> False) -> y1 l ∣ f
 | [], _, _ => one_dvd f
 | a :: l, h, hp => by
  rw [List.pairwise_cons] at hp;have h1 := zeF hf (l := l) (fun b hb => h b (by simp [hb])) hp.2;have ha := h a (by simp);exact (zih fun b hb => zbl (zem ha hf) (hp.1 b hb)).mul_dvd ha h1
theorem zgN : ∀ {l : List (Poly p)}, (∀ a ∈ l, 2 <= dg a) -> l.length + 1 <= dg (y1 l)
 | [], _ => by rw [y1, yJ]; simp
 | a :: l, h => by
  have h1 := zgN (l := l) fun b hb => h b (by simp [hb]);have h2 := h a (by simp);have ha : a ≠ 0 := fun e => by rw [e, zA] at h2; omega
  have hl : y1 l ≠ 0 := fun e => by rw [e, zA] at h1; omega
  have := yZ ha hl;rw [y1, List.length_cons]; omega
theorem Parts.few {f : Poly p} {P : List (Poly p)} (h : Parts f P) (hf : f ≠ 0) : P.length + 1 <= dg f :=
 Nat.le_trans (zgN fun a ha => (h.each a ha).2.1) (zM (zeF hf (fun a ha => (h.each a ha).2.2) h.apart) hf)
theorem zbn.few {f : Poly p} {P : List (Poly p)} (h : zbn f P) (hf : f ≠ 0) : P.length + 1 <= dg f := by
 refine Nat.le_trans (zgN (l := P) fun a ha => ((h.2 a).1 ha).1.1) (zM (zeF hf (fun a ha => ((h.2 a).1 ha).2.2) ?_) hf);refine List.pairwise_iff_getElem.2 fun i j hi hj hij q hq h1 h2 => ?_;have ha := (h.2 _).1 (List.getElem_mem hi);have hb := (h.2 _).1 (List.getElem_mem hj);have e1 := zbj (jD hq).1 ha.1 (jD hq).2 ha.2.1 (dvd_trans (zT q).1 h1);have e2 := zbj (jD hq).1 hb.1 (jD hq).2 hb.2.1 (dvd_trans (zT q).1 h2);exact List.pairwise_iff_getElem.1 h.1 i j hi hj hij (e1.symm.trans e2)

theorem j6 (v a : Poly p) (n : Nat) : xa v a (n + 1) = xa v a n ++ zfi v a n := by simp [xa, List.range_succ]
theorem zmM (v a : Poly p) {n m : Nat} (h : n <= m) : (xa v a n).length <= (xa v a m).length := by
  induction m with
  | zero => obtain rfl : n = 0 := by omega
            exact Nat.le_refl _
  | succ m ih =>
    rcases Nat.eq_or_lt_of_le h with rfl | h'
    · exact Nat.le_refl _
    · have := ih (by omega)
      rw [j6, List.length_append]; omega
theorem zc3 (v : Poly p) {P : List (Poly p)} {j : Nat} (h : j < P.length) : zK v (P.take (j + 1)) = zK v (P.take j) ++ xa v (P.getD j 0) p.toNat := by
 unfold zK;rw [List.take_add_one, List.flatMap_append, List.getElem?_eq_getElem h, List.getD_eq_getElem?_getD, List.getElem?_eq_getElem h];simp
theorem zjt (v : Poly p) (P : List (Poly p)) (j : Nat) : (zK v (P.take j)).length <= (zK v P).length := by
 conv => rhs; rw [<- List.take_append_drop j P]
 unfold zK;rw [List.flatMap_append, List.length_append]; omega
theorem znU (v : Poly p) {P : List (Poly p)} {j a : Nat} (h : j < P.length) (ha : a <= p.toNat) : (zK v (P.take j) ++ xa v (P.getD j 0) a).length <= (zK v P).length := by
 have h1 := zjt v P (j + 1);rw [zc3 v h, List.length_append] at h1;have h2 := zmM v (P.getD j 0) ha;rw [List.length_append]; omega

theorem zfX (v : Poly p) (a : Int) : nrm p (zE (zaq v.l [-a])) = (v - con p a).l := by
 rw [zeA];show (of p (zaq v.l [-a])).l = _
 congr 1
 refine zR fun i => ?_;rw [yE, jA, zbg, xz];cases i with
 | zero => rw [if_pos rfl, yb]; rw [Int.sub_emod, Int.emod_emod_of_dvd _ (Int.dvd_refl p), <- Int.sub_emod]; congr 1
 | succ i => rw [if_neg (by omega), zv, yW]; simp
theorem zii {L : List (Poly p)} {j : Nat} (h : j < L.length) : L.getD j 0 ∈ L := by
 rw [List.getD_eq_getElem?_getD, List.getElem?_eq_getElem h]; exact List.getElem_mem h
theorem zlf {L : List (Poly p)} {j : Nat} (h : j < L.length) : L.take (j + 1) = L.take j ++ [L.getD j 0] := by
 rw [List.take_add_one, List.getD_eq_getElem?_getD, List.getElem?_eq_getElem h]; rfl

end Poly
namespace Poly
variable {p : Int} [SP p]

theorem znV {h : Poly p} (hm : Mon h) (n : Nat) : Mon (h ^ n) := by
 induction n with
 | zero => rw [zt]; exact zke
 | succ n ih => rw [pow_succ']; exact ih.mul hm
theorem Mon.left {f g : Poly p} (hf : Mon g) (h : Mon (f * g)) : Mon f := by
 rw [v6] at h; exact hf.right h

structure Peel (f : Poly p) (P : List (Poly p)) (k : Nat) (r : Poly p) (L : List (Poly p × Nat)) : Prop where
 mon : Mon r
 len : L.length = k
 le : k <= P.length
 cut : ∃ s, f = r * s ∧ ∀ h, Irr h -> Mon h -> h ∣ s -> ∃ j, j < k ∧ h = P.getD j 0
 fac : ∀ j, j < k -> (L.getD j (0, 0)).1 = P.getD j 0 ∧ 1 <= (L.getD j (0, 0)).2 ∧ zU (P.getD j 0) (L.getD j (0, 0)).2 f
 out : ∀ j, j < k -> ¬ P.getD j 0 ∣ r
 rest : ∀ h e, Irr h -> Mon h -> (∀ j, j < k -> h ≠ P.getD j 0) -> (zU h e f ↔ zU h e r)

theorem Peel.start {f : Poly p} (hm : Mon f) (P : List (Poly p)) : Peel f P 0 f [] :=
 ⟨hm, rfl, Nat.zero_le _, ⟨1, by exact zh [f] (by rfl), fun h hi _ hd => (hi.not_unit yJ hd).elim⟩, fun j hj => absurd hj (by omega), fun j hj => absurd hj (by omega), fun _ _ _ _ _ => Iff.rfl⟩

theorem zbo {P : List (Poly p)} (h : P.Nodup) {i j : Nat} (hi : i < P.length) (hj : j < P.length) (e : P.getD i 0 = P.getD j 0) : i = j := by
 rw [List.getD_eq_getElem?_getD, List.getD_eq_getElem?_getD, List.getElem?_eq_getElem hi, List.getElem?_eq_getElem hj] at e;exact (List.getElem_inj h).1 (by simpa using e)

theorem zcs {α : Type} {d x : α} {L : List α} {j : Nat} : (L ++ [x]).getD j d = if j < L.length then L.getD j d else if j = L.length then x else d := by
 simp only [List.getD_eq_getElem?_getD, List.getElem?_append]
 by_cases h : j < L.length
 ·simp [h]
 ·by_cases h2 : j = L.length
  ·simp [h2]
  ·rw [if_neg h, if_neg h, if_neg h2, List.getElem?_eq_none (by simp; omega)]; rfl

theorem Peel.step {f r r' : Poly p} {P : List (Poly p)} {k n : Nat} {L : List (Poly p × Nat)} (h : Peel f P k r L) (hP : P.Nodup) (hk : k < P.length) (hi : Irr (P.getD k 0)) (hm : Mon (P.getD k 0)) (hd : P.getD k 0 ∣ f)
  (he : r = P.getD k 0 ^ n * r') (hn : ¬ P.getD k 0 ∣ r') : Peel f P (k + 1) r' (L ++ [(P.getD k 0, n)]) := by
 have hr' : r' ∣ r := ⟨P.getD k 0 ^ n, by rw [he]; exact v6 _ _⟩
 have hmult : zU (P.getD k 0) n r := ⟨r', he, hn⟩
 have hmf : zU (P.getD k 0) n f := (h.rest _ _ hi hm fun j hj e => by have := zbo hP hk (by have := h.le; omega) e; omega).2 hmult
 have hn1 : 1 <= n := by
  rcases Nat.eq_zero_or_pos n with h0 | h0
  ·subst h0; exact absurd hd (y0.1 hmf)
  ·exact h0
 refine ⟨(znV hm n).right (he ▸ h.mon), by simp [h.len], hk, ?_, fun j hj => ?_, fun j hj => ?_, fun q e hq hqm hqn => ?_⟩
 ·obtain ⟨s, h1, h2⟩ := h.cut;refine ⟨P.getD k 0 ^ n * s, by rw [h1, he]; exact zh [P.getD k 0 ^ n, r', s] (by rfl), fun q hq hqm hqd => ?_⟩;rcases hq.prime hqd with h3 | h3
  ·exact ⟨k, by omega, zbj hq hi hqm hm (hq.pow h3)⟩
  ·obtain ⟨j, hj, e⟩ := h2 q hq hqm h3;exact ⟨j, by omega, e⟩
 ·rw [zcs]
  by_cases hjk : j = k
  ·subst hjk;rw [if_neg (by have := h.len; omega), if_pos h.len.symm];exact ⟨rfl, hn1, hmf⟩
  ·rw [if_pos (by have := h.len; omega)];exact h.fac j (by omega)
 ·by_cases hjk : j = k
  ·subst hjk; exact hn
  ·exact fun hdj => h.out j (by omega) (dvd_trans hdj hr')
 ·rw [h.rest q e hq hqm fun j hj => hqn j (by omega)];have hne : ¬ q ∣ P.getD k 0 := fun hd' => hqn k (by omega) (zbj hq hi hqm hm hd');have h0 : zU q 0 (P.getD k 0 ^ n) := y0.2 fun hd' => hne (hq.pow hd');have r0 : r' ≠ 0 := fun e0 => h.mon.1 (by rw [he, e0]; exact zh [P.getD k 0 ^ n] (by rfl))
  have up : ∀ e', zU q e' r' -> zU q e' r := fun e' h1 => by
   have := h0.mul hq h1;rw [Nat.zero_add] at this;rw [he]; exact this
  refine ⟨fun h1 => ?_, up e⟩;obtain ⟨e', h2⟩ := jF hq.1 _ r' r0 (Nat.le_refl _);rw [h1.unique hq.ne (up e' h2)]; exact h2

theorem zkj {f g : Poly p} (hf : f ≠ 0) (h : ∀ h, Irr h -> Mon h -> h ∣ f -> h ∣ g -> False) : Cop f g :=
 zbl hf fun q hq h1 h2 => by
  obtain ⟨hi, hm⟩ := jD hq;exact h _ hi hm (dvd_trans (zT q).1 h1) (dvd_trans (zT q).1 h2)

theorem Peel.fin {f r : Poly p} {P : List (Poly p)} {L : List (Poly p × Nat)} (h : Peel f P P.length r L) (_hf : Mon f) {q c : Poly p} (hq : zbn q P) (he : f = q * c) (hc : c ∣ der f) :
  der r = 0 ∧ ∀ x, za1 f x ↔ x ∈ L ∨ za1 r x := by
 have hr0 := h.mon.1
 have hidx : ∀ {g : Poly p}, g ∈ P -> ∃ j, j < P.length ∧ g = P.getD j 0 := fun {g} hg => by
  obtain ⟨j, hj, e⟩ := List.getElem_of_mem hg;exact ⟨j, hj, by rw [List.getD_eq_getElem?_getD, List.getElem?_eq_getElem hj]; exact e.symm⟩
 constructor
 ·obtain ⟨s, h1, h2⟩ := h.cut;refine zmw he h1 hr0 hc (zkj hr0 fun g hg hgm h3 h4 => ?_) (zkj hr0 fun g hg hgm h3 h4 => ?_)
  ·obtain ⟨j, hj, rfl⟩ := hidx ((hq.2 g).2 ⟨hg, hgm, h4⟩);exact h.out j hj h3
  ·obtain ⟨j, hj, rfl⟩ := h2 g hg hgm h4;exact h.out j hj h3
 ·have hL : ∀ x, x ∈ L ↔ ∃ j, j < P.length ∧ x = L.getD j (0, 0) := fun x => by
   constructor
   ·intro hx;obtain ⟨j, hj, e⟩ := List.getElem_of_mem hx;exact ⟨j, by have := h.len; omega, by rw [List.getD_eq_getElem?_getD, List.getElem?_eq_getElem hj]; exact e.symm⟩
   ·rintro ⟨j, hj, rfl⟩;have hj' : j < L.length := by have := h.len; omega
    rw [List.getD_eq_getElem?_getD, List.getElem?_eq_getElem hj'];exact List.getElem_mem hj'
  rintro ⟨g, e⟩;rw [hL]
  constructor
  ·rintro ⟨h1, h2, h3, h4⟩
   by_cases hg : ∃ j, j < P.length ∧ g = P.getD j 0
   ·obtain ⟨j, hj, rfl⟩ := hg;obtain ⟨h5, h6, h7⟩ := h.fac j hj;refine .inl ⟨j, hj, ?_⟩;have : e = (L.getD j (0, 0)).2 := h4.unique h1.ne h7;exact Prod.ext h5.symm this
   ·exact .inr ⟨h1, h2, h3, (h.rest g e h1 h2 fun j hj e' => hg ⟨j, hj, e'⟩).1 h4⟩
  ·rintro (⟨j, hj, hx⟩ | ⟨h1, h2, h3, h4⟩)
   ·obtain ⟨h5, h6, h7⟩ := h.fac j hj;rw [hx]
    have hmem : P.getD j 0 ∈ P := by
     rw [List.getD_eq_getElem?_getD, List.getElem?_eq_getElem hj]; exact List.getElem_mem hj
    obtain ⟨h8, h9, _⟩ := (hq.2 _).1 hmem;exact ⟨by rw [h5]; exact h8, by rw [h5]; exact h9, h6, by rw [h5]; exact h7⟩
   ·refine ⟨h1, h2, h3, (h.rest g e h1 h2 fun j hj e' => ?_).2 h4⟩;have hd : g ∣ r := h4.dvd h3;exact h.out j hj (e' ▸ hd)

theorem kB {f g : Poly p} (h : f ∣ g) (h' : g ∣ f) (hf : f ≠ 0) {q : Poly p} (hq : Irr q) (e : Nat) (h1 : zU q e f) : zU q e g := by
 obtain ⟨u, rfl⟩ := h;obtain ⟨v, hv⟩ := h'
 have huv : u * v = 1 := by
  have h3 : f * (u * v) = f * 1 := by
   have : f * (u * v) = f * u * v := by exact zh [f, u, v] (by rfl)
   rw [this, <- hv]; exact zh [f] (by rfl)
  exact zel hf h3
 have hu : ¬ q ∣ u := fun hd => by
  have h4 : q ∣ u * v := by obtain ⟨w, hw⟩ := hd; exact ⟨w * v, by rw [hw]; exact zh [q, w, v] (by rfl)⟩
  rw [huv] at h4;exact hq.not_unit yJ h4
 have := h1.mul hq (y0.2 hu)
 rwa [Nat.add_zero] at this
theorem zfY {f : Poly p} (hf : f ≠ 0) (x : Poly p × Nat) : za1 (mnc f) x ↔ za1 f x := by
 obtain ⟨h1, h2⟩ := zT f;exact ⟨fun ⟨a, b, c, d⟩ => ⟨a, b, c, kB h1 h2 (jC hf).1 a _ d⟩, fun ⟨a, b, c, d⟩ => ⟨a, b, c, kB h2 h1 hf a _ d⟩⟩

theorem zeG {f : Poly p} (h : dg f = 1) (x : Poly p × Nat) : ¬ za1 f x := fun ⟨a, _, c, d⟩ => a.not_unit h (d.dvd c)

theorem zct {g f : Poly p} (hg : g ≠ 0) {n : Nat} (hn : 1 <= n) (he : g ^ n = f) (x : Poly p × Nat) : za1 f x ↔ ∃ e, za1 g (x.1, e) ∧ x.2 = n * e := by
 subst he
 constructor
 ·rintro ⟨a, b, c, d⟩;obtain ⟨e, h1⟩ := jF a.1 _ g hg (Nat.le_refl _);have h2 := h1.pow a n;have h3 := d.unique a.ne h2;refine ⟨e, ⟨a, b, ?_, h1⟩, by rw [h3, Nat.mul_comm]⟩;rcases Nat.eq_zero_or_pos e with h4 | h4
  ·subst h4; omega
  ·exact h4
 ·rintro ⟨e, ⟨a, b, c, d⟩, h⟩;refine ⟨a, b, ?_, ?_⟩
  ·rw [h]; exact Nat.mul_pos hn c
  ·rw [h, Nat.mul_comm]; exact d.pow a n

theorem zfZ {f : Poly p} (hm : Mon f) (hd : der f = 0) {l : List Int} {n : Nat} (hl : l.length = n) (hc : ∀ i, i < n -> cf l i = cf f.l (i * p.toNat)) (h1 : dg f <= n * p.toNat) (h2 : n * p.toNat < dg f + p.toNat) :
  ∃ g : Poly p, g.l = l ∧ Mon g ∧ g ^ p.toNat = f ∧ dg g <= dg f ∧ (2 <= dg f -> dg g < dg f) := by
 have hp := Pr.two (p := p);have hp2 : 2 <= p.toNat := by omega
 have hcf : ∀ i, cf l i = cf f.l (i * p.toNat) := fun i => by
  by_cases hi : i < n
  ·exact hc i hi
  ·rw [ya (by omega), yz];have : n * p.toNat <= i * p.toNat := Nat.mul_le_mul_right _ (by omega);omega
 have hof : ∀ i, cf (of p l).l i = cf f.l (i * p.toNat) := fun i => by
  rw [yE, hcf, f.ok.cf_mod]
 have hpow := zmz hd hof;have hf0 := hm.1
 have hd1 : 1 <= dg f := by
  rcases Nat.eq_zero_or_pos (dg f) with h | h
  ·exact absurd (ze.1 h) hf0
  ·exact h
 have hn1 : 1 <= n := by
  rcases Nat.eq_zero_or_pos n with h | h
  ·subst h; omega
  ·exact h
 -- its last coefficient
 obtain ⟨m, rfl⟩ : ∃ m, n = m + 1 := ⟨n - 1, by omega⟩
 have hlast : dg f = m * p.toNat + 1 := by
  have hne : cf f.l (dg f - 1) ≠ 0 := by have := yO (f := f) (n := dg f - 1) (by omega); exact this
  have hk : (dg f - 1) % p.toNat = 0 := by
   refine Classical.byContradiction fun hk => hne ?_;have e := zmy (of p l) (dg f - 1)
   rwa [hpow, if_neg hk] at e
  have h3 : dg f - 1 = (dg f - 1) / p.toNat * p.toNat := (Nat.div_mul_cancel (Nat.dvd_of_mod_eq_zero hk)).symm;generalize (dg f - 1) / p.toNat = t at h3
  have h4 : t = m := by
   have e1 : (m + 1) * p.toNat = m * p.toNat + p.toNat := Nat.succ_mul _ _;rcases Nat.lt_trichotomy t m with h | h | h
   ·have : (t + 1) * p.toNat <= m * p.toNat := Nat.mul_le_mul_right _ h;have e2 : (t + 1) * p.toNat = t * p.toNat + p.toNat := Nat.succ_mul _ _;omega
   ·exact h
   ·have : (m + 1) * p.toNat <= t * p.toNat := Nat.mul_le_mul_right _ h;omega
  subst h4; omega
 have hone : cf (of p l).l m = 1 := by
  rw [hof];have := hm.2;unfold lc at this;rw [hlast] at this
  simpa using this
 have hdg : dg (of p l) = m + 1 := by
  have h5 := zof (f := of p l) (n := m) (by rw [hone]; decide);have h6 := zbH (p := p) l;omega
 refine ⟨of p l, j5 (by show dg (of p l) = _; omega) fun j hj => ?_, ⟨fun e => ?_, ?_⟩, hpow, ?_, fun h => ?_⟩
 ·rw [hof, hcf]
 ·rw [e, zA] at hdg; omega
 ·unfold lc; rw [hdg]; exact hone
 ·have : m * 2 <= m * p.toNat := Nat.mul_le_mul_left _ hp2;omega
 ·have : m * 2 <= m * p.toNat := Nat.mul_le_mul_left _ hp2
  have : 1 <= m := by
   rcases Nat.eq_zero_or_pos m with h0 | h0
   ·subst h0; simp at hlast; omega
   ·exact h0
  omega

end Poly
namespace Poly
variable {p : Int} [SP p]

def jP (f : Poly p) (G : List (Poly p × Nat)) : Prop := (G.map Prod.fst).Nodup ∧ ∀ x, x ∈ G ↔ za1 f x

theorem jP.few {f : Poly p} {G : List (Poly p × Nat)} (h : jP f G) (hf : f ≠ 0) : G.length + 1 <= dg f := by
 have : zbn f (G.map Prod.fst) := ⟨h.1, fun g => ?_⟩
 ·have := this.few hf
  simpa using this
 ·rw [List.mem_map]
  constructor
  ·rintro ⟨x, hx, rfl⟩;obtain ⟨a, b, c, d⟩ := (h.2 x).1 hx;exact ⟨a, b, d.dvd c⟩
  ·rintro ⟨a, b, c⟩;obtain ⟨e, he⟩ := jF a.1 _ f hf (Nat.le_refl _);refine ⟨(g, e), (h.2 _).2 ⟨a, b, ?_, he⟩, rfl⟩;rcases Nat.eq_zero_or_pos e with h0 | h0
   ·subst h0; exact absurd c (y0.1 he)
   ·exact h0
theorem jG.facs {f : Poly p} {F : List (Poly p × Nat)} (h : jG f F) : jP f F :=
 ⟨by
  refine List.Pairwise.map _ (R := fun x y : Poly p × Nat => ltP x.1 y.1) (fun x y hxy e => zey y.1 (by rw [e] at hxy; exact hxy)) h.1, h.2⟩

theorem jP.unit {r : Poly p} (h : dg r = 1) : jP r [] := ⟨List.nodup_nil, fun x => ⟨fun hx => by simp at hx, fun hx => (zeG h x hx).elim⟩⟩

def up (n : Nat) (F : List (Poly p × Nat)) : List (Poly p × Nat) := F.map fun x => (x.1, n * x.2)
theorem jP.up {g f : Poly p} (hg : g ≠ 0) {n : Nat} (hn : 1 <= n) (he : g ^ n = f) {F : List (Poly p × Nat)} (h : jP g F) : jP f (up n F) := by
 refine ⟨?_, fun x => ?_⟩
 ·have : (Poly.up n F).map Prod.fst = F.map Prod.fst := by unfold Poly.up; rw [List.map_map]; rfl
  rw [this]; exact h.1
 ·rw [zct hg hn he];unfold Poly.up;rw [List.mem_map]
  constructor
  ·rintro ⟨y, hy, rfl⟩;exact ⟨y.2, (h.2 _).1 hy, rfl⟩
  ·rintro ⟨e, h1, h2⟩;exact ⟨(x.1, e), (h.2 _).2 h1, Prod.ext rfl h2.symm⟩

theorem Peel.fstL {f r : Poly p} {P : List (Poly p)} {L : List (Poly p × Nat)} (h : Peel f P P.length r L) : L.map Prod.fst = P := by
 refine List.ext_getElem (by simpa using h.len) fun i h1 h2 => ?_;have h3 := (h.fac i h2).1;have h1' : i < L.length := by simpa using h1
 rw [List.getD_eq_getElem?_getD, List.getD_eq_getElem?_getD, List.getElem?_eq_getElem h1', List.getElem?_eq_getElem h2] at h3
 simpa using h3

theorem Peel.facs {f r : Poly p} {P : List (Poly p)} {L F : List (Poly p × Nat)} (h : Peel f P P.length r L) (hf : Mon f) {q c : Poly p} (hq : zbn q P) (he : f = q * c) (hc : c ∣ der f) (hF : jP r F) : jP f (L ++ F) := by
 obtain ⟨_, h2⟩ := h.fin hf hq he hc;refine ⟨?_, fun x => by rw [h2, List.mem_append, hF.2]⟩;rw [List.map_append, h.fstL];refine List.nodup_append.2 ⟨hq.1, hF.1, fun a ha b hb e => ?_⟩;subst e;obtain ⟨x, hx, rfl⟩ := List.mem_map.1 hb;obtain ⟨a1, a2, a3, a4⟩ := (hF.2 x).1 hx;obtain ⟨j, hj, hje⟩ := List.getElem_of_mem ha;refine h.out j hj ?_;rw [List.getD_eq_getElem?_getD, List.getElem?_eq_getElem hj];show P[j] ∣ r
 rw [hje]; exact a4.dvd a3

theorem jP.mnc {f : Poly p} (hf : f ≠ 0) {G : List (Poly p × Nat)} (h : jP (mnc f) G) : jP f G := ⟨h.1, fun x => by rw [h.2, zfY hf]⟩

theorem zoh (f : Poly p) : nrm p (mkL (f.l.length - 1) (dv (cf f.l))) = (der f).l := by
 refine yX (j1 _ _) (der f).ok.2 fun j => ?_;rw [zcl, zcn, vd]
 by_cases h : j < f.l.length - 1
 ·rw [if_pos h]
 ·rw [if_neg h];unfold dv;rw [ya (by omega)]; simp

theorem zkk {f : Poly p} (hm : Mon f) (hd : der f ≠ 0) : f = quo f (gcd f (der f)) * gcd f (der f) ∧ Mon (quo f (gcd f (der f))) ∧ Sqf (quo f (gcd f (der f))) ∧ 2 <= dg (quo f (gcd f (der f))) ∧ dg (quo f (gcd f (der f))) <= dg f ∧ gcd f (der f) ∣ der f ∧ gcd f (der f) ≠ 0 := by
 have hg := zbJ (f := f) (g := der f) (.inl hm.1)
 have h1 : f = quo f (gcd f (der f)) * gcd f (der f) := by
  have h2 := jN f (gcd f (der f));rw [(vr hg.1).1 (xS f (der f))] at h2;have e : ∀ a : Poly p, a + 0 = a := fun a => by exact zh [a] (by rfl)
  rw [e] at h2; exact h2
 have hq0 : quo f (gcd f (der f)) ≠ 0 := fun e => hm.1 (by rw [h1, e]; exact zh [gcd f (der f)] (by rfl));have hmq : Mon (quo f (gcd f (der f))) := hg.left (h1 ▸ hm);refine ⟨h1, hmq, zmv hm.1 h1 (fun h a b => zkf a b), ?_, ?_, xD _ _, hg.1⟩
 ·refine Classical.byContradiction fun h2 => ?_;have h3 := yZ hq0 hg.1;rw [<- h1] at h3;have h4 := zM (xD f (der f)) hd;have h5 := zco hm.1;have h6 : dg (quo f (gcd f (der f))) ≠ 0 := fun e => hq0 (ze.1 e);omega
 ·exact zM ⟨gcd f (der f), h1⟩ hm.1

end Poly
namespace Poly
variable {p : Int} [SP p]

def zbR (f v : Poly p) (s : Nat) (O : List (Poly p)) : Prop := O.Nodup ∧ ∀ h, h ∈ O ↔ Irr h ∧ Mon h ∧ ∃ a ∈ xa v f s, h ∣ a

theorem zbR.start (f v : Poly p) : zbR f v 0 [] := ⟨List.nodup_nil, fun h => ⟨fun hh => by simp at hh, fun ⟨_, _, a, ha, _⟩ => by simp [xa] at ha⟩⟩
theorem zbR.skip {f v : Poly p} {s : Nat} {O : List (Poly p)} (h : zbR f v s O) (hd : ¬ 2 <= dg (gcd f (v - con p (s : Int)))) : zbR f v (s + 1) O := by
 have e : xa v f (s + 1) = xa v f s := by rw [j6, zfi, if_neg hd, List.append_nil]
 unfold zbR at *;rw [e]; exact h
theorem zbR.step {f v : Poly p} {s : Nat} {O P : List (Poly p)} (h : zbR f v s O) (hs : (s : Int) < p) (hd : 2 <= dg (gcd f (v - con p (s : Int)))) (hP : zbn (gcd f (v - con p (s : Int))) P) : zbR f v (s + 1) (O ++ P) := by
 have e : xa v f (s + 1) = xa v f s ++ [gcd f (v - con p (s : Int))] := by rw [j6, zfi, if_pos hd]
 have hap := zfW (v := v) (a := f) (n := s + 1) (by omega);rw [e] at hap;refine ⟨List.nodup_append.2 ⟨h.1, hP.1, fun a ha b hb hab => ?_⟩, fun q => ?_⟩
 ·subst hab;obtain ⟨a1, a2, c, hc, h3⟩ := (h.2 a).1 ha;obtain ⟨_, _, h4⟩ := (hP.2 a).1 hb;exact (List.pairwise_append.1 hap).2.2 c hc _ (by simp) a a1 h3 h4
 ·rw [e, List.mem_append, h.2, hP.2]
  constructor
  ·rintro (⟨a1, a2, c, hc, h3⟩ | ⟨a1, a2, h3⟩)
   ·exact ⟨a1, a2, c, by simp [hc], h3⟩
   ·exact ⟨a1, a2, _, by simp, h3⟩
  ·rintro ⟨a1, a2, c, hc, h3⟩;rcases List.mem_append.1 hc with hc | hc
   ·exact .inl ⟨a1, a2, c, hc, h3⟩
   ·simp at hc; subst hc; exact .inr ⟨a1, a2, h3⟩
theorem zbR.fin {f v : Poly p} {O : List (Poly p)} (h : zbR f v p.toNat O) (hm : Mon f) (hd : 2 <= dg f) (hv : Ber f v) : zbn f O := by
 have hc := (Parts.start hm hd).cut hv;have e : zK v [f] = xa v f p.toNat := by simp [zK]
 rw [e] at hc;refine ⟨h.1, fun q => ?_⟩;rw [h.2]
 constructor
 ·rintro ⟨a1, a2, c, h1, h2⟩;exact ⟨a1, a2, dvd_trans h2 (hc.1.each c h1).2.2⟩
 ·rintro ⟨a1, a2, h1⟩;obtain ⟨c, h2, h3⟩ := hc.1.all q a1 h1;exact ⟨a1, a2, c, h2, h3⟩
theorem zmN {f v : Poly p} {n : Nat} (_hf : dg f = n + 1) (h2 : 2 <= dg v) (hv : dg v <= n) (s : Int) : dg (gcd f (v - con p s)) <= n := by
 have h1 : v - con p s ≠ 0 := fun e => by
  have h3 := zmo (v - con p s) (con p s);have e2 : v - con p s + con p s = v := by exact zh [v, con p s] (by rfl)
  rw [e2, e, zA] at h3;have := jO (p := p) s;omega
 have h3 := zM (xD f (v - con p s)) h1;have h4 := zbi v (con p s);have := jO (p := p) s;omega

end Poly

def zX {α : Type} (G : List α) (k : Nat) (x : α) : List α := G.take k ++ [x] ++ G.drop k
theorem zeH {α : Type} {G : List α} {k j : Nat} {x d : α} (hk : k <= G.length) (h : j < k) : (zX G k x).getD j d = G.getD j d := by
 rw [zX, List.append_assoc, List.getD_eq_getElem?_getD, List.getD_eq_getElem?_getD, List.getElem?_append_left (by simp; omega), List.getElem?_take_of_lt h]
theorem zeI {α : Type} {G : List α} {k : Nat} {x d : α} (hk : k <= G.length) : (zX G k x).getD k d = x := by
 simp [zX, List.getD_eq_getElem?_getD, Nat.min_eq_left hk]
theorem zeJ {α : Type} {G : List α} {k j : Nat} {x d : α} (hk : k <= G.length) : (zX G k x).getD (k + 1 + j) d = G.getD (k + j) d := by
 rw [zX, List.getD_eq_getElem?_getD, List.getD_eq_getElem?_getD, List.getElem?_append_right (by simp [Nat.min_eq_left hk]), List.getElem?_drop];simp [Nat.min_eq_left hk]
theorem zf0 {α : Type} {G : List α} {k : Nat} {x y : α} : y ∈ zX G k x ↔ y = x ∨ y ∈ G := by
 have : y ∈ G ↔ y ∈ G.take k ++ G.drop k := by rw [List.take_append_drop]
 rw [this, zX];simp only [List.mem_append, List.mem_singleton]
 constructor
 ·rintro ((h | h) | h)
  ·exact .inr (.inl h)
  ·exact .inl h
  ·exact .inr (.inr h)
 ·rintro (h | h | h)
  ·exact .inl (.inr h)
  ·exact .inl (.inl h)
  ·exact .inr h
theorem zbS {α : Type} {G : List α} {k : Nat} {x : α} (hk : k <= G.length) : (zX G k x).length = G.length + 1 := by
 simp [zX]; omega

namespace Poly
variable {p : Int} [SP p]

abbrev Srt (G : List (Poly p × Nat)) : Prop := G.Pairwise fun x y => ltP x.1 y.1

theorem zdA {α : Type} {d : α} {G : List α} {j : Nat} (h : j < G.length) : G.getD j d = G[j] := by
 rw [List.getD_eq_getElem?_getD, List.getElem?_eq_getElem h]; rfl

theorem Srt.put {G : List (Poly p × Nat)} (h : Srt G) {k : Nat} {x : Poly p × Nat} (hk : k <= G.length) (h1 : ∀ j, j < k -> ltP (G.getD j (0, 0)).1 x.1) (h2 : k = G.length ∨ ¬ ltP (G.getD k (0, 0)).1 x.1) (hn : ∀ y ∈ G, y.1 ≠ x.1) : Srt (zX G k x) := by
 have hG := h;rw [<- List.take_append_drop k G] at hG;obtain ⟨a1, a2, a3⟩ := List.pairwise_append.1 hG
 have ht : ∀ a ∈ G.take k, ltP a.1 x.1 := fun a ha => by
  obtain ⟨j, hj, e⟩ := List.getElem_of_mem ha;have hj' : j < k ∧ j < G.length := by simp at hj; omega
  have := h1 j hj'.1;rw [zdA hj'.2] at this;rw [List.getElem_take] at e;rw [<- e]; exact this
 have hd : ∀ a ∈ G.drop k, ltP x.1 a.1 := fun a ha => by
  obtain ⟨j, hj, e⟩ := List.getElem_of_mem ha;have hj' : k + j < G.length := by simp at hj; omega
  rw [List.getElem_drop] at e;have hk' : k < G.length := by omega
  have hx := h2.resolve_left (by omega);rw [zdA hk'] at hx;have hlt : ltP x.1 G[k].1 := (zfU (hn G[k] (List.getElem_mem hk'))).resolve_left hx;rcases Nat.eq_zero_or_pos j with h0 | h0
  ·subst h0; rw [<- e]; exact hlt
  ·rw [<- e];exact zcp hlt (List.pairwise_iff_getElem.1 h k (k + j) hk' hj' (by omega))
 refine List.pairwise_append.2 ⟨List.pairwise_append.2 ⟨a1, List.pairwise_singleton _ _, fun a ha b hb => ?_⟩, a2, fun a ha b hb => ?_⟩
 ·rw [List.mem_singleton.1 hb]; exact ht a ha
 ·rcases List.mem_append.1 ha with h' | h'
  ·exact a3 a h' b hb
  ·rw [List.mem_singleton.1 h']; exact hd b hb

structure PutOf (f : Poly p) (t : Nat) (G G' : List (Poly p × Nat)) : Prop where
 srt : Srt G'
 mem : ∀ x, x ∈ G' ↔ x ∈ G ∨ ∃ e, za1 f (x.1, e) ∧ x.2 = t * e

theorem PutOf.unit {f : Poly p} (h : dg f = 1) {t : Nat} {G : List (Poly p × Nat)} (hG : Srt G) : PutOf f t G G :=
 ⟨hG, fun _x => ⟨.inl, fun hx => hx.elim id fun ⟨_e, he, _⟩ => (zeG h _ he).elim⟩⟩
theorem PutOf.root {g f : Poly p} (hg : g ≠ 0) {n t : Nat} (hn : 1 <= n) (he : g ^ n = f) {G G' : List (Poly p × Nat)} (h : PutOf g (n * t) G G') : PutOf f t G G' :=
 ⟨h.srt, fun x => by
  rw [h.mem];refine or_congr Iff.rfl ⟨fun ⟨e, h1, h2⟩ => ⟨n * e, (zct hg hn he _).2 ⟨e, h1, rfl⟩, by rw [h2, Nat.mul_comm n t, Nat.mul_assoc]⟩, fun ⟨e, h1, h2⟩ => ?_⟩;obtain ⟨e', h3, h4⟩ := (zct hg hn he _).1 h1;have h4 : e = n * e' := h4;exact ⟨e', h3, by rw [h2, h4, Nat.mul_comm n t, Nat.mul_assoc]⟩⟩
theorem PutOf.fac {f : Poly p} {F : List (Poly p × Nat)} (h : PutOf f 1 [] F) : jG f F :=
 ⟨h.srt, fun x => by
  rw [h.mem];refine ⟨fun hx => hx.elim (fun h => by simp at h) fun ⟨e, h1, h2⟩ => ?_, fun hx => .inr ⟨x.2, hx, by omega⟩⟩;obtain rfl : e = x.2 := by omega
  exact h1⟩

structure Putting (f : Poly p) (P : List (Poly p)) (t : Nat) (G : List (Poly p × Nat)) (k : Nat) (r : Poly p) (L H : List (Poly p × Nat)) : Prop where
 peel : Peel f P k r L
 srt : Srt H
 mem : ∀ x, x ∈ H ↔ x ∈ G ∨ x ∈ up t L
 len : H.length = G.length + k

theorem Putting.start {f : Poly p} (hm : Mon f) (P : List (Poly p)) (t : Nat) {G : List (Poly p × Nat)} (hG : Srt G) : Putting f P t G 0 f [] G :=
 ⟨Peel.start hm P, hG, fun x => by simp [up], rfl⟩

theorem zju {p : Int} {t : Nat} {L : List (Poly p × Nat)} {x : Poly p × Nat} (h : x ∈ up t L) : ∃ y ∈ L, x = (y.1, t * y.2) := by
 obtain ⟨y, hy, e⟩ := List.mem_map.1 h;exact ⟨y, hy, e.symm⟩

theorem Peel.mem_fst {f r : Poly p} {P : List (Poly p)} {k : Nat} {L : List (Poly p × Nat)} (h : Peel f P k r L) {y : Poly p × Nat} (hy : y ∈ L) : ∃ j, j < k ∧ y.1 = P.getD j 0 := by
 obtain ⟨j, hj, e⟩ := List.getElem_of_mem hy;have hjk : j < k := by rw [<- h.len]; exact hj
 have := (h.fac j hjk).1;rw [zdA hj, e] at this;exact ⟨j, hjk, this⟩

theorem Putting.step {f r r' : Poly p} {P : List (Poly p)} {t k n i : Nat} {G L H : List (Poly p × Nat)} (h : Putting f P t G k r L H) (hG : ∀ x ∈ G, ¬ x.1 ∣ f) (hP : P.Nodup) (hk : k < P.length) (hi : Irr (P.getD k 0)) (hm : Mon (P.getD k 0)) (hd : P.getD k 0 ∣ f)
  (he : r = P.getD k 0 ^ n * r') (hn : ¬ P.getD k 0 ∣ r') (hil : i <= H.length) (h1 : ∀ j, j < i -> ltP (H.getD j (0, 0)).1 (P.getD k 0)) (h2 : i = H.length ∨ ¬ ltP (H.getD i (0, 0)).1 (P.getD k 0)) :
  Putting f P t G (k + 1) r' (L ++ [(P.getD k 0, n)]) (zX H i (P.getD k 0, n * t)) := by
 refine ⟨h.peel.step hP hk hi hm hd he hn, h.srt.put hil h1 h2 fun y hy e => ?_, fun x => ?_, by rw [zbS hil, h.len]; omega⟩
 ·have e : y.1 = P.getD k 0 := e;rcases (h.mem y).1 hy with hy | hy
  ·exact hG y hy (e ▸ hd)
  ·obtain ⟨z, hz, rfl⟩ := zju hy;obtain ⟨j, hj, e'⟩ := h.peel.mem_fst hz;have := zbo hP hk (by omega) (e.symm.trans e');omega
 ·rw [zf0, h.mem];have : up t (L ++ [(P.getD k 0, n)]) = up t L ++ [(P.getD k 0, n * t)] := by simp [up, Nat.mul_comm]
  rw [this, List.mem_append, List.mem_singleton]
  constructor
  ·rintro (h | h | h)
   ·exact .inr (.inr h)
   ·exact .inl h
   ·exact .inr (.inl h)
  ·rintro (h | h | h)
   ·exact .inr (.inl h)
   ·exact .inr (.inr h)
   ·exact .inl h

theorem Putting.apart {f r : Poly p} {P : List (Poly p)} {t : Nat} {G L H : List (Poly p × Nat)} (h : Putting f P t G P.length r L H) (hG : ∀ x ∈ G, ¬ x.1 ∣ f) : ∀ x ∈ H, ¬ x.1 ∣ r := by
 intro x hx hd;rcases (h.mem x).1 hx with hx | hx
 ·obtain ⟨s, hs, _⟩ := h.peel.cut;exact hG x hx (dvd_trans hd ⟨s, hs⟩)
 ·obtain ⟨z, hz, rfl⟩ := zju hx;obtain ⟨j, hj, e'⟩ := h.peel.mem_fst hz;exact h.peel.out j hj (by rw [<- e']; exact hd)

theorem Putting.fin {f r : Poly p} {P : List (Poly p)} {t : Nat} {G L H G' : List (Poly p × Nat)} (h : Putting f P t G P.length r L H) (hf : Mon f) {q c : Poly p} (hq : zbn q P) (he : f = q * c) (hc : c ∣ der f) (hG' : PutOf r t H G') : PutOf f t G G' := by
 obtain ⟨_, h2⟩ := h.peel.fin hf hq he hc;refine ⟨hG'.srt, fun x => ?_⟩;rw [hG'.mem, h.mem]
 constructor
 ·rintro ((h3 | h3) | ⟨e, h3, h4⟩)
  ·exact .inl h3
  ·obtain ⟨z, hz, rfl⟩ := zju h3;exact .inr ⟨z.2, (h2 _).2 (.inl hz), rfl⟩
  ·exact .inr ⟨e, (h2 _).2 (.inr h3), h4⟩
 ·rintro (h3 | ⟨e, h3, h4⟩)
  ·exact .inl (.inl h3)
  ·rcases (h2 _).1 h3 with h5 | h5
   ·refine .inl (.inr (List.mem_map.2 ⟨_, h5, Prod.ext rfl h4.symm⟩))
   ·exact .inr ⟨e, h5, h4⟩

theorem Peel.less {f r : Poly p} {P : List (Poly p)} {L : List (Poly p × Nat)} (h : Peel f P P.length r L) (hf : Mon f) {q c : Poly p} (hq : zbn q P) (he : f = q * c) (hq2 : 2 <= dg q) : dg r < dg f := by
 obtain ⟨g, g1, g2, g3⟩ := zbk _ q (Nat.le_refl _) hq2;obtain ⟨j, hj, e⟩ := List.getElem_of_mem ((hq.2 g).2 ⟨g1, g2, g3⟩);have hg : g = P.getD j 0 := by rw [zdA hj, e]
 obtain ⟨s, hs, _⟩ := h.cut;have hr0 := h.mon.1;have hs0 : s ≠ 0 := fun e => hf.1 (by rw [hs, e]; exact zh [r] (by rfl));have h1 := yZ hr0 hs0;rw [<- hs] at h1
 have hgs : g ∣ s := by
  have : g ∣ r * s := by rw [<- hs, he]; exact dvd_trans g3 ⟨c, rfl⟩
  rcases g1.prime this with h2 | h2
  ·exact absurd (hg ▸ h2) (h.out j hj)
  ·exact h2
 have h2 := zM hgs hs0;have h3 := g1.1;omega

theorem zij {a : Poly p} {n : Nat} (h : 1 <= n) : a ∣ a ^ n := by
 obtain ⟨m, rfl⟩ : ∃ m, n = m + 1 := ⟨n - 1, by omega⟩
 exact ⟨a ^ m, by rw [pow_succ']; exact v6 _ _⟩

theorem zmO {g f : Poly p} (hg : Mon g) (he : g ^ p.toNat = f) (h2 : 2 <= dg f) : p.toNat < dg f := by
 have : 2 <= dg g := by
  refine Classical.byContradiction fun h => ?_
  have h1 : dg g = 1 := by
   have : dg g ≠ 0 := fun e => hg.1 (ze.1 e);omega
  have h3 : g = 1 := zjl hg zke (zmq h1 _) (one_dvd g);rw [h3, zbK] at he;rw [<- he, yJ] at h2;omega
 have := zeu this p.toNat;rw [he] at this;exact this

theorem zjv {f h : Poly p} (hf : f ≠ 0) (hF : jG f [(h, 1)]) : Irr f := by
 obtain ⟨h1, h2, _, u, hu, hn⟩ := (hF.2 (h, 1)).1 (by simp);have h1 : Irr h := h1;have h2 : Mon h := h2;have hu : f = h * u := by rw [hu, pow_succ', zt]; exact zh [h, u] (by rfl)
 have hu0 : u ≠ 0 := fun e => hf (by rw [hu, e]; exact zh [h] (by rfl))
 have hd : dg u = 1 := by
  have h0 : dg u ≠ 0 := fun e => hu0 (ze.1 e);rcases Nat.lt_or_ge (dg u) 2 with h3 | h3
  ·omega
  ·obtain ⟨g, g1, g2, g3⟩ := zbk _ u (Nat.le_refl _) h3;have hgf : g ∣ f := by rw [hu]; exact dvd_mul_left h g3
   obtain ⟨e, he⟩ := jF g1.1 _ f hf (Nat.le_refl _)
   have he1 : 1 <= e := by
    rcases Nat.eq_zero_or_pos e with h4 | h4
    ·subst h4; exact absurd hgf (y0.1 he)
    ·exact h4
   have hm := (hF.2 (g, e)).2 ⟨g1, g2, he1, he⟩;rw [List.mem_singleton] at hm;have : g = h := congrArg Prod.fst hm;rw [this] at g3;exact absurd g3 hn
 obtain ⟨v, hv⟩ := ji hd
 have hv0 : v ≠ 0 := fun e => by
  rw [e] at hv;exact zgA (p := p) (by rw [<- hv]; exact zh [u] (by rfl))
 have hdv : dg v = 1 := by
  have := yZ hu0 hv0;rw [hv, yJ] at this;omega
 have hdf := yZ h1.ne hu0;rw [<- hu] at hdf;refine ⟨by have := h1.1; omega, fun a b hab => ?_⟩
 have hh : h = a * (b * v) := by
  have : h = f * v := by
   have e : h * u * v = h * (u * v) := by exact zh [h, u, v] (by rfl)
   rw [hu, e, hv]; exact zh [h] (by rfl)
  rw [this, hab]; exact zh [a, b, v] (by rfl)
 rcases h1.2 _ _ hh with h3 | h3
 ·exact .inl h3
 ·have hb0 : b ≠ 0 := fun e => hf (by rw [hab, e]; exact zh [a] (by rfl));have := yZ hb0 hv0;exact .inr (by omega)

theorem zjw {f : Poly p} (hf : Irr f) : jG f [(mnc f, 1)] := by
 obtain ⟨a1, a2⟩ := zT f;obtain ⟨b1, b2⟩ := jD hf;have hm : zU (mnc f) 1 f := kB a1 a2 b2.1 b1 1 (zia b1);refine ⟨List.pairwise_singleton _ _, fun x => ?_⟩;rw [List.mem_singleton]
 constructor
 ·rintro rfl;exact ⟨b1, b2, Nat.le_refl _, hm⟩
 ·rintro ⟨c1, c2, c3, c4⟩;have h1 : x.1 = mnc f := zbj c1 b1 c2 b2 (dvd_trans (c4.dvd c3) a2)
  have h2 : x.2 = 1 := by
   rw [h1] at c4;exact c4.unique b1.ne hm
  exact Prod.ext h1 h2

end Poly
namespace Poly

def zjx (p : Nat) : Nat -> Nat -> List Int
 | 0, _ => []
 | k + 1, n => if n = 0 then [] else ((n % p : Nat) : Int) :: zjx p k (n / p)
def dig (p n : Nat) : List Int := zjx p n n
def num (p : Nat) : List Int -> Nat
 | [] => 0
 | c :: l => c.toNat + p * num p l

theorem zik {p : Nat} (hp : 2 <= p) : ∀ (n k j : Nat), n <= k -> n <= j -> zjx p k n = zjx p j n := by
 intro n
 induction n using Nat.strongRecOn with
 | ind n ih =>
  intro k j hk hj
  by_cases h0 : n = 0
  ·subst h0; cases k <;> cases j <;> simp [zjx]
  ·obtain ⟨k, rfl⟩ : ∃ k', k = k' + 1 := ⟨k - 1, by omega⟩
   obtain ⟨j, rfl⟩ : ∃ j', j = j' + 1 := ⟨j - 1, by omega⟩
   have h1 : n / p < n := Nat.div_lt_self (by omega) hp;simp only [zjx, if_neg h0]
   rw [ih (n / p) h1 k j (by omega) (by omega)]
theorem vA (p : Nat) : dig p 0 = [] := rfl
theorem xT {p n : Nat} (hp : 2 <= p) (h : 0 < n) : dig p n = ((n % p : Nat) : Int) :: dig p (n / p) := by
 have h1 : n / p < n := Nat.div_lt_self h hp;unfold dig;obtain ⟨k, rfl⟩ : ∃ k, n = k + 1 := ⟨n - 1, by omega⟩
 show (if k + 1 = 0 then [] else (((k + 1) % p : Nat) : Int) :: zjx p k ((k + 1) / p)) = _
 rw [if_neg (by omega), zik hp _ k _ (by omega) (Nat.le_refl _)]

def zlg (p : Nat) (l : List Int) : Prop := ∀ x ∈ l, 0 <= x ∧ x < p
theorem zil {p : Nat} (hp : 2 <= p) (n : Nat) : zlg p (dig p n) := by
 induction n using Nat.strongRecOn with
 | ind n ih =>
  by_cases h0 : n = 0
  ·subst h0; intro x hx; simp [vA] at hx
  ·rw [xT hp (by omega)];intro x hx;rcases List.mem_cons.1 hx with rfl | hx
   ·have := Nat.mod_lt n (show 0 < p by omega); omega
   ·exact ih (n / p) (Nat.div_lt_self (by omega) hp) x hx
theorem zgO {p : Nat} (hp : 2 <= p) (n : Nat) : num p (dig p n) = n := by
 induction n using Nat.strongRecOn with
 | ind n ih =>
  by_cases h0 : n = 0
  ·subst h0; rfl
  ·rw [xT hp (by omega), num, ih (n / p) (Nat.div_lt_self (by omega) hp), Int.toNat_natCast];have := Nat.mod_add_div n p; omega
theorem zgP {p : Nat} (hp : 2 <= p) : ∀ {l : List Int}, zlg p l -> vL l -> l ≠ [] -> 0 < num p l
 | [], _, _, h => absurd rfl h
 | [c], hd, hz, _ => by
  have h1 := hd c (by simp);have h2 := hz 0 rfl;simp only [yb] at h2
  simp only [num]; omega
 | c :: b :: l, hd, hz, _ => by
  have h1 := zgP hp (l := b :: l) (fun x hx => hd x (by simp at hx ⊢; exact .inr hx)) (fun n hn => by have := hz (n + 1) (by simp at hn ⊢; omega); rwa [zv] at this) (by simp);simp only [num] at h1 ⊢
  have : 0 < p * (b.toNat + p * num p l) := Nat.mul_pos (by omega) h1;omega
theorem zgQ {p : Nat} (hp : 2 <= p) : ∀ {l : List Int}, zlg p l -> vL l -> dig p (num p l) = l
 | [], _, _ => rfl
 | c :: l, hd, hz => by
  have h0 := zgP hp hd hz (by simp);have hc := hd c (by simp);have hl : vL l := fun n hn => by have := hz (n + 1) (by simp [hn]); rwa [zv] at this
  rw [xT hp h0]
  have h1 : num p (c :: l) % p = c.toNat := by
   show (c.toNat + p * num p l) % p = _
   rw [Nat.add_mul_mod_self_left, Nat.mod_eq_of_lt (by omega)]
  have h2 : num p (c :: l) / p = num p l := by
   show (c.toNat + p * num p l) / p = _
   rw [Nat.add_mul_div_left _ _ (by omega), Nat.div_eq_of_lt (by omega), Nat.zero_add]
  rw [h1, h2, zgQ hp (fun x hx => hd x (by simp [hx])) hl]
  congr 1; omega
theorem zmP {p : Nat} (hp : 2 <= p) (n : Nat) : vL (dig p n) := by
 induction n using Nat.strongRecOn with
 | ind n ih =>
  by_cases h0 : n = 0
  ·subst h0; intro k hk; simp [vA] at hk
  ·have h1 := ih (n / p) (Nat.div_lt_self (by omega) hp);rw [xT hp (by omega)];intro k hk
   by_cases h2 : n / p = 0
   ·rw [h2, vA] at hk ⊢;obtain rfl : k = 0 := by simpa using hk.symm
    rw [yb]
    have h3 : n < p := by
     rcases Nat.lt_or_ge n p with h | h
     ·exact h
     ·have := Nat.div_pos h (by omega); omega
    rw [Nat.mod_eq_of_lt h3]; omega
   ·have h3 : dig p (n / p) ≠ [] := by rw [xT hp (Nat.pos_of_ne_zero h2)]; simp
    cases k with
    | zero => simp only [List.length_cons] at hk; exact absurd (List.eq_nil_of_length_eq_zero (by omega)) h3
    | succ k => rw [zv]; exact h1 k (by simpa using hk)
theorem zeK {p : Nat} (hp : 2 <= p) : ∀ (k n : Nat), p ^ k <= n -> n < p ^ (k + 1) -> (dig p n).length = k + 1
 | 0, n, h1, h2 => by
  rw [xT hp (by rw [Nat.pow_zero] at h1; omega)];have : n / p = 0 := Nat.div_eq_of_lt (by simpa using h2);rw [this, vA]; rfl
 | k + 1, n, h1, h2 => by
  have hk : 0 < p ^ (k + 1) := Nat.pow_pos (by omega);rw [xT hp (by omega)];have h3 : p ^ k <= n / p := (Nat.le_div_iff_mul_le (by omega)).2 (by rw [<- Nat.pow_succ]; exact h1);have h4 : n / p < p ^ (k + 1) := (Nat.div_lt_iff_lt_mul (by omega)).2 (by rw [<- Nat.pow_succ]; exact h2);simp [zeK hp k (n / p) h3 h4]
theorem yx {p : Nat} (hp : 2 <= p) : ∀ (k n : Nat), n < p ^ k -> (dig p n).length <= k
  | 0, n, h => by have : n = 0 := by simpa using h
                  subst this; simp [vA]
  | k + 1, n, h => by
    by_cases h0 : n = 0
    · subst h0; simp [vA]
    · rw [xT hp (by omega)]
      have h4 : n / p < p ^ k := (Nat.div_lt_iff_lt_mul (by omega)).2 (by rw [<- Nat.pow_succ]; exact h);have := yx hp k (n / p) h4;simp; omega
theorem zgR {p : Nat} (hp : 2 <= p) : ∀ {l : List Int}, zlg p l -> num p l < p ^ l.length
 | [], _ => by simp [num]
 | c :: l, hd => by
  have h1 := zgR hp (l := l) fun x hx => hd x (by simp [hx]);have hc := hd c (by simp)
  have h2 : p * num p l + p <= p * p ^ l.length := by
   have := Nat.mul_le_mul_left p h1;rw [Nat.mul_succ] at this; exact this
  simp only [num, List.length_cons, Nat.pow_succ, Nat.mul_comm (p ^ l.length) p]
  omega
theorem zbp {p : Nat} : ∀ (l m : List Int), num p (l ++ m) = num p l + p ^ l.length * num p m
 | [], m => by simp [num]
 | c :: l, m => by
  simp only [List.cons_append, num, zbp l m, List.length_cons, Nat.pow_succ]
  rw [Nat.mul_add, <- Nat.mul_assoc, Nat.mul_comm (p ^ l.length) p, Nat.add_assoc]

theorem zcu {p : Nat} (l : List Int) (i : Nat) (h : i <= l.length) : num p l = num p (l.take i) + p ^ i * num p (l.drop i) := by
 have := zbp (p := p) (l.take i) (l.drop i)
 rwa [List.take_append_drop, List.length_take, Nat.min_eq_left h] at this
theorem zeL {p : Nat} {l : List Int} {i : Nat} (h : i < l.length) : num p (l.drop i) = (cf l i).toNat + p * num p (l.drop (i + 1)) := by
 rw [List.drop_eq_getElem_cons h, num, yF h]
theorem zcv {p : Nat} : ∀ (i : Nat) (m : List Int), num p (List.replicate i 0 ++ m) = p ^ i * num p m
 | 0, m => by simp
 | i + 1, m => by
  rw [List.replicate_succ, List.cons_append, num, zcv i m, Nat.pow_succ];simp [Nat.mul_comm, Nat.mul_assoc]
theorem zcw {p : Nat} (hp : 2 <= p) {l : List Int} : ∀ {i : Nat}, i <= l.length -> (∀ j, j < i -> cf l j = p - 1) -> num p (l.take i) + 1 = p ^ i
 | 0, _, _ => by simp [num]
 | i + 1, hi, h => by
  have h1 := zcw hp (l := l) (i := i) (by omega) fun j hj => h j (by omega);have h2 := h i (by omega)
  have h3 : l.take (i + 1) = l.take i ++ [cf l i] := by
   rw [List.take_add_one, List.getElem?_eq_getElem (by omega), yF (by omega)]; rfl
  rw [h3, zbp, List.length_take, Nat.min_eq_left (by omega), h2, Nat.pow_succ];have h4 : num p [((p : Int) - 1)] = p - 1 := by simp only [num]; omega
  rw [h4];obtain ⟨q, rfl⟩ : ∃ q, p = q + 1 := ⟨p - 1, by omega⟩
  simp only [Nat.add_sub_cancel, Nat.mul_add, Nat.mul_one]
  omega

structure Top (p d : Nat) (l : List Int) : Prop where
 len : l.length = d + 1
 one : cf l d = 1
 digs : zlg p l
theorem Top.last {p d : Nat} {l : List Int} (h : Top p d l) : vL l := fun n hn => by
 have := h.len;obtain rfl : n = d := by omega
 rw [h.one]; omega
theorem Top.num_eq {p d : Nat} {l : List Int} (h : Top p d l) : num p l = num p (l.take d) + p ^ d := by
 have h1 := h.len;rw [zcu l d (by omega), zeL (by omega), h.one, List.drop_of_length_le (by omega)];simp [num]
theorem Top.take_lt {p d : Nat} (hp : 2 <= p) {l : List Int} (h : Top p d l) : num p (l.take d) < p ^ d := by
 have h1 := zgR hp (l := l.take d) fun x hx => h.digs x (List.mem_of_mem_take hx);rw [List.length_take, h.len, Nat.min_eq_left (by omega)] at h1;exact h1
theorem Top.range {p d : Nat} (hp : 2 <= p) {l : List Int} (h : Top p d l) : p ^ d <= num p l ∧ num p l < 2 * p ^ d := by
 have h2 := h.num_eq;have h3 := h.take_lt hp;omega
theorem Top.dig {p d : Nat} (hp : 2 <= p) {l : List Int} (h : Top p d l) : Poly.dig p (num p l) = l := zgQ hp h.digs h.last
theorem zmQ {p d k : Nat} (hp : 2 <= p) (h1 : p ^ d <= k) (h2 : k < 2 * p ^ d) : Top p d (dig p k) := by
 have hl : (dig p k).length = d + 1 := zeK hp d k h1 (by rw [Nat.pow_succ, Nat.mul_comm]; exact Nat.lt_of_lt_of_le h2 (Nat.mul_le_mul_right _ hp));have hd := zil hp k;refine ⟨hl, ?_, hd⟩;have h3 := zcu (p := p) (dig p k) d (by omega);rw [zgO hp, zeL (by omega), List.drop_of_length_le (by omega)] at h3;have h4 := zgR hp (l := (dig p k).take d) fun x hx => hd x (List.mem_of_mem_take hx);rw [List.length_take, hl, Nat.min_eq_left (by omega)] at h4;have h5 := hd _ (List.getElem_mem (l := dig p k) (n := d) (by omega));rw [<- yF (by omega)] at h5;simp only [num, Nat.mul_zero, Nat.add_zero] at h3
 generalize hc : (cf (dig p k) d).toNat = c at h3
 have h6 : c = 1 := by
  rcases Nat.lt_trichotomy c 1 with h | h | h
  ·have : c = 0 := by omega
   subst this; omega
  ·exact h
  ·have : p ^ d * 2 <= p ^ d * c := Nat.mul_le_mul_left _ h;omega
 omega
theorem zcx (c : Int) (m : List Int) : ∀ i : Nat, cf (List.replicate i 0 ++ c :: m) i = c
 | 0 => rfl
 | i + 1 => by rw [List.replicate_succ, List.cons_append, zv]; exact zcx c m i
theorem zmR {p d : Nat} (hp : 2 <= p) {l o : List Int} (h : Top p d l) {i : Nat} (hi : i < d) (h9 : ∀ j, j < i -> cf l j = p - 1) (hc : cf l i < p - 1) (hol : o.length = d + 1)
  (ho : ∀ j, cf o j = if j < i then 0 else if j = i then cf l i + 1 else cf l j) : Top p d o ∧ num p o = num p l + 1 := by
 have hl := h.len;have hci := h.digs _ (List.getElem_mem (l := l) (n := i) (by omega));rw [<- yF (by omega)] at hci
 have hoe : o = List.replicate i 0 ++ ((cf l i + 1) :: l.drop (i + 1)) := by
  refine j5 (by simp; omega) fun j hj => ?_;rw [ho]
  by_cases h1 : j < i
  ·rw [if_pos h1, yF (by simp; omega), List.getElem_append_left (by simpa using h1)]; simp
  ·rw [if_neg h1]
   by_cases h2 : j = i
   ·subst h2;rw [if_pos rfl, zcx]
   ·rw [if_neg h2, yF (l := l) (by omega), yF (by rw [List.length_append, List.length_cons, List.length_replicate, List.length_drop]; omega), List.getElem_append_right (by rw [List.length_replicate]; omega)];simp only [List.length_replicate]
    obtain ⟨q, hq⟩ : ∃ q, j - i = q + 1 := ⟨j - i - 1, by omega⟩
    simp only [hq, List.getElem_cons_succ, List.getElem_drop]
    congr 1; omega
 refine ⟨⟨hol, ?_, fun x hx => ?_⟩, ?_⟩
 ·rw [ho, if_neg (by omega), if_neg (by omega), h.one]
 ·obtain ⟨j, hj, rfl⟩ := List.getElem_of_mem hx;rw [<- yF hj, ho];have hdj := h.digs _ (List.getElem_mem (l := l) (n := j) (by omega));rw [<- yF (by omega)] at hdj
  split
  ·omega
  ·split
   ·omega
   ·exact hdj
 ·rw [hoe, zcv, num];have h3 := zcu (p := p) l i (by omega);rw [zeL (by omega)] at h3;have h4 := zcw hp (l := l) (i := i) (by omega) h9;have h5 : (cf l i + 1).toNat = (cf l i).toNat + 1 := by omega
  rw [h5, h3];generalize p ^ i = q at *;simp only [Nat.mul_add, Nat.mul_one]
  omega
theorem zmS {p d : Nat} (hp : 2 <= p) {l : List Int} (h : Top p d l) (h9 : ∀ j, j < d -> cf l j = p - 1) : num p l + 1 = 2 * p ^ d := by
 have h1 := h.num_eq;have h2 := zcw hp (l := l) (i := d) (by have := h.len; omega) h9;omega

end Poly
namespace Poly
variable {p : Int} [SP p]

theorem zaR : 2 <= p.toNat := by have := Pr.two (p := p); omega

def zr (p : Int) [SP p] (n : Nat) : Poly p := of p (dig p.toNat n)
theorem xU (n : Nat) : (zr p n).l = dig p.toNat n := by
 have hp := Pr.two (p := p);refine zmi ⟨fun x hx => ?_, zmP (by omega) n⟩;have := zil (p := p.toNat) (by omega) n x hx;omega
theorem xV {n : Nat} (h : 0 < n) : zr p n ≠ 0 := fun e => by
 have hp := Pr.two (p := p);have h1 := xU (p := p) n;rw [e, zcm, xT (by omega) h] at h1; cases h1
def nm (X : Poly p) : Nat := num p.toNat X.l
theorem zjy (X : Poly p) : zlg p.toNat X.l := fun x hx => by
 have h := X.ok.1 x hx;have := Pr.two (p := p);omega
theorem zeM (X : Poly p) : zr p (nm X) = X := vO (by rw [xU]; exact zgQ zaR (zjy X) X.ok.2)
theorem zim (n : Nat) : nm (zr p n) = n := by unfold nm; rw [xU, zgO zaR]
theorem zmT (X : Poly p) {n : Nat} (h : dg X <= n) : nm X < p.toNat ^ n :=
 Nat.lt_of_lt_of_le (zgR zaR (zjy X)) (Nat.pow_le_pow_right (by have := zaR (p := p); omega) h)
theorem zjz {X : Poly p} (h : X ≠ 0) : 0 < nm X := zgP zaR (zjy X) X.ok.2 fun e => h (vO (by rw [e, zcm]))
theorem jn {n k : Nat} (h : k < p.toNat ^ n) : dg (zr p k) <= n := by
 show (zr p k).l.length <= n
 rw [xU]; exact yx zaR n k h
theorem zlh {n m : Nat} (h : zr p n = zr p m) : n = m := by rw [<- zim (p := p) n, h, zim]

theorem zgS {α : Type} [DecidableEq α] {l r : List α} (hl : l.Nodup) (hr : r.Nodup) (hs : ∀ x ∈ l, x ∈ r) (hn : r.length <= l.length) : l.Perm r := by
 rw [List.perm_iff_count];intro a;rw [hl.count, hr.count]
 by_cases ha : a ∈ l
 ·rw [if_pos ha, if_pos (hs a ha)]
 ·rw [if_neg ha, if_neg];intro hb
  have h1 := (List.nodup_cons.2 ⟨ha, hl⟩).length_le_of_subset (l₂ := r) (fun x hx => by
   rcases List.mem_cons.1 hx with rfl | hx
   ·exact hb
   ·exact hs x hx)
  rw [List.length_cons] at h1; omega

theorem zjA {l r : List (Poly p)} (h : l.Perm r) : y1 l = y1 r := by
 induction h with
 | nil => rfl
 | cons x _ ih => rw [y1, y1, ih]
 | swap x y l => simp only [y1]; exact zh [x, y, y1 l] (by rfl)
 | trans _ _ h1 h2 => rw [h1, h2]

def zdj (p : Int) [SP p] (q : Nat) : List (Poly p) := (List.range (q - 1)).map fun k => zr p (k + 1)
theorem zav (q : Nat) : (zdj p q).length = q - 1 := by simp [zdj]
theorem vB {n : Nat} {X : Poly p} : X ∈ zdj p (p.toNat ^ n) ↔ X ≠ 0 ∧ dg X <= n := by
 unfold zdj;rw [List.mem_map]
 constructor
 ·rintro ⟨k, hk, rfl⟩;have hk := List.mem_range.1 hk;exact ⟨xV (by omega), jn (by omega)⟩
 ·rintro ⟨h0, hd⟩;have h1 := zjz h0;have h2 := zmT X hd;exact ⟨nm X - 1, List.mem_range.2 (by omega), by rw [show nm X - 1 + 1 = nm X by omega, zeM]⟩
theorem kC (q : Nat) : (zdj p q).Nodup := by
 unfold zdj;rw [List.Nodup, List.pairwise_map];exact List.nodup_range.imp fun h e => h (by have := zlh e; omega)

theorem kD {f a b : Poly p} (h : rem a f = rem b f) : f ∣ a - b := by
 have h1 := zau a f;have h2 := zau b f;rw [<- h] at h2;have h3 := dvd_sub h1 h2
 rwa [show a - rem a f - (b - rem a f) = a - b from zh [a, b, rem a f] (by rfl)] at h3
theorem z8 {f y : Poly p} (hy : y ≠ 0) (h : dg y < dg f) : ¬ f ∣ y := fun hd => by have := zM hd hy; omega
theorem zkl {f y : Poly p} (h : ¬ f ∣ y) : y ≠ 0 := fun e => h (e ▸ dvd_zero f)
theorem zin {f y : Poly p} (hf : f ≠ 0) (h : ¬ f ∣ y) : rem y f ≠ 0 := fun e => h ((vr hf).2 e)
theorem zf1 {f : Poly p} (hi : Irr f) : ∀ {l : List (Poly p)}, (∀ y ∈ l, ¬ f ∣ y) -> ¬ f ∣ y1 l
 | [], _ => hi.not_unit yJ
 | y :: l, h => fun hd => (hi.prime hd).elim (h y (by simp)) (zf1 hi fun z hz => h z (by simp [hz]))
theorem zeN {a b : Poly p} (h : a - b = 0) : a = b := comb 1 h (zh [a, b] (by rfl))

theorem zbT {f x : Poly p} (hf : f ≠ 0) : ∀ l : List (Poly p), rem (y1 (l.map fun y => rem (x * y) f)) f = rem (x ^ l.length * y1 l) f
 | [] => by rw [List.map_nil, y1, List.length_nil, zt, CR.one_mul]
 | y :: l => by
  rw [List.map_cons, y1, y1, List.length_cons, pow_succ', <- xm hf, zbT hf l, xm hf, yr hf];generalize x ^ l.length = u;rw [show x * y * (u * y1 l) = u * x * (y * y1 l) from zh [x, y, u, y1 l] (by rfl)]

def One (f x : Poly p) (e : Nat) : Prop := f ∣ x ^ e - 1
theorem zaw {f x : Poly p} (hi : Irr f) (hx : ¬ f ∣ x) {n : Nat} (hn : dg f = n + 1) : One f x (p.toNat ^ n - 1) := by
 have hf := hi.ne
 have hper : ((zdj p (p.toNat ^ n)).map fun y => rem (x * y) f).Perm (zdj p (p.toNat ^ n)) := by
  refine zgS ?_ (kC _) ?_ (by simp)
  ·rw [List.Nodup, List.pairwise_map];refine List.Pairwise.imp_of_mem ?_ (kC (p := p) (p.toNat ^ n));intro a b ha hb hne he;refine hne ?_;have h1 := kD he;rw [show x * a - x * b = x * (a - b) from zh [x, a, b] (by rfl)] at h1;rcases hi.prime h1 with h2 | h2
   ·exact absurd h2 hx
   ·have ha := (vB.1 ha).2;have hb := (vB.1 hb).2;exact zeN (Classical.byContradiction fun h0 => z8 h0 (by have := zbi a b; omega) h2)
  ·intro z hz;obtain ⟨y, hy, rfl⟩ := List.mem_map.1 hz;obtain ⟨h0, hd⟩ := vB.1 hy;refine vB.2 ⟨zin hf fun h => (hi.prime h).elim hx (z8 h0 (by omega)), ?_⟩;have := zN (x * y) hf;omega
 have h1 := zbT (x := x) hf (zdj p (p.toNat ^ n));rw [zjA hper, zav] at h1;have h2 := kD h1.symm;unfold One;generalize x ^ (p.toNat ^ n - 1) = u at h2;generalize hP : y1 (zdj p (p.toNat ^ n)) = P at h2;rw [show u * P - P = (u - 1) * P from zh [u, P] (by rfl)] at h2;refine (hi.prime h2).resolve_right ?_;rw [<- hP];refine zf1 hi fun y hy => ?_;obtain ⟨h0, hd⟩ := vB.1 hy;exact z8 h0 (by omega)

/- powers that are 1 -/
theorem zgT {f x : Poly p} {e : Nat} (h2 : 2 <= dg f) : One f x e ↔ rem (x ^ e) f = 1 := by
 have hf : f ≠ 0 := fun h => by rw [h, zA] at h2; omega
 have h1 : rem 1 f = (1 : Poly p) := zaP (by rw [yJ]; omega)
 constructor
 ·intro h; rw [<- h1]; exact vn hf h
 ·intro h; refine kD ?_; rw [h, h1]
theorem zgU {f x : Poly p} {e : Nat} (h2 : 2 <= dg f) : One f (rem x f) e ↔ One f x e := by
 have hf : f ≠ 0 := fun h => by rw [h, zA] at h2; omega
 rw [zgT h2, zgT h2, zaQ hf]
theorem One.zero (f x : Poly p) : One f x 0 := by
 unfold One; rw [zt, show (1 : Poly p) - 1 = 0 from zh [(1 : Poly p)] (by rfl)]; exact dvd_zero f
theorem zc4 {f a b c : Poly p} (h1 : f ∣ a - 1) (h2 : f ∣ b - c) : f ∣ a * b - c := by
 have h3 := dvd_add (dvd_mul_right b h1) h2
 rwa [show (a - 1) * b + (b - c) = a * b - c from zh [a, b, c] (by rfl)] at h3
theorem One.add {f x : Poly p} {a b : Nat} (h : One f x a) (k : One f x b) : One f x (a + b) := by
 unfold One; rw [pow_add]; exact zc4 h k
theorem One.mul {f x : Poly p} {a : Nat} (h : One f x a) (b : Nat) : One f x (a * b) := by
 induction b with
 | zero => exact One.zero f x
 | succ b ih => rw [Nat.mul_succ]; exact ih.add h
theorem One.of_dvd {f x : Poly p} {a b : Nat} (h : One f x a) (hd : a ∣ b) : One f x b := by
 obtain ⟨c, rfl⟩ := hd; exact h.mul c
theorem One.sub {f x : Poly p} {a b : Nat} (h : One f x a) (k : One f x (a + b)) : One f x b := by
 unfold One at *;rw [pow_add] at k;generalize x ^ a = u at h k;generalize x ^ b = v at k ⊢;have h3 := dvd_sub k (dvd_mul_right v h)
 rwa [show u * v - 1 - (u - 1) * v = v - 1 from zh [u, v] (by rfl)] at h3
theorem One.mod {f x : Poly p} {a b : Nat} (h : One f x a) (k : One f x b) : One f x (b % a) := by
 have h1 := Nat.div_add_mod b a;rw [<- h1] at k;exact (h.mul (b / a)).sub k
theorem One.gcd {f x : Poly p} : ∀ {a b : Nat}, One f x a -> One f x b -> One f x (Nat.gcd a b) := by
 intro a b
 induction a, b using Nat.gcd.induction with
 | H0 n => intro _ k; rw [Nat.gcd_zero_left]; exact k
 | H1 m n hm ih => intro h k; rw [Nat.gcd_rec]; exact ih (h.mod k) h
theorem One.pow {f x : Poly p} {a b : Nat} : One f (x ^ a) b ↔ One f x (a * b) := by unfold One; rw [zdy]
theorem One.base {f x y : Poly p} {e : Nat} (h : One f x e) (k : One f y e) : One f (x * y) e := by
 unfold One; rw [zdx]; exact zc4 h k
theorem One.unbase {f x y : Poly p} {e : Nat} (h : One f x e) (k : One f (x * y) e) : One f y e := by
 unfold One at *;rw [zdx] at k;generalize x ^ e = u at h k;generalize y ^ e = v at k ⊢;have h3 := dvd_sub k (dvd_mul_right v h)
 rwa [show u * v - 1 - (u - 1) * v = v - 1 from zh [u, v] (by rfl)] at h3

end Poly
namespace Poly
variable {p : Int} [SP p]

def me : List (Poly p) -> Poly p -> Poly p
 | [], _ => 1
 | c :: l, x => c + x * me l x
theorem zmU (a : Poly p) : ∀ (l m : List (Poly p)), m.length < l.length -> ∃ r : List (Poly p), r.length = l.length ∧ ∀ x, me r x = me l x + a * me m x
 | [], _, h => absurd h (by simp)
 | c :: l, [], _ => ⟨(c + a) :: l, by simp, fun x => by simp only [me]; exact zh [c, a, x, me l x] (by rfl)⟩
 | c :: l, d :: m, h => by
  obtain ⟨r, h1, h2⟩ := zmU a l m (by simpa using h);refine ⟨(c + a * d) :: r, by simp [h1], fun x => ?_⟩;simp only [me, h2]
  exact zh [c, a, d, x, me l x, me m x] (by rfl)
theorem zmV (a : Poly p) : ∀ (l : List (Poly p)), l ≠ [] -> ∃ m : List (Poly p), m.length + 1 = l.length ∧ ∀ x, me l x - me l a = (x - a) * me m x
 | [], h => absurd rfl h
 | [c], _ => ⟨[], rfl, fun x => by simp only [me]; exact zh [c, x, a] (by rfl)⟩
 | c :: d :: l, _ => by
  obtain ⟨m, h1, h2⟩ := zmV a (d :: l) (by simp);obtain ⟨r, h3, h4⟩ := zmU a (d :: l) m (by omega);refine ⟨r, by rw [h3]; simp, fun x => ?_⟩;have h5 := h2 x;have e1 : me (c :: d :: l) x = c + x * me (d :: l) x := rfl;have e2 : me (c :: d :: l) a = c + a * me (d :: l) a := rfl;rw [h4, e1, e2];generalize me (d :: l) x = u at *;generalize me (d :: l) a = v at *;exact comb a h5 (zh [c, x, a, u, v, me m x] (by rfl))
theorem zeO {f : Poly p} (hi : Irr f) : ∀ (n : Nat) (l R : List (Poly p)), l.length = n -> R.Nodup -> (∀ r ∈ R, dg r < dg f ∧ f ∣ me l r) -> R.length <= n
 | _, _, [], _, _, _ => by simp
 | 0, l, r :: R, hl, _, h => absurd (h r (by simp)).2 (by rw [List.eq_nil_of_length_eq_zero hl, me]; exact hi.not_unit yJ)
 | n + 1, l, a :: R, hl, hn, h => by
  obtain ⟨m, h1, h2⟩ := zmV a l (fun e => by simp [e] at hl)
  have h3 := zeO hi n m R (by omega) (List.nodup_cons.1 hn).2 (fun r hr => by
   have hr1 := h r (by simp [hr]);have ha1 := h a (by simp);refine ⟨hr1.1, ?_⟩;have h3 := dvd_sub hr1.2 ha1.2;rw [h2] at h3;refine (hi.prime h3).resolve_left fun h4 => ?_;have h5 : r - a = 0 := Classical.byContradiction fun h0 => z8 h0 (by have := zbi r a; omega) h4;have h6 := zeN h5;exact (List.nodup_cons.1 hn).1 (h6 ▸ hr))
  rw [List.length_cons]; omega
theorem zmW (x : Poly p) : ∀ k : Nat, me (List.replicate k 0) x = x ^ k
 | 0 => rfl
 | k + 1 => by
  rw [List.replicate_succ, me, zmW x k, pow_succ'];generalize x ^ k = u;exact zh [x, u] (by rfl)
theorem zeP {f : Poly p} (hi : Irr f) {n : Nat} (hn : dg f = n + 1) {m : Nat} (h0 : 0 < m) (hm : m < p.toNat ^ n - 1) : ∃ x : Poly p, x ≠ 0 ∧ dg x <= n ∧ ¬ One f x m := by
 apply Classical.byContradiction;intro hc
 have h1 := zeO hi m ((-1) :: List.replicate (m - 1) 0) (zdj p (p.toNat ^ n)) (by rw [List.length_cons, List.length_replicate]; omega) (kC _) (fun r hr => by
  obtain ⟨h2, h3⟩ := vB.1 hr;refine ⟨by omega, ?_⟩;have h4 : One f r m := Classical.byContradiction fun h5 => hc ⟨r, h2, h3, h5⟩;unfold One at h4;rw [show m = m - 1 + 1 by omega, pow_succ'] at h4;rw [me, zmW];generalize r ^ (m - 1) = u at h4 ⊢
  rwa [show u * r - 1 = -1 + r * u from zh [u, r] (by rfl)] at h4)
 rw [zav] at h1;omega

def PrN (l : Nat) : Prop := 2 <= l ∧ ∀ d, d ∣ l -> d = 1 ∨ d = l
theorem jo : ∀ (n : Nat), 2 <= n -> ∃ l, PrN l ∧ l ∣ n := by
 intro n
 induction n using Nat.strongRecOn with
 | ind n ih =>
  intro h
  by_cases hp : PrN n
  ·exact ⟨n, hp, Nat.dvd_refl n⟩
  ·have h1 : ∃ d, d ∣ n ∧ d ≠ 1 ∧ d ≠ n := Classical.byContradiction fun hc => hp ⟨h, fun d hd => Classical.byContradiction fun h2 => hc ⟨d, hd, fun e => h2 (.inl e), fun e => h2 (.inr e)⟩⟩;obtain ⟨d, hd, h2, h3⟩ := h1;have h4 := Nat.le_of_dvd (by omega) hd;have h5 : d ≠ 0 := fun e => by subst e; have := Nat.eq_zero_of_zero_dvd hd; omega
   obtain ⟨l, h6, h7⟩ := ih d (by omega) (by omega);exact ⟨l, h6, Nat.dvd_trans h7 hd⟩
theorem PrN.cop {l a : Nat} (h : PrN l) (ha : ¬ l ∣ a) : Nat.Coprime l a := by
 rcases h.2 _ (Nat.gcd_dvd_left l a) with h1 | h1
 ·exact h1
 ·exact absurd (h1 ▸ Nat.gcd_dvd_right l a) ha
theorem PrN.mul {l a b : Nat} (h : PrN l) (hd : l ∣ a * b) : l ∣ a ∨ l ∣ b := by
 by_cases ha : l ∣ a
 ·exact .inl ha
 ·exact .inr ((h.cop ha).dvd_of_dvd_mul_left hd)
theorem PrN.pow {l a : Nat} (h : PrN l) : ∀ {k : Nat}, l ∣ a ^ k -> l ∣ a
 | 0, hd => by
  rw [Nat.pow_zero] at hd;have := Nat.le_of_dvd (by decide) hd;have := h.1; omega
 | k + 1, hd => by
  rw [Nat.pow_succ] at hd;exact (h.mul hd).elim (fun h1 => h.pow h1) id
theorem PrN.eq {l r : Nat} (h : PrN l) (hr : PrN r) (hd : l ∣ r) : l = r := (hr.2 l hd).resolve_left (by have := h.1; omega)

def yh (f x : Poly p) (e : Nat) : Prop := 0 < e ∧ One f x e ∧ ∀ d, One f x d -> e ∣ d
theorem zmX {f x : Poly p} {e : Nat} (h0 : 0 < e) (h1 : One f x e) (h : ∀ l, PrN l -> l ∣ e -> ¬ One f x (e / l)) : yh f x e := by
 refine ⟨h0, h1, fun d hd => ?_⟩;have hg := h1.gcd hd;obtain ⟨c, hc⟩ := Nat.gcd_dvd_left e d;have hg0 : 0 < Nat.gcd e d := Nat.gcd_pos_of_pos_left _ h0
 by_cases h2 : c = 1
 ·rw [h2, Nat.mul_one] at hc;rw [hc]; exact Nat.gcd_dvd_right e d
 ·exfalso
  have hc0 : c ≠ 0 := fun e1 => by rw [e1, Nat.mul_zero] at hc; omega
  obtain ⟨l, hl, k, hk⟩ := jo c (by omega);have hl2 := hl.1
  have h3 : e = l * (Nat.gcd e d * k) := by
   have h4 : Nat.gcd e d * c = l * (Nat.gcd e d * k) := by rw [hk, Nat.mul_left_comm]
   rw [<- h4]; exact hc
  refine h l hl ⟨_, h3⟩ ?_
  have h4 : e / l = Nat.gcd e d * k := by
   have h5 : l * (Nat.gcd e d * k) / l = Nat.gcd e d * k := Nat.mul_div_cancel_left _ (by omega);rw [<- h3] at h5; exact h5
  rw [h4];exact hg.mul k
theorem yh.unique {f x : Poly p} {a b : Nat} (h : yh f x a) (k : yh f x b) : a = b := Nat.dvd_antisymm (h.2.2 _ k.2.1) (k.2.2 _ h.2.1)
theorem vT {f x : Poly p} : ∀ n : Nat, 0 < n -> One f x n -> ∃ e, yh f x e := by
 intro n
 induction n using Nat.strongRecOn with
 | ind n ih =>
  intro h0 h1
  by_cases h : ∀ d, One f x d -> n ∣ d
  ·exact ⟨n, h0, h1, h⟩
  ·have h2 : ∃ d, One f x d ∧ ¬ n ∣ d := Classical.byContradiction fun hc => h fun d hd => Classical.byContradiction fun h3 => hc ⟨d, hd, h3⟩;obtain ⟨d, h3, h4⟩ := h2;have h5 := Nat.gcd_le_left d h0;have h6 : Nat.gcd n d ≠ n := fun e => h4 (e ▸ Nat.gcd_dvd_right n d);exact ih _ (by omega) (Nat.gcd_pos_of_pos_left _ h0) (h1.gcd h3)
theorem yh.mul {f x y : Poly p} {a b : Nat} (h : yh f x a) (k : yh f y b) (hc : Nat.Coprime a b) : yh f (x * y) (a * b) := by
 refine ⟨Nat.mul_pos h.1 k.1, (h.2.1.mul b).base (Nat.mul_comm b a ▸ k.2.1.mul a), fun d hd => ?_⟩;have h1 : One f y (d * a) := One.unbase (Nat.mul_comm a d ▸ h.2.1.mul d) (hd.mul a);have h2 : One f x (d * b) := One.unbase (x := y) (Nat.mul_comm b d ▸ k.2.1.mul d) (by rw [show y * x = x * y from zh [x, y] (by rfl)]; exact hd.mul b);exact Nat.Coprime.mul_dvd_of_dvd_of_dvd hc (hc.dvd_of_dvd_mul_right (h.2.2 _ h2)) (hc.symm.dvd_of_dvd_mul_right (k.2.2 _ h1))

def zq : List (Nat × Nat) -> Nat
 | [] => 1
 | x :: l => x.1 ^ x.2 * zq l
structure FacN (n : Nat) (L : List (Nat × Nat)) : Prop where
 prod : zq L = n
 pr : ∀ x ∈ L, PrN x.1 ∧ 1 <= x.2
 one : L.Pairwise fun x y => x.1 ≠ y.1
theorem yG {r : Nat} (hr : PrN r) : ∀ {L : List (Nat × Nat)}, (∀ x ∈ L, PrN x.1) -> r ∣ zq L -> ∃ x ∈ L, x.1 = r
 | [], _, h => by have := Nat.le_of_dvd (by decide) h; have := hr.1; rw [zq] at *; omega
 | x :: L, hL, h => by
  rw [zq] at h;rcases hr.mul h with h1 | h1
  ·exact ⟨x, by simp, (hr.eq (hL x (by simp)) (hr.pow h1)).symm⟩
  ·obtain ⟨y, hy, h2⟩ := yG hr (fun y hy => hL y (by simp [hy])) h1;exact ⟨y, by simp [hy], h2⟩
theorem xb : ∀ {L : List (Nat × Nat)} {x}, x ∈ L -> x.1 ^ x.2 ∣ zq L
 | y :: L, x, h => by
  rw [zq];rcases List.mem_cons.1 h with rfl | h
  ·exact Nat.dvd_mul_right _ _
  ·exact Nat.dvd_trans (xb h) (Nat.dvd_mul_left _ _)
theorem zkm {l a : Nat} (h : PrN l) (ha : ¬ l ∣ a) (k : Nat) : Nat.Coprime (l ^ k) a := Nat.Coprime.pow_left k (h.cop ha)

theorem zeQ {f : Poly p} (hi : Irr f) {n : Nat} (hn : dg f = n + 1) : ∀ {L : List (Nat × Nat)}, (∀ x ∈ L, PrN x.1 ∧ 1 <= x.2) -> (L.Pairwise fun x y => x.1 ≠ y.1) -> (∀ x ∈ L, x.1 ^ x.2 ∣ p.toNat ^ n - 1) -> 0 < p.toNat ^ n - 1 -> ∃ z : Poly p, yh f z (zq L)
 | [], _, _, _, _ => ⟨1, by
  rw [zq];refine ⟨by omega, ?_, fun d _ => Nat.one_dvd d⟩;unfold One;rw [zbK, show (1 : Poly p) - 1 = 0 from zh [(1 : Poly p)] (by rfl)]; exact dvd_zero f⟩
 | x :: L, h1, h2, h3, h4 => by
  obtain ⟨z, hz⟩ := zeQ hi hn (fun y hy => h1 y (by simp [hy])) (List.pairwise_cons.1 h2).2 (fun y hy => h3 y (by simp [hy])) h4;obtain ⟨hl, hk⟩ := h1 x (by simp);obtain ⟨c, hc⟩ := h3 x (by simp);have hl2 := hl.1;obtain ⟨k, hk'⟩ : ∃ k, x.2 = k + 1 := ⟨x.2 - 1, by omega⟩
  have hc0 : 0 < c := Nat.pos_of_ne_zero fun e => by rw [e, Nat.mul_zero] at hc; omega
  have hlk : 0 < x.1 ^ k := Nat.pow_pos (by omega);have hm0 : 0 < x.1 ^ k * c := Nat.mul_pos hlk hc0;have hm1 : p.toNat ^ n - 1 = x.1 ^ k * c * x.1 := by rw [hc, hk', Nat.pow_succ, Nat.mul_right_comm]
  have hm : x.1 ^ k * c * 2 <= p.toNat ^ n - 1 := by rw [hm1]; exact Nat.mul_le_mul_left _ hl2
  obtain ⟨w, hw0, hwd, hw⟩ := zeP hi hn hm0 (by omega)
  have hy : yh f (w ^ c) (x.1 ^ x.2) := by
   refine zmX (Nat.pow_pos (by omega)) (One.pow.2 ?_) fun r hr hd hone => ?_
   ·rw [Nat.mul_comm, <- hc];exact zaw hi (z8 hw0 (by omega)) hn
   ·have e1 : r = x.1 := hr.eq hl (hr.pow hd);subst e1;rw [hk', Nat.pow_succ, Nat.mul_div_cancel _ (by omega)] at hone;exact hw (by rw [Nat.mul_comm]; exact One.pow.1 hone)
  refine ⟨w ^ c * z, ?_⟩;rw [zq];refine hy.mul hz (zkm hl (fun hd => ?_) _);obtain ⟨y, hy1, hy2⟩ := yG hl (fun y hy => (h1 y (by simp [hy])).1) hd;exact (List.pairwise_cons.1 h2).1 y hy1 hy2.symm
theorem zio {f : Poly p} (hi : Irr f) {n : Nat} (hn : dg f = n + 1) {L : List (Nat × Nat)} (hL : FacN (p.toNat ^ n - 1) L) (h0 : 0 < p.toNat ^ n - 1) : ∃ z : Poly p, yh f z (p.toNat ^ n - 1) := by
 obtain ⟨z, hz⟩ := zeQ hi hn hL.pr hL.one (fun x hx => by have := xb hx; rwa [hL.prod] at this) h0;exact ⟨z, by rwa [hL.prod] at hz⟩
theorem zli {f x : Poly p} {e : Nat} (h2 : 2 <= dg f) : yh f (rem x f) e ↔ yh f x e := by
 unfold yh; simp only [zgU h2]
theorem yh.ndvd {f x : Poly p} {e : Nat} (hi : Irr f) (h : yh f x e) : ¬ f ∣ x := fun hd => by
 obtain ⟨e', rfl⟩ : ∃ e', e = e' + 1 := ⟨e - 1, by have := h.1; omega⟩
 have h1 := h.2.1;unfold One at h1;rw [pow_succ'] at h1;have h2 := dvd_sub (dvd_mul_left (x ^ e') hd) h1;rw [show x ^ e' * x - (x ^ e' * x - 1) = 1 from zh [x ^ e', x] (by rfl)] at h2;exact hi.not_unit yJ h2
theorem zjB {f g : Poly p} (hi : Irr f) {n : Nat} (hn : dg f = n + 1) (hg : yh f g (p.toNat ^ n - 1)) {x : Poly p} (hx : x ≠ 0) (hxd : dg x <= n) : ∃ e, e < p.toNat ^ n - 1 ∧ x = rem (g ^ e) f := by
 have hf := hi.ne;have hgd := hg.ndvd hi
 have hper : ((List.range (p.toNat ^ n - 1)).map fun e => rem (g ^ e) f).Perm (zdj p (p.toNat ^ n)) := by
  refine zgS ?_ (kC _) ?_ (by simp [zav])
  ·rw [List.Nodup, List.pairwise_map]
   have key : ∀ i j : Nat, i < j -> j < p.toNat ^ n - 1 -> rem (g ^ i) f ≠ rem (g ^ j) f := fun i j h1 h2 he => by
    have h3 := kD he.symm;rw [show j = i + (j - i) by omega, pow_add] at h3;rw [show g ^ i * g ^ (j - i) - g ^ i = g ^ i * (g ^ (j - i) - 1) from zh [g ^ i, g ^ (j - i)] (by rfl)] at h3;rcases hi.prime h3 with h4 | h4
    ·exact hgd (hi.pow h4)
    ·have := Nat.le_of_dvd (by omega) (hg.2.2 _ h4);omega
   refine List.Pairwise.imp_of_mem ?_ (List.nodup_range (n := p.toNat ^ n - 1));intro i j hi hj hne;have hi := List.mem_range.1 hi;have hj := List.mem_range.1 hj;rcases Nat.lt_or_gt_of_ne hne with h | h
   ·exact key i j h hj
   ·exact fun e => key j i h hi e.symm
  ·intro z hz;obtain ⟨e, _, rfl⟩ := List.mem_map.1 hz;refine vB.2 ⟨zin hf fun h => hgd (hi.pow h), ?_⟩;have := zN (g ^ e) hf;omega
 have h1 := hper.mem_iff.2 (vB.2 ⟨hx, hxd⟩);obtain ⟨e, he, h2⟩ := List.mem_map.1 h1;exact ⟨e, List.mem_range.1 he, h2.symm⟩

end Poly
end Go.Proofs.YtlmckocbhcpmdaaGreat
