/- Plain mathematics of polynomials by a prime. No conditions. -/
import Derived.Test.YtffhmebkkbfaeaaGreatPc
namespace Go.Proofs.YtffhmebkkbfaeaaGreat

class CR (α : Type) [Add α] [Mul α] [Neg α] [Sub α] [OfNat α 0] [OfNat α 1] : Prop where
 add_comm : ∀ a b : α, a + b = b + a
 add_assoc : ∀ a b c : α, a + b + c = a + (b + c)
 add_zero : ∀ a : α, a + 0 = a
 add_neg : ∀ a : α, a + -a = 0
 sub_def : ∀ a b : α, a - b = a + -b
 mul_comm : ∀ a b : α, a * b = b * a
 mul_assoc : ∀ a b c : α, a * b * c = a * (b * c)
 one_mul : ∀ a : α, 1 * a = a
 add_mul : ∀ a b c : α, (a + b) * c = a * c + b * c

inductive RE where
 | at (n : Nat)
 | zero
 | one
 | add (a b : RE)
 | sub (a b : RE)
 | mul (a b : RE)
 | neg (a : RE)

abbrev RM := List (Bool × List Nat)

def zoZ (a : Nat) : List Nat -> List Nat
 | [] => [a]
 | b :: l => bif Nat.ble a b then a :: b :: l else b :: zoZ a l
def zl2 : List Nat -> List Nat -> List Nat
 | [], m => m
 | a :: l, m => zoZ a (zl2 l m)
def zez : RM -> RM
 | [] => []
 | (s, m) :: r => (!s, m) :: zez r
def zna (s : Bool) (m : List Nat) : RM -> RM
 | [] => []
 | (t, k) :: r => (s == t, zl2 m k) :: zna s m r
def znb : RM -> RM -> RM
 | [], _ => []
 | (s, m) :: r, k => zna s m k ++ znb r k
def RE.ex : RE -> RM
 | .at n => [(true, [n])]
 | .zero => []
 | .one => [(true, [])]
 | .add a b => a.ex ++ b.ex
 | .sub a b => a.ex ++ zez b.ex
 | .mul a b => znb a.ex b.ex
 | .neg a => zez a.ex
def zjQ (s : Bool) (m : List Nat) : RM -> Option RM
 | [] => none
 | (t, k) :: r => bif t == s && k == m then some r else match zjQ s m r with
  | some r' => some ((t, k) :: r')
  | none => none
def zir : Nat -> RM -> Bool
 | _, [] => true
 | 0, _ => false
 | n + 1, (s, m) :: r => match zjQ (!s) m r with
  | some r' => zir n r'
  | none => false
def RE.chk (a b : RE) : Bool := zir 1000 (a.ex ++ zez b.ex)

section
variable {α : Type} [Add α] [Mul α] [Neg α] [Sub α] [OfNat α 0] [OfNat α 1]

def atM (ctx : List α) (n : Nat) : α := match ctx, n with
 | [], _ => 0
 | a :: _, 0 => a
 | _ :: r, n + 1 => atM r n
def RE.ev (ctx : List α) : RE -> α
 | .at n => atM ctx n
 | .zero => 0
 | .one => 1
 | .add a b => a.ev ctx + b.ev ctx
 | .sub a b => a.ev ctx - b.ev ctx
 | .mul a b => a.ev ctx * b.ev ctx
 | .neg a => -a.ev ctx
def evN (ctx : List α) : List Nat -> α
 | [] => 1
 | a :: l => atM ctx a * evN ctx l
def ev1 (ctx : List α) (s : Bool) (m : List Nat) : α := bif s then evN ctx m else -evN ctx m
def evM (ctx : List α) : RM -> α
 | [] => 0
 | (s, m) :: r => ev1 ctx s m + evM ctx r

variable [CR α]
namespace CR
theorem zero_add (a : α) : 0 + a = a := by rw [CR.add_comm, CR.add_zero]
theorem left_cancel {a b c : α} (h : a + b = a + c) : b = c := by
 have h1 : -a + (a + b) = -a + (a + c) := by rw [h]
 rw [<- CR.add_assoc, <- CR.add_assoc, CR.add_comm (-a) a, CR.add_neg, zero_add, zero_add] at h1;exact h1
theorem left_comm (a b c : α) : a + (b + c) = b + (a + c) := by rw [<- CR.add_assoc, CR.add_comm a b, CR.add_assoc]
theorem mul_left_comm (a b c : α) : a * (b * c) = b * (a * c) := by rw [<- CR.mul_assoc, CR.mul_comm a b, CR.mul_assoc]
theorem zero_mul (a : α) : 0 * a = 0 := by
 have h : 0 * a + 0 * a = 0 * a + 0 := by rw [<- CR.add_mul, CR.add_zero, CR.add_zero]
 exact left_cancel h
theorem jB {a b : α} (h : a + b = 0) : b = -a := left_cancel (by rw [h, CR.add_neg])
theorem neg_zero : -(0 : α) = 0 := (jB (CR.add_zero 0)).symm
theorem neg_neg (a : α) : -(-a) = a := (jB (by rw [CR.add_comm, CR.add_neg])).symm
theorem neg_add (a b : α) : -(a + b) = -a + -b := (jB (by
 rw [CR.add_assoc, left_comm b, <- CR.add_assoc, CR.add_neg, CR.add_neg, CR.add_zero])).symm
theorem neg_mul (a b : α) : -a * b = -(a * b) := jB (by rw [<- CR.add_mul, CR.add_neg, zero_mul])
theorem mul_zero (a : α) : a * 0 = 0 := by rw [CR.mul_comm, zero_mul]
theorem mul_neg (a b : α) : a * -b = -(a * b) := by rw [CR.mul_comm, neg_mul, CR.mul_comm]
theorem mul_add (a b c : α) : a * (b + c) = a * b + a * c := by rw [CR.mul_comm, CR.add_mul, CR.mul_comm b, CR.mul_comm c]
theorem mul_one (a : α) : a * 1 = a := by rw [CR.mul_comm, CR.one_mul]
theorem sub_self (a : α) : a - a = 0 := by rw [CR.sub_def, CR.add_neg]
theorem eq_of_sub {a b : α} (h : a - b = 0) : a = b := by
 rw [CR.sub_def] at h;have := jB (a := -b) (b := a) (by rw [CR.add_comm, h]);rw [this, neg_neg]
end CR

theorem zkQ (ctx : List α) (a : Nat) : ∀ l, evN ctx (zoZ a l) = atM ctx a * evN ctx l
 | [] => rfl
 | b :: l => by
  unfold zoZ;cases Nat.ble a b
  ·simp only [cond_false, evN, zkQ ctx a l, CR.mul_left_comm]
  ·rfl
theorem zkR (ctx : List α) : ∀ l m, evN ctx (zl2 l m) = evN ctx l * evN ctx m
 | [], m => by simp only [zl2, evN, CR.one_mul]
 | a :: l, m => by simp only [zl2, evN, zkQ, zkR ctx l m, CR.mul_assoc]
theorem zb4 (ctx : List α) : ∀ a b, evM ctx (a ++ b) = evM ctx a + evM ctx b
 | [], b => by simp only [List.nil_append, evM, CR.zero_add]
 | (s, m) :: a, b => by simp only [List.cons_append, evM, zb4 ctx a b, CR.add_assoc]
theorem zkS (ctx : List α) (s : Bool) (m : List Nat) : ev1 ctx (!s) m = -ev1 ctx s m := by
 cases s <;> simp [ev1, CR.neg_neg]
theorem zb5 (ctx : List α) : ∀ a, evM ctx (zez a) = -evM ctx a
 | [] => by simp only [zez, evM, CR.neg_zero]
 | (s, m) :: a => by simp only [zez, evM, zb5 ctx a, zkS, CR.neg_add]
theorem zo0 (ctx : List α) (s t : Bool) (m k : List Nat) : ev1 ctx (s == t) (zl2 m k) = ev1 ctx s m * ev1 ctx t k := by
 cases s <;> cases t <;> simp [ev1, zkR, CR.neg_mul, CR.mul_neg, CR.neg_neg]
theorem zis (ctx : List α) (s : Bool) (m : List Nat) : ∀ b, evM ctx (zna s m b) = ev1 ctx s m * evM ctx b
 | [] => by simp only [zna, evM, CR.mul_zero]
 | (t, k) :: b => by simp only [zna, evM, zis ctx s m b, zo0, CR.mul_add]
theorem zkT (ctx : List α) : ∀ a b, evM ctx (znb a b) = evM ctx a * evM ctx b
 | [], b => by simp only [znb, evM, CR.zero_mul]
 | (s, m) :: a, b => by simp only [znb, evM, zb4, zis, zkT ctx a b, CR.add_mul]
theorem zb6 (ctx : List α) : ∀ e : RE, evM ctx e.ex = e.ev ctx
 | .at n => by simp only [RE.ex, evM, ev1, cond_true, evN, RE.ev, CR.mul_one, CR.add_zero]
 | .zero => rfl
 | .one => by simp only [RE.ex, evM, ev1, cond_true, evN, RE.ev, CR.add_zero]
 | .add a b => by simp only [RE.ex, RE.ev, zb4, zb6 ctx a, zb6 ctx b]
 | .sub a b => by simp only [RE.ex, RE.ev, zb4, zb5, zb6 ctx a, zb6 ctx b, CR.sub_def]
 | .mul a b => by simp only [RE.ex, RE.ev, zkT, zb6 ctx a, zb6 ctx b]
 | .neg a => by simp only [RE.ex, RE.ev, zb5, zb6 ctx a]
theorem zkU (ctx : List α) (s : Bool) (m : List Nat) : ∀ (r r' : RM), zjQ s m r = some r' -> evM ctx r = ev1 ctx s m + evM ctx r'
 | [], _, h => by simp [zjQ] at h
 | (t, k) :: r, r', h => by
  unfold zjQ at h;cases hc : (t == s && k == m)
  ·rw [hc] at h;simp only [cond_false] at h
   cases hr : zjQ s m r with
   | none => rw [hr] at h; simp at h
   | some r2 =>
    rw [hr] at h;simp only [Option.some.injEq] at h
    subst h;simp only [evM, zkU ctx s m r r2 hr, CR.left_comm]
  ·rw [hc] at h;simp only [cond_true, Option.some.injEq] at h
   subst h;simp only [Bool.and_eq_true, beq_iff_eq] at hc
   obtain ⟨rfl, rfl⟩ := hc
   rfl
theorem zeA (ctx : List α) : ∀ n (r : RM), zir n r = true -> evM ctx r = 0
 | _, [], _ => rfl
 | 0, _ :: _, h => by simp [zir] at h
 | n + 1, (s, m) :: r, h => by
  unfold zir at h;cases hr : zjQ (!s) m r with
  | none => rw [hr] at h; simp at h
  | some r' =>
   rw [hr] at h;simp only [evM, zkU ctx (!s) m r r' hr, zkS, zeA ctx n r' h]
   rw [CR.add_zero, CR.add_neg]

class Rf (ctx : List α) (x : α) (e : outParam RE) : Prop where
 eq : e.ev ctx = x

omit [CR α]
instance (priority := high) rfAdd (ctx : List α) (x y : α) (a b : RE) [h : Rf ctx x a] [k : Rf ctx y b] : Rf ctx (x + y) (.add a b) := ⟨by rw [RE.ev, h.eq, k.eq]⟩
instance (priority := high) rfSub (ctx : List α) (x y : α) (a b : RE) [h : Rf ctx x a] [k : Rf ctx y b] : Rf ctx (x - y) (.sub a b) := ⟨by rw [RE.ev, h.eq, k.eq]⟩
instance (priority := high) rfMul (ctx : List α) (x y : α) (a b : RE) [h : Rf ctx x a] [k : Rf ctx y b] : Rf ctx (x * y) (.mul a b) := ⟨by rw [RE.ev, h.eq, k.eq]⟩
instance (priority := high) rfNeg (ctx : List α) (x : α) (a : RE) [h : Rf ctx x a] : Rf ctx (-x) (.neg a) := ⟨by rw [RE.ev, h.eq]⟩
instance (priority := high) rfZero (ctx : List α) : Rf ctx (0 : α) .zero := ⟨rfl⟩
instance (priority := high) rfOne (ctx : List α) : Rf ctx (1 : α) .one := ⟨rfl⟩
instance (priority := low) rfAt0 (x : α) (l : List α) : Rf (x :: l) x (.at 0) := ⟨rfl⟩
instance (priority := low) rfAt1 (x a : α) (l : List α) : Rf (a :: x :: l) x (.at 1) := ⟨rfl⟩
instance (priority := low) rfAt2 (x a b : α) (l : List α) : Rf (a :: b :: x :: l) x (.at 2) := ⟨rfl⟩
instance (priority := low) rfAt3 (x a b c : α) (l : List α) : Rf (a :: b :: c :: x :: l) x (.at 3) := ⟨rfl⟩
instance (priority := low) rfAt4 (x a b c d : α) (l : List α) : Rf (a :: b :: c :: d :: x :: l) x (.at 4) := ⟨rfl⟩
instance (priority := low) rfAt5 (x a b c d e : α) (l : List α) : Rf (a :: b :: c :: d :: e :: x :: l) x (.at 5) := ⟨rfl⟩
instance (priority := low) rfAt6 (x a b c d e f : α) (l : List α) : Rf (a :: b :: c :: d :: e :: f :: x :: l) x (.at 6) := ⟨rfl⟩
instance (priority := low) rfAt7 (x a b c d e f g : α) (l : List α) : Rf (a :: b :: c :: d :: e :: f :: g :: x :: l) x (.at 7) := ⟨rfl⟩
instance (priority := low) rfAt8 (x a b c d e f g h : α) (l : List α) : Rf (a :: b :: c :: d :: e :: f :: g :: h :: x :: l) x (.at 8) := ⟨rfl⟩

theorem zf [CR α] (ctx : List α) {x y : α} {a b : RE} [h : Rf ctx x a] [k : Rf ctx y b] (hc : RE.chk a b = true) : x = y := by
 have h1 := zeA ctx _ _ hc;rw [zb4, zb5, zb6, zb6, h.eq, k.eq, <- CR.sub_def] at h1;exact CR.eq_of_sub h1

theorem comb [CR α] (c : α) {a b x y : α} (h : a = b) (e : x - c * a = y - c * b) : x = y := by
 subst h;rw [CR.sub_def, CR.sub_def, CR.add_comm, CR.add_comm y] at e;exact CR.left_cancel e
end

example {α : Type} [Add α] [Mul α] [Neg α] [Sub α] [OfNat α 0] [OfNat α 1] [CR α] (a b c : α) : (a + b) * (a - b) + c * (1 + 1) = a * a - b * b + c + c := zf [a, b, c] (by rfl)
example {α : Type} [Add α] [Mul α] [Neg α] [Sub α] [OfNat α 0] [OfNat α 1] [CR α] (a b c d : α) (h : a = b * c) : a * d + 0 = c * (b * d) := comb d h (zf [a, b, c, d] (by rfl))

def cf (l : List Int) (i : Nat) : Int := l.getD i 0

theorem zO (i : Nat) : cf [] i = 0 := by simp [cf]
theorem zx (a : Int) (l : List Int) : cf (a :: l) 0 = a := rfl
theorem zk (a : Int) (l : List Int) (i : Nat) : cf (a :: l) (i + 1) = cf l i := by simp [cf]
theorem zN {l : List Int} {i : Nat} (h : l.length <= i) : cf l i = 0 := by
 simp [cf, List.getD_eq_getElem?_getD, List.getElem?_eq_none h]
theorem yE {l : List Int} {i : Nat} (h : i < l.length) : cf l i = l[i] := by
 simp [cf, List.getD_eq_getElem?_getD, List.getElem?_eq_getElem h]

def zu : List Int -> List Int
 | [] => []
 | a :: l => match zu l with
  | [] => if a = 0 then [] else [a]
  | b :: r => a :: b :: r

theorem yJ (l : List Int) (i : Nat) : cf (zu l) i = cf l i := by
 induction l generalizing i with
 | nil => rfl
 | cons a l ih =>
  unfold zu
  split
  ·rename_i h
   have h0 : ∀ i, cf l i = 0 := λi => by rw [<- ih, h, zO]
   split
   ·rename_i ha
    cases i with
    | zero => rw [zO, zx, ha]
    | succ i => rw [zO, zk, h0]
   ·cases i with
    | zero => rfl
    | succ i => rw [zk, zk, zO, h0]
  ·rename_i b r h
   cases i with
   | zero => rfl
   | succ i => rw [zk, zk, <- ih, h]

theorem zl3 {l : List Int} {x : Int} (h : x ∈ zu l) : x ∈ l := by
 induction l with
 | nil => exact h
 | cons a l ih =>
  unfold zu at h
  split at h
  ·split at h
   ·cases h
   ·simp at h; simp [h]
  ·rename_i b r hb
   rcases List.mem_cons.1 h with h | h
   ·simp [h]
   ·exact List.mem_cons_of_mem _ (ih (hb ▸ h))

theorem z0 (l : List Int) : (zu l).length <= l.length := by
 induction l with
 | nil => simp [zu]
 | cons a l ih =>
  unfold zu
  split
  ·split <;> simp
  ·rename_i b r hb
   rw [hb] at ih; simpa using ih

def v8 (l : List Int) : Prop := ∀ n, l.length = n + 1 -> cf l n ≠ 0

theorem xc (l : List Int) : v8 (zu l) := by
 induction l with
 | nil => intro n h; simp [zu] at h
 | cons a l ih =>
  intro n;unfold zu
  split
  ·split
   ·intro h; simp at h
   ·rename_i ha
    intro h;have : n = 0 := by simpa using h.symm
    subst this; exact ha
  ·rename_i b r hb
   intro h;have hn : n = r.length + 1 := by simpa using h.symm
   subst hn;rw [zk];rw [hb] at ih;exact ih r.length (by simp)

theorem yt {l l' : List Int} (h : v8 l) (h' : v8 l') (he : ∀ i, cf l i = cf l' i) : l = l' := by
 have hlen : ∀ {l l' : List Int}, v8 l -> v8 l' -> (∀ i, cf l i = cf l' i) -> l.length <= l'.length := by
  intro l l' h h' he;rcases Nat.lt_or_ge l'.length l.length with hlt | hge
  ·exfalso
   have h1 := h (l.length - 1) (by omega);rw [he, zN (by omega)] at h1;exact h1 rfl
  ·exact hge
 have hl : l.length = l'.length := Nat.le_antisymm (hlen h h' he) (hlen h' h λi => (he i).symm);refine List.ext_getElem hl λi h1 h2 => ?_;rw [<- yE h1, <- yE h2, he]

def cv (f g : Nat -> Int) : Nat -> Int
 | 0 => f 0 * g 0
 | k + 1 => f 0 * g (k + 1) + cv (λi => f (i + 1)) g k

theorem znc (f g : Nat -> Int) (k : Nat) : cv f g (k + 1) = f (k + 1) * g 0 + cv f (λi => g (i + 1)) k := by
 induction k generalizing f with
 | zero => simp only [cv]; omega
 | succ k ih =>
  rw [cv, ih, cv]; omega

theorem jW (f g : Nat -> Int) (k : Nat) : cv f g k = cv g f k := by
 induction k generalizing f g with
 | zero => simp only [cv]; exact Int.mul_comm _ _
 | succ k ih => rw [znc, cv, ih, Int.mul_comm]

theorem zg4 (f f' g : Nat -> Int) (k : Nat) : cv (λi => f i + f' i) g k = cv f g k + cv f' g k := by
 induction k generalizing f f' with
 | zero => simp only [cv]; exact Int.add_mul _ _ _
 | succ k ih => simp only [cv, ih, Int.add_mul]; omega

theorem zkV (a : Int) (f g : Nat -> Int) (k : Nat) : cv (λi => a * f i) g k = a * cv f g k := by
 induction k generalizing f with
 | zero => simp only [cv]; exact Int.mul_assoc _ _ _
 | succ k ih => simp only [cv, ih, Int.mul_add, Int.mul_assoc]

theorem znd (f g h : Nat -> Int) (k : Nat) : cv (cv f g) h k = cv f (cv g h) k := by
 induction k generalizing f with
 | zero => simp only [cv]; exact Int.mul_assoc _ _ _
 | succ k ih =>
  have e : (λi => cv f g (i + 1)) = λi => f 0 * g (i + 1) + cv (λi => f (i + 1)) g i := rfl;rw [cv, e, zg4, zkV, ih];simp only [cv]
  rw [Int.mul_add, Int.mul_assoc]; omega

theorem yz {f g : Nat -> Int} {k : Nat} (hf : ∀ i, i <= k -> f i = 0) : cv f g k = 0 := by
 induction k generalizing f with
 | zero => simp [cv, hf 0 (Nat.le_refl _)]
 | succ k ih => simp only [cv, hf 0 (Nat.zero_le _), ih (f := λi => f (i + 1)) (λi hi => hf _ (by omega))]; simp

theorem zpI {f g : Nat -> Int} {n m : Nat} (hf : ∀ i, n <= i -> f i = 0) (hg : ∀ i, m <= i -> g i = 0) {k : Nat} (hk : n + m <= k + 1) : cv f g k = 0 := by
 induction n generalizing f k with
 | zero => exact yz λi _ => hf i (Nat.zero_le _)
 | succ n ih =>
  cases k with
  | zero => simp only [cv, hg 0 (by omega), Int.mul_zero]
  | succ k => simp only [cv, hg (k + 1) (by omega), ih (f := λi => f (i + 1)) (λi hi => hf _ (by omega)) (k := k) (by omega)]; simp

theorem zne {f g : Nat -> Int} {n m : Nat} (hf : ∀ i, n < i -> f i = 0) (hg : ∀ i, m < i -> g i = 0) : cv f g (n + m) = f n * g m := by
 induction n generalizing f with
 | zero =>
  cases m with
  | zero => rfl
  | succ m =>
   rw [show 0 + (m + 1) = m + 1 from by omega, cv, yz (f := λi => f (i + 1)) (λi _ => hf _ (by omega))]; simp
 | succ n ih =>
  rw [show n + 1 + m = n + m + 1 from by omega, cv, hg (n + m + 1) (by omega), ih (f := λi => f (i + 1)) (λi hi => hf _ (by omega))]; simp

theorem znf (g : Nat -> Int) (k : Nat) : cv (cf [1]) g k = g k := by
 cases k with
 | zero => simp [cv, cf]
 | succ k =>
  rw [cv, yz (f := λi => cf [1] (i + 1)) (λi _ => by simp [cf])];simp [cf]

theorem kb (p : Int) (f g : Nat -> Int) (k : Nat) : cv (λi => f i % p) g k % p = cv f g k % p := by
 induction k generalizing f with
 | zero => simp only [cv]; rw [Int.mul_emod, Int.emod_emod_of_dvd _ (Int.dvd_refl p), <- Int.mul_emod]
 | succ k ih =>
  simp only [cv]
  rw [Int.add_emod, ih (λi => f (i + 1)), Int.mul_emod, Int.emod_emod_of_dvd _ (Int.dvd_refl p), <- Int.mul_emod, <- Int.add_emod]

theorem zo1 (p a : Int) : (-(a % p)) % p = (-a) % p := by
 rw [show -(a % p) = -1 * (a % p) from by omega, show -a = -1 * a from by omega, Int.mul_emod, Int.emod_emod_of_dvd _ (Int.dvd_refl p), <- Int.mul_emod]

def mkL (n : Nat) (f : Nat -> Int) : List Int := (List.range n).map f
theorem yC (n : Nat) (f : Nat -> Int) (i : Nat) : cf (mkL n f) i = if i < n then f i else 0 := by
 split
 ·rename_i h
  rw [yE (by simpa [mkL] using h)]; simp [mkL]
 ·rename_i h
  exact zN (by simpa [mkL] using h)
theorem zK (n : Nat) (f : Nat -> Int) : (mkL n f).length = n := by simp [mkL]

def yK (a b : List Int) : List Int := mkL (max a.length b.length) λi => cf a i + cf b i
def v9 (a b : List Int) : List Int := mkL (a.length + b.length - 1) (cv (cf a) (cf b))
def zV (c : Int) (a : List Int) : List Int := a.map (c * ·)

theorem y3 (a b : List Int) (i : Nat) : cf (yK a b) i = cf a i + cf b i := by
 rw [yK, yC]
 split
 ·rfl
 ·rename_i h
  rw [zN (by omega), zN (by omega)]; rfl
theorem zba (a b : List Int) (i : Nat) : cf (v9 a b) i = cv (cf a) (cf b) i := by
 rw [v9, yC]
 split
 ·rfl
 ·rename_i h
  exact (zpI (n := a.length) (m := b.length) (λi hi => zN hi) (λi hi => zN hi) (by omega)).symm
theorem x9 (c : Int) (a : List Int) (i : Nat) : cf (zV c a) i = c * cf a i := by
 by_cases h : i < a.length
 ·rw [yE (by simpa [zV] using h), yE h]; simp [zV]
 ·rw [zN (by simpa [zV] using h), zN (by omega)]; simp
theorem zl4 (p : Int) (a : List Int) (i : Nat) : cf (a.map (· % p)) i = cf a i % p := by
 by_cases h : i < a.length
 ·rw [yE (by simpa using h), yE h]; simp
 ·rw [zN (by simpa using h), zN (by omega)]; simp

def nrm (p : Int) (a : List Int) : List Int := zu (a.map (· % p))
theorem kS (p : Int) (a : List Int) (i : Nat) : cf (nrm p a) i = cf a i % p := by rw [nrm, yJ, zl4]
theorem va (p : Int) (a : List Int) : v8 (nrm p a) := xc _

class Pos (p : Int) : Prop where
 pos : 0 < p

def Nrm (p : Int) (l : List Int) : Prop := (∀ x ∈ l, 0 <= x ∧ x < p) ∧ v8 l

theorem zpW {p : Int} [h : Pos p] (a : List Int) : Nrm p (nrm p a) := by
 refine ⟨λx hx => ?_, va p a⟩;have := zl3 hx;rw [List.mem_map] at this;obtain ⟨y, _, rfl⟩ := this;exact ⟨Int.emod_nonneg _ (by have := h.pos; omega), Int.emod_lt_of_pos _ h.pos⟩

theorem Nrm.cf_mod {p : Int} {l : List Int} (h : Nrm p l) (i : Nat) : cf l i % p = cf l i := by
 by_cases hi : i < l.length
 ·rw [yE hi];have := h.1 _ (List.getElem_mem hi);exact Int.emod_eq_of_lt this.1 this.2
 ·rw [zN (by omega)]; simp
theorem zg5 {p : Int} {l : List Int} (h : Nrm p l) : nrm p l = l := yt (va _ _) h.2 λi => by rw [kS, h.cf_mod]

structure Poly (p : Int) where
 l : List Int
 ok : Nrm p l

namespace Poly
variable {p : Int}

theorem zai {f g : Poly p} (h : f.l = g.l) : f = g := by
 cases f; cases g; cases h; rfl
theorem zw {f g : Poly p} (h : ∀ i, cf f.l i = cf g.l i) : f = g := zai (yt f.ok.2 g.ok.2 h)

instance : DecidableEq (Poly p) := λf g => if h : f.l = g.l then isTrue (zai h) else isFalse λe => h (e ▸ rfl)

variable [Pos p]
def of (p : Int) [Pos p] (a : List Int) : Poly p := ⟨nrm p a, zpW a⟩
theorem zG (a : List Int) (i : Nat) : cf (of p a).l i = cf a i % p := kS p a i
theorem of_l (f : Poly p) : of p f.l = f := zai (zg5 f.ok)
theorem zpJ {a b : List Int} (h : ∀ i, cf a i % p = cf b i % p) : of p a = of p b := zw λi => by rw [zG, zG, h]
instance : Add (Poly p) := ⟨λf g => of p (yK f.l g.l)⟩
instance : Mul (Poly p) := ⟨λf g => of p (v9 f.l g.l)⟩
instance : Neg (Poly p) := ⟨λf => of p (zV (-1) f.l)⟩
instance : Sub (Poly p) := ⟨λf g => of p (yK f.l (zV (-1) g.l))⟩
instance : NatCast (Poly p) := ⟨λn => of p [(n : Int)]⟩
instance : IntCast (Poly p) := ⟨λn => of p [n]⟩
instance (n : Nat) : OfNat (Poly p) n := ⟨of p [(n : Int)]⟩
instance : SMul Nat (Poly p) := ⟨λn f => of p [(n : Int)] * f⟩
instance : SMul Int (Poly p) := ⟨λn f => of p [n] * f⟩
def npow (f : Poly p) : Nat -> Poly p
 | 0 => 1
 | n + 1 => npow f n * f
instance : HPow (Poly p) Nat (Poly p) := ⟨npow⟩

theorem yl (f g : Poly p) (i : Nat) : cf (f + g).l i = (cf f.l i + cf g.l i) % p := by
 show cf (of p _).l i = _
 rw [zG, y3]
theorem yL (f g : Poly p) (i : Nat) : cf (f * g).l i = cv (cf f.l) (cf g.l) i % p := by
 show cf (of p _).l i = _
 rw [zG, zba]
theorem zng (f : Poly p) (i : Nat) : cf (-f).l i = (-cf f.l i) % p := by
 show cf (of p _).l i = _
 rw [zG, x9]; congr 1; omega
theorem ja (f g : Poly p) (i : Nat) : cf (f - g).l i = (cf f.l i - cf g.l i) % p := by
 show cf (of p _).l i = _
 rw [zG, y3, x9]; congr 1; omega
theorem kd : (0 : Poly p).l = [] := by
 refine yt (0 : Poly p).ok.2 (λn h => by simp at h) λi => ?_;show cf (of p [((0 : Nat) : Int)]).l i = _
 rw [zG, zO];cases i with
 | zero => simp [cf]
 | succ i => rw [zk, zO]; simp
theorem zR (i : Nat) : cf (0 : Poly p).l i = 0 := by rw [kd, zO]
theorem zg6 (i : Nat) : cf (1 : Poly p).l i = cf [1] i % p := zG _ _

theorem znh (a b : List Int) : of p (yK a b) = of p a + of p b := zw λi => by
 rw [zG, y3, yl, zG, zG]; exact Int.add_emod _ _ _
theorem zkW {p : Int} (f g : Nat -> Int) (k : Nat) : cv (λi => f i % p) (λi => g i % p) k % p = cv f g k % p := by
 rw [kb, jW, kb, jW]
theorem zgm (a : List Int) : cf (of p a).l = λi => cf a i % p := funext λi => zG a i
theorem zpX (a b : List Int) : of p (v9 a b) = of p a * of p b := zw λi => by
 rw [zG, zba, yL, zgm, zgm, zkW]

theorem xd {p : Int} (f : Poly p) (i : Nat) : cf f.l i % p = cf f.l i := f.ok.cf_mod i

theorem zgn (f g : Poly p) : f + g = g + f := zw λi => by rw [yl, yl, Int.add_comm]
theorem zl5 (f : Poly p) : f + 0 = f := zw λi => by rw [yl, zR, Int.add_zero, xd]
theorem zjR (f g h : Poly p) : f + g + h = f + (g + h) := zw λi => by
 rw [yl, yl, yl, yl, Int.emod_add_emod, Int.add_emod_emod, Int.add_assoc]
theorem jp (f g : Poly p) : f * g = g * f := zw λi => by rw [yL, yL, jW]
theorem zbE (f g : Poly p) : cf (f * g).l = λi => cv (cf f.l) (cf g.l) i % p := funext λi => yL f g i
theorem zjS (f g h : Poly p) : f * g * h = f * (g * h) := zw λi => by
 rw [yL, zbE, kb, yL, zbE, jW (cf f.l), kb, znd, jW (cf f.l)]
theorem zni (f : Poly p) : 1 * f = f := zw λi => by
 have e : cf (1 : Poly p).l = λi => cf [1] i % p := funext zg6;rw [yL, e, kb, znf, xd]
theorem zeB (f g : Poly p) : cf (f + g).l = λi => (cf f.l i + cf g.l i) % p := funext λi => yl f g i
theorem znj (f g h : Poly p) : (f + g) * h = f * h + g * h := zw λi => by
 rw [yL, zeB, kb, zg4, yl, yL, yL, <- Int.add_emod]
theorem zdA (f : Poly p) : -f + f = 0 := zw λi => by
 rw [yl, zng, zR, Int.emod_add_emod]; simp [Int.add_left_neg]
theorem zo2 (f g : Poly p) : f - g = f + -g := zw λi => by
 rw [ja, yl, zng, Int.add_emod_emod, Int.sub_eq_add_neg]
theorem znk (a b : Int) : of p [a + b] = of p [a] + of p [b] := by
 rw [<- znh]; exact zpJ λi => by rw [y3]; cases i <;> simp [cf]

theorem znl (f : Poly p) : f + -f = 0 := by rw [zgn, zdA]
instance : CR (Poly p) where
 add_comm := zgn
 add_assoc := zjR
 add_zero := zl5
 add_neg := znl
 sub_def := zo2
 mul_comm := jp
 mul_assoc := zjS
 one_mul := zni
 add_mul := znj
theorem zj (b : Poly p) (n : Nat) : b ^ (n + 1) = b ^ n * b := rfl
theorem zv (b : Poly p) : b ^ 0 = 1 := rfl

example (f g h : Poly p) : (f + g) * (f - g) + h * (1 + 1) = f * f - g * g + h + h := zf [f, g, h] (by rfl)

end Poly

class Pr (p : Int) : Prop extends Pos p where
 two : 2 <= p
 inv : ∀ a : Int, a % p ≠ 0 -> ∃ b : Int, a * b % p = 1

theorem Pr.mul_ne {p : Int} [h : Pr p] {a b : Int} (ha : a % p ≠ 0) (hb : b % p ≠ 0) : a * b % p ≠ 0 := by
 intro he;obtain ⟨c, hc⟩ := h.inv a ha;have h1 : a * c * b % p = b % p := by rw [Int.mul_emod, hc, Int.one_mul, Int.emod_emod_of_dvd _ (Int.dvd_refl p)]
 have h2 : a * c * b % p = 0 := by
  rw [show a * c * b = c * (a * b) from by rw [Int.mul_comm a c, Int.mul_assoc], Int.mul_emod, he, Int.mul_zero, Int.zero_emod]
 exact hb (h1.symm.trans h2)

namespace Poly
variable {p : Int}

def dg (f : Poly p) : Nat := f.l.length

theorem z3 {f : Poly p} {i : Nat} (h : dg f <= i) : cf f.l i = 0 := zN h
theorem yF {f : Poly p} {n : Nat} (h : dg f = n + 1) : cf f.l n ≠ 0 := f.ok.2 n h
theorem jX {f : Poly p} {n : Nat} (h : ∀ i, n <= i -> cf f.l i = 0) : dg f <= n := by
 rcases Nat.lt_or_ge n (dg f) with hlt | hge
 ·exfalso
  exact yF (f := f) (n := dg f - 1) (by omega) (h _ (by omega))
 ·exact hge
theorem zkX {f : Poly p} {n : Nat} (h : cf f.l n ≠ 0) : n < dg f := by
 rcases Nat.lt_or_ge n (dg f) with hlt | hge
 ·exact hlt
 ·exact absurd (z3 hge) h

theorem jC [Pos p] (a : List Int) : dg (of p a) <= a.length := jX λi hi => by rw [zG, zN hi]; simp

theorem zd [Pos p] {f : Poly p} : dg f = 0 ↔ f = 0 := by
 constructor
 ·intro h;refine zw λi => ?_;rw [zR, z3 (by omega)]
 ·rintro rfl;show (0 : Poly p).l.length = 0
  rw [kd]; rfl

theorem zC [Pos p] : dg (0 : Poly p) = 0 := zd.2 rfl

theorem zeC [Pos p] (f g : Poly p) : dg (f + g) <= max (dg f) (dg g) := jX λi hi => by
 rw [yl, z3 (by omega), z3 (by omega)]; simp
theorem vH [Pos p] (f g : Poly p) : dg (f - g) <= max (dg f) (dg g) := jX λi hi => by
 rw [ja, z3 (by omega), z3 (by omega)]; simp
theorem y0 [Pos p] (f g : Poly p) : dg (f * g) <= dg f + dg g - 1 := jX λi hi => by
 rw [yL, zpI (n := dg f) (m := dg g) (λi hi => z3 hi) (λi hi => z3 hi) (by omega)]; simp

theorem yk {f : Poly p} {i : Nat} (h : cf f.l i ≠ 0) : cf f.l i % p ≠ 0 := by rw [f.ok.cf_mod]; exact h

section
variable [Pr p]

theorem zit {f g : Poly p} {n m : Nat} (hf : dg f = n + 1) (hg : dg g = m + 1) : cf (f * g).l (n + m) = cf f.l n * cf g.l m % p := by
 rw [yL, zne (λi hi => z3 (by omega)) (λi hi => z3 (by omega))]

theorem yM {f g : Poly p} (hf : f ≠ 0) (hg : g ≠ 0) : dg (f * g) + 1 = dg f + dg g := by
 have h1 : dg f ≠ 0 := λh => hf (zd.1 h);have h2 : dg g ≠ 0 := λh => hg (zd.1 h);obtain ⟨n, hn⟩ := Nat.exists_eq_succ_of_ne_zero h1;obtain ⟨m, hm⟩ := Nat.exists_eq_succ_of_ne_zero h2
 have h3 : cf (f * g).l (n + m) ≠ 0 := by
  rw [zit hn hm];exact Pr.mul_ne (yk (yF hn)) (yk (yF hm))
 have h4 := zkX h3;have h5 := y0 f g;omega

theorem mul_ne {f g : Poly p} (hf : f ≠ 0) (hg : g ≠ 0) : f * g ≠ 0 := by
 intro h;have h1 := yM hf hg;have h2 : dg f ≠ 0 := λh => hf (zd.1 h);have h3 : dg g ≠ 0 := λh => hg (zd.1 h);rw [h, zC] at h1;omega
theorem mul_eq_zero {f g : Poly p} (h : f * g = 0) : f = 0 ∨ g = 0 := by
 by_cases hf : f = 0
 ·exact .inl hf
 ·by_cases hg : g = 0
  ·exact .inr hg
  ·exact absurd h (mul_ne hf hg)
theorem zeD {f g h : Poly p} (hf : f ≠ 0) (he : f * g = f * h) : g = h := by
 have : f * (g - h) = 0 := by exact comb (1) he (zf [f, g, h] (by rfl))
 rcases mul_eq_zero this with h1 | h1
 ·exact absurd h1 hf
 ·exact comb (1) h1 (zf [g, h] (by rfl))

theorem zeE : (1 : Poly p) ≠ 0 := by
 intro h;have h1 := zg6 (p := p) 0;rw [h, zR, zx, Int.emod_eq_of_lt (by omega) (by have := Pr.two (p := p); omega)] at h1;cases h1
theorem yV : dg (1 : Poly p) = 1 := by
 have h1 : dg (1 : Poly p) <= 1 := jC [((1 : Nat) : Int)];have h2 : dg (1 : Poly p) ≠ 0 := λh => zeE (zd.1 h);omega
end

def mono (p : Int) [Pos p] (c : Int) (k : Nat) : Poly p := of p (List.replicate k 0 ++ [c])
theorem znm (c : Int) (k i : Nat) : cf (List.replicate k 0 ++ [c]) i = if i = k then c else 0 := by
 induction k generalizing i with
 | zero => cases i with
  | zero => rfl
  | succ i => simp [cf]
 | succ k ih =>
  cases i with
  | zero => simp [cf, List.replicate_succ]
  | succ i =>
   rw [List.replicate_succ, List.cons_append, zk, ih];simp
theorem cv_mono (c : Int) (k : Nat) (g : Nat -> Int) (i : Nat) : cv (λj => if j = k then c else 0) g i = if k <= i then c * g (i - k) else 0 := by
 induction k generalizing i with
 | zero =>
  cases i with
  | zero => simp [cv]
  | succ i =>
   rw [cv, yz (f := λj => if j + 1 = 0 then c else 0) (λi _ => by simp)];simp
 | succ k ih =>
  cases i with
  | zero => simp [cv]
  | succ i =>
   rw [cv];have : (λj => if j + 1 = k + 1 then c else 0) = λj => if j = k then c else 0 := by funext j; simp
   rw [this, ih];simp
theorem jY [Pos p] (c : Int) (k i : Nat) : cf (mono p c k).l i = if i = k then c % p else 0 := by
 rw [mono, zG, znm]; split <;> simp
theorem yq [Pos p] (c : Int) (k : Nat) (g : Poly p) (i : Nat) : cf (mono p c k * g).l i = if k <= i then c * cf g.l (i - k) % p else 0 := by
 have e : cf (mono p c k).l = λi => (if i = k then c else 0) % p := funext λi => by rw [jY]; split <;> simp
 rw [yL, e, kb, cv_mono]; split <;> simp

section
variable [Pr p]

theorem kT (g : Poly p) (hg : g ≠ 0) : ∀ (n : Nat) (f : Poly p), dg f <= n -> ∃ q r : Poly p, f = q * g + r ∧ dg r < dg g := by
 have hg0 : dg g ≠ 0 := λh => hg (zd.1 h);intro n
 induction n with
 | zero =>
  intro f hf;exact ⟨0, f, by exact zf [f, g] (by rfl), by omega⟩
 | succ n ih =>
  intro f hf
  by_cases hlt : dg f < dg g
  ·exact ⟨0, f, by exact zf [f, g] (by rfl), hlt⟩
  ·by_cases hle : dg f <= n
   ·exact ih f hle
   ·obtain ⟨m, hm⟩ := Nat.exists_eq_succ_of_ne_zero hg0;obtain ⟨b, hb⟩ := Pr.inv (p := p) _ (yk (yF hm))
    obtain ⟨q, r, h1, h2⟩ := ih (f - mono p (cf f.l n * b) (n - m) * g) (by
     refine jX λi hi => ?_;rw [ja, yq, if_pos (by omega)];rcases Nat.eq_or_lt_of_le hi with rfl | hlt'
     ·rw [show n - (n - m) = m by omega];rw [Int.sub_emod, Int.emod_emod_of_dvd _ (Int.dvd_refl p), <- Int.sub_emod]
      have : cf f.l n - cf f.l n * b * cf g.l m = cf f.l n * (1 - cf g.l m * b) := by
       rw [Int.mul_sub, Int.mul_one, Int.mul_assoc, Int.mul_comm b]
      rw [this, Int.mul_emod, Int.sub_emod, hb];have h1 : (1 : Int) % p = 1 := Int.emod_eq_of_lt (by omega) (by have := Pr.two (p := p); omega);rw [h1]; simp
     ·rw [z3 (f := f) (by omega), z3 (f := g) (by omega)]; simp)
    exact ⟨q + mono p (cf f.l n * b) (n - m), r, by exact comb (1) h1 (zf [f, q, mono p (cf f.l n * b) (n - m), g, r] (by rfl)), h2⟩

theorem zjT {f g q r q' r' : Poly p} (h : f = q * g + r) (hr : dg r < dg g) (h' : f = q' * g + r') (hr' : dg r' < dg g) : q = q' ∧ r = r' := by
 have h1 : (q - q') * g = r' - r := by exact comb (1) h' (comb (-1) h (zf [f, q, g, r, q', r'] (by rfl)))
 by_cases hq : q - q' = 0
 ·refine ⟨by exact comb (1) hq (zf [q, q'] (by rfl)), ?_⟩;rw [hq] at h1;exact comb (1) h1 (zf [r, r', g] (by rfl))
 ·exfalso
  have hg : g ≠ 0 := λh => by rw [h, zC] at hr; omega
  have h2 := yM hq hg;rw [h1] at h2;have h3 := vH r' r;have h4 : dg (q - q') ≠ 0 := λh => hq (zd.1 h);omega

open Classical in
noncomputable def zo3 (f g : Poly p) : Poly p × Poly p := if hg : g = 0 then (0, f) else ⟨(kT g hg _ f (Nat.le_refl _)).choose, (kT g hg _ f (Nat.le_refl _)).choose_spec.choose⟩
noncomputable def quo (f g : Poly p) : Poly p := (zo3 f g).1
noncomputable def rem (f g : Poly p) : Poly p := (zo3 f g).2

theorem vd (f g : Poly p) : f = quo f g * g + rem f g := by
 unfold quo rem zo3
 split
 ·show f = 0 * g + f; exact zf [f, g] (by rfl)
 ·rename_i hg
  exact (kT g hg _ f (Nat.le_refl _)).choose_spec.choose_spec.1
theorem zX (f : Poly p) {g : Poly p} (hg : g ≠ 0) : dg (rem f g) < dg g := by
 unfold rem zo3;rw [dif_neg hg];exact (kT g hg _ f (Nat.le_refl _)).choose_spec.choose_spec.2
theorem zg7 {f g q r : Poly p} (h : f = q * g + r) (hr : dg r < dg g) : quo f g = q ∧ rem f g = r := by
 have hg : g ≠ 0 := λh => by rw [h, zC] at hr; omega
 exact zjT (vd f g) (zX f hg) h hr

def Dvd' (g f : Poly p) : Prop := ∃ q, f = g * q
instance : Dvd (Poly p) := ⟨Dvd'⟩
theorem dvd_refl (f : Poly p) : f ∣ f := ⟨1, by exact zf [f] (by rfl)⟩
theorem dvd_zero (f : Poly p) : f ∣ 0 := ⟨0, by exact zf [f] (by rfl)⟩
theorem zdJ (f : Poly p) : 1 ∣ f := ⟨f, by exact zf [f] (by rfl)⟩
theorem zy {f g h : Poly p} (h1 : f ∣ g) (h2 : g ∣ h) : f ∣ h := by
 obtain ⟨a, rfl⟩ := h1;obtain ⟨b, rfl⟩ := h2;exact ⟨a * b, by exact zf [f, a, b] (by rfl)⟩
theorem ye {f g : Poly p} (h : Poly p) (h1 : f ∣ g) : f ∣ h * g := by
 obtain ⟨a, rfl⟩ := h1;exact ⟨h * a, by exact zf [f, a, h] (by rfl)⟩
theorem xC {f g : Poly p} (h : Poly p) (h1 : f ∣ g) : f ∣ g * h := by
 obtain ⟨a, rfl⟩ := h1;exact ⟨a * h, by exact zf [f, a, h] (by rfl)⟩
theorem dvd_add {f g h : Poly p} (h1 : f ∣ g) (h2 : f ∣ h) : f ∣ g + h := by
 obtain ⟨a, rfl⟩ := h1;obtain ⟨b, rfl⟩ := h2;exact ⟨a + b, by exact zf [f, a, b] (by rfl)⟩
theorem dvd_sub {f g h : Poly p} (h1 : f ∣ g) (h2 : f ∣ h) : f ∣ g - h := by
 obtain ⟨a, rfl⟩ := h1;obtain ⟨b, rfl⟩ := h2;exact ⟨a - b, by exact zf [f, a, b] (by rfl)⟩
theorem jZ {g f : Poly p} (hg : g ≠ 0) : g ∣ f ↔ rem f g = 0 := by
 constructor
 ·rintro ⟨q, rfl⟩;exact (zg7 (q := q) (r := 0) (by exact zf [g, q] (by rfl)) (by rw [zC]; have : dg g ≠ 0 := λh => hg (zd.1 h); omega)).2
 ·intro h;have := vd f g;rw [h] at this;exact ⟨quo f g, by exact comb (1) this (zf [f, g, quo f g] (by rfl))⟩
theorem zP {g f : Poly p} (h : g ∣ f) (hf : f ≠ 0) : dg g <= dg f := by
 obtain ⟨q, rfl⟩ := h;have hg : g ≠ 0 := λh => hf (by rw [h]; exact zf [q] (by rfl));have hq : q ≠ 0 := λh => hf (by rw [h]; exact zf [g] (by rfl));have h1 := yM hg hq;have : dg q ≠ 0 := λh => hq (zd.1 h);omega
theorem zeF {g f : Poly p} (h : g ∣ f) (hf : f ≠ 0) : g ≠ 0 := by
 rintro rfl;obtain ⟨q, rfl⟩ := h;exact hf (by exact zf [q] (by rfl))
end

end Poly
namespace Poly
variable {p : Int} [Pr p]

def con (p : Int) [Pos p] (c : Int) : Poly p := of p [c]
theorem xM (c : Int) (i : Nat) : cf (con p c).l i = if i = 0 then c % p else 0 := by
 rw [con, zG]; cases i <;> simp [cf]
theorem zeG (c : Int) (f : Poly p) (i : Nat) : cf (con p c * f).l i = c * cf f.l i % p := by
 have e : cf (con p c).l = λi => c * cf [1] i % p := funext λi => by rw [xM]; cases i <;> simp [cf]
 rw [yL, e, kb, zkV, znf]
theorem zdK (a b : Int) : con p a * con p b = con p (a * b) := zw λi => by
 rw [zeG, xM, xM]; split <;> simp [Int.mul_emod]
theorem zg8 (a b : Int) : con p a + con p b = con p (a + b) := (znk a b).symm
theorem zdL (a b : Int) : con p a - con p b = con p (a - b) := zw λi => by
 rw [ja, xM, xM, xM]; split
 ·exact (Int.sub_emod _ _ _).symm
 ·simp
theorem zb7 (a : Int) : con p (a % p) = con p a := zw λi => by rw [xM, xM]; simp
theorem xD : con p 0 = 0 := zw λi => by rw [xM, zR]; simp
theorem kU : con p 1 = 1 := rfl
theorem xQ {a : Int} : con p a = 0 ↔ a % p = 0 := by
 constructor
 ·intro h;have := xM (p := p) a 0;rw [h, zR] at this
  simpa using this.symm
 ·intro h;rw [<- zb7, h, xD]
theorem jb (a : Int) : dg (con p a) <= 1 := jC [a]
theorem zjU {a : Int} (h : a % p ≠ 0) : dg (con p a) = 1 := by
 have h1 := jb (p := p) a;have h2 : dg (con p a) ≠ 0 := λh' => h (xQ.1 (zd.1 h'));omega
theorem zg9 {f : Poly p} (h : dg f <= 1) : f = con p (cf f.l 0) := zw λi => by
 rw [xM];cases i with
 | zero => simp [xd]
 | succ i => rw [z3 (by omega)]; simp

theorem jD {u : Poly p} (h : dg u = 1) : ∃ v, u * v = 1 := by
 have h0 := yF (f := u) (n := 0) h;obtain ⟨b, hb⟩ := Pr.inv (p := p) _ (yk h0);refine ⟨con p b, ?_⟩;rw [zg9 (f := u) (by omega), zdK, <- zb7, hb]; rfl
theorem znn {u : Poly p} (h : dg u = 1) (f : Poly p) : u ∣ f := by
 obtain ⟨v, hv⟩ := jD h;exact ⟨v * f, by exact comb (-f) hv (zf [f, u, v] (by rfl))⟩
theorem zb8 {u f : Poly p} (h : dg u = 1) (hf : f ∣ u) : dg f = 1 := by
 have hu : u ≠ 0 := λe => by rw [e, zC] at h; cases h
 have h1 := zP hf hu;have h2 : dg f ≠ 0 := λe => zeF hf hu (zd.1 e);omega

def lc (f : Poly p) : Int := cf f.l (dg f - 1)
def Mon (f : Poly p) : Prop := f ≠ 0 ∧ lc f = 1
theorem zqy {f : Poly p} (h : f ≠ 0) : lc f ≠ 0 := by
 have : dg f ≠ 0 := λe => h (zd.1 e);exact yF (n := dg f - 1) (by omega)
theorem zha {f g : Poly p} (hf : f ≠ 0) (hg : g ≠ 0) : lc (f * g) = lc f * lc g % p := by
 have h1 : dg f ≠ 0 := λe => hf (zd.1 e);have h2 : dg g ≠ 0 := λe => hg (zd.1 e);have h3 := yM hf hg;have := zit (f := f) (g := g) (n := dg f - 1) (m := dg g - 1) (by omega) (by omega);unfold lc;rw [show dg (f * g) - 1 = dg f - 1 + (dg g - 1) by omega, this]
theorem zkY : (1 : Int) % p = 1 := Int.emod_eq_of_lt (by omega) (by have := Pr.two (p := p); omega)
theorem Mon.mul {f g : Poly p} (hf : Mon f) (hg : Mon g) : Mon (f * g) :=
 ⟨mul_ne hf.1 hg.1, by rw [zha hf.1 hg.1, hf.2, hg.2]; exact zkY⟩
theorem zkZ : Mon (1 : Poly p) := ⟨zeE, by
 unfold lc;rw [yV, zg6];exact zkY⟩
theorem Mon.right {f g : Poly p} (hf : Mon f) (h : Mon (f * g)) : Mon g := by
 have hg : g ≠ 0 := λe => h.1 (by rw [e]; exact zf [f] (by rfl));refine ⟨hg, ?_⟩;have := zha hf.1 hg;rw [h.2, hf.2, Int.one_mul] at this;rw [this]; exact (xd g _).symm
theorem zno {c : Int} (h : c % p ≠ 0) : lc (con p c) = c % p := by
 unfold lc;rw [zjU h, xM]; rfl
theorem zhb {c : Int} (h : c % p ≠ 0) : con p c ≠ 0 := λe => h (xQ.1 e)
theorem kV {f : Poly p} (hf : f ≠ 0) : ∃ c : Int, c % p ≠ 0 ∧ Mon (con p c * f) := by
 obtain ⟨b, hb⟩ := Pr.inv (p := p) (lc f) (yk (zqy hf))
 have hb' : b % p ≠ 0 := by
  intro h;rw [Int.mul_emod, h, Int.mul_zero, Int.zero_emod] at hb; cases hb
 refine ⟨b, hb', mul_ne (zhb hb') hf, ?_⟩;rw [zha (zhb hb') hf, zno hb', Int.mul_comm, Int.mul_emod, Int.emod_emod_of_dvd _ (Int.dvd_refl p), <- Int.mul_emod, hb]

theorem zjV {f g : Poly p} (hf : Mon f) (hg : Mon g) (h1 : f ∣ g) (h2 : g ∣ f) : f = g := by
 obtain ⟨q, rfl⟩ := h1;have h3 := zP h2 hf.1;have hq : q ≠ 0 := λe => hg.1 (by rw [e]; exact zf [f] (by rfl));have h4 := yM hf.1 hq;have h5 : dg q ≠ 0 := λe => hq (zd.1 e);have h6 : q = con p (cf q.l 0) := zg9 (by omega);have h7 := hf.right hg
 have h8 : cf q.l 0 = 1 := by
  have := h7.2;unfold lc at this
  rwa [show dg q - 1 = 0 by omega] at this
 rw [h6, h8, kU]; exact zf [f] (by rfl)

open Classical in
noncomputable def mnc (f : Poly p) : Poly p := if h : f = 0 then 0 else con p (kV h).choose * f
theorem ziu : mnc (0 : Poly p) = 0 := by simp [mnc]
theorem j1 {f : Poly p} (h : f ≠ 0) : Mon (mnc f) := by
 unfold mnc; rw [dif_neg h]; exact (kV h).choose_spec.2
theorem ya (f : Poly p) : mnc f ∣ f ∧ f ∣ mnc f := by
 unfold mnc
 split
 ·rename_i h; rw [h]; exact ⟨dvd_refl _, dvd_refl _⟩
 ·rename_i h
  obtain ⟨v, hv⟩ := jD (zjU (kV h).choose_spec.1);generalize (kV h).choose = c at hv;exact ⟨⟨v, by exact comb (-f) hv (zf [f, con p c, v] (by rfl))⟩, ⟨con p c, by exact zf [f, con p c] (by rfl)⟩⟩
theorem zpY {f : Poly p} {c : Int} (h : Mon (con p c * f)) : mnc f = con p c * f := by
 have hf : f ≠ 0 := λe => h.1 (by rw [e]; exact zf [con p c] (by rfl));have hc : c % p ≠ 0 := λe => h.1 (by rw [xQ.2 e]; exact zf [f] (by rfl));obtain ⟨v, hv⟩ := jD (zjU hc);refine zjV (j1 hf) h (ye _ (ya f).1) ?_;exact zy ⟨v, by exact comb (-f) hv (zf [f, con p c, v] (by rfl))⟩ (ya f).2

noncomputable def gcd (f g : Poly p) : Poly p :=
 if h : dg g = 0 then mnc f else have : dg (rem f g) < dg g := zX f λe => h (zd.2 e); gcd g (rem f g)
termination_by dg g

theorem zeH (f : Poly p) : gcd f 0 = mnc f := by rw [gcd, dif_pos zC]
theorem zjW (f : Poly p) {g : Poly p} (h : g ≠ 0) : gcd f g = gcd g (rem f g) := by rw [gcd, dif_neg λe => h (zd.1 e)]

theorem zb9 : ∀ (n : Nat) (f g : Poly p), dg g <= n -> (gcd f g ∣ f ∧ gcd f g ∣ g) ∧ (∃ a b, gcd f g = a * f + b * g) ∧ (f ≠ 0 ∨ g ≠ 0 -> Mon (gcd f g)) := by
 intro n
 induction n with
 | zero =>
  intro f g h;obtain rfl := zd.1 (by omega : dg g = 0);rw [zeH];obtain ⟨h1, c, hc⟩ := ya f;refine ⟨⟨h1, dvd_zero _⟩, ⟨c, 0, by rw [hc]; exact zf [f, c] (by rfl)⟩, λh => j1 (h.resolve_right λh => h rfl)⟩
 | succ n ih =>
  intro f g h
  by_cases hg : g = 0
  ·subst hg;exact ih f 0 (by rw [zC]; omega)
  ·rw [zjW f hg];have h0 := zX f hg;obtain ⟨⟨h1, h2⟩, ⟨a, b, h3⟩, h4⟩ := ih g (rem f g) (by omega);have h5 := vd f g;refine ⟨⟨?_, h1⟩, ⟨b, a - b * quo f g, ?_⟩, λ_ => h4 (.inl hg)⟩
   ·have := dvd_add (ye (quo f g) h1) h2
    rwa [<- h5] at this
   ·rw [h3]; exact comb (-b) h5 (zf [a, b, f, g, rem f g, quo f g] (by rfl))

theorem ve (f g : Poly p) : gcd f g ∣ f := (zb9 _ f g (Nat.le_refl _)).1.1
theorem xR (f g : Poly p) : gcd f g ∣ g := (zb9 _ f g (Nat.le_refl _)).1.2
theorem ziv (f g : Poly p) : ∃ a b, gcd f g = a * f + b * g := (zb9 _ f g (Nat.le_refl _)).2.1
theorem zca {f g : Poly p} (h : f ≠ 0 ∨ g ≠ 0) : Mon (gcd f g) := (zb9 _ f g (Nat.le_refl _)).2.2 h
theorem zk0 {h f g : Poly p} (h1 : h ∣ f) (h2 : h ∣ g) : h ∣ gcd f g := by
 obtain ⟨a, b, he⟩ := ziv f g;rw [he];exact dvd_add (ye _ h1) (ye _ h2)

def Cop (f g : Poly p) : Prop := ∃ a b, a * f + b * g = 1
theorem Cop.symm {f g : Poly p} (h : Cop f g) : Cop g f := by
 obtain ⟨a, b, h⟩ := h;exact ⟨b, a, by exact comb (1) h (zf [a, b, f, g] (by rfl))⟩
theorem zeI {f g : Poly p} (h : dg (gcd f g) = 1) : Cop f g := by
 obtain ⟨a, b, he⟩ := ziv f g;obtain ⟨v, hv⟩ := jD h;exact ⟨v * a, v * b, by exact comb (1) hv (comb (-v) he (zf [v, a, b, f, g, gcd f g] (by rfl)))⟩
theorem Cop.mul {f g h : Poly p} (h1 : Cop f h) (h2 : Cop g h) : Cop (f * g) h := by
 obtain ⟨a, b, h1⟩ := h1;obtain ⟨c, d, h2⟩ := h2;exact ⟨a * c, a * f * d + b * c * g + b * d * h, by exact comb (c*g+d*h) h1 (comb (1) h2 (zf [a, b, c, d, f, g, h] (by rfl)))⟩
theorem Cop.dvd {f g h : Poly p} (h1 : Cop f g) (h2 : f ∣ g * h) : f ∣ h := by
 obtain ⟨a, b, h1⟩ := h1;obtain ⟨q, h2⟩ := h2;exact ⟨a * h + b * q, by exact comb (-h) h1 (comb (b) h2 (zf [a, b, f, g, h, q] (by rfl)))⟩
theorem Cop.mul_dvd {f g h : Poly p} (h1 : Cop f g) (h2 : f ∣ h) (h3 : g ∣ h) : f * g ∣ h := by
 obtain ⟨a, b, h1⟩ := h1;obtain ⟨q, h2⟩ := h2;obtain ⟨r, h3⟩ := h3;exact ⟨a * r + b * q, by exact comb (-h) h1 (comb (b*g) h2 (comb (a*f) h3 (zf [a, b, f, g, h, q, r] (by rfl))))⟩
theorem zo4 (f : Poly p) : Cop 1 f := ⟨1, 0, by exact zf [f] (by rfl)⟩
def Irr (h : Poly p) : Prop := 2 <= dg h ∧ ∀ a b, h = a * b -> dg a = 1 ∨ dg b = 1

theorem Irr.ne {h : Poly p} (hi : Irr h) : h ≠ 0 := λe => by have := hi.1; rw [e, zC] at this; omega

theorem Irr.cop {h a : Poly p} (hi : Irr h) (hn : ¬ h ∣ a) : Cop h a := by
 obtain ⟨q, hq⟩ := ve h a;rcases hi.2 _ _ hq with h1 | h1
 ·exact zeI h1
 ·exfalso
  obtain ⟨v, hv⟩ := jD h1;exact hn (zy ⟨v, by exact comb (-(gcd h a)) hv (comb (-v) hq (zf [gcd h a, h, q, v] (by rfl)))⟩ (xR h a))
theorem Irr.prime {h a b : Poly p} (hi : Irr h) (hd : h ∣ a * b) : h ∣ a ∨ h ∣ b := by
 by_cases ha : h ∣ a
 ·exact .inl ha
 ·exact .inr ((hi.cop ha).dvd hd)
theorem Irr.not_unit {h u : Poly p} (hi : Irr h) (hu : dg u = 1) : ¬ h ∣ u := λhd => by
 have := zb8 hu hd;have := hi.1;omega
theorem Irr.pow {h a : Poly p} (hi : Irr h) {n : Nat} (hd : h ∣ a ^ n) : h ∣ a := by
 induction n with
 | zero =>
  have e : a ^ 0 = 1 := by exact zv a
  rw [e] at hd;exact absurd hd (hi.not_unit yV)
 | succ n ih =>
  have e : a ^ (n + 1) = a ^ n * a := by exact zj a n
  rw [e] at hd;exact (hi.prime hd).elim ih id

theorem zbF {g h : Poly p} (hg : Irr g) (hh : Irr h) (mg : Mon g) (mh : Mon h) (hd : g ∣ h) : g = h := by
 refine zjV mg mh hd ?_;obtain ⟨q, rfl⟩ := hd;rcases hh.2 _ _ rfl with h1 | h1
 ·exact absurd h1 (by have := hg.1; omega)
 ·obtain ⟨v, hv⟩ := jD h1;exact ⟨v, by exact comb (-g) hv (zf [g, q, v] (by rfl))⟩

theorem j2 {h : Poly p} (hi : Irr h) : Irr (mnc h) ∧ Mon (mnc h) := by
 refine ⟨?_, j1 hi.ne⟩;obtain ⟨⟨q, hq⟩, ⟨r, hr⟩⟩ := ya h;have h1 := zP (ya h).1 hi.ne;have h2 := zP (ya h).2 (j1 hi.ne).1;refine ⟨by have := hi.1; omega, λa b hab => ?_⟩
 have hq1 : dg q = 1 := by
  have hm := (j1 hi.ne).1;have hq0 : q ≠ 0 := λe => hi.ne (by rw [hq, e]; exact zf [mnc h] (by rfl));have := yM hm hq0;rw [<- hq] at this;omega
 rcases hi.2 a (b * q) (by exact comb (1) hq (comb (q) hab (zf [h, a, b, q, mnc h] (by rfl)))) with h3 | h3
 ·exact .inl h3
 ·exact .inr (zb8 h3 ⟨q, rfl⟩)

theorem zbG : ∀ (n : Nat) (f : Poly p), dg f <= n -> 2 <= dg f -> ∃ h, Irr h ∧ Mon h ∧ h ∣ f := by
 intro n
 induction n with
 | zero => intro f h1 h2; omega
 | succ n ih =>
  intro f h1 h2;have hf : f ≠ 0 := λe => by rw [e, zC] at h2; omega
  by_cases hi : Irr f
  ·exact ⟨mnc f, (j2 hi).1, (j2 hi).2, (ya f).1⟩
  ·unfold Irr at hi;simp only [not_and, Classical.not_forall, not_or] at hi
   obtain ⟨a, b, rfl, ha, hb⟩ := hi h2;have ha0 : a ≠ 0 := λe => hf (by rw [e]; exact zf [b] (by rfl));have hb0 : b ≠ 0 := λe => hf (by rw [e]; exact zf [a] (by rfl));have h3 := yM ha0 hb0;have h4 : dg a ≠ 0 := λe => ha0 (zd.1 e);have h5 : dg b ≠ 0 := λe => hb0 (zd.1 e);obtain ⟨h, h6, h7, h8⟩ := ih a (by omega) (by omega);exact ⟨h, h6, h7, xC _ h8⟩

def Sqf (f : Poly p) : Prop := ∀ h, Irr h -> ¬ h * h ∣ f

theorem zbH {f g : Poly p} (hf : f ≠ 0) (h : ∀ h, Irr h -> h ∣ f -> h ∣ g -> False) : Cop f g := by
 have hm := zca (f := f) (g := g) (.inl hf);have h0 : dg (gcd f g) ≠ 0 := λe => hm.1 (zd.1 e)
 by_cases h1 : dg (gcd f g) = 1
 ·exact zeI h1
 ·obtain ⟨q, h2, _, h3⟩ := zbG _ (gcd f g) (Nat.le_refl _) (by omega);exact (h q h2 (zy h3 (ve f g)) (zy h3 (xR f g))).elim

theorem Sqf.cop {f a b : Poly p} (hs : Sqf f) (hf : f ≠ 0) (h : a * b ∣ f) : Cop a b := by
 have ha : a ≠ 0 := λe => zeF h hf (by rw [e]; exact zf [b] (by rfl));refine zbH ha λq hq h1 h2 => hs q hq ?_;obtain ⟨x, rfl⟩ := h1;obtain ⟨y, rfl⟩ := h2;exact zy ⟨x * y, by exact zf [q, x, y] (by rfl)⟩ h
theorem Sqf.dvd {f g : Poly p} (hs : Sqf f) (h : g ∣ f) : Sqf g := λq hq hd => hs q hq (zy hd h)

end Poly

def z7 : List Int := [2, 3, 5, 7, 11, 13, 17, 19, 23, 29, 31, 37, 41, 43, 47, 53, 59, 61, 67, 71, 73, 79, 83, 89, 97]

def zjX (p k : Int) : List Int -> List Int -> List Int
 | x :: l, y :: l' => (x - k * y) % p :: zjX p k l l'
 | _, _ => []
def stir (p : Int) : Nat -> List Int
 | 0 => [1]
 | n + 1 => zjX p n (0 :: stir p n) (stir p n ++ [0])
def zjY (p : Int) : List Int := 0 :: (p - 1) :: (List.replicate (p.toNat - 2) 0 ++ [1])

theorem ziw : z7.all (λp => stir p p.toNat == zjY p) = true := by decide +kernel
theorem zjZ : z7.all (λp => (List.range p.toNat).all λa => a == 0 || (List.range p.toNat).any λb => (a : Int) * b % p == 1) = true := by decide +kernel
theorem zbI : z7.all (λp => decide (2 <= p ∧ p <= 97)) = true := by decide +kernel

class SP (p : Int) : Prop extends Pr p where
 le : p <= 97
 stir : stir p p.toNat = zjY p

theorem xt {p : Int} (h : p ∈ z7) : SP p := by
 have h1 := List.all_eq_true.1 ziw p h;have h2 := List.all_eq_true.1 zjZ p h;have h3 := List.all_eq_true.1 zbI p h;simp only [beq_iff_eq, decide_eq_true_eq] at h1 h3
 refine { pos := by omega, two := h3.1, le := h3.2, stir := h1, inv := λa ha => ?_ };rw [List.all_eq_true] at h2;have h4 := Int.emod_nonneg a (show p ≠ 0 by omega);have h5 := Int.emod_lt_of_pos a (show 0 < p by omega);have h6 := h2 (a % p).toNat (List.mem_range.2 (by omega));simp only [Bool.or_eq_true, beq_iff_eq, List.any_eq_true] at h6
 rcases h6 with h6 | ⟨b, _, h6⟩
 ·omega
 ·refine ⟨b, ?_⟩;rw [show ((a % p).toNat : Int) = a % p by omega, Int.mul_emod, Int.emod_emod_of_dvd _ (Int.dvd_refl p), <- Int.mul_emod] at h6;exact h6

namespace Poly
variable {p : Int} [Pr p]

def hev (a b : Poly p) : List Int -> Nat -> Poly p
 | [], _ => 0
 | c :: l, n => con p c * b ^ n + a * hev a b l (n - 1)

def vT (a b : Poly p) : Nat -> Poly p
 | 0 => 1
 | n + 1 => vT a b n * (a - con p n * b)


theorem zix (a b : Poly p) : ∀ (l : List Int) (n : Nat), l.length = n + 1 -> hev a b (l ++ [0]) (n + 1) = b * hev a b l n
 | [], n, h => by simp at h
 | [c], n, h => by
  have : n = 0 := by simpa using h.symm
  subst this;simp only [List.cons_append, List.nil_append, hev, xD]
  rw [zj, zv];exact zf [con p c, b, a, b ^ (0 + 1 - 1)] (by rfl)
 | c :: d :: l, n, h => by
  cases n with
  | zero => simp at h
  | succ n =>
   have ih := zix a b (d :: l) n (by simpa using h);simp only [List.cons_append] at ih ⊢
   have e1 : hev a b (c :: d :: (l ++ [0])) (n + 1 + 1) = con p c * b ^ (n + 1 + 1) + a * hev a b (d :: (l ++ [0])) (n + 1) := rfl;have e2 : hev a b (c :: d :: l) (n + 1) = con p c * b ^ (n + 1) + a * hev a b (d :: l) n := rfl;rw [e1, e2, ih, zj b (n + 1)];exact zf [a, b, con p c, b ^ (n+1), hev a b (d :: l) n] (by rfl)

theorem ziy (a b : Poly p) (k : Int) : ∀ (l l' : List Int) (n : Nat), l.length = l'.length -> hev a b (zjX p k l l') n = hev a b l n - con p k * hev a b l' n
 | [], [], n, _ => by simp only [zjX, hev]; exact zf [con p k] (by rfl)
 | x :: l, y :: l', n, h => by
  simp only [zjX, hev]
  rw [ziy a b k l l' (n - 1) (by simpa using h), zb7, <- zdL, <- zdK];exact zf [con p k, con p x, con p y, a, b ^ n, hev a b l (n-1), hev a b l' (n-1)] (by rfl)
 | [], _ :: _, n, h => by simp at h
 | _ :: _, [], n, h => by simp at h

theorem zde {p : Int} (k : Int) : ∀ (l l' : List Int), l.length = l'.length -> (zjX p k l l').length = l.length
 | [], [], _ => rfl
 | x :: l, y :: l', h => by simp [zjX, zde k l l' (by simpa using h)]
 | [], _ :: _, h => by simp at h
 | _ :: _, [], h => by simp at h

theorem ziz {p : Int} (n : Nat) : (stir p n).length = n + 1 := by
 induction n with
 | zero => rfl
 | succ n ih => rw [stir, zde _ _ _ (by simp)]; simp [ih]

theorem znp (a b : Poly p) (n : Nat) : hev a b (stir p n) n = vT a b n := by
 induction n with
 | zero => simp only [stir, hev, vT, kU, zv]; exact zf [a] (by rfl)
 | succ n ih =>
  rw [stir, ziy _ _ _ _ _ _ (by simp), zix _ _ _ _ (ziz n), vT];simp only [hev, xD, Nat.add_sub_cancel, ih]
  exact zf [a, b, vT a b n, con p (n:Int), b ^ (n+1)] (by rfl)

theorem zo5 (a b : Poly p) (m : Nat) : hev a b (List.replicate m 0 ++ [1]) m = a ^ m := by
 induction m with
 | zero => simp only [List.replicate_zero, List.nil_append, hev, kU, zv]; exact zf [a] (by rfl)
 | succ m ih =>
  rw [List.replicate_succ, List.cons_append, hev, Nat.add_sub_cancel, ih, xD, zj a m];exact zf [a, a ^ m, b ^ (m+1)] (by rfl)

section
variable {p : Int} [SP p]

theorem zeJ (a b : Poly p) : vT a b p.toNat = a ^ p.toNat - a * b ^ (p.toNat - 1) := by
 have h2 := Pr.two (p := p);rw [<- znp, SP.stir (p := p), zjY];obtain ⟨m, hm⟩ : ∃ m, p.toNat = m + 2 := ⟨p.toNat - 2, by omega⟩
 rw [hm];simp only [hev, xD, show m + 2 - 1 = m + 1 from rfl, show m + 1 - 1 = m from rfl, show m + 2 - 2 = m from rfl, zo5]
 have h1 : con p (p - 1) = -1 := by
  rw [<- zdL, kU, xQ.2 (Int.emod_self)]; exact zf [a] (by rfl)
 rw [h1, zj a (m + 1), zj a m];exact zf [a, b, a ^ m, b ^ (m+1), b ^ (m+2)] (by rfl)

theorem ziA (a b : Poly p) (n : Nat) : vT (a + b) b (n + 1) = (a + b) * vT a b n := by
 induction n with
 | zero =>
  simp only [vT]
  rw [show (((0 : Nat)) : Int) = 0 from rfl, xD]; exact zf [a, b] (by rfl)
 | succ n ih =>
  rw [vT, ih, vT, show (((n + 1 : Nat)) : Int) = (n : Int) + 1 from by omega, <- zg8, kU];exact zf [a, b, vT a b n, con p (n:Int)] (by rfl)

theorem zaI (a b : Poly p) : (a + b) ^ p.toNat = a ^ p.toNat + b ^ p.toNat := by
 have h2 := Pr.two (p := p);obtain ⟨m, hm⟩ : ∃ m, p.toNat = m + 1 := ⟨p.toNat - 1, by omega⟩
 have h1 := zeJ (a + b) b;have h3 := zeJ a b;rw [hm] at h1 h3 ⊢;rw [ziA] at h1;rw [vT] at h3;simp only [Nat.add_sub_cancel] at h1 h3
 have h4 : con p (m : Int) = -1 := by
  have : (m : Int) = p - 1 := by omega
  rw [this, <- zdL, kU, xQ.2 (Int.emod_self)]; exact zf [a] (by rfl)
 rw [h4] at h3;rw [zj b m];exact comb (-1) h1 (comb (1) h3 (zf [a, b, vT a b m, b^m, a^(m+1), (a+b)^(m+1)] (by rfl)))

theorem zdM (n : Nat) : (1 : Poly p) ^ n = 1 := by
 induction n with
 | zero => exact zv _
 | succ n ih => rw [zj, ih]; exact CR.one_mul 1
theorem zaJ {n : Nat} (h : 0 < n) : (0 : Poly p) ^ n = 0 := by
 obtain ⟨m, rfl⟩ : ∃ m, n = m + 1 := ⟨n - 1, by omega⟩
 rw [zj]; exact CR.mul_zero _
theorem zdN (a b : Poly p) (n : Nat) : (a * b) ^ n = a ^ n * b ^ n := by
 induction n with
 | zero => simp only [zv]; exact (CR.one_mul 1).symm
 | succ n ih => rw [zj, ih, zj, zj]; exact zf [a, b, a^n, b^n] (by rfl)
theorem pow_add (a : Poly p) (n m : Nat) : a ^ (n + m) = a ^ n * a ^ m := by
 induction m with
 | zero => rw [Nat.add_zero, zv]; exact (CR.mul_one _).symm
 | succ m ih => rw [<- Nat.add_assoc, zj, ih, zj]; exact CR.mul_assoc _ _ _
theorem zk1 (a : Poly p) (n m : Nat) : a ^ (n * m) = (a ^ n) ^ m := by
 induction m with
 | zero => rw [Nat.mul_zero, zv, zv]
 | succ m ih => rw [Nat.mul_succ, pow_add, ih, zj]

theorem vg : 0 < p.toNat := by have := Pr.two (p := p); omega

theorem ziB (c : Int) : con p c ^ p.toNat = con p c := by
 have hn : ∀ n : Nat, con p (n : Int) ^ p.toNat = con p (n : Int) := by
  intro n
  induction n with
  | zero => rw [show (((0 : Nat)) : Int) = 0 from rfl, xD, zaJ vg]
  | succ n ih => rw [show (((n + 1 : Nat)) : Int) = (n : Int) + 1 from by omega, <- zg8, zaI, ih, kU, zdM]
 have h1 := Int.emod_nonneg c (show p ≠ 0 by have := Pr.two (p := p); omega);have := hn (c % p).toNat
 rwa [show (((c % p).toNat : Nat) : Int) = c % p by omega, zb7] at this

theorem znq (a : Poly p) : vT a 1 p.toNat = a ^ p.toNat - a := by
 rw [zeJ, zdM]; rw [CR.mul_one]
theorem ziC (a b : Poly p) : (a - b) ^ p.toNat = a ^ p.toNat - b ^ p.toNat := by
 have h := zaI (a - b) b;have : a - b + b = a := by exact zf [a, b] (by rfl)
 rw [this] at h;exact comb (-1) h (zf [(a-b)^p.toNat, a^p.toNat, b^p.toNat] (by rfl))
end

end Poly
namespace Poly
variable {p : Int} [SP p]

def Ber (f v : Poly p) : Prop := f ∣ v ^ p.toNat - v

theorem zgo {h v : Poly p} (hi : Irr h) : ∀ {n : Nat}, h ∣ vT v 1 n -> ∃ s, s < n ∧ h ∣ v - con p (s : Int)
 | 0, hd => absurd hd (hi.not_unit yV)
 | n + 1, hd => by
  rw [vT] at hd;rcases hi.prime hd with h1 | h1
  ·obtain ⟨s, h2, h3⟩ := zgo hi h1;exact ⟨s, by omega, h3⟩
  ·exact ⟨n, by omega, by
    have e : v - con p (n : Int) * 1 = v - con p (n : Int) := by exact zf [v, con p (n:Int)] (by rfl)
    rwa [e] at h1⟩

theorem zo6 {h v : Poly p} (hi : Irr h) (hd : Ber h v) : ∃ s : Int, 0 <= s ∧ s < p ∧ h ∣ v - con p s := by
 unfold Ber at hd;rw [<- znq] at hd;obtain ⟨s, h1, h2⟩ := zgo hi hd;exact ⟨s, by omega, by have := Pr.two (p := p); omega, h2⟩

theorem zj0 {h v : Poly p} (hi : 2 <= dg h) {s t : Int} (h1 : h ∣ v - con p s) (h2 : h ∣ v - con p t) : s % p = t % p := by
 have h3 : h ∣ con p (s - t) := by
  have := dvd_sub h2 h1;have e : v - con p t - (v - con p s) = con p (s - t) := by rw [<- zdL]; exact zf [v, con p s, con p t] (by rfl)
  rwa [e] at this
 have h4 : con p (s - t) = 0 := by
  refine Classical.byContradiction λhne => ?_;have := zP h3 hne;have := jb (p := p) (s - t);omega
 have h5 := xQ.1 h4;exact Int.emod_eq_emod_iff_emod_sub_eq_zero.2 h5

theorem Ber.dvd {f g v : Poly p} (h : Ber f v) (hd : g ∣ f) : Ber g v := zy hd h
theorem Ber.congr {f v w : Poly p} (h : Ber f v) (hd : f ∣ v - w) : Ber f w := by
 unfold Ber at *;obtain ⟨q, hq⟩ := hd
 have h1 : f ∣ (v - w) ^ p.toNat - (v - w) := by
  rw [hq, zdN];obtain ⟨m, hm⟩ : ∃ m, p.toNat = m + 1 := ⟨p.toNat - 1, by have := vg (p := p); omega⟩
  rw [hm, zj f, zj q];exact ⟨f ^ m * (q ^ m * q) - q, by exact zf [f, q, f^m, q^m] (by rfl)⟩
 rw [ziC] at h1;have := dvd_sub h h1;have e : v ^ p.toNat - v - (v ^ p.toNat - w ^ p.toNat - (v - w)) = w ^ p.toNat - w := by exact zf [v, w, v ^ p.toNat, w ^ p.toNat] (by rfl)
 rwa [e] at this

theorem ziD {f part : Poly p} (hf : f ≠ 0) (hs : Sqf f) (hd : part ∣ f) (h2 : 2 <= dg part) (hc : ∀ w, dg w < dg f -> Ber f w -> ∃ s : Int, part ∣ w - con p s) : Irr part := by
 refine ⟨h2, λa b hab => Classical.byContradiction λhn => ?_⟩;simp only [not_or] at hn
 obtain ⟨c, hfc⟩ := hd;have hpart : part ≠ 0 := λe => by rw [e, zC] at h2; omega
 have ha0 : a ≠ 0 := λe => hpart (by rw [hab, e]; exact zf [b] (by rfl));have hb0 : b ≠ 0 := λe => hpart (by rw [hab, e]; exact zf [a] (by rfl));have hda : dg a ≠ 0 := λe => ha0 (zd.1 e);have hdb : dg b ≠ 0 := λe => hb0 (zd.1 e);have hfa : f = a * (b * c) := by rw [hfc, hab]; exact zf [a, b, c] (by rfl)
 have hcop : Cop a (b * c) := hs.cop hf ⟨1, by rw [<- hfa]; exact zf [f] (by rfl)⟩;obtain ⟨u, v, huv⟩ := hcop
 have hber : Ber f (u * a) := by
  unfold Ber;rw [hfa];have hcop' : Cop a (b * c) := ⟨u, v, huv⟩
  obtain ⟨m, hm⟩ : ∃ m, p.toNat = m + 1 := ⟨p.toNat - 1, by have := vg (p := p); omega⟩
  refine hcop'.mul_dvd ?_ ?_
  ·rw [hm, zj];exact ⟨((u * a) ^ m - 1) * u, by exact zf [u, a, (u*a)^m] (by rfl)⟩
  ·have e : u * a = 1 - v * (b * c) := by exact comb (1) huv (zf [u, a, v, b, c] (by rfl))
   rw [e, ziC, zdM, hm, zj];exact ⟨v - (v * (b * c)) ^ m * v, by exact zf [v, b, c, (v*(b*c))^m] (by rfl)⟩
 have hrem := vd (u * a) f;have hlt := zX (u * a) hf;have hbr : Ber f (rem (u * a) f) := hber.congr ⟨quo (u * a) f, by exact comb (1) hrem (zf [u, a, f, quo (u*a) f, rem (u*a) f] (by rfl))⟩;obtain ⟨s, hs'⟩ := hc _ hlt hbr
 have h3 : part ∣ u * a - con p s := by
  have h4 : part ∣ f := ⟨c, hfc⟩
  have h5 := dvd_add hs' (ye (quo (u * a) f) h4);have e : rem (u * a) f - con p s + quo (u * a) f * f = u * a - con p s := by exact comb (-1) hrem (zf [u, a, f, con p s, quo (u*a) f, rem (u*a) f] (by rfl))
  rwa [e] at h5
 have h6 : a ∣ con p s := by
  have h7 : a ∣ part := ⟨b, hab⟩
  have h8 := dvd_sub (ye u (dvd_refl a)) (zy h7 h3);have e : u * a - (u * a - con p s) = con p s := by exact zf [u, a, con p s] (by rfl)
  rwa [e] at h8
 have h9 : con p s = 0 := by
  refine Classical.byContradiction λhne => ?_;have := zP h6 hne;have := jb (p := p) s;omega
 rw [h9] at h3
 have h10 : b ∣ 1 := by
  have h7 : b ∣ part := ⟨a, by rw [hab]; exact zf [a, b] (by rfl)⟩
  have h8 := zy h7 h3;have h11 : b ∣ v * (b * c) := ⟨v * c, by exact zf [v, b, c] (by rfl)⟩
  have h12 := dvd_add h8 h11;have e : u * a - 0 + v * (b * c) = 1 := by exact comb (1) huv (zf [u, a, v, b, c] (by rfl))
  rwa [e] at h12
 exact hn.2 (zb8 yV h10)

end Poly

def dv (f : Nat -> Int) : Nat -> Int := λi => ((i : Int) + 1) * f (i + 1)

theorem zqz (f g : Nat -> Int) (k : Nat) : dv (cv f g) k = cv (dv f) g k + cv f (dv g) k := by
 induction k generalizing f with
 | zero => simp [dv, cv]; omega
 | succ k ih =>
  have h1 := ih (λi => f (i + 1));have e1 : dv (cv (λi => f (i + 1)) g) k = ((k : Int) + 1) * cv (λi => f (i + 1)) g (k + 1) := rfl
  have e2 : dv (cv f g) (k + 1) = ((k : Int) + 2) * (f 0 * g (k + 2) + cv (λi => f (i + 1)) g (k + 1)) := by
   unfold dv; rw [cv]; congr 1
  have e3 : cv (dv f) g (k + 1) = f 1 * g (k + 1) + cv (λi => dv f (i + 1)) g k := by
   rw [cv]; simp [dv]
  have e4 : cv f (dv g) (k + 1) = f 0 * (((k : Int) + 2) * g (k + 2)) + cv (λi => f (i + 1)) (dv g) k := by
   rw [cv]; unfold dv; congr 3
  have e5 : (λi => dv f (i + 1)) = λi => dv (λi => f (i + 1)) i + f (i + 1 + 1) := by
   funext i
   unfold dv;rw [show ((i + 1 : Nat) : Int) + 1 = ((i : Int) + 1) + 1 from by omega, Int.add_mul ((i : Int) + 1)]; simp
  have e6 : cv (λi => f (i + 1)) g (k + 1) = f 1 * g (k + 1) + cv (λi => f (i + 1 + 1)) g k := by rw [cv]
  rw [e2, e3, e4, e5, zg4];rw [e1] at h1
  have e7 : ((k : Int) + 2) * cv (λi => f (i + 1)) g (k + 1) = ((k : Int) + 1) * cv (λi => f (i + 1)) g (k + 1) + cv (λi => f (i + 1)) g (k + 1) := by
   rw [show (k : Int) + 2 = ((k : Int) + 1) + 1 from by omega, Int.add_mul]; simp
  have e8 : ((k : Int) + 2) * (f 0 * g (k + 2)) = f 0 * (((k : Int) + 2) * g (k + 2)) := by
   rw [<- Int.mul_assoc, Int.mul_comm _ (f 0), Int.mul_assoc]
  rw [Int.mul_add, e7, e8, h1, e6];have e9 : (λi => dv (λi => f (i + 1)) i) = dv (λi => f (i + 1)) := rfl;omega

namespace Poly
variable {p : Int} [SP p]

def der (f : Poly p) : Poly p := of p (mkL (dg f) (dv (cf f.l)))
theorem jc (f : Poly p) (i : Nat) : cf (der f).l i = dv (cf f.l) i % p := by
 rw [der, zG, yC]
 split
 ·rfl
 ·rename_i h
  unfold dv;rw [z3 (f := f) (by omega)]; simp
theorem znr {p : Int} (f : Nat -> Int) (i : Nat) : dv (λi => f i % p) i % p = dv f i % p := by
 unfold dv;rw [Int.mul_emod, Int.emod_emod_of_dvd _ (Int.dvd_refl p), <- Int.mul_emod]
theorem zo7 (f g : Poly p) : der (f + g) = der f + der g := zw λi => by
 rw [jc, zeB, znr, yl, jc, jc, <- Int.add_emod];unfold dv; rw [Int.mul_add]
theorem zdO (f g : Poly p) : der (f * g) = der f * g + f * der g := zw λi => by
 have e1 : cf (der f).l = λi => dv (cf f.l) i % p := funext (jc f);have e2 : cf (der g).l = λi => dv (cf g.l) i % p := funext (jc g);rw [jc, zbE, znr, zqz, yl, yL, yL, e1, e2, kb, jW (cf f.l) (λi => dv (cf g.l) i % p), kb, jW (cf f.l) (dv (cf g.l)), <- Int.add_emod]
theorem zbJ {f : Poly p} (h : f ≠ 0) : dg (der f) < dg f := by
 have h0 : dg f ≠ 0 := λe => h (zd.1 e)
 have : dg (der f) <= dg f - 1 := jX λi hi => by
  rw [jc]; unfold dv; rw [z3 (f := f) (by omega)]; simp
 omega

theorem ziE (h : Poly p) (n : Nat) : h ^ n ∣ der (h ^ (n + 1)) := by
 induction n with
 | zero => rw [zv]; exact zdJ _
 | succ n ih =>
  rw [zj h (n + 1), zdO, zj h n];rw [zj h n] at ih;obtain ⟨q, hq⟩ := ih;rw [hq];exact ⟨q + der h, by exact zf [h, q, der h, h^n] (by rfl)⟩

theorem zeK {h f : Poly p} {n : Nat} (hd : h ^ (n + 1) ∣ f) : h ^ n ∣ der f := by
 obtain ⟨u, rfl⟩ := hd;rw [zdO];refine dvd_add (xC _ (ziE h n)) ?_;rw [zj];exact ⟨h * der u, by exact zf [h, der u, h^n] (by rfl)⟩

theorem zeL {h : Poly p} (hi : 2 <= dg h) (n : Nat) : n < dg (h ^ n) := by
 have h0 : h ≠ 0 := λe => by rw [e, zC] at hi; omega
 induction n with
 | zero => rw [zv, yV]; omega
 | succ n ih =>
  have h1 : h ^ n ≠ 0 := λe => by rw [e, zC] at ih; omega
  have := yM h1 h0;rw [zj]; omega

theorem zns {f q c : Poly p} (hf : f ≠ 0) (he : f = q * c) (hc : ∀ h, h ∣ f -> h ∣ der f -> h ∣ c) : Sqf q := by
 intro h hi hd
 have key : ∀ n : Nat, h ^ n ∣ f := by
  intro n
  induction n with
  | zero => rw [zv]; exact zdJ _
  | succ n ih =>
   cases n with
   | zero =>
    rw [zj, zv, he];obtain ⟨r, hr⟩ := hd;exact ⟨h * r * c, by exact comb (c) hr (zf [q, c, h, r] (by rfl))⟩
   | succ n =>
    have h1 : h ^ n ∣ f := zy ⟨h, zj h n⟩ ih;obtain ⟨a, ha⟩ := hc _ h1 (zeK ih);obtain ⟨b, hb⟩ := hd;rw [zj, zj, he, ha, hb];exact ⟨b * a, by exact zf [h, a, b, h^n] (by rfl)⟩
 have h1 := zeL hi.1 (dg f);have h2 := zP (key (dg f)) hf;omega

theorem znt {f q c rest s : Poly p} (he : f = q * c) (hs : f = rest * s) (hr : rest ≠ 0) (hc : c ∣ der f) (h1 : Cop rest q) (h2 : Cop rest s) : der rest = 0 := by
 have h3 : rest ∣ c := h1.dvd ⟨s, by rw [<- he, hs]⟩;have h4 := zy h3 hc;rw [hs, zdO] at h4
 have h5 : rest ∣ s * der rest := by
  have := dvd_sub h4 (xC (der s) (dvd_refl rest));have e : der rest * s + rest * der s - rest * der s = s * der rest := by exact zf [der rest, der s, rest, s] (by rfl)
  rwa [e] at this
 have h6 := h2.dvd h5;refine Classical.byContradiction λhne => ?_;have := zP h6 hne;have := zbJ hr;omega

theorem znu (a b : Nat) : mono p 1 a * mono p 1 b = mono p 1 (a + b) := zw λi => by
 rw [yq, jY, jY]
 by_cases h : a <= i
 ·rw [if_pos h]
  by_cases h' : i = a + b
  ·rw [if_pos (by omega), if_pos h']; simp
  ·rw [if_neg (by omega), if_neg h']; simp
 ·rw [if_neg h, if_neg (by omega)]
theorem zeM (a n : Nat) : mono p 1 a ^ n = mono p 1 (a * n) := by
 induction n with
 | zero => rw [zv]; rfl
 | succ n ih => rw [zj, ih, znu, Nat.mul_succ]

def ev (a : Poly p) : List Int -> Poly p
 | [] => 0
 | c :: l => con p c + a * ev a l

theorem zk2 (a : Poly p) (l : List Int) : ev a l ^ p.toNat = ev (a ^ p.toNat) l := by
 induction l with
 | nil => exact zaJ vg
 | cons c l ih => rw [ev, zaI, ziB, zdN, ih, ev]

theorem zeN {m : Nat} (hm : 0 < m) (l : List Int) (k : Nat) : cf (ev (mono p 1 m) l).l k = if k % m = 0 then cf l (k / m) % p else 0 := by
 induction l generalizing k with
 | nil => rw [ev, zR, zO]; simp
 | cons c l ih =>
  rw [ev, yl, xM, yq]
  by_cases hk : m <= k
  ·rw [if_pos hk, ih, if_neg (by omega)];have e1 : (k - m) % m = k % m := (Nat.mod_eq_sub_mod hk).symm;have e2 : k / m = (k - m) / m + 1 := Nat.div_eq_sub_div hm hk;rw [e1]
   split
   ·rw [e2, zk]; simp
   ·simp
  ·rw [if_neg hk, Int.add_zero]
   by_cases h0 : k = 0
   ·subst h0; simp [cf]
   ·rw [if_neg h0, if_neg (by rw [Nat.mod_eq_of_lt (by omega)]; exact h0)]; simp

theorem zpZ (f : Poly p) : ev (mono p 1 1) f.l = f := zw λi => by
 rw [zeN (by omega)]; simp [xd, Nat.mod_one]

theorem znv (f : Poly p) (k : Nat) : cf (f ^ p.toNat).l k = if k % p.toNat = 0 then cf f.l (k / p.toNat) else 0 := by
 have h1 := zk2 (mono p 1 1) f.l;rw [zpZ, zeM, Nat.one_mul] at h1;rw [h1, zeN vg]
 split
 ·exact xd _ _
 ·rfl

theorem ziF {f r : Poly p} (h : der f = 0) (hr : ∀ i, cf r.l i = cf f.l (i * p.toNat)) : r ^ p.toNat = f := by
 refine zw λk => ?_;rw [znv]
 split
 ·rename_i hk
  rw [hr, Nat.div_mul_cancel (Nat.dvd_of_mod_eq_zero hk)]
 ·rename_i hk
  cases k with
  | zero => simp at hk
  | succ k =>
   have h1 := jc f k;rw [h, zR] at h1;unfold dv at h1;refine Classical.byContradiction λhne => ?_;refine Pr.mul_ne (p := p) (a := (k : Int) + 1) (b := cf f.l (k + 1)) (λh2 => hk ?_) (yk (Ne.symm hne)) h1.symm
   have h3 : ((k + 1 : Nat) : Int) % ((p.toNat : Nat) : Int) = 0 := by
    have := Pr.two (p := p);rw [show ((p.toNat : Nat) : Int) = p by omega]; exact_mod_cast h2
   exact_mod_cast h3

end Poly

def zH (f : Nat -> Int) : Nat -> Int
 | 0 => 0
 | n + 1 => zH f n + f n

theorem xN {f g : Nat -> Int} {n : Nat} (h : ∀ i, i < n -> f i = g i) : zH f n = zH g n := by
 induction n with
 | zero => rfl
 | succ n ih => rw [zH, zH, ih λi hi => h i (by omega), h n (by omega)]
theorem jE (f g : Nat -> Int) (n : Nat) : zH (λi => f i + g i) n = zH f n + zH g n := by
 induction n with
 | zero => rfl
 | succ n ih => simp only [zH, ih]; omega
theorem jF (a : Int) (f : Nat -> Int) (n : Nat) : zH (λi => a * f i) n = a * zH f n := by
 induction n with
 | zero => simp [zH]
 | succ n ih => simp only [zH, ih, Int.mul_add]
theorem kB {f : Nat -> Int} {n : Nat} (h : ∀ i, i < n -> f i = 0) : zH f n = 0 := by
 induction n with
 | zero => rfl
 | succ n ih => rw [zH, ih λi hi => h i (by omega), h n (by omega)]; rfl
theorem yY (p : Int) {f g : Nat -> Int} {n : Nat} (h : ∀ i, i < n -> f i % p = g i % p) : zH f n % p = zH g n % p := by
 induction n with
 | zero => rfl
 | succ n ih => rw [zH, zH, Int.add_emod, ih λi hi => h i (by omega), h n (by omega), <- Int.add_emod]
theorem vV {f : Nat -> Int} {n k : Nat} (hk : k < n) (h : ∀ i, i < n -> i ≠ k -> f i = 0) : zH f n = f k := by
 induction n with
 | zero => omega
 | succ n ih =>
  rw [zH]
  by_cases he : k = n
  ·subst he; rw [kB λi hi => h i (by omega) (by omega)]; simp
  ·rw [ih (by omega) λi hi hne => h i (by omega) hne, h n (by omega) (by omega)]; simp
theorem zl6 (f : Nat -> Nat -> Int) (n m : Nat) : zH (λi => zH (f i) m) n = zH (λj => zH (λi => f i j) n) m := by
 induction n with
 | zero => simp only [zH]; exact (kB λ_ _ => rfl).symm
 | succ n ih => simp only [zH, ih, <- jE]

def j3 (p : Int) (n : Nat) (r c : Nat -> Int) : Prop := zH (λi => r i * c i) n % p = 0
def Sol (p : Int) (n m : Nat) (R : Nat -> Nat -> Int) (c : Nat -> Int) : Prop := ∀ k, k < m -> j3 p n (R k) c

theorem vW {p : Int} {n : Nat} {r r' c c' : Nat -> Int} (hr : ∀ i, i < n -> r i % p = r' i % p) (hc : ∀ i, i < n -> c i % p = c' i % p) : j3 p n r c ↔ j3 p n r' c' := by
 unfold j3;rw [yY p (g := λi => r' i * c' i) λi hi => by rw [Int.mul_emod, hr i hi, hc i hi, <- Int.mul_emod]]
theorem zgp {p : Int} {n : Nat} {r r' c : Nat -> Int} (a : Int) (h : j3 p n r c) (h' : j3 p n r' c) : j3 p n (λi => r i + a * r' i) c := by
 unfold j3 at *
 have e : zH (λi => (r i + a * r' i) * c i) n = zH (λi => r i * c i) n + a * zH (λi => r' i * c i) n := by
  rw [<- jF, <- jE];exact xN λi _ => by rw [Int.add_mul, Int.mul_assoc]
 rw [e, Int.add_emod, h, Int.mul_emod, h']; simp
theorem kW {p : Int} {n : Nat} {r c : Nat -> Int} (a : Int) (h : j3 p n r c) : j3 p n (λi => a * r i) c := by
 unfold j3 at *
 have e : zH (λi => a * r i * c i) n = a * zH (λi => r i * c i) n := by
  rw [<- jF];exact xN λi _ => by rw [Int.mul_assoc]
 rw [e, Int.mul_emod, h]; simp

theorem znw {p : Int} {n m a b : Nat} {R R' : Nat -> Nat -> Int} (ha : a < m) (hb : b < m) (h1 : R' a = R b) (h2 : R' b = R a) (h3 : ∀ k, k < m -> k ≠ a -> k ≠ b -> R' k = R k) (c : Nat -> Int) : Sol p n m R' c ↔ Sol p n m R c := by
 constructor
 ·intro h k hk
  by_cases hka : k = a
  ·subst hka; rw [<- h2]; exact h b hb
  ·by_cases hkb : k = b
   ·subst hkb; rw [<- h1]; exact h a ha
   ·rw [<- h3 k hk hka hkb]; exact h k hk
 ·intro h k hk
  by_cases hka : k = a
  ·subst hka; rw [h1]; exact h b hb
  ·by_cases hkb : k = b
   ·subst hkb; rw [h2]; exact h a ha
   ·rw [h3 k hk hka hkb]; exact h k hk

structure Steps (p : Int) (n : Nat) (col : Nat) (piv : List Nat) (R : Nat -> Nat -> Int) : Prop where
 le : piv.length <= n
 lt : ∀ x ∈ piv, x < col
 nodup : piv.Nodup
 one : ∀ i x, piv[i]? = some x -> R i x % p = 1
 zero : ∀ i x, piv[i]? = some x -> ∀ k, k < n -> k ≠ i -> R k x % p = 0
 rest : ∀ k, piv.length <= k -> k < n -> ∀ x, x < col -> R k x % p = 0

theorem Steps.start (p : Int) (n : Nat) (R : Nat -> Nat -> Int) : Steps p n 0 [] R :=
 ⟨by simp, by simp, by simp, by simp, by simp, λk _ _ x hx => by omega⟩

theorem Steps.skip {p : Int} {n col : Nat} {piv : List Nat} {R : Nat -> Nat -> Int} (h : Steps p n col piv R) (h0 : ∀ k, piv.length <= k -> k < n -> R k col % p = 0) : Steps p n (col + 1) piv R :=
 ⟨h.le, λx hx => by have := h.lt x hx; omega, h.nodup, h.one, h.zero, λk hk hkn x hx => by
  by_cases he : x = col
  ·subst he; exact h0 k hk hkn
  ·exact h.rest k hk hkn x (by omega)⟩

def jG (_p : Int) (piv : List Nat) (R : Nat -> Nat -> Int) (col : Nat) (x : Nat) : Int :=
 if x = col then 1 else match piv.idxOf? x with | some i => -(R i col) | none => 0

theorem yf (p a : Int) : a % p % p = a % p := Int.emod_emod_of_dvd _ (Int.dvd_refl p)
theorem vh {p a a' : Int} (b : Int) (h : a % p = a' % p) : a * b % p = a' * b % p := by rw [Int.mul_emod, h, <- Int.mul_emod]
theorem y1 {p a a' : Int} (b : Int) (h : a % p = a' % p) : b * a % p = b * a' % p := by rw [Int.mul_emod, h, <- Int.mul_emod]
theorem yp {p a : Int} (b : Int) (h : a % p = 0) : b * a % p = 0 := by rw [Int.mul_emod, h]; simp
theorem zbb {p a a' b b' : Int} (h : a % p = a' % p) (k : b % p = b' % p) : (a - b) % p = (a' - b') % p := by rw [Int.sub_emod, h, k, <- Int.sub_emod]

theorem Steps.pivot {p : Int} {n col : Nat} {piv : List Nat} {R R' : Nat -> Nat -> Int} {s : Int} (h : Steps p n col piv R) (hp : (1 : Int) % p = 1) (hc : col < n) (hat : piv.length < n) (hs : s * R piv.length col % p = 1)
  (h1 : ∀ x, x < n -> R' piv.length x % p = (s * R piv.length x) % p)
  (h2 : ∀ i, i < n -> i ≠ piv.length -> ∀ x, x < n -> R' i x % p = (R i x - R i col * (s * R piv.length x)) % p) : Steps p n (col + 1) (piv ++ [col]) R' := by
 have hnew : ∀ i x, (piv ++ [col])[i]? = some x -> (i < piv.length ∧ piv[i]? = some x) ∨ (i = piv.length ∧ x = col) := by
  intro i x hx;rcases Nat.lt_or_ge i piv.length with hlt | hge
  ·rw [List.getElem?_append_left hlt] at hx; exact .inl ⟨hlt, hx⟩
  ·rw [List.getElem?_append_right hge] at hx;cases hi : i - piv.length with
   | zero => rw [hi] at hx; simp at hx; exact .inr ⟨by omega, hx.symm⟩
   | succ j => rw [hi] at hx; simp at hx
 have hzat : ∀ x, x < col -> R piv.length x % p = 0 := λx hx => h.rest _ (Nat.le_refl _) hat x hx
 have hkeep : ∀ i, i < n -> i ≠ piv.length -> ∀ x, x < col -> R' i x % p = R i x % p := λi hi hne x hx => by
  rw [h2 i hi hne x (by omega), <- Int.sub_zero (R i x)];refine (zbb (by rw [Int.sub_zero]) ?_).trans (by rw [Int.sub_zero]);rw [<- Int.mul_assoc, yp _ (hzat x hx)]; simp
 have hcol : ∀ i, i < n -> i ≠ piv.length -> R' i col % p = 0 := λi hi hne => by
  rw [h2 i hi hne col hc];have : (R i col - R i col * (s * R piv.length col)) % p = (R i col - R i col * 1) % p := zbb rfl (y1 _ (by rw [hs, hp]));rw [this]; simp
 refine ⟨by simp; omega, λx hx => ?_, ?_, λi x hx => ?_, λi x hx k hk hne => ?_, λk hk hkn x hx => ?_⟩
 ·rcases List.mem_append.1 hx with hx | hx
  ·have := h.lt x hx; omega
  ·simp at hx; omega
 ·refine List.nodup_append.2 ⟨h.nodup, by simp, λa ha b hb => ?_⟩;simp at hb
  have := h.lt a ha;omega
 ·rcases hnew i x hx with ⟨hi, hx'⟩ | ⟨rfl, rfl⟩
  ·have hxc := h.lt x (List.mem_of_getElem? hx');rw [hkeep i (by have := h.le; omega) (by omega) x hxc]; exact h.one i x hx'
  ·rw [h1 _ hc]; exact hs
 ·rcases hnew i x hx with ⟨hi, hx'⟩ | ⟨rfl, rfl⟩
  ·have hxc := h.lt x (List.mem_of_getElem? hx')
   by_cases hka : k = piv.length
   ·subst hka;rw [h1 x (by omega), yp _ (hzat x hxc)]
   ·rw [hkeep k hk hka x hxc]; exact h.zero i x hx' k hk hne
  ·exact hcol k hk hne
 ·simp only [List.length_append, List.length_singleton] at hk
  by_cases hxc : x = col
  ·subst hxc; exact hcol k hkn (by omega)
  ·rw [hkeep k hkn (by omega) x (by omega)]; exact h.rest k (by omega) hkn x (by omega)

theorem Steps.swap {p : Int} {n col : Nat} {piv : List Nat} {R R' : Nat -> Nat -> Int} {b : Nat} (h : Steps p n col piv R) (hb : piv.length <= b) (hbn : b < n) (h1 : R' piv.length = R b) (h2 : R' b = R piv.length) (h3 : ∀ k, k < n -> k ≠ piv.length -> k ≠ b -> R' k = R k) : Steps p n col piv R' := by
 have hlow : ∀ i, i < piv.length -> R' i = R i := λi hi => h3 i (by omega) (by omega) (by omega)
 have hrest : ∀ k, piv.length <= k -> k < n -> ∀ x, x < col -> R' k x % p = 0 := λk hk hkn x hx => by
  by_cases hka : k = piv.length
  ·subst hka; rw [h1]; exact h.rest b hb hbn x hx
  ·by_cases hkb : k = b
   ·subst hkb; rw [h2]; exact h.rest _ (Nat.le_refl _) (by omega) x hx
   ·rw [h3 k hkn hka hkb]; exact h.rest k hk hkn x hx
 refine ⟨h.le, h.lt, h.nodup, λi x hx => ?_, λi x hx k hk hne => ?_, hrest⟩
 ·rw [hlow i (List.getElem?_eq_some_iff.1 hx).1]; exact h.one i x hx
 ·rcases Nat.lt_or_ge k piv.length with hlt | hge
  ·rw [hlow k hlt]; exact h.zero i x hx k hk hne
  ·exact hrest k hge hk x (h.lt x (List.mem_of_getElem? hx))

theorem kX {piv : List Nat} (hn : piv.Nodup) {i x : Nat} (h : piv[i]? = some x) : piv.idxOf? x = some i := by
 obtain ⟨hi, he⟩ := List.getElem?_eq_some_iff.1 h;rw [List.idxOf?_eq_some_iff];refine ⟨hi, by simpa using he, λj hj => ?_⟩;have h1 : piv[j]'(by omega) ≠ piv[i] := List.pairwise_iff_getElem.1 hn j i (by omega) hi hj;simp only [ne_eq]
 rw [<- he]; exact h1
theorem zcb {piv : List Nat} {x : Nat} (h : x ∉ piv) : piv.idxOf? x = none := by
 rw [List.idxOf?_eq_none_iff]; exact h

theorem znx {f : Nat -> Int} {n a b : Nat} (hab : a ≠ b) (ha : a < n) (hb : b < n) (h : ∀ i, i < n -> i ≠ a -> i ≠ b -> f i = 0) : zH f n = f a + f b := by
 have e : zH f n = zH (λi => (if i = a then f i else 0) + (if i = a then 0 else f i)) n := xN λi _ => by split <;> simp
 rw [e, jE, vV ha λi _ hne => by simp [hne], vV (k := b) hb λi hi hne => by
  by_cases hia : i = a
  ·simp [hia]
  ·simp [hia, h i hi hia hne]]
 simp [Ne.symm hab]

theorem Steps.free {p : Int} {n : Nat} {piv : List Nat} {R : Nat -> Nat -> Int} (h : Steps p n n piv R) {col : Nat} (hc : col < n) (hf : col ∉ piv) : Sol p n n R (jG p piv R col) := by
 intro k hk;unfold j3;rcases Nat.lt_or_ge k piv.length with hlt | hge
 ·have hx := List.getElem?_eq_getElem hlt;have hxl := h.lt _ (List.mem_of_getElem? hx);have hne : piv[k] ≠ col := λe => hf (e ▸ List.getElem_mem hlt)
  have e1 : zH (λx => R k x * jG p piv R col x) n % p = zH (λx => if x = piv[k] then -(R k col) else if x = col then R k col else 0) n % p := by
   refine yY p λx hxn => ?_
   by_cases hxc : x = col
   ·subst hxc;simp [jG, Ne.symm hne]
   ·by_cases hxp : x ∈ piv
    ·obtain ⟨i, hi, he⟩ := List.mem_iff_getElem.1 hxp;have hix : piv[i]? = some x := by rw [List.getElem?_eq_getElem hi, he]
     have e2 : jG p piv R col x = -(R i col) := by simp [jG, hxc, kX h.nodup hix]
     rw [e2]
     by_cases hik : i = k
     ·subst hik;have h1 := h.one i x hix;simp only [he, if_true]
      rw [vh (a' := 1) _ (by
       rw [h1];have := yf p (R i x);rw [h1] at this; exact this.symm)]
      simp
     ·have h0 := h.zero i x hix k hk (Ne.symm hik)
      have hne2 : x ≠ piv[k] := λe => hik (by
       have := kX h.nodup hix;rw [e, kX h.nodup hx] at this;exact (Option.some.inj this).symm)
      rw [if_neg hne2, if_neg hxc, Int.mul_comm, yp _ h0]; simp
    ·have hne2 : x ≠ piv[k] := λe => hxp (e ▸ List.getElem_mem hlt);simp [jG, hxc, zcb hxp, hne2]
  rw [e1, znx (a := piv[k]) (b := col) hne hxl hc λi _ h1 h2 => by simp [h1, h2]];simp [Ne.symm hne, Int.add_left_neg]
 ·rw [yY p (g := λ_ => 0) λx hx => by rw [Int.mul_comm, yp _ (h.rest k hge hk x hx)]; simp, kB λ_ _ => rfl]; simp

theorem Steps.all {p : Int} {n : Nat} {piv : List Nat} {R : Nat -> Nat -> Int} (h : Steps p n n piv R) {c : Nat -> Int} (hs : Sol p n n R c) : ∀ x, x < n -> c x % p = zH (λcol => if col ∈ piv then 0 else c col * jG p piv R col x) n % p := by
 intro x hx
 by_cases hxp : x ∈ piv
 ·obtain ⟨i, hi, he⟩ := List.mem_iff_getElem.1 hxp;have hix : piv[i]? = some x := by rw [List.getElem?_eq_getElem hi, he]
  have hin : i < n := by have := h.le; omega
  have h1 := hs i hin;unfold j3 at h1
  have e1 : zH (λcol => R i col * c col) n % p = zH (λcol => (if col = x then c x else 0) + (if col ∈ piv then 0 else R i col * c col)) n % p := by
   refine yY p λcol hcn => ?_
   by_cases hcp : col ∈ piv
   ·obtain ⟨j, hj, hje⟩ := List.mem_iff_getElem.1 hcp;have hjc : piv[j]? = some col := by rw [List.getElem?_eq_getElem hj, hje]
    by_cases hij : j = i
    ·subst hij;have hcx : col = x := by rw [hix] at hjc; exact (Option.some.inj hjc).symm
     subst hcx;have h2 := h.one j col hjc;simp only [if_true, hcp, Int.add_zero]
     rw [vh (a' := 1) _ (by
      rw [h2];have := yf p (R j col);rw [h2] at this; exact this.symm)]
     simp
    ·have hcx : col ≠ x := λe => hij (by
      have := kX h.nodup hix;rw [<- e, kX h.nodup hjc] at this;exact Option.some.inj this)
     rw [if_neg hcx, if_pos hcp, Int.mul_comm, yp _ (h.zero j col hjc i hin (Ne.symm hij))]; simp
   ·have hcx : col ≠ x := λe => hcp (e ▸ hxp);simp [hcx, hcp]
  rw [e1, jE, vV (k := x) hx λi _ hne => by simp [hne]] at h1;simp only [if_true] at h1
  have e2 : zH (λcol => if col ∈ piv then 0 else c col * jG p piv R col x) n = -1 * zH (λcol => if col ∈ piv then 0 else R i col * c col) n := by
   rw [<- jF];refine xN λcol _ => ?_
   by_cases hcp : col ∈ piv
   ·simp [hcp]
   ·have hcx : x ≠ col := λe => hcp (e ▸ hxp);simp only [hcp, if_false]
    simp only [jG, hcx, if_false, kX h.nodup hix]
    rw [Int.mul_comm, Int.neg_mul]; omega
  rw [e2];have h3 : c x = (c x + zH (λcol => if col ∈ piv then 0 else R i col * c col) n) - zH (λcol => if col ∈ piv then 0 else R i col * c col) n := by omega
  rw [h3, Int.sub_emod, h1];rw [show -1 * zH (λcol => if col ∈ piv then 0 else R i col * c col) n = 0 - zH (λcol => if col ∈ piv then 0 else R i col * c col) n from by omega, Int.sub_emod 0];simp [zo1]
 ·rw [vV (k := x) hx λi _ hne => by
   by_cases hip : i ∈ piv
   ·simp [hip]
   ·simp [hip, jG, Ne.symm hne, zcb hxp]]
  simp [hxp, jG]


structure Half (p : Int) (n : Nat) (M : Nat -> Nat -> Int) (col : Nat) (used : Nat -> Prop) (L T : Nat -> Nat -> Int) : Prop where
 comb : ∀ k, k < n -> ∀ x, x < n -> L k x % p = zH (λj => T k j * M j x) n % p
 span : ∀ c : Nat -> Int, ∃ d : Nat -> Int, ∀ j, j < n -> c j % p = zH (λk => d k * T k j) n % p
 piv : ∀ k, k < n -> used k -> ∃ x, x < col ∧ x < n ∧ L k x % p ≠ 0 ∧ ∀ k', k' < n -> k' ≠ k -> L k' x % p = 0
 rest : ∀ k, k < n -> ¬ used k -> ∀ x, x < col -> L k x % p = 0

theorem Half.start (p : Int) (n : Nat) (M T : Nat -> Nat -> Int) (hT : ∀ i, i < n -> ∀ j, j < n -> T i j = if i = j then 1 else 0) : Half p n M 0 (λ_ => False) M T := by
 refine ⟨λk hk x hx => ?_, λc => ⟨c, λj hj => ?_⟩, λk _ h => h.elim, λk _ _ x hx => by omega⟩
 ·rw [vV (k := k) hk λi hi hne => by rw [hT k hk i hi]; simp [Ne.symm hne], hT k hk k hk]; simp
 ·rw [vV (k := j) hj λi hi hne => by rw [hT i hi j hj]; simp [hne], hT j hj j hj]; simp

theorem Half.skip {p : Int} {n : Nat} {M : Nat -> Nat -> Int} {col : Nat} {used : Nat -> Prop} {L T : Nat -> Nat -> Int} (h : Half p n M col used L T) (h0 : ∀ k, k < n -> ¬ used k -> L k col % p = 0) : Half p n M (col + 1) used L T :=
 ⟨h.comb, h.span, λk hk hu => by obtain ⟨x, h1, h2⟩ := h.piv k hk hu; exact ⟨x, by omega, h2⟩, λk hk hu x hx => by
  by_cases he : x = col
  ·subst he; exact h0 k hk hu
  ·exact h.rest k hk hu x (by omega)⟩

theorem Half.pivot {p : Int} {n : Nat} {M : Nat -> Nat -> Int} {col : Nat} {used : Nat -> Prop} {L T L' T' : Nat -> Nat -> Int} {at' : Nat} {q : Nat -> Int} (h : Half p n M col used L T) (hc : col < n) (hat : at' < n) (hu : ¬ used at') (hne : L at' col % p ≠ 0)
  (hq0 : q at' = 0) (hq : ∀ i, i < n -> i ≠ at' -> q i * L at' col % p = L i col % p) (hL : ∀ i, i < n -> ∀ x, x < n -> L' i x % p = (L i x - q i * L at' x) % p) (hT : ∀ i, i < n -> ∀ x, x < n -> T' i x % p = (T i x - q i * T at' x) % p) :
  Half p n M (col + 1) (λk => k = at' ∨ used k) L' T' := by
 have hLat : ∀ x, x < n -> L' at' x % p = L at' x % p := λx hx => by rw [hL _ hat x hx, hq0]; simp
 have hTat : ∀ x, x < n -> T' at' x % p = T at' x % p := λx hx => by rw [hT _ hat x hx, hq0]; simp
 have hzat : ∀ x, x < col -> L at' x % p = 0 := λx hx => h.rest at' hat hu x hx
 have hkeep : ∀ i, i < n -> ∀ x, x < col -> L' i x % p = L i x % p := λi hi x hx => by
  rw [hL i hi x (by omega)];refine (zbb (a' := L i x) (b' := 0) rfl (by rw [yp _ (hzat x hx)]; simp)).trans (by rw [Int.sub_zero])
 have hcol : ∀ i, i < n -> i ≠ at' -> L' i col % p = 0 := λi hi hne => by
  rw [hL i hi col hc];exact (zbb rfl (hq i hi hne)).trans (by simp)
 refine ⟨λk hk x hx => ?_, λc => ?_, λk hk hu' => ?_, λk hk hu' x hx => ?_⟩
 ·have e1 : zH (λj => T' k j * M j x) n % p = zH (λj => T k j * M j x + -q k * (T at' j * M j x)) n % p := by
   refine yY p λj hj => ?_;rw [vh _ (hT k hk j hj)]
   congr 1
   rw [Int.sub_mul, Int.mul_assoc, Int.neg_mul]; omega
  rw [e1, jE, jF, hL k hk x hx];have e2 : zH (λj => T k j * M j x) n + -q k * zH (λj => T at' j * M j x) n = zH (λj => T k j * M j x) n - q k * zH (λj => T at' j * M j x) n := by rw [Int.neg_mul]; omega
  rw [e2];exact zbb (h.comb k hk x hx) (y1 _ (h.comb at' hat x hx))
 ·obtain ⟨d, hd⟩ := h.span c;refine ⟨λk => d k + if k = at' then zH (λi => d i * q i) n else 0, λj hj => ?_⟩;rw [hd j hj]
  have e1 : zH (λk => d k * T k j) n % p = zH (λk => d k * T' k j + T' at' j * (d k * q k)) n % p := by
   refine yY p λk hk => ?_
   have h1 : T k j % p = (T' k j + q k * T' at' j) % p := by
    have h2 := hT k hk j hj;rw [Int.add_emod, h2, Int.mul_emod, hTat j hj, <- Int.mul_emod, <- Int.add_emod]
    congr 1; omega
   rw [y1 _ h1]
   congr 1
   rw [Int.mul_add, <- Int.mul_assoc, Int.mul_comm (T' at' j)]
  rw [e1, jE, jF]
  have e2 : zH (λk => (d k + if k = at' then zH (λi => d i * q i) n else 0) * T' k j) n = zH (λk => d k * T' k j + (if k = at' then zH (λi => d i * q i) n * T' k j else 0)) n := by
   refine xN λk _ => ?_;rw [Int.add_mul]; split <;> simp
  rw [e2, jE, vV (k := at') (f := λk => if k = at' then zH (λi => d i * q i) n * T' k j else 0) hat λi _ hne => by simp [hne]];simp [Int.mul_comm]
 ·by_cases hka : k = at'
  ·subst hka;refine ⟨col, by omega, hc, ?_, λk' hk' hne' => hcol k' hk' hne'⟩;rw [hLat col hc]; exact hne
  ·obtain ⟨x, h1, h2, h3, h4⟩ := h.piv k hk (hu'.resolve_left hka);refine ⟨x, by omega, h2, by rw [hkeep k hk x h1]; exact h3, λk' hk' hne' => ?_⟩;rw [hkeep k' hk' x h1]; exact h4 k' hk' hne'
 ·simp only [not_or] at hu'
  by_cases hxc : x = col
  ·subst hxc; exact hcol k hk hu'.1
  ·rw [hkeep k hk x (by omega)]; exact h.rest k hk hu'.2 x (by omega)

theorem Half.free {p : Int} {n : Nat} {M : Nat -> Nat -> Int} {used : Nat -> Prop} {L T : Nat -> Nat -> Int} (h : Half p n M n used L T) {k : Nat} (hk : k < n) (hu : ¬ used k) : ∀ x, x < n -> zH (λj => T k j * M j x) n % p = 0 := λx hx => by
 rw [<- h.comb k hk x hx]; exact h.rest k hk hu x hx

theorem Half.all {p : Int} [Pr p] {n : Nat} {M : Nat -> Nat -> Int} {used : Nat -> Prop} {L T : Nat -> Nat -> Int} (h : Half p n M n used L T) {w : Nat -> Int} (hw : ∀ x, x < n -> zH (λj => w j * M j x) n % p = 0)
  {j : Nat} (hj : j < n) (h0 : ∀ k, k < n -> ¬ used k -> T k j % p = 0) : w j % p = 0 := by
 obtain ⟨d, hd⟩ := h.span w
 have h1 : ∀ x, x < n -> zH (λk => d k * L k x) n % p = 0 := by
  intro x hx
  have e1 : zH (λk => d k * L k x) n % p = zH (λk => zH (λj => d k * (T k j * M j x)) n) n % p := by
   refine yY p λk hk => ?_;rw [jF, y1 _ (h.comb k hk x hx)]
  rw [e1, zl6, <- hw x hx];refine yY p λj hj => ?_;rw [vh _ (hd j hj)]
  congr 1
  rw [Int.mul_comm _ (M j x), <- jF];exact xN λk _ => by rw [<- Int.mul_assoc, Int.mul_comm]
 have h2 : ∀ k, k < n -> used k -> d k % p = 0 := by
  intro k hk hu;obtain ⟨x, _, hxn, h3, h4⟩ := h.piv k hk hu;have h5 := h1 x hxn
  rw [yY p (g := λk' => if k' = k then d k * L k x else 0) λk' hk' => by
   by_cases he : k' = k
   ·subst he; simp
   ·rw [yp _ (h4 k' hk' he)]; simp [he], vV (k := k) hk λi _ hne => by simp [hne]] at h5
  simp only [if_true] at h5
  exact Classical.byContradiction λhne => Pr.mul_ne hne h3 h5
 rw [hd j hj, yY p (g := λ_ => 0) λk hk => by
  by_cases hu : used k
  ·rw [Int.mul_comm, yp _ (h2 k hk hu)]; simp
  ·rw [yp _ (h0 k hk hu)]; simp, kB λ_ _ => rfl]
 simp

namespace Poly
variable {p : Int} [SP p]

def yv (g : Nat -> Poly p) : Nat -> Poly p
 | 0 => 0
 | n + 1 => yv g n + g n
theorem zj1 (g : Nat -> Poly p) (n : Nat) : yv g (n + 1) = g 0 + yv (λi => g (i + 1)) n := by
 induction n with
 | zero => simp only [yv]; exact zf [g 0] (by rfl)
 | succ n ih => rw [yv, ih, yv]; exact CR.add_assoc _ _ _
theorem zeO {f g : Nat -> Poly p} {n : Nat} (h : ∀ i, i < n -> f i = g i) : yv f n = yv g n := by
 induction n with
 | zero => rfl
 | succ n ih => rw [yv, yv, ih λi hi => h i (by omega), h n (by omega)]
theorem zny (a : Poly p) (g : Nat -> Poly p) (n : Nat) : yv (λi => a * g i) n = a * yv g n := by
 induction n with
 | zero => simp only [yv]; exact (CR.mul_zero a).symm
 | succ n ih => simp only [yv, ih]; exact (CR.mul_add _ _ _).symm
theorem ziG (f g : Nat -> Poly p) (n : Nat) : yv (λi => f i - g i) n = yv f n - yv g n := by
 induction n with
 | zero => simp only [yv]; exact (CR.sub_self 0).symm
 | succ n ih => simp only [yv, ih]; exact zf [yv f n, yv g n, f n, g n] (by rfl)
theorem zl7 {f : Nat -> Poly p} {n : Nat} (h : ∀ i, i < n -> f i = 0) : yv f n = 0 := by
 induction n with
 | zero => rfl
 | succ n ih => rw [yv, ih λi hi => h i (by omega), h n (by omega)]; exact CR.add_zero 0
theorem znz {f : Poly p} {g : Nat -> Poly p} {n : Nat} (h : ∀ i, i < n -> f ∣ g i) : f ∣ yv g n := by
 induction n with
 | zero => exact dvd_zero _
 | succ n ih => exact dvd_add (ih λi hi => h i (by omega)) (h n (by omega))
theorem zhc (c : Nat -> Int) (g : Nat -> Poly p) (n x : Nat) : cf (yv (λj => con p (c j) * g j) n).l x = zH (λj => cf (g j).l x * c j) n % p := by
 induction n with
 | zero => rw [yv, zR, zH]; simp
 | succ n ih => rw [yv, yl, ih, zeG, zH, <- Int.add_emod, Int.mul_comm (c n)]
theorem zo8 {g : Nat -> Poly p} {n m : Nat} (h : ∀ i, i < n -> dg (g i) <= m) : dg (yv g n) <= m := by
 induction n with
 | zero => rw [yv, zC]; omega
 | succ n ih =>
  have h1 := ih λi hi => h i (by omega);have h2 := h n (by omega);have := zeC (yv g n) (g n);rw [yv]; omega

theorem znA (a : Poly p) (l : List Int) {n : Nat} (h : l.length <= n) : ev a l = yv (λj => con p (cf l j) * a ^ j) n := by
 induction l generalizing n with
 | nil => exact (zl7 λi _ => by rw [zO, xD]; exact CR.zero_mul _).symm
 | cons c l ih =>
  obtain ⟨m, rfl⟩ : ∃ m, n = m + 1 := ⟨n - 1, by simp at h; omega⟩
  rw [ev, ih (n := m) (by simpa using h), zj1, <- zny, zx, zv]
  have : yv (λi => con p (cf (c :: l) (i + 1)) * a ^ (i + 1)) m = yv (λi => a * (con p (cf l i) * a ^ i)) m := zeO λi _ => by
   rw [zk, zj]; exact zf [con p (cf l i), a, a^i] (by rfl)
  rw [this]; rw [CR.mul_one]

abbrev X (p : Int) [Pos p] : Poly p := mono p 1 1

noncomputable def zaK (f : Poly p) (i : Nat) : Poly p := rem (X p ^ (p.toNat * i)) f - X p ^ i

theorem dg_X (i : Nat) : dg (X p ^ i) <= i + 1 := by
 rw [zeM];exact jX λj hj => by rw [jY, if_neg (by omega)]

theorem zo9 {f : Poly p} {n i : Nat} (hf : dg f = n + 1) (hi : i < n) : dg (zaK f i) <= n := by
 have hf0 : f ≠ 0 := λe => by rw [e, zC] at hf; omega
 have h1 := zX (X p ^ (p.toNat * i)) hf0;have h2 := dg_X (p := p) i;have h3 := vH (rem (X p ^ (p.toNat * i)) f) (X p ^ i);unfold zaK; omega

theorem zhd {f w : Poly p} {n : Nat} (hf : dg f = n + 1) (hw : dg w <= n) : Ber f w ↔ ∀ x, x < n -> zH (λj => cf (zaK f j).l x * cf w.l j) n % p = 0 := by
 have hf0 : f ≠ 0 := λe => by rw [e, zC] at hf; omega
 have h1 : w ^ p.toNat - w = yv (λj => con p (cf w.l j) * (X p ^ (p.toNat * j) - X p ^ j)) n := by
  have e1 := zk2 (X p) w.l;rw [zpZ, znA _ _ hw] at e1;have e2 := zpZ w;rw [znA (X p) w.l hw] at e2
  have e3 : yv (λj => con p (cf w.l j) * (X p ^ p.toNat) ^ j) n - yv (λj => con p (cf w.l j) * X p ^ j) n = yv (λj => con p (cf w.l j) * (X p ^ (p.toNat * j) - X p ^ j)) n := by
   rw [<- ziG];exact zeO λj _ => by rw [zk1]; exact zf [con p (cf w.l j), X p ^ j, (X p ^ p.toNat) ^ j] (by rfl)
  rwa [e2, <- e1] at e3
 have h2 : f ∣ (w ^ p.toNat - w) - yv (λj => con p (cf w.l j) * zaK f j) n := by
  rw [h1, <- ziG];refine znz λj _ => ?_;have := vd (X p ^ (p.toNat * j)) f;unfold zaK;exact ⟨con p (cf w.l j) * quo (X p ^ (p.toNat * j)) f, by exact comb (con p (cf w.l j)) this (zf [f, con p (cf w.l j), X p ^ j, X p ^ (p.toNat * j), quo (X p ^ (p.toNat * j)) f, rem (X p ^ (p.toNat * j)) f] (by rfl))⟩
 have h3 : dg (yv (λj => con p (cf w.l j) * zaK f j) n) <= n := zo8 λi hi => by
  have h4 := zo9 hf hi;have h5 := y0 (con p (cf w.l i)) (zaK f i);have h6 := jb (p := p) (cf w.l i);omega
 have h4 : Ber f w ↔ yv (λj => con p (cf w.l j) * zaK f j) n = 0 := by
  unfold Ber
  constructor
  ·intro h;refine Classical.byContradiction λhne => ?_;have h5 := dvd_sub h h2;have e : w ^ p.toNat - w - (w ^ p.toNat - w - yv (λj => con p (cf w.l j) * zaK f j) n) = yv (λj => con p (cf w.l j) * zaK f j) n := by exact zf [w ^ p.toNat, w, yv (λj => con p (cf w.l j) * zaK f j) n] (by rfl)
   rw [e] at h5;have := zP h5 hne;omega
  ·intro h;rw [h] at h2;have e : w ^ p.toNat - w - 0 = w ^ p.toNat - w := by exact zf [w ^ p.toNat, w] (by rfl)
   rwa [e] at h2
 rw [h4]
 constructor
 ·intro h x _;rw [<- zhc, h, zR]
 ·intro h;refine zw λx => ?_;rw [zR];rcases Nat.lt_or_ge x n with hx | hx
  ·rw [zhc]; exact h x hx
  ·exact z3 (by omega)

end Poly
namespace Poly
variable {p : Int} [SP p]

def yb (h : Poly p) (e : Nat) (f : Poly p) : Prop := ∃ u, f = h ^ e * u ∧ ¬ h ∣ u

theorem yb.unique {h f : Poly p} (hh : h ≠ 0) {e e' : Nat} (h1 : yb h e f) (h2 : yb h e' f) : e = e' := by
 have key : ∀ {e e' : Nat} {u u' : Poly p}, h ^ e * u = h ^ e' * u' -> ¬ h ∣ u' -> e <= e' := by
  intro e e' u u' he hn;rcases Nat.lt_or_ge e' e with hlt | hge
  ·exfalso
   obtain ⟨k, rfl⟩ : ∃ k, e = e' + k + 1 := ⟨e - e' - 1, by omega⟩
   have hp0 : h ^ e' ≠ 0 := by
    clear he hlt
    induction e' with
    | zero => rw [zv]; exact zeE
    | succ n ih => rw [zj]; exact mul_ne ih hh
   rw [Nat.add_assoc, pow_add] at he;have h3 : h ^ e' * (h ^ (k + 1) * u) = h ^ e' * u' := by exact comb (1) he (zf [u, u', h^e', h^(k+1)] (by rfl))
   have h4 := zeD hp0 h3;exact hn ⟨h ^ k * u, by rw [<- h4, zj]; exact zf [h, u, h^k] (by rfl)⟩
  ·exact hge
 obtain ⟨u, h3, h4⟩ := h1;obtain ⟨u', h5, h6⟩ := h2;exact Nat.le_antisymm (key (h3.symm.trans h5) h6) (key (h5.symm.trans h3) h4)

theorem yb.mul {h f g : Poly p} (hi : Irr h) {e e' : Nat} (h1 : yb h e f) (h2 : yb h e' g) : yb h (e + e') (f * g) := by
 obtain ⟨u, rfl, h4⟩ := h1;obtain ⟨u', rfl, h6⟩ := h2;exact ⟨u * u', by rw [pow_add]; exact zf [u, u', h^e, h^e'] (by rfl), λhd => (hi.prime hd).elim h4 h6⟩
theorem xe {h f : Poly p} : yb h 0 f ↔ ¬ h ∣ f := by
 constructor
 ·rintro ⟨u, rfl, hn⟩;rw [zv];have : 1 * u = u := by exact zf [u] (by rfl)
  rwa [this]
 ·intro hn;exact ⟨f, by rw [zv]; exact zf [f] (by rfl), hn⟩
theorem yb.pow {h f : Poly p} (hi : Irr h) {e : Nat} (h1 : yb h e f) (n : Nat) : yb h (e * n) (f ^ n) := by
 induction n with
 | zero => rw [Nat.mul_zero, zv, xe]; exact hi.not_unit yV
 | succ n ih => rw [Nat.mul_succ, zj]; exact ih.mul hi h1
theorem ziH {h : Poly p} (hi : Irr h) : yb h 1 h := ⟨1, by
 have e : h ^ 1 = h := by rw [show (1 : Nat) = 0 + 1 from rfl, zj, zv]; exact zf [h] (by rfl)
 rw [e]; exact zf [h] (by rfl), hi.not_unit yV⟩
theorem j4 {h : Poly p} (hi : 2 <= dg h) : ∀ (n : Nat) (f : Poly p), f ≠ 0 -> dg f <= n -> ∃ e, yb h e f := by
 intro n
 induction n with
 | zero => intro f hf hn; exact absurd (zd.1 (by omega)) hf
 | succ n ih =>
  intro f hf hn
  by_cases hd : h ∣ f
  ·obtain ⟨q, rfl⟩ := hd;have hh : h ≠ 0 := λe => hf (by rw [e]; exact zf [q] (by rfl));have hq : q ≠ 0 := λe => hf (by rw [e]; exact zf [h] (by rfl));have h1 := yM hh hq;obtain ⟨e, u, h2, h3⟩ := ih q hq (by omega);exact ⟨e + 1, u, by rw [zj, h2]; exact zf [h, u, h^e] (by rfl), h3⟩
  ·exact ⟨0, xe.2 hd⟩
theorem yb.dvd {h f : Poly p} {e : Nat} (h1 : yb h e f) (he : 1 <= e) : h ∣ f := by
 obtain ⟨u, rfl, _⟩ := h1;obtain ⟨n, rfl⟩ : ∃ n, e = n + 1 := ⟨e - 1, by omega⟩
 exact ⟨h ^ n * u, by rw [zj]; exact zf [h, u, h^n] (by rfl)⟩

def ltP (f g : Poly p) : Prop := dg f < dg g ∨ dg f = dg g ∧ ∃ i, cf f.l i < cf g.l i ∧ ∀ j, i < j -> cf f.l j = cf g.l j
theorem zeP {p : Int} (f : Poly p) : ¬ ltP f f := by
 rintro (h | ⟨_, i, h, _⟩) <;> omega
theorem zcO {p : Int} {f g h : Poly p} (h1 : ltP f g) (h2 : ltP g h) : ltP f h := by
 rcases h1 with h1 | ⟨h1, i, hi, hi'⟩ <;> rcases h2 with h2 | ⟨h2, j, hj, hj'⟩
 ·exact .inl (by omega)
 ·exact .inl (by omega)
 ·exact .inl (by omega)
 ·refine .inr ⟨by omega, ?_⟩;rcases Nat.lt_trichotomy i j with h | h | h
  ·exact ⟨j, by rw [hi' j h]; exact hj, λk hk => by rw [hi' k (by omega), hj' k hk]⟩
  ·subst h; exact ⟨i, by omega, λk hk => by rw [hi' k hk, hj' k hk]⟩
  ·exact ⟨i, by rw [<- hj' i h]; exact hi, λk hk => by rw [hi' k hk, hj' k (by omega)]⟩
theorem zgq {p : Int} {f g : Poly p} (h : f ≠ g) : ltP f g ∨ ltP g f := by
 rcases Nat.lt_trichotomy (dg f) (dg g) with h1 | h1 | h1
 ·exact .inl (.inl h1)
 ·have : ∀ n, n <= dg f -> (∀ j, n <= j -> cf f.l j = cf g.l j) -> ltP f g ∨ ltP g f := by
   intro n
   induction n with
   | zero => intro _ hj; exact absurd (zw λi => hj i (Nat.zero_le _)) h
   | succ n ih =>
    intro hn hj;rcases Int.lt_trichotomy (cf f.l n) (cf g.l n) with h2 | h2 | h2
    ·exact .inl (.inr ⟨h1, n, h2, λj hj' => hj j hj'⟩)
    ·exact ih (by omega) λj hj' => by
      rcases Nat.eq_or_lt_of_le hj' with rfl | h3
      ·exact h2
      ·exact hj j h3
    ·exact .inr (.inr ⟨h1.symm, n, h2, λj hj' => (hj j hj').symm⟩)
  exact this (dg f) (Nat.le_refl _) λj hj => by rw [z3 hj, z3 (by omega)]
 ·exact .inr (.inl h1)

theorem zgr {α : Type} {lt : α -> α -> Prop} (irr : ∀ a, ¬ lt a a) (tr : ∀ a b c, lt a b -> lt b c -> lt a c) : ∀ {l l' : List α}, l.Pairwise lt -> l'.Pairwise lt -> (∀ x, x ∈ l ↔ x ∈ l') -> l = l'
 | [], [], _, _, _ => rfl
 | [], b :: l', _, _, h => absurd ((h b).2 (by simp)) (by simp)
 | a :: l, [], _, _, h => absurd ((h a).1 (by simp)) (by simp)
 | a :: l, b :: l', h1, h2, h => by
  rw [List.pairwise_cons] at h1 h2
  have hab : a = b := by
   rcases List.mem_cons.1 ((h a).1 (by simp)) with h3 | h3
   ·exact h3
   ·rcases List.mem_cons.1 ((h b).2 (by simp)) with h4 | h4
    ·exact h4.symm
    ·exact absurd (tr _ _ _ (h2.1 a h3) (h1.1 b h4)) (irr b)
  subst hab;rw [zgr irr tr h1.2 h2.2 λx => ?_]
  constructor
  ·intro hx;rcases List.mem_cons.1 ((h x).1 (by simp [hx])) with h3 | h3
   ·subst h3; exact absurd (h1.1 x hx) (irr x)
   ·exact h3
  ·intro hx;rcases List.mem_cons.1 ((h x).2 (by simp [hx])) with h3 | h3
   ·subst h3; exact absurd (h2.1 x hx) (irr x)
   ·exact h3

def zbm (f : Poly p) (x : Poly p × Nat) : Prop := Irr x.1 ∧ Mon x.1 ∧ 1 <= x.2 ∧ yb x.1 x.2 f
def jH (f : Poly p) (F : List (Poly p × Nat)) : Prop := F.Pairwise (λx y => ltP x.1 y.1) ∧ ∀ x, x ∈ F ↔ zbm f x
theorem jH.unique {f : Poly p} {F F' : List (Poly p × Nat)} (h : jH f F) (h' : jH f F') : F = F' :=
 zgr (lt := λx y : Poly p × Nat => ltP x.1 y.1) (λx => zeP x.1) (λ_ _ _ h1 h2 => zcO h1 h2) h.1 h'.1 λx => (h.2 x).trans (h'.2 x).symm

def zbK (f : Poly p) (L : List (Poly p)) : Prop := L.Nodup ∧ ∀ h, h ∈ L ↔ (Irr h ∧ Mon h ∧ h ∣ f)

structure Parts (f : Poly p) (L : List (Poly p)) : Prop where
 each : ∀ a ∈ L, Mon a ∧ 2 <= dg a ∧ a ∣ f
 all : ∀ h, Irr h -> h ∣ f -> ∃ a ∈ L, h ∣ a
 apart : L.Pairwise λa b => ∀ h, Irr h -> h ∣ a -> h ∣ b -> False

theorem Parts.start {f : Poly p} (hm : Mon f) (h2 : 2 <= dg f) : Parts f [f] :=
 ⟨by simp [hm, h2, dvd_refl], λh hi hd => ⟨f, by simp, hd⟩, by simp⟩

theorem Parts.irrs {f : Poly p} {L : List (Poly p)} (h : Parts f L) (hi : ∀ a ∈ L, Irr a) : zbK f L := by
 refine ⟨?_, λg => ⟨λhg => ⟨hi g hg, (h.each g hg).1, (h.each g hg).2.2⟩, λ⟨h1, h2, h3⟩ => ?_⟩⟩
 ·have : L.Pairwise λa b => a ∈ L -> a ≠ b := h.apart.imp λ{a b} hab ha (he : a = b) => hab a (hi a ha) (dvd_refl a) (by rw [<- he]; exact dvd_refl a);exact List.pairwise_iff_getElem.2 λi j hi' hj' hij => (List.pairwise_iff_getElem.1 this i j hi' hj' hij) (List.getElem_mem _)
 ·obtain ⟨a, ha, hd⟩ := h.all g h1 h3;rw [zbF h1 (hi a ha) h2 (h.each a ha).1 hd]; exact ha

noncomputable def zfJ (v a : Poly p) (s : Nat) : List (Poly p) := if 2 <= dg (gcd a (v - con p (s : Int))) then [gcd a (v - con p (s : Int))] else []
noncomputable def xm (v a : Poly p) (n : Nat) : List (Poly p) := (List.range n).flatMap (zfJ v a)
noncomputable def zT (v : Poly p) (L : List (Poly p)) : List (Poly p) := L.flatMap λa => xm v a p.toNat

theorem zcc {v a g : Poly p} {n : Nat} : g ∈ xm v a n ↔ ∃ s, s < n ∧ 2 <= dg (gcd a (v - con p (s : Int))) ∧ g = gcd a (v - con p (s : Int)) := by
 simp only [xm, List.mem_flatMap, List.mem_range, zfJ]
 constructor
 ·rintro ⟨s, h1, h2⟩
  split at h2
  ·rename_i h3; simp at h2; exact ⟨s, h1, h3, h2⟩
  ·cases h2
 ·rintro ⟨s, h1, h2, h3⟩;exact ⟨s, h1, by rw [if_pos h2]; simp [h3]⟩

theorem znB {h v : Poly p} (hi : Irr h) {s t : Nat} (hs : (s : Int) < p) (ht : (t : Int) < p) (h1 : h ∣ v - con p (s : Int)) (h2 : h ∣ v - con p (t : Int)) : s = t := by
 have := zj0 hi.1 h1 h2;rw [Int.emod_eq_of_lt (by omega) hs, Int.emod_eq_of_lt (by omega) ht] at this;omega

theorem zgs {v a : Poly p} {n : Nat} (hn : (n : Int) <= p) : (xm v a n).Pairwise λx y => ∀ h, Irr h -> h ∣ x -> h ∣ y -> False := by
 induction n with
 | zero => simp [xm]
 | succ n ih =>
  have e : xm v a (n + 1) = xm v a n ++ zfJ v a n := by simp [xm, List.range_succ]
  rw [e, List.pairwise_append];refine ⟨ih (by omega), ?_, λx hx y hy h hi h1 h2 => ?_⟩
  ·unfold zfJ; split <;> simp
  ·obtain ⟨s, hs, _, rfl⟩ := zcc.1 hx;unfold zfJ at hy
   split at hy
   ·simp at hy; subst hy
    have := znB (p := p) hi (s := s) (t := n) (by omega) (by omega) (zy h1 (xR _ _)) (zy h2 (xR _ _));omega
   ·cases hy

theorem zpa {v a h : Poly p} (hv : Ber h v) (hi : Irr h) (hd : h ∣ a) (ha : a ≠ 0) : ∃ g ∈ xm v a p.toNat, h ∣ g := by
 obtain ⟨s, h1, h2, h3⟩ := zo6 hi hv;have h4 := zk0 hd h3;have hm := zca (f := a) (g := v - con p s) (.inl ha);have h5 := zP h4 hm.1;have h6 := hi.1;have e : ((s.toNat : Nat) : Int) = s := by omega
 refine ⟨_, zcc.2 ⟨s.toNat, by omega, ?_, rfl⟩, ?_⟩
 ·rw [e]; omega
 ·rw [e]; exact h4

theorem Parts.cut {f v : Poly p} {L : List (Poly p)} (h : Parts f L) (hv : Ber f v) : Parts f (zT v L) ∧ ∀ a' ∈ zT v L, (∃ s : Int, a' ∣ v - con p s) ∧ ∃ a ∈ L, a' ∣ a := by
 have hmem : ∀ a' ∈ zT v L, ∃ a ∈ L, ∃ s : Nat, 2 <= dg a' ∧ a' = gcd a (v - con p (s : Int)) := by
  intro a' ha';obtain ⟨a, ha, hg⟩ := List.mem_flatMap.1 ha';obtain ⟨s, _, h2, rfl⟩ := zcc.1 hg;exact ⟨a, ha, s, h2, rfl⟩
 refine ⟨⟨λa' ha' => ?_, λq hq hd => ?_, ?_⟩, λa' ha' => ?_⟩
 ·obtain ⟨a, ha, s, h2, rfl⟩ := hmem a' ha';exact ⟨zca (.inl (h.each a ha).1.1), h2, zy (ve _ _) (h.each a ha).2.2⟩
 ·obtain ⟨a, ha, hqa⟩ := h.all q hq hd;obtain ⟨g, hg, hqg⟩ := zpa (hv.dvd hd) hq hqa (h.each a ha).1.1;exact ⟨g, List.mem_flatMap.2 ⟨a, ha, hg⟩, hqg⟩
 ·unfold zT;rw [List.pairwise_flatMap];refine ⟨λa _ => zgs (by have := Pr.two (p := p); omega), h.apart.imp λ{a b} hab x hx y hy q hq h1 h2 => ?_⟩;obtain ⟨s, _, _, rfl⟩ := zcc.1 hx;obtain ⟨t, _, _, rfl⟩ := zcc.1 hy;exact hab q hq (zy h1 (ve _ _)) (zy h2 (ve _ _))
 ·obtain ⟨a, ha, s, h2, rfl⟩ := hmem a' ha';exact ⟨⟨s, xR _ _⟩, a, ha, ve _ _⟩

end Poly

theorem ziI (n m : Int) (hm : 0 < m) : (n.tmod m + m).tmod m = n % m := by
 have h1 := Int.lt_tmod_of_pos n hm;rw [Int.tmod_eq_emod_of_nonneg (by omega), Int.add_emod_right];rw [Int.tmod_eq_emod]
 split
 ·simp
 ·rw [show (m.natAbs : Int) = m by omega, Int.sub_emod, Int.emod_self]; simp

abbrev isP (p : Int) : Bool := decide (p ∈ z7)

theorem zj2 : (List.range 98).all (λn => decide ((n : Int) ∈ z7) == (decide (2 <= n) && (List.range 10).all λd => !(decide (2 <= d ∧ d * d <= n ∧ n % d = 0)))) = true := by decide +kernel
theorem kY {n : Int} (h : n <= 97) : n ∈ z7 ↔ 2 <= n ∧ ∀ d : Int, 2 <= d -> d * d <= n -> n % d ≠ 0 := by
 rcases Int.lt_or_le n 2 with h2 | h2
 ·constructor
  ·intro hm;have := List.all_eq_true.1 zbI n hm;simp only [decide_eq_true_eq] at this
   omega
  ·intro h3; omega
 ·obtain ⟨k, rfl⟩ : ∃ k : Nat, n = k := ⟨n.toNat, by omega⟩
  have h3 := List.all_eq_true.1 zj2 k (List.mem_range.2 (by omega));simp only [beq_iff_eq] at h3
  have h4 : ((k : Int) ∈ z7) ↔ decide ((k : Int) ∈ z7) = true := by simp
  rw [h4, h3];simp only [Bool.and_eq_true, decide_eq_true_eq, List.all_eq_true, List.mem_range, Bool.not_eq_true', decide_eq_false_iff_not, not_and]
  constructor
  ·rintro ⟨h5, h6⟩;refine ⟨h2, λd hd hdd hr => ?_⟩
   have h9 : d < 10 := by
    rcases Int.lt_or_le d 10 with h | h
    ·exact h
    ·have : 10 * 10 <= d * d := Int.mul_le_mul h h (by omega) (by omega);omega
   obtain ⟨m, rfl⟩ : ∃ m : Nat, d = m := ⟨d.toNat, by omega⟩
   refine h6 m (by omega) (by omega) (by exact_mod_cast hdd) ?_;omega
  ·rintro ⟨_, h6⟩;refine ⟨by omega, λd hd h7 h8 h9 => h6 d (by omega) (by exact_mod_cast h8) (by omega)⟩
theorem yN {n : Int} (h : n ∈ z7) : 2 <= n ∧ n <= 97 := by
 have := List.all_eq_true.1 zbI n h
 simpa using this

structure Bz (a b r x y s u v : Int) : Prop where
 r0 : 0 <= r
 s0 : 0 <= s
 e1 : a * x + b * y = r
 e2 : a * u + b * v = s
 g : ∀ d : Int, (d ∣ a ∧ d ∣ b) ↔ (d ∣ r ∧ d ∣ s)
 bd : ∃ ε X U Y V : Int, (ε = 1 ∨ ε = -1) ∧ 0 <= X ∧ 0 <= U ∧ 0 <= Y ∧ 0 <= V ∧ x = ε * X ∧ u = -(ε * U) ∧ y = -(ε * Y) ∧ v = ε * V ∧ U * r + X * s = b ∧ V * r + Y * s = a

theorem Bz.start {a b : Int} (ha : 0 <= a) (hb : 0 <= b) : Bz a b a 1 0 b 0 1 :=
 ⟨ha, hb, by omega, by omega, λ_ => Iff.rfl, 1, 1, 0, 0, 1, .inl rfl, by omega, by omega, by omega, by omega, by omega, by omega, by omega, by omega, by omega, by omega⟩

theorem kC {q s r : Int} (hs : 1 <= s) (hq : 0 <= q) (h : q * s <= r) : q <= r := by
 have : q * 1 <= q * s := Int.mul_le_mul_of_nonneg_left hs hq;omega

structure BzB (a b r x y s u v q : Int) : Prop where
 q0 : 0 <= q
 qr : q <= r
 qs : 0 <= q * s ∧ q * s <= r
 qu : -b <= q * u ∧ q * u <= b
 qv : -a <= q * v ∧ q * v <= a
 bx : -b <= x ∧ x <= b
 by' : -a <= y ∧ y <= a
 nx : -b <= x - q * u ∧ x - q * u <= b
 ny : -a <= y - q * v ∧ y - q * v <= a

theorem zbc {ε z B : Int} (he : ε = 1 ∨ ε = -1) (h0 : 0 <= z) (h : z <= B) : -B <= ε * z ∧ ε * z <= B := by
 rcases he with rfl | rfl <;> omega
theorem Bz.step {a b r x y s u v : Int} (h : Bz a b r x y s u v) (hs : s ≠ 0) : BzB a b r x y s u v (r / s) ∧ Bz a b s u v (r - r / s * s) (x - r / s * u) (y - r / s * v) := by
 obtain ⟨h1, h2, h3, h4, h5, ε, X, U, Y, V, he, hX, hU, hY, hV, rfl, rfl, rfl, rfl, h6, h7⟩ := h;have hs1 : 1 <= s := by omega
 have hm := Int.emod_nonneg r hs;have hm2 := Int.emod_lt_of_pos r (show 0 < s by omega);have hd : r = r / s * s + r % s := by have := Int.mul_ediv_add_emod r s; rw [Int.mul_comm] at this; omega
 have hq : 0 <= r / s := Int.ediv_nonneg h1 h2;generalize hqq : r / s = q at *;generalize hrr : r % s = r' at *;have hqs0 : 0 <= q * s := Int.mul_nonneg hq h2;have hqs : q * s <= r := by omega
 have hUr : 0 <= U * r := Int.mul_nonneg hU h1;have hVr : 0 <= V * r := Int.mul_nonneg hV h1;have hXs : 0 <= X * s := Int.mul_nonneg hX h2;have hYs : 0 <= Y * s := Int.mul_nonneg hY h2;have hXb : X <= b := kC (s := s) hs1 hX (by omega);have hYa : Y <= a := kC (s := s) hs1 hY (by omega);have hqU : 0 <= q * U := Int.mul_nonneg hq hU;have hqV : 0 <= q * V := Int.mul_nonneg hq hV
 have k1 : q * U * s <= U * r := by
  have : U * (q * s) <= U * r := Int.mul_le_mul_of_nonneg_left hqs hU;have e : q * U * s = U * (q * s) := by rw [Int.mul_comm q U, Int.mul_assoc]
  omega
 have k2 : q * V * s <= V * r := by
  have : V * (q * s) <= V * r := Int.mul_le_mul_of_nonneg_left hqs hV;have e : q * V * s = V * (q * s) := by rw [Int.mul_comm q V, Int.mul_assoc]
  omega
 have hXU : X + q * U <= b := kC (s := s) hs1 (by omega) (by rw [Int.add_mul]; omega);have hYV : Y + q * V <= a := kC (s := s) hs1 (by omega) (by rw [Int.add_mul]; omega);have e1 : q * -(ε * U) = -(ε * (q * U)) := by rw [Int.mul_neg, <- Int.mul_assoc, Int.mul_comm q ε, Int.mul_assoc]
 have e2 : q * (ε * V) = ε * (q * V) := by rw [<- Int.mul_assoc, Int.mul_comm q ε, Int.mul_assoc]
 have e3 : ε * X - q * -(ε * U) = ε * (X + q * U) := by rw [e1, Int.mul_add]; omega
 have e4 : -(ε * Y) - q * (ε * V) = -(ε * (Y + q * V)) := by rw [e2, Int.mul_add]; omega
 refine ⟨⟨hq, kC hs1 hq hqs, ⟨hqs0, hqs⟩, ?_, ?_, zbc he hX hXb, ?_, ?_, ?_⟩, h2, by omega, h4, ?_, λd => ?_, -ε, U, X + q * U, V, Y + q * V, by omega, hU, by omega, hV, by omega, ?_, ?_, ?_, ?_, ?_, ?_⟩
 ·rw [e1]; have := zbc he hqU (show q * U <= b by omega); omega
 ·rw [e2]; exact zbc he hqV (show q * V <= a by omega)
 ·have := zbc he hY hYa; omega
 ·rw [e3]; exact zbc he (by omega) hXU
 ·rw [e4]; have := zbc he (by omega) hYV; omega
 ·rw [Int.mul_sub, Int.mul_sub];have i1 : a * (q * -(ε * U)) = q * (a * -(ε * U)) := by rw [<- Int.mul_assoc, Int.mul_comm a q, Int.mul_assoc]
  have i2 : b * (q * (ε * V)) = q * (b * (ε * V)) := by rw [<- Int.mul_assoc, Int.mul_comm b q, Int.mul_assoc]
  have i3 : q * (a * -(ε * U)) + q * (b * (ε * V)) = q * s := by rw [<- Int.mul_add, h4]
  omega
 ·rw [h5 d]
  constructor
  ·rintro ⟨h8, h9⟩; exact ⟨h9, Int.dvd_sub h8 (Int.dvd_mul_of_dvd_right h9)⟩
  ·rintro ⟨h8, h9⟩;refine ⟨?_, h8⟩;have := Int.dvd_add h9 (Int.dvd_mul_of_dvd_right h8 (b := q))
   rwa [show r - q * s + q * s = r by omega] at this
 ·rw [Int.neg_mul]
 ·rw [Int.neg_mul, e3]; omega
 ·rw [Int.neg_mul]; omega
 ·rw [Int.neg_mul, e4]
 ·rw [Int.add_mul, Int.mul_sub];have : U * (q * s) = q * U * s := by rw [Int.mul_comm q U, Int.mul_assoc]
  omega
 ·rw [Int.add_mul, Int.mul_sub];have : V * (q * s) = q * V * s := by rw [Int.mul_comm q V, Int.mul_assoc]
  omega
theorem Bz.fin {a b r x y u v : Int} (h : Bz a b r x y 0 u v) : a * x + b * y = r ∧ 0 <= r ∧ r ∣ a ∧ r ∣ b := by
 have := (h.g r).2 ⟨Int.dvd_refl r, Int.dvd_zero r⟩;exact ⟨h.e1, h.r0, this.1, this.2⟩

def yx (m a : Int) : Int := (((List.range m.toNat).find? λb : Nat => a * (b : Int) % m == 1 % m).getD 0 : Nat)
theorem zhe {m a x : Int} (hm : 0 < m) (h : a * x % m = 1 % m) : yx m a = x % m := by
 unfold yx;have h0 := Int.emod_nonneg x (show m ≠ 0 by omega);have h1 := Int.emod_lt_of_pos x hm;cases hf : (List.range m.toNat).find? λb : Nat => a * (b : Int) % m == 1 % m with
 | none =>
  exfalso
  rw [List.find?_eq_none] at hf;have h2 := hf (x % m).toNat (List.mem_range.2 (by omega));simp only [beq_iff_eq] at h2
  rw [show ((x % m).toNat : Int) = x % m by omega, Int.mul_emod, Int.emod_emod_of_dvd _ (Int.dvd_refl m), <- Int.mul_emod] at h2;exact h2 h
 | some b =>
  have h2 := List.find?_some hf;have h3 := List.mem_range.1 (List.mem_of_find?_eq_some hf);simp only [beq_iff_eq] at h2
  simp only [Option.getD_some]
  -- both are inverses
  have h4 : a * b * x % m = (b : Int) % m := by
   rw [Int.mul_assoc, Int.mul_comm (b : Int) x, <- Int.mul_assoc, Int.mul_emod, h, <- Int.mul_emod, Int.one_mul]
  have h5 : a * b * x % m = x % m := by
   rw [Int.mul_emod, h2, <- Int.mul_emod, Int.one_mul]
  rw [<- h5, h4, Int.emod_eq_of_lt (by omega) (by omega)]
theorem xn {p a : Int} [Pr p] (h : a % p ≠ 0) : 0 <= yx p a ∧ yx p a < p ∧ a * yx p a % p = 1 := by
 have hp := Pr.two (p := p);obtain ⟨b, hb⟩ := Pr.inv (p := p) a h;have h1 : (1 : Int) % p = 1 := Int.emod_eq_of_lt (by omega) (by omega);rw [zhe (m := p) (x := b) (by omega) (by rw [hb, h1])];refine ⟨Int.emod_nonneg _ (by omega), Int.emod_lt_of_pos _ (by omega), ?_⟩;rw [Int.mul_emod, Int.emod_emod_of_dvd _ (Int.dvd_refl p), <- Int.mul_emod, hb]
theorem znC {p a : Int} [Pr p] (h : a % p ≠ 0) : yx p (a % p) = yx p a := by
 have hp := Pr.two (p := p);obtain ⟨h1, h2, h3⟩ := xn h;rw [zhe (m := p) (x := yx p a) (by omega), Int.emod_eq_of_lt h1 h2];rw [Int.mul_emod, Int.emod_emod_of_dvd _ (Int.dvd_refl p), <- Int.mul_emod, h3, Int.emod_eq_of_lt (by omega) (by omega)]

theorem zfK {p a r : Int} [Pr p] (ha : a % p ≠ 0) (h0 : 0 <= r) (h1 : r ∣ a) (h2 : r ∣ p) : r = 1 := by
 obtain ⟨c, rfl⟩ := h1;obtain ⟨d, hd⟩ := h2;have hp := Pr.two (p := p)
 -- r is a unit by p, so p divides d, so r = 1
 by_cases hr : r % p = 0
 ·exact absurd (by rw [Int.mul_emod, hr]; simp) ha
 ·obtain ⟨b, hb⟩ := Pr.inv (p := p) r hr
  have h3 : d % p = 0 := by
   have h4 : r * b * d % p = d % p := by rw [Int.mul_emod, hb, Int.one_mul, Int.emod_emod_of_dvd _ (Int.dvd_refl p)]
   rw [<- h4, show r * b * d = p * b by rw [Int.mul_assoc, Int.mul_comm b d, <- Int.mul_assoc, <- hd]];exact Int.mul_emod_right p b
  obtain ⟨k, hk⟩ := Int.dvd_of_emod_eq_zero h3;rw [hk, <- Int.mul_assoc, Int.mul_comm r p, Int.mul_assoc] at hd
  have h5 : r * k = 1 := by
   have : p * (r * k) = p * 1 := by omega
   exact Int.eq_of_mul_eq_mul_left (by omega) this
  have hr1 : r ≠ 0 := λh => by rw [h, Int.zero_mul] at h5; omega
  have hk1 : 1 <= k := by
   rcases Int.lt_or_le k 1 with h | h
   ·have : r * k <= r * 0 := Int.mul_le_mul_of_nonneg_left (by omega) h0;omega
   ·exact h
  have : r * 1 <= r * k := Int.mul_le_mul_of_nonneg_left hk1 h0;omega
theorem Bz.inv {p a r x y u v : Int} [Pr p] (ha : a % p ≠ 0) (h : Bz a p r x y 0 u v) : x % p = yx p a := by
 have hp := Pr.two (p := p);obtain ⟨h1, h2, h3, h4⟩ := h.fin;have hr := zfK ha h2 h3 h4;subst hr;refine (zhe (m := p) (by omega) ?_).symm;have : a * x = 1 + p * -y := by rw [Int.mul_neg]; omega
 rw [this, Int.add_mul_emod_self_left]


theorem z4 {l : List Int} {i : Nat} (h : i < l.length) (x : Int) (j : Nat) : cf (l.set i x) j = if j = i then x else cf l j := by
 unfold cf;simp only [List.getD_eq_getElem?_getD, List.getElem?_set]
 by_cases hj : i = j
 ·subst hj; simp [h]
 ·simp [hj, Ne.symm hj]
theorem zB (n : Nat) (j : Nat) : cf (List.replicate n 0) j = 0 := by
 unfold cf;simp only [List.getD_eq_getElem?_getD, List.getElem?_replicate]
 split <;> rfl
theorem zk3 (l : List Int) (n j : Nat) : cf (l.take n) j = if j < n then cf l j else 0 := by
 unfold cf;simp only [List.getD_eq_getElem?_getD, List.getElem?_take]
 split <;> rfl
theorem zpb (l : List Int) (n j : Nat) : cf (l.drop n) j = cf l (n + j) := by
 unfold cf;simp only [List.getD_eq_getElem?_getD, List.getElem?_drop]
theorem znD (f : Int -> Int) (l : List Int) {j : Nat} (h : j < l.length) : cf (l.map f) j = f (cf l j) := by
 unfold cf;simp [List.getD_eq_getElem?_getD, h]
theorem zaL {l m : List Int} (h : l.length = m.length) (he : ∀ j, j < l.length -> cf l j = cf m j) : l = m := by
 apply List.ext_getElem h;intro j h1 h2;have := he j h1
 rwa [yE h1, yE h2] at this
theorem znE {l : List Int} {j : Nat} (h : j < l.length) : cf l j ∈ l := by rw [yE h]; exact List.getElem_mem h

theorem zaM {l m : List Int} (h : ∀ j, cf l j = cf m j) : zu l = zu m :=
 yt (xc l) (xc m) λj => by rw [yJ, yJ, h]
theorem zdP {l : List Int} {n : Nat} (hn : n <= l.length) (h0 : ∀ j, n <= j -> cf l j = 0) (h : n = 0 ∨ cf l (n - 1) ≠ 0) : l.take n = zu l := by
 refine yt ?_ (xc l) λj => ?_
 ·intro m hm;rw [List.length_take, Nat.min_eq_left hn] at hm;subst hm;rw [zk3, if_pos (by omega)];rcases h with h | h
  ·omega
  ·exact h
 ·rw [zk3, yJ]
  split
  ·rfl
  ·exact (h0 j (by omega)).symm
theorem zl8 : zu [] = [] := rfl

def Bd (M : Int) (l : List Int) : Prop := ∀ j, -M <= cf l j ∧ cf l j <= M
theorem Bd.trim {M : Int} {l : List Int} (h : Bd M l) : Bd M (zu l) := λj => by rw [yJ]; exact h j
namespace Poly
variable {p : Int} [SP p]
theorem kD (f : Poly p) (j : Nat) : 0 <= cf f.l j ∧ cf f.l j < p := by
 have hp := Pr.two (p := p)
 by_cases hj : j < f.l.length
 ·exact f.ok.1 _ (znE hj)
 ·rw [zN (by omega)]; omega
theorem ke (f : Poly p) : Bd 97 f.l := λj => by
 have h := kD f j; have := SP.le (p := p); omega
end Poly

theorem znF {A B : Int} (hA : 0 <= A) (hB : 0 <= B) {n : Nat} (f g : Nat -> Int) (hf : ∀ j, -A <= f j ∧ f j <= A) (hf0 : ∀ j, n <= j -> f j = 0) (hg : ∀ j, -B <= g j ∧ g j <= B) :
  ∀ k, -((n : Int) * (A * B)) <= cv f g k ∧ cv f g k <= (n : Int) * (A * B) := by
 have hAB : 0 <= A * B := Int.mul_nonneg hA hB
 have hm : ∀ i j, -(A * B) <= f i * g j ∧ f i * g j <= A * B := by
  intro i j;have h1 := hf i;have h2 := hg j
  have e1 : (f i * g j).natAbs <= (A * B).natAbs := by
   rw [Int.natAbs_mul, Int.natAbs_mul];exact Nat.mul_le_mul (by omega) (by omega)
  omega
 intro k
 induction n generalizing f k with
 | zero =>
  have : cv f g k = 0 := yz λi _ => hf0 i (Nat.zero_le _);rw [this]; simp
 | succ n ih =>
  have e : ((n + 1 : Nat) : Int) * (A * B) = (n : Int) * (A * B) + A * B := by rw [Int.natCast_add, Int.add_mul]; simp
  rw [e];have hn : 0 <= (n : Int) * (A * B) := Int.mul_nonneg (by omega) hAB;cases k with
  | zero =>
   have := hm 0 0;simp only [cv]; omega
  | succ k =>
   have h1 := ih (λi => f (i + 1)) (λj => hf (j + 1)) (λj hj => hf0 (j + 1) (by omega)) (λi j => hm (i + 1) j) k;have h2 := hm 0 (k + 1);have h3 : cv f g (k + 1) = f 0 * g (k + 1) + cv (λi => f (i + 1)) g k := rfl;rw [h3]; omega

def part (f g : Nat -> Int) (i k j : Nat) : Int := cv (λx => if x < i then f x else 0) g j + (if i <= j ∧ j < i + k then f i * g (j - i) else 0)
theorem zl9 (c : Int) (i : Nat) (g : Nat -> Int) (j : Nat) : cv (λx => if x = i then c else 0) g j = if i <= j then c * g (j - i) else 0 := Poly.cv_mono c i g j
theorem zeQ {f g : Nat -> Int} {m : Nat} (hg : ∀ j, m <= j -> g j = 0) (i j : Nat) : part f g i m j = part f g (i + 1) 0 j := by
 unfold part;rw [if_neg (show ¬ (i + 1 <= j ∧ j < i + 1 + 0) by omega), Int.add_zero]
 have e : (λx => if x < i + 1 then f x else 0) = λx => (if x < i then f x else 0) + (if x = i then f i else 0) := by
  funext x
  by_cases h : x < i
  ·rw [if_pos h, if_pos (by omega), if_neg (by omega)]; omega
  ·by_cases h2 : x = i
   ·subst h2; rw [if_pos (by omega), if_neg h, if_pos rfl]; omega
   ·rw [if_neg (by omega), if_neg h, if_neg h2]; rfl
 rw [e, zg4, zl9]
 congr 1
 by_cases h : i <= j
 ·rw [if_pos h]
  by_cases h2 : j < i + m
  ·rw [if_pos ⟨h, h2⟩]
  ·rw [if_neg (by omega), hg _ (by omega), Int.mul_zero]
 ·rw [if_neg (by omega), if_neg h]
theorem zbL (f g : Nat -> Int) (j : Nat) : part f g 0 0 j = 0 := by
 unfold part;rw [if_neg (by omega), yz λi _ => by simp]; rfl
theorem zbd (f g : Nat -> Int) (i k j : Nat) : part f g i (k + 1) j = if j = i + k then part f g i k j + f i * g k else part f g i k j := by
 unfold part
 by_cases h : j = i + k
 ·subst h;rw [if_pos rfl, if_pos ⟨by omega, by omega⟩, if_neg (by omega), show i + k - i = k by omega]; omega
 ·rw [if_neg h]
  congr 1
  by_cases h2 : i <= j ∧ j < i + k
  ·rw [if_pos h2, if_pos ⟨h2.1, by omega⟩]
  ·rw [if_neg h2, if_neg (by omega)]
theorem zeR {f g : Nat -> Int} {n : Nat} (hf : ∀ j, n <= j -> f j = 0) (j : Nat) : part f g n 0 j = cv f g j := by
 unfold part;rw [if_neg (by omega), Int.add_zero]
 congr 1
 funext x
 split
 ·rfl
 ·exact (hf x (by omega)).symm
theorem zk4 {A B : Int} (hA : 0 <= A) (hB : 0 <= B) {f g : Nat -> Int} (hf : ∀ j, -A <= f j ∧ f j <= A) (hg : ∀ j, -B <= g j ∧ g j <= B) (i k j : Nat) :
  -(((i : Int) + 1) * (A * B)) <= part f g i k j ∧ part f g i k j <= ((i : Int) + 1) * (A * B) := by
 have h1 := znF hA hB (n := i) (λx => if x < i then f x else 0) g (λj => by split; exact hf j; omega) (λj hj => if_neg (by omega)) hg j;have hAB : 0 <= A * B := Int.mul_nonneg hA hB
 have h2 : -(A * B) <= f i * g (j - i) ∧ f i * g (j - i) <= A * B := by
  have h1 := hf i;have h2 := hg (j - i)
  have e1 : (f i * g (j - i)).natAbs <= (A * B).natAbs := by
   rw [Int.natAbs_mul, Int.natAbs_mul];exact Nat.mul_le_mul (by omega) (by omega)
  omega
 unfold part;rw [Int.add_mul, Int.one_mul]
 split <;> omega

theorem kf (f : Int -> Int) {xs : List Int} {i : Nat} (h : i < xs.length) : (xs.take (i + 1)).map f = (xs.take i).map f ++ [f (xs.getD i 0)] := by
 rw [List.take_add_one, List.map_append, List.getElem?_eq_getElem h, List.getD_eq_getElem?_getD, List.getElem?_eq_getElem h]; rfl

theorem zcd (n : Nat) (f : Nat -> Int) : mkL (n + 1) f = mkL n f ++ [f n] := by simp [mkL, List.range_succ]
theorem ziJ {out f g : List Int} (h : ∀ j, cf out j = cf f j + cf g j) : zu out = zu (yK f g) := zaM λj => by rw [h, y3]
theorem ziK {out f g : List Int} (h : ∀ j, cf out j = cv (cf f) (cf g) j) : zu out = zu (v9 f g) := zaM λj => by rw [h, zba]
theorem zce {f g : List Int} (h : f = [] ∨ g = []) : zu (v9 f g) = [] := by
 rw [<- zl8];refine zaM λj => ?_;rw [zba, zO];rcases h with rfl | rfl
 ·exact yz λi _ => zO i
 ·rw [jW]; exact yz λi _ => zO i
theorem xf (p : Int) (l : List Int) : nrm p (zu l) = nrm p l := yt (va _ _) (va _ _) λj => by rw [kS, kS, yJ]

theorem zcf {p : Int} {l : List Int} (h : ∀ j, 0 <= cf l j ∧ cf l j < p) : nrm p l = zu l :=
 yt (va p l) (xc l) λj => by rw [kS, yJ, Int.emod_eq_of_lt (h j).1 (h j).2]

namespace Poly
variable {p : Int} [SP p]

structure DivI (p : Int) [SP p] (F G : Poly p) (nq k : Nat) (r q : List Int) : Prop where
 rl : r.length = dg F
 ql : q.length = nq
 eq : F = of p q * G + of p r
 z : ∀ j, k + dg G <= j + 1 -> cf r j = 0
 rr : ∀ j, 0 <= cf r j ∧ cf r j < p
 qr : ∀ j, 0 <= cf q j ∧ cf q j < p
 qz : ∀ j, j < k -> cf q j = 0

theorem DivI.start (F G : Poly p) {nq : Nat} (h : dg F + 1 <= nq + dg G) : DivI p F G nq nq F.l (List.replicate nq 0) := by
 have hp := Pr.two (p := p);refine ⟨rfl, by simp, ?_, λj hj => z3 (by omega), λj => kD F j, λj => by rw [zB]; omega, λj _ => zB _ _⟩;have h0 : of p (List.replicate nq 0) = (0 : Poly p) := zw λi => by rw [zG, zB, zR]; simp
 rw [h0, of_l];exact zf [F, G] (by rfl)

theorem DivI.step {F G : Poly p} {nq k : Nat} {r q r' : List Int} (h : DivI p F G nq (k + 1) r q) (hG : G ≠ 0) (hk : k < nq) (c : Int) (hc : c = cf r (k + dg G - 1) * yx p (cf G.l (dg G - 1)) % p)
  (hl : r'.length = r.length) (hr : ∀ j, cf r' j = if k <= j ∧ j < k + dg G then (cf r j - c * cf G.l (j - k)) % p else cf r j) : DivI p F G nq k r' (q.set k c) := by
 have hp := Pr.two (p := p);have hm : dg G ≠ 0 := λe => hG (zd.1 e);have hcr : 0 <= c ∧ c < p := by rw [hc]; exact ⟨Int.emod_nonneg _ (by omega), Int.emod_lt_of_pos _ (by omega)⟩
 have hql := h.ql;have hlead : cf G.l (dg G - 1) % p ≠ 0 := yk (yF (by omega));have hinv := (xn (p := p) hlead).2.2
 have e1 : of p (q.set k c) = of p q + mono p c k := zw λi => by
  rw [zG, yl, zG, jY, z4 (by omega)]
  by_cases hi : i = k
  ·subst hi; rw [if_pos rfl, if_pos rfl, h.qz i (by omega)]; simp
  ·rw [if_neg hi, if_neg hi]; simp
 have e2 : of p r' = of p r - mono p c k * G := zw λi => by
  rw [zG, ja, zG, yq, hr]
  by_cases hi : k <= i
  ·rw [if_pos hi]
   by_cases hi2 : i < k + dg G
   ·rw [if_pos ⟨hi, hi2⟩];rw [Int.emod_emod_of_dvd _ (Int.dvd_refl p), <- Int.sub_emod]
   ·rw [if_neg (by omega), z3 (f := G) (by omega)]; simp
  ·rw [if_neg (by omega), if_neg hi]; simp
 refine ⟨by rw [hl, h.rl], by simpa using hql, ?_, λj hj => ?_, λj => ?_, λj => ?_, λj hj => ?_⟩
 ·rw [e1, e2];exact comb 1 h.eq (zf [F, G, of p q, of p r, mono p c k] (by rfl))
 ·rw [hr]
  by_cases hj2 : j < k + dg G
  ·obtain rfl : j = k + dg G - 1 := by omega
   rw [if_pos (by omega), show k + dg G - 1 - k = dg G - 1 by omega, hc];generalize cf r (k + dg G - 1) = a;generalize yx p (cf G.l (dg G - 1)) = v at hinv;generalize cf G.l (dg G - 1) = l at hinv;rw [Int.sub_emod, Int.mul_emod (a * v % p), Int.emod_emod_of_dvd _ (Int.dvd_refl p), <- Int.mul_emod, show a * v * l = a * (l * v) by rw [Int.mul_assoc, Int.mul_comm v l], Int.mul_emod a, hinv, Int.mul_one, Int.emod_emod_of_dvd _ (Int.dvd_refl p)];simp
  ·rw [if_neg (by omega)]; exact h.z j (by omega)
 ·rw [hr]
  split
  ·exact ⟨Int.emod_nonneg _ (by omega), Int.emod_lt_of_pos _ (by omega)⟩
  ·exact h.rr j
 ·rw [z4 (by omega)]
  split
  ·exact hcr
  ·exact h.qr j
 ·rw [z4 (by omega), if_neg (by omega)];exact h.qz j (by omega)

theorem DivI.fin {F G : Poly p} {nq : Nat} {r q : List Int} (h : DivI p F G nq 0 r q) (hG : G ≠ 0) : zu q = (quo F G).l ∧ zu r = (rem F G).l := by
 have hm : dg G ≠ 0 := λe => hG (zd.1 e)
 have h1 := zg7 (q := of p q) (r := of p r) h.eq (by
  have : dg (of p r) <= dg G - 1 := jX λj hj => by rw [zG, h.z j (by omega)]; simp
  omega)
 rw [h1.1, h1.2];exact ⟨(zcf h.qr).symm, (zcf h.rr).symm⟩

theorem zaN {p : Int} {c : Int} {g : Nat -> Int} {r o : List Int} {k i n : Nat} (hn : o.length = n) (hi : k + i < n) (h : ∀ j, cf o j = if k <= j ∧ j < k + i then (cf r j - c * g (j - k)) % p else cf r j) :
  cf o (k + i) = cf r (k + i) ∧ ∀ j, cf (o.set (k + i) ((cf o (k + i) - c * g i) % p)) j = if k <= j ∧ j < k + (i + 1) then (cf r j - c * g (j - k)) % p else cf r j := by
 have h0 : cf o (k + i) = cf r (k + i) := by rw [h, if_neg (by omega)]
 refine ⟨h0, λj => ?_⟩;rw [z4 (by omega), h0, h]
 by_cases hj : j = k + i
 ·subst hj; rw [if_pos rfl, if_pos (by omega), show k + i - k = i by omega]
 ·rw [if_neg hj]
  by_cases h2 : k <= j ∧ j < k + i
  ·rw [if_pos h2, if_pos (by omega)]
  ·rw [if_neg h2, if_neg (by omega)]

end Poly
namespace Poly
variable {p : Int} [SP p]

theorem zfL {f a b : Poly p} (hf : f ≠ 0) (h : f ∣ a - b) : rem a f = rem b f := by
 obtain ⟨q, hq⟩ := h;have h1 := vd b f;have h2 := zX b hf;exact (zg7 (q := q + quo b f) (comb 1 hq (comb 1 h1 (zf [a, b, f, q, quo b f, rem b f] (by rfl)))) h2).2
theorem xS (a f : Poly p) : f ∣ a - rem a f := ⟨quo a f, comb 1 (vd a f) (zf [a, f, quo a f, rem a f] (by rfl))⟩
theorem yA {a b f : Poly p} (hf : f ≠ 0) : rem (rem a f * b) f = rem (a * b) f := by
 refine (zfL hf ?_).symm;obtain ⟨q, hq⟩ := xS a f;exact ⟨q * b, comb b hq (zf [a, b, f, q, rem a f] (by rfl))⟩
theorem xE {a b f : Poly p} (hf : f ≠ 0) : rem (a * rem b f) f = rem (a * b) f := by
 have e : a * rem b f = rem b f * a := zf [a, rem b f] (by rfl);have e2 : b * a = a * b := zf [a, b] (by rfl);rw [e, yA hf, e2]
theorem zcP {a f : Poly p} (h : dg a < dg f) : rem a f = a := (zg7 (q := 0) (f := a) (g := f) (zf [a, f] (by rfl)) h).2
theorem zdQ {a f : Poly p} (hf : f ≠ 0) (n : Nat) : rem (rem a f ^ n) f = rem (a ^ n) f := by
 induction n with
 | zero => rfl
 | succ n ih => rw [zj, zj, xE hf, <- yA hf, ih, yA hf]
theorem zhf (a : Poly p) (n : Nat) : a ^ n = (a * a) ^ (n / 2) * a ^ (n % 2) := by
 have h1 : (a * a) ^ (n / 2) = a ^ (2 * (n / 2)) := by
  rw [zk1]
  congr 1
  show a * a = 1 * a * a
  rw [CR.one_mul]
 rw [h1, <- pow_add]
 congr 1; omega
theorem zeS {o b f g : Poly p} (hf : f ≠ 0) {n : Nat} (h : rem (o * b ^ n) f = g) :
  rem ((if n % 2 = 1 then rem (o * b) f else o) * rem (b * b) f ^ (n / 2)) f = g := by
 rw [<- xE hf, zdQ hf, xE hf, <- h, zhf b n]
 split
 ·rename_i hn
  have e1 : b ^ (n % 2) = b := by rw [hn]; exact CR.one_mul b
  have e2 : o * b * (b * b) ^ (n / 2) = o * ((b * b) ^ (n / 2) * b) := zf [o, b, (b * b) ^ (n / 2)] (by rfl);rw [yA hf, e1, e2]
 ·rename_i hn
  have e1 : b ^ (n % 2) = 1 := by rw [show n % 2 = 0 by omega]; rfl
  rw [e1, CR.mul_one]

theorem zk5 {c : Int} (h0 : 0 < c) (h1 : c < p) : (con p c).l = [c] := by
 refine yt (con p c).ok.2 ?_ λi => ?_
 ·intro n hn;have : n = 0 := by simpa using hn.symm
  subst this;show c ≠ 0
  omega
 ·rw [xM, Int.emod_eq_of_lt (by omega) h1];cases i <;> simp [cf]
theorem zk6 : (1 : Poly p).l = [1] := by
 have hp := Pr.two (p := p);exact zk5 (c := 1) (by omega) (by omega)
theorem znG {F : Poly p} (hF : F ≠ 0) : 0 < yx p (cf F.l (dg F - 1)) ∧ yx p (cf F.l (dg F - 1)) < p ∧ F * con p (yx p (cf F.l (dg F - 1))) = mnc F := by
 have hp := Pr.two (p := p);have hd : dg F ≠ 0 := λe => hF (zd.1 e);have hl : cf F.l (dg F - 1) % p ≠ 0 := yk (yF (by omega));obtain ⟨h1, h2, h3⟩ := xn hl;generalize yx p (cf F.l (dg F - 1)) = c at h1 h2 h3;have hc0 : c ≠ 0 := λe => by rw [e, Int.mul_zero, Int.zero_emod] at h3; omega
 have hcm : c % p ≠ 0 := by rw [Int.emod_eq_of_lt h1 h2]; exact hc0
 refine ⟨by omega, h2, ?_⟩
 have hm : Mon (con p c * F) := by
  refine ⟨mul_ne (zhb hcm) hF, ?_⟩;rw [zha (zhb hcm) hF, zno hcm, Int.emod_eq_of_lt h1 h2, Int.mul_comm];exact h3
 rw [zpY hm];exact zf [F, con p c] (by rfl)
theorem zma (F G : Poly p) (hF : F ≠ 0) : dg (gcd F G) <= dg F := zP (ve F G) hF
end Poly

theorem zmb {p : Int} {n m a0 : Nat} {R R' : Nat -> Nat -> Int} {s b : Int} (hab : s * b % p = 1) (ha : a0 < m) (h1 : ∀ x, x < n -> R' a0 x % p = (s * R a0 x) % p)
  (h2 : ∀ i, i < m -> i ≠ a0 -> ∃ t : Int, ∀ x, x < n -> R' i x % p = (R i x - t * (s * R a0 x)) % p) (c : Nat -> Int) : Sol p n m R' c ↔ Sol p n m R c := by
 constructor
 ·intro h
  have hat : j3 p n (R a0) c := by
   have h3 := kW b (h a0 ha);refine (vW (λx hx => ?_) (λ_ _ => rfl)).1 h3;rw [y1 b (h1 x hx), <- Int.mul_assoc, Int.mul_comm b s, Int.mul_emod, hab, Int.one_mul, yf]
  intro k hk
  by_cases he : k = a0
  ·subst he; exact hat
  ·obtain ⟨t, ht⟩ := h2 k hk he;have h3 := zgp t (h k hk) (kW s hat);refine (vW (λx hx => ?_) (λ_ _ => rfl)).1 h3;rw [Int.add_emod, ht x hx, <- Int.add_emod]
   congr 1; omega
 ·intro h k hk
  by_cases he : k = a0
  ·subst he;exact (vW (λx hx => h1 x hx) (λ_ _ => rfl)).2 (kW s (h k hk))
  ·obtain ⟨t, ht⟩ := h2 k hk he;have h3 := zgp (-t) (h k hk) (kW s (h a0 ha));refine (vW (λx hx => ?_) (λ_ _ => rfl)).2 h3;rw [ht x hx]
   congr 1; rw [Int.neg_mul]; omega

namespace Poly
variable {p : Int} [SP p]

def zeT (L : List (Poly p)) (w : Poly p) : Prop := ∀ C : Poly p -> Prop, C 0 -> (∀ a b, C a -> C b -> C (a + b)) -> (∀ (c : Int) a, C a -> C (con p c * a)) -> (∀ a ∈ L, C a) -> C w

theorem znH {L : List (Poly p)} {g : Nat -> Poly p} {n : Nat} (h : ∀ i, i < n -> zeT L (g i)) : zeT L (yv g n) := by
 intro C h0 ha hc hL
 induction n with
 | zero => exact h0
 | succ n ih => exact ha _ _ (ih λi hi => h i (by omega)) (h n (by omega) C h0 ha hc hL)

def zdf (p : Int) [SP p] (n : Nat) (piv : List Nat) (R : Nat -> Nat -> Int) (col : Nat) : Poly p := of p (mkL n (jG p piv R col))
theorem zcg (n : Nat) (piv : List Nat) (R : Nat -> Nat -> Int) (col x : Nat) : cf (zdf p n piv R col).l x = if x < n then jG p piv R col x % p else 0 := by
 rw [zdf, zG, yC]; split <;> simp

def vu (p : Int) [SP p] (n : Nat) (piv : List Nat) (R : Nat -> Nat -> Int) (m : Nat) : List (Poly p) := ((List.range m).filter λc => !piv.contains c).map (zdf p n piv R)
theorem zeU (n : Nat) (piv : List Nat) (R : Nat -> Nat -> Int) (m : Nat) : vu p n piv R (m + 1) = if m ∈ piv then vu p n piv R m else vu p n piv R m ++ [zdf p n piv R m] := by
 unfold vu;rw [List.range_succ, List.filter_append]
 by_cases h : m ∈ piv
 ·simp [h]
 ·simp [h]

structure Basis (p : Int) [SP p] (n : Nat) (R : Nat -> Nat -> Int) (L : List (Poly p)) : Prop where
 few : L.length <= n
 sol : ∀ w ∈ L, dg w <= n ∧ Sol p n n R (cf w.l)
 span : ∀ w : Poly p, dg w <= n -> Sol p n n R (cf w.l) -> zeT L w

theorem Steps.basis {n : Nat} {piv : List Nat} {R R0 : Nat -> Nat -> Int} (h : Steps p n n piv R) (he : ∀ c, Sol p n n R c ↔ Sol p n n R0 c) : Basis p n R0 (vu p n piv R n) := by
 refine ⟨?_, ?_, ?_⟩
 ·unfold vu;rw [List.length_map];exact Nat.le_trans (List.length_filter_le _ _) (by simp)
 ·intro w hw;obtain ⟨col, hc, rfl⟩ := List.mem_map.1 hw;simp only [List.mem_filter, List.mem_range, Bool.not_eq_true', List.contains_eq_mem, decide_eq_false_iff_not] at hc
  refine ⟨jX λi hi => by rw [zcg, if_neg (by omega)], (he _).1 λk hk => ?_⟩;refine (vW (λ_ _ => rfl) (λi hi => ?_)).1 (h.free hc.1 hc.2 k hk);rw [zcg, if_pos hi, yf]
 ·intro w hw hs;have h1 := h.all ((he _).2 hs)
  have e : w = yv (λcol => con p (if col ∈ piv then 0 else cf w.l col) * zdf p n piv R col) n := zw λx => by
   rw [zhc (λcol => if col ∈ piv then 0 else cf w.l col)]
   by_cases hx : x < n
   ·rw [<- xd w x, h1 x hx];refine yY p λcol hcol => ?_;rw [zcg, if_pos hx]
    split
    ·simp
    ·rw [Int.mul_comm, vh _ (yf p _)]
   ·rw [z3 (by omega)];rw [kB λi _ => by rw [zcg, if_neg hx, Int.zero_mul]]; simp
  rw [e];refine znH λcol hcol => ?_;intro C h0 ha hc hL
  by_cases hp : col ∈ piv
  ·rw [if_pos hp, xD, CR.zero_mul]; exact h0
  ·rw [if_neg hp];refine hc _ _ (hL _ (List.mem_map.2 ⟨col, ?_, rfl⟩));simp [hcol, hp]

structure Ker (f : Poly p) (L : List (Poly p)) : Prop where
 few : L.length <= dg f
 ber : ∀ w ∈ L, Ber f w ∧ dg w < dg f
 span : ∀ w : Poly p, dg w < dg f -> Ber f w -> zeT L w
noncomputable def zcQ (f : Poly p) (k i : Nat) : Int := cf (zaK f i).l k
theorem Basis.ker {f : Poly p} {n : Nat} {L : List (Poly p)} (hf : dg f = n + 1) (h : Basis p n (zcQ f) L) : Ker f L := by
 have hb : ∀ w : Poly p, dg w <= n -> (Ber f w ↔ Sol p n n (zcQ f) (cf w.l)) := λw hw => zhd hf hw;exact ⟨by have := h.few; omega, λw hw => ⟨(hb w (h.sol w hw).1).2 (h.sol w hw).2, by have := (h.sol w hw).1; omega⟩, λw hw hB => h.span w (by omega) ((hb w (by omega)).1 hB)⟩

theorem znI {L : List (Poly p)} {a : Poly p} (h : ∀ w ∈ L, ∃ s : Int, a ∣ w - con p s) {w : Poly p} (hw : zeT L w) : ∃ s : Int, a ∣ w - con p s := by
 refine hw (λw => ∃ s : Int, a ∣ w - con p s) ⟨0, ?_⟩ ?_ ?_ h
 ·rw [xD, CR.sub_self]; exact dvd_zero _
 ·rintro x y ⟨s, q, hq⟩ ⟨t, r, hr⟩;refine ⟨s + t, q + r, ?_⟩;rw [<- zg8];exact comb 1 hq (comb 1 hr (zf [x, y, a, q, r, con p s, con p t] (by rfl)))
 ·rintro c x ⟨s, q, hq⟩;refine ⟨c * s, con p c * q, ?_⟩;rw [<- zdK];exact comb (con p c) hq (zf [x, a, q, con p c, con p s] (by rfl))

theorem Parts.done {f : Poly p} {P L : List (Poly p)} (hf : f ≠ 0) (hs : Sqf f) (hk : Ker f L) (hp : Parts f P) (hc : ∀ a ∈ P, ∀ w ∈ L, ∃ s : Int, a ∣ w - con p s) : zbK f P :=
 hp.irrs λa ha => ziD hf hs (hp.each a ha).2.2 (hp.each a ha).2.1 λw hw hb => znI (hc a ha) (hk.span w hw hb)

structure Cut (f : Poly p) (B P : List (Poly p)) : Prop where
 parts : Parts f P
 con : ∀ a ∈ P, ∀ w ∈ B, ∃ s : Int, a ∣ w - Poly.con p s
theorem Cut.start {f : Poly p} (hm : Mon f) (h2 : 2 <= dg f) : Cut f [] [f] := ⟨Parts.start hm h2, by simp⟩
theorem Cut.next {f v : Poly p} {B P : List (Poly p)} (h : Cut f B P) (hv : Ber f v) : Cut f (B ++ [v]) (zT v P) := by
 obtain ⟨h1, h2⟩ := h.parts.cut hv;refine ⟨h1, λa ha w hw => ?_⟩;obtain ⟨h3, a0, ha0, h4⟩ := h2 a ha;rcases List.mem_append.1 hw with hw | hw
 ·obtain ⟨s, hs⟩ := h.con a0 ha0 w hw;exact ⟨s, zy h4 hs⟩
 ·simp at hw; subst hw; exact h3
theorem Cut.done {f : Poly p} {L P : List (Poly p)} (hf : f ≠ 0) (hs : Sqf f) (hk : Ker f L) (h : Cut f L P) : zbK f P := Parts.done hf hs hk h.parts h.con

theorem X_l : (X p).l = [0, 1] := by
 have hp := Pr.two (p := p);refine yt (X p).ok.2 ?_ λi => ?_
 ·intro n hn;have : n = 1 := by simpa using hn.symm
  subst this;show (1 : Int) ≠ 0
  omega
 ·rw [jY, Int.emod_eq_of_lt (by omega) (by omega)]
  match i with
  | 0 => rfl
  | 1 => rfl
  | i + 2 => rw [if_neg (by omega), zN (by simp)]
theorem zk7 (i a : Nat) : cf (X p ^ i).l a = if a = i then 1 else 0 := by
 have hp := Pr.two (p := p);rw [zeM, Nat.one_mul, jY, Int.emod_eq_of_lt (by omega) (by omega)]
theorem zhg (f : Poly p) (a i : Nat) : zcQ f a i = (cf (rem (X p ^ (p.toNat * i)) f).l a - if a = i then 1 else 0) % p := by
 unfold zcQ zaK;rw [ja, zk7]

end Poly
namespace Poly
variable {p : Int} [SP p]

def xg : List (Poly p) -> Poly p
 | [] => 1
 | a :: l => a * xg l
theorem ziL {a : Poly p} : ∀ {l : List (Poly p)}, (∀ b ∈ l, Cop a b) -> Cop a (xg l)
 | [], _ => (zo4 a).symm
 | b :: l, h => by
  have h1 := h b (by simp);have h2 := ziL (l := l) λc hc => h c (by simp [hc]);exact (h1.symm.mul h2.symm).symm
theorem zeV {f : Poly p} (hf : f ≠ 0) : ∀ {l : List (Poly p)}, (∀ a ∈ l, a ∣ f) -> l.Pairwise (λa b => ∀ h, Irr h -> h ∣ a -> h ∣ b -> False) -> xg l ∣ f
 | [], _, _ => zdJ f
 | a :: l, h, hp => by
  rw [List.pairwise_cons] at hp;have h1 := zeV hf (l := l) (λb hb => h b (by simp [hb])) hp.2;have ha := h a (by simp);exact (ziL λb hb => zbH (zeF ha hf) (hp.1 b hb)).mul_dvd ha h1
theorem zhh : ∀ {l : List (Poly p)}, (∀ a ∈ l, 2 <= dg a) -> l.length + 1 <= dg (xg l)
 | [], _ => by rw [xg, yV]; simp
 | a :: l, h => by
  have h1 := zhh (l := l) λb hb => h b (by simp [hb]);have h2 := h a (by simp);have ha : a ≠ 0 := λe => by rw [e, zC] at h2; omega
  have hl : xg l ≠ 0 := λe => by rw [e, zC] at h1; omega
  have := yM ha hl;rw [xg, List.length_cons]; omega
theorem Parts.few {f : Poly p} {P : List (Poly p)} (h : Parts f P) (hf : f ≠ 0) : P.length + 1 <= dg f :=
 Nat.le_trans (zhh λa ha => (h.each a ha).2.1) (zP (zeV hf (λa ha => (h.each a ha).2.2) h.apart) hf)
theorem zbK.few {f : Poly p} {P : List (Poly p)} (h : zbK f P) (hf : f ≠ 0) : P.length + 1 <= dg f := by
 refine Nat.le_trans (zhh (l := P) λa ha => ((h.2 a).1 ha).1.1) (zP (zeV hf (λa ha => ((h.2 a).1 ha).2.2) ?_) hf);refine List.pairwise_iff_getElem.2 λi j hi hj hij q hq h1 h2 => ?_;have ha := (h.2 _).1 (List.getElem_mem hi);have hb := (h.2 _).1 (List.getElem_mem hj);have e1 := zbF (j2 hq).1 ha.1 (j2 hq).2 ha.2.1 (zy (ya q).1 h1);have e2 := zbF (j2 hq).1 hb.1 (j2 hq).2 hb.2.1 (zy (ya q).1 h2);exact List.pairwise_iff_getElem.1 h.1 i j hi hj hij (e1.symm.trans e2)

theorem kE (v a : Poly p) (n : Nat) : xm v a (n + 1) = xm v a n ++ zfJ v a n := by simp [xm, List.range_succ]
theorem znJ (v a : Poly p) {n m : Nat} (h : n <= m) : (xm v a n).length <= (xm v a m).length := by
 induction m with
 | zero => obtain rfl : n = 0 := by omega
           exact Nat.le_refl _
 | succ m ih =>
   rcases Nat.eq_or_lt_of_le h with rfl | h'
   · exact Nat.le_refl _
   · have := ih (by omega)
     rw [kE, List.length_append]; omega
theorem zdg (v : Poly p) {P : List (Poly p)} {j : Nat} (h : j < P.length) : zT v (P.take (j + 1)) = zT v (P.take j) ++ xm v (P.getD j 0) p.toNat := by
 unfold zT;rw [List.take_add_one, List.flatMap_append, List.getElem?_eq_getElem h, List.getD_eq_getElem?_getD, List.getElem?_eq_getElem h];simp
theorem zj3 (v : Poly p) (P : List (Poly p)) (j : Nat) : (zT v (P.take j)).length <= (zT v P).length := by
 conv => rhs; rw [<- List.take_append_drop j P]
 unfold zT;rw [List.flatMap_append, List.length_append]; omega
theorem zpc (v : Poly p) {P : List (Poly p)} {j a : Nat} (h : j < P.length) (ha : a <= p.toNat) : (zT v (P.take j) ++ xm v (P.getD j 0) a).length <= (zT v P).length := by
 have h1 := zj3 v P (j + 1);rw [zdg v h, List.length_append] at h1;have h2 := znJ v (P.getD j 0) ha;rw [List.length_append]; omega

theorem zgt (v : Poly p) (a : Int) : nrm p (zu (yK v.l [-a])) = (v - con p a).l := by
 rw [xf];show (of p (yK v.l [-a])).l = _
 congr 1
 refine zw λi => ?_;rw [zG, y3, ja, xM];cases i with
 | zero => rw [if_pos rfl, zx]; rw [Int.sub_emod, Int.emod_emod_of_dvd _ (Int.dvd_refl p), <- Int.sub_emod]; congr 1
 | succ i => rw [if_neg (by omega), zk, zO]; simp
theorem ziM {L : List (Poly p)} {j : Nat} (h : j < L.length) : L.getD j 0 ∈ L := by
 rw [List.getD_eq_getElem?_getD, List.getElem?_eq_getElem h]; exact List.getElem_mem h
theorem zmc {L : List (Poly p)} {j : Nat} (h : j < L.length) : L.take (j + 1) = L.take j ++ [L.getD j 0] := by
 rw [List.take_add_one, List.getD_eq_getElem?_getD, List.getElem?_eq_getElem h]; rfl

end Poly
namespace Poly
variable {p : Int} [SP p]

theorem zpd {h : Poly p} (hm : Mon h) (n : Nat) : Mon (h ^ n) := by
 induction n with
 | zero => rw [zv]; exact zkZ
 | succ n ih => rw [zj]; exact ih.mul hm
theorem Mon.left {f g : Poly p} (hf : Mon g) (h : Mon (f * g)) : Mon f := by
 rw [jp] at h; exact hf.right h

structure Peel (f : Poly p) (P : List (Poly p)) (k : Nat) (r : Poly p) (L : List (Poly p × Nat)) : Prop where
 mon : Mon r
 len : L.length = k
 le : k <= P.length
 cut : ∃ s, f = r * s ∧ ∀ h, Irr h -> Mon h -> h ∣ s -> ∃ j, j < k ∧ h = P.getD j 0
 fac : ∀ j, j < k -> (L.getD j (0, 0)).1 = P.getD j 0 ∧ 1 <= (L.getD j (0, 0)).2 ∧ yb (P.getD j 0) (L.getD j (0, 0)).2 f
 out : ∀ j, j < k -> ¬ P.getD j 0 ∣ r
 rest : ∀ h e, Irr h -> Mon h -> (∀ j, j < k -> h ≠ P.getD j 0) -> (yb h e f ↔ yb h e r)

theorem Peel.start {f : Poly p} (hm : Mon f) (P : List (Poly p)) : Peel f P 0 f [] :=
 ⟨hm, rfl, Nat.zero_le _, ⟨1, by exact zf [f] (by rfl), λh hi _ hd => (hi.not_unit yV hd).elim⟩, λj hj => absurd hj (by omega), λj hj => absurd hj (by omega), λ_ _ _ _ _ => Iff.rfl⟩

theorem zbM {P : List (Poly p)} (h : P.Nodup) {i j : Nat} (hi : i < P.length) (hj : j < P.length) (e : P.getD i 0 = P.getD j 0) : i = j := by
 rw [List.getD_eq_getElem?_getD, List.getD_eq_getElem?_getD, List.getElem?_eq_getElem hi, List.getElem?_eq_getElem hj] at e;exact (List.getElem_inj h).1 (by simpa using e)

theorem zcR {α : Type} {d x : α} {L : List α} {j : Nat} : (L ++ [x]).getD j d = if j < L.length then L.getD j d else if j = L.length then x else d := by
 simp only [List.getD_eq_getElem?_getD, List.getElem?_append]
 by_cases h : j < L.length
 ·simp [h]
 ·by_cases h2 : j = L.length
  ·simp [h2]
  ·rw [if_neg h, if_neg h, if_neg h2, List.getElem?_eq_none (by simp; omega)]; rfl

theorem Peel.step {f r r' : Poly p} {P : List (Poly p)} {k n : Nat} {L : List (Poly p × Nat)} (h : Peel f P k r L) (hP : P.Nodup) (hk : k < P.length) (hi : Irr (P.getD k 0)) (hm : Mon (P.getD k 0)) (hd : P.getD k 0 ∣ f)
  (he : r = P.getD k 0 ^ n * r') (hn : ¬ P.getD k 0 ∣ r') : Peel f P (k + 1) r' (L ++ [(P.getD k 0, n)]) := by
 have hr' : r' ∣ r := ⟨P.getD k 0 ^ n, by rw [he]; exact jp _ _⟩
 have hmult : yb (P.getD k 0) n r := ⟨r', he, hn⟩
 have hmf : yb (P.getD k 0) n f := (h.rest _ _ hi hm λj hj e => by have := zbM hP hk (by have := h.le; omega) e; omega).2 hmult
 have hn1 : 1 <= n := by
  rcases Nat.eq_zero_or_pos n with h0 | h0
  ·subst h0; exact absurd hd (xe.1 hmf)
  ·exact h0
 refine ⟨(zpd hm n).right (he ▸ h.mon), by simp [h.len], hk, ?_, λj hj => ?_, λj hj => ?_, λq e hq hqm hqn => ?_⟩
 ·obtain ⟨s, h1, h2⟩ := h.cut;refine ⟨P.getD k 0 ^ n * s, by rw [h1, he]; exact zf [P.getD k 0 ^ n, r', s] (by rfl), λq hq hqm hqd => ?_⟩;rcases hq.prime hqd with h3 | h3
  ·exact ⟨k, by omega, zbF hq hi hqm hm (hq.pow h3)⟩
  ·obtain ⟨j, hj, e⟩ := h2 q hq hqm h3;exact ⟨j, by omega, e⟩
 ·rw [zcR]
  by_cases hjk : j = k
  ·subst hjk;rw [if_neg (by have := h.len; omega), if_pos h.len.symm];exact ⟨rfl, hn1, hmf⟩
  ·rw [if_pos (by have := h.len; omega)];exact h.fac j (by omega)
 ·by_cases hjk : j = k
  ·subst hjk; exact hn
  ·exact λhdj => h.out j (by omega) (zy hdj hr')
 ·rw [h.rest q e hq hqm λj hj => hqn j (by omega)];have hne : ¬ q ∣ P.getD k 0 := λhd' => hqn k (by omega) (zbF hq hi hqm hm hd');have h0 : yb q 0 (P.getD k 0 ^ n) := xe.2 λhd' => hne (hq.pow hd');have r0 : r' ≠ 0 := λe0 => h.mon.1 (by rw [he, e0]; exact zf [P.getD k 0 ^ n] (by rfl))
  have up : ∀ e', yb q e' r' -> yb q e' r := λe' h1 => by
   have := h0.mul hq h1;rw [Nat.zero_add] at this;rw [he]; exact this
  refine ⟨λh1 => ?_, up e⟩;obtain ⟨e', h2⟩ := j4 hq.1 _ r' r0 (Nat.le_refl _);rw [h1.unique hq.ne (up e' h2)]; exact h2

theorem zk8 {f g : Poly p} (hf : f ≠ 0) (h : ∀ h, Irr h -> Mon h -> h ∣ f -> h ∣ g -> False) : Cop f g :=
 zbH hf λq hq h1 h2 => by
  obtain ⟨hi, hm⟩ := j2 hq;exact h _ hi hm (zy (ya q).1 h1) (zy (ya q).1 h2)

theorem Peel.fin {f r : Poly p} {P : List (Poly p)} {L : List (Poly p × Nat)} (h : Peel f P P.length r L) (_hf : Mon f) {q c : Poly p} (hq : zbK q P) (he : f = q * c) (hc : c ∣ der f) :
  der r = 0 ∧ ∀ x, zbm f x ↔ x ∈ L ∨ zbm r x := by
 have hr0 := h.mon.1
 have hidx : ∀ {g : Poly p}, g ∈ P -> ∃ j, j < P.length ∧ g = P.getD j 0 := λ{g} hg => by
  obtain ⟨j, hj, e⟩ := List.getElem_of_mem hg;exact ⟨j, hj, by rw [List.getD_eq_getElem?_getD, List.getElem?_eq_getElem hj]; exact e.symm⟩
 constructor
 ·obtain ⟨s, h1, h2⟩ := h.cut;refine znt he h1 hr0 hc (zk8 hr0 λg hg hgm h3 h4 => ?_) (zk8 hr0 λg hg hgm h3 h4 => ?_)
  ·obtain ⟨j, hj, rfl⟩ := hidx ((hq.2 g).2 ⟨hg, hgm, h4⟩);exact h.out j hj h3
  ·obtain ⟨j, hj, rfl⟩ := h2 g hg hgm h4;exact h.out j hj h3
 ·have hL : ∀ x, x ∈ L ↔ ∃ j, j < P.length ∧ x = L.getD j (0, 0) := λx => by
   constructor
   ·intro hx;obtain ⟨j, hj, e⟩ := List.getElem_of_mem hx;exact ⟨j, by have := h.len; omega, by rw [List.getD_eq_getElem?_getD, List.getElem?_eq_getElem hj]; exact e.symm⟩
   ·rintro ⟨j, hj, rfl⟩;have hj' : j < L.length := by have := h.len; omega
    rw [List.getD_eq_getElem?_getD, List.getElem?_eq_getElem hj'];exact List.getElem_mem hj'
  rintro ⟨g, e⟩;rw [hL]
  constructor
  ·rintro ⟨h1, h2, h3, h4⟩
   by_cases hg : ∃ j, j < P.length ∧ g = P.getD j 0
   ·obtain ⟨j, hj, rfl⟩ := hg;obtain ⟨h5, h6, h7⟩ := h.fac j hj;refine .inl ⟨j, hj, ?_⟩;have : e = (L.getD j (0, 0)).2 := h4.unique h1.ne h7;exact Prod.ext h5.symm this
   ·exact .inr ⟨h1, h2, h3, (h.rest g e h1 h2 λj hj e' => hg ⟨j, hj, e'⟩).1 h4⟩
  ·rintro (⟨j, hj, hx⟩ | ⟨h1, h2, h3, h4⟩)
   ·obtain ⟨h5, h6, h7⟩ := h.fac j hj;rw [hx]
    have hmem : P.getD j 0 ∈ P := by
     rw [List.getD_eq_getElem?_getD, List.getElem?_eq_getElem hj]; exact List.getElem_mem hj
    obtain ⟨h8, h9, _⟩ := (hq.2 _).1 hmem;exact ⟨by rw [h5]; exact h8, by rw [h5]; exact h9, h6, by rw [h5]; exact h7⟩
   ·refine ⟨h1, h2, h3, (h.rest g e h1 h2 λj hj e' => ?_).2 h4⟩;have hd : g ∣ r := h4.dvd h3;exact h.out j hj (e' ▸ hd)

theorem kZ {f g : Poly p} (h : f ∣ g) (h' : g ∣ f) (hf : f ≠ 0) {q : Poly p} (hq : Irr q) (e : Nat) (h1 : yb q e f) : yb q e g := by
 obtain ⟨u, rfl⟩ := h;obtain ⟨v, hv⟩ := h'
 have huv : u * v = 1 := by
  have h3 : f * (u * v) = f * 1 := by
   have : f * (u * v) = f * u * v := by exact zf [f, u, v] (by rfl)
   rw [this, <- hv]; exact zf [f] (by rfl)
  exact zeD hf h3
 have hu : ¬ q ∣ u := λhd => by
  have h4 : q ∣ u * v := by obtain ⟨w, hw⟩ := hd; exact ⟨w * v, by rw [hw]; exact zf [q, w, v] (by rfl)⟩
  rw [huv] at h4;exact hq.not_unit yV h4
 have := h1.mul hq (xe.2 hu)
 rwa [Nat.add_zero] at this
theorem zgu {f : Poly p} (hf : f ≠ 0) (x : Poly p × Nat) : zbm (mnc f) x ↔ zbm f x := by
 obtain ⟨h1, h2⟩ := ya f;exact ⟨λ⟨a, b, c, d⟩ => ⟨a, b, c, kZ h1 h2 (j1 hf).1 a _ d⟩, λ⟨a, b, c, d⟩ => ⟨a, b, c, kZ h2 h1 hf a _ d⟩⟩

theorem zeW {f : Poly p} (h : dg f = 1) (x : Poly p × Nat) : ¬ zbm f x := λ⟨a, _, c, d⟩ => a.not_unit h (d.dvd c)

theorem zcS {g f : Poly p} (hg : g ≠ 0) {n : Nat} (hn : 1 <= n) (he : g ^ n = f) (x : Poly p × Nat) : zbm f x ↔ ∃ e, zbm g (x.1, e) ∧ x.2 = n * e := by
 subst he
 constructor
 ·rintro ⟨a, b, c, d⟩;obtain ⟨e, h1⟩ := j4 a.1 _ g hg (Nat.le_refl _);have h2 := h1.pow a n;have h3 := d.unique a.ne h2;refine ⟨e, ⟨a, b, ?_, h1⟩, by rw [h3, Nat.mul_comm]⟩;rcases Nat.eq_zero_or_pos e with h4 | h4
  ·subst h4; omega
  ·exact h4
 ·rintro ⟨e, ⟨a, b, c, d⟩, h⟩;refine ⟨a, b, ?_, ?_⟩
  ·rw [h]; exact Nat.mul_pos hn c
  ·rw [h, Nat.mul_comm]; exact d.pow a n

theorem zgv {f : Poly p} (hm : Mon f) (hd : der f = 0) {l : List Int} {n : Nat} (hl : l.length = n) (hc : ∀ i, i < n -> cf l i = cf f.l (i * p.toNat)) (h1 : dg f <= n * p.toNat) (h2 : n * p.toNat < dg f + p.toNat) :
  ∃ g : Poly p, g.l = l ∧ Mon g ∧ g ^ p.toNat = f ∧ dg g <= dg f ∧ (2 <= dg f -> dg g < dg f) := by
 have hp := Pr.two (p := p);have hp2 : 2 <= p.toNat := by omega
 have hcf : ∀ i, cf l i = cf f.l (i * p.toNat) := λi => by
  by_cases hi : i < n
  ·exact hc i hi
  ·rw [zN (by omega), z3];have : n * p.toNat <= i * p.toNat := Nat.mul_le_mul_right _ (by omega);omega
 have hof : ∀ i, cf (of p l).l i = cf f.l (i * p.toNat) := λi => by
  rw [zG, hcf, f.ok.cf_mod]
 have hpow := ziF hd hof;have hf0 := hm.1
 have hd1 : 1 <= dg f := by
  rcases Nat.eq_zero_or_pos (dg f) with h | h
  ·exact absurd (zd.1 h) hf0
  ·exact h
 have hn1 : 1 <= n := by
  rcases Nat.eq_zero_or_pos n with h | h
  ·subst h; omega
  ·exact h
 -- its last coefficient
 obtain ⟨m, rfl⟩ : ∃ m, n = m + 1 := ⟨n - 1, by omega⟩
 have hlast : dg f = m * p.toNat + 1 := by
  have hne : cf f.l (dg f - 1) ≠ 0 := by have := yF (f := f) (n := dg f - 1) (by omega); exact this
  have hk : (dg f - 1) % p.toNat = 0 := by
   refine Classical.byContradiction λhk => hne ?_;have e := znv (of p l) (dg f - 1)
   rwa [hpow, if_neg hk] at e
  have h3 : dg f - 1 = (dg f - 1) / p.toNat * p.toNat := (Nat.div_mul_cancel (Nat.dvd_of_mod_eq_zero hk)).symm;generalize (dg f - 1) / p.toNat = t at h3
  have h4 : t = m := by
   have e1 : (m + 1) * p.toNat = m * p.toNat + p.toNat := Nat.succ_mul _ _;rcases Nat.lt_trichotomy t m with h | h | h
   ·have : (t + 1) * p.toNat <= m * p.toNat := Nat.mul_le_mul_right _ h;have e2 : (t + 1) * p.toNat = t * p.toNat + p.toNat := Nat.succ_mul _ _;omega
   ·exact h
   ·have : (m + 1) * p.toNat <= t * p.toNat := Nat.mul_le_mul_right _ h;omega
  subst h4; omega
 have hone : cf (of p l).l m = 1 := by
  rw [hof];have := hm.2;unfold lc at this;rw [hlast] at this
  simpa using this
 have hdg : dg (of p l) = m + 1 := by
  have h5 := zkX (f := of p l) (n := m) (by rw [hone]; decide);have h6 := jC (p := p) l;omega
 refine ⟨of p l, zaL (by show dg (of p l) = _; omega) λj hj => ?_, ⟨λe => ?_, ?_⟩, hpow, ?_, λh => ?_⟩
 ·rw [hof, hcf]
 ·rw [e, zC] at hdg; omega
 ·unfold lc; rw [hdg]; exact hone
 ·have : m * 2 <= m * p.toNat := Nat.mul_le_mul_left _ hp2;omega
 ·have : m * 2 <= m * p.toNat := Nat.mul_le_mul_left _ hp2
  have : 1 <= m := by
   rcases Nat.eq_zero_or_pos m with h0 | h0
   ·subst h0; simp at hlast; omega
   ·exact h0
  omega

end Poly
namespace Poly
variable {p : Int} [SP p]

def kg (f : Poly p) (G : List (Poly p × Nat)) : Prop := (G.map Prod.fst).Nodup ∧ ∀ x, x ∈ G ↔ zbm f x

theorem kg.few {f : Poly p} {G : List (Poly p × Nat)} (h : kg f G) (hf : f ≠ 0) : G.length + 1 <= dg f := by
 have : zbK f (G.map Prod.fst) := ⟨h.1, λg => ?_⟩
 ·have := this.few hf
  simpa using this
 ·rw [List.mem_map]
  constructor
  ·rintro ⟨x, hx, rfl⟩;obtain ⟨a, b, c, d⟩ := (h.2 x).1 hx;exact ⟨a, b, d.dvd c⟩
  ·rintro ⟨a, b, c⟩;obtain ⟨e, he⟩ := j4 a.1 _ f hf (Nat.le_refl _);refine ⟨(g, e), (h.2 _).2 ⟨a, b, ?_, he⟩, rfl⟩;rcases Nat.eq_zero_or_pos e with h0 | h0
   ·subst h0; exact absurd c (xe.1 he)
   ·exact h0
theorem jH.facs {f : Poly p} {F : List (Poly p × Nat)} (h : jH f F) : kg f F :=
 ⟨by
  refine List.Pairwise.map _ (R := λx y : Poly p × Nat => ltP x.1 y.1) (λx y hxy e => zeP y.1 (by rw [e] at hxy; exact hxy)) h.1, h.2⟩

theorem kg.unit {r : Poly p} (h : dg r = 1) : kg r [] := ⟨List.nodup_nil, λx => ⟨λhx => by simp at hx, λhx => (zeW h x hx).elim⟩⟩

def up (n : Nat) (F : List (Poly p × Nat)) : List (Poly p × Nat) := F.map λx => (x.1, n * x.2)
theorem kg.up {g f : Poly p} (hg : g ≠ 0) {n : Nat} (hn : 1 <= n) (he : g ^ n = f) {F : List (Poly p × Nat)} (h : kg g F) : kg f (up n F) := by
 refine ⟨?_, λx => ?_⟩
 ·have : (Poly.up n F).map Prod.fst = F.map Prod.fst := by unfold Poly.up; rw [List.map_map]; rfl
  rw [this]; exact h.1
 ·rw [zcS hg hn he];unfold Poly.up;rw [List.mem_map]
  constructor
  ·rintro ⟨y, hy, rfl⟩;exact ⟨y.2, (h.2 _).1 hy, rfl⟩
  ·rintro ⟨e, h1, h2⟩;exact ⟨(x.1, e), (h.2 _).2 h1, Prod.ext rfl h2.symm⟩

theorem Peel.fstL {f r : Poly p} {P : List (Poly p)} {L : List (Poly p × Nat)} (h : Peel f P P.length r L) : L.map Prod.fst = P := by
 refine List.ext_getElem (by simpa using h.len) λi h1 h2 => ?_;have h3 := (h.fac i h2).1;have h1' : i < L.length := by simpa using h1
 rw [List.getD_eq_getElem?_getD, List.getD_eq_getElem?_getD, List.getElem?_eq_getElem h1', List.getElem?_eq_getElem h2] at h3
 simpa using h3

theorem Peel.facs {f r : Poly p} {P : List (Poly p)} {L F : List (Poly p × Nat)} (h : Peel f P P.length r L) (hf : Mon f) {q c : Poly p} (hq : zbK q P) (he : f = q * c) (hc : c ∣ der f) (hF : kg r F) : kg f (L ++ F) := by
 obtain ⟨_, h2⟩ := h.fin hf hq he hc;refine ⟨?_, λx => by rw [h2, List.mem_append, hF.2]⟩;rw [List.map_append, h.fstL];refine List.nodup_append.2 ⟨hq.1, hF.1, λa ha b hb e => ?_⟩;subst e;obtain ⟨x, hx, rfl⟩ := List.mem_map.1 hb;obtain ⟨a1, a2, a3, a4⟩ := (hF.2 x).1 hx;obtain ⟨j, hj, hje⟩ := List.getElem_of_mem ha;refine h.out j hj ?_;rw [List.getD_eq_getElem?_getD, List.getElem?_eq_getElem hj];show P[j] ∣ r
 rw [hje]; exact a4.dvd a3

theorem kg.mnc {f : Poly p} (hf : f ≠ 0) {G : List (Poly p × Nat)} (h : kg (mnc f) G) : kg f G := ⟨h.1, λx => by rw [h.2, zgu hf]⟩

theorem ziN (f : Poly p) : nrm p (mkL (f.l.length - 1) (dv (cf f.l))) = (der f).l := by
 refine yt (va _ _) (der f).ok.2 λj => ?_;rw [kS, jc, yC]
 by_cases h : j < f.l.length - 1
 ·rw [if_pos h]
 ·rw [if_neg h];unfold dv;rw [zN (by omega)]; simp

theorem zk9 {f : Poly p} (hm : Mon f) (hd : der f ≠ 0) : f = quo f (gcd f (der f)) * gcd f (der f) ∧ Mon (quo f (gcd f (der f))) ∧ Sqf (quo f (gcd f (der f))) ∧ 2 <= dg (quo f (gcd f (der f))) ∧ dg (quo f (gcd f (der f))) <= dg f ∧ gcd f (der f) ∣ der f ∧ gcd f (der f) ≠ 0 := by
 have hg := zca (f := f) (g := der f) (.inl hm.1)
 have h1 : f = quo f (gcd f (der f)) * gcd f (der f) := by
  have h2 := vd f (gcd f (der f));rw [(jZ hg.1).1 (ve f (der f))] at h2;have e : ∀ a : Poly p, a + 0 = a := λa => by exact zf [a] (by rfl)
  rw [e] at h2; exact h2
 have hq0 : quo f (gcd f (der f)) ≠ 0 := λe => hm.1 (by rw [h1, e]; exact zf [gcd f (der f)] (by rfl));have hmq : Mon (quo f (gcd f (der f))) := hg.left (h1 ▸ hm);refine ⟨h1, hmq, zns hm.1 h1 (λh a b => zk0 a b), ?_, ?_, xR _ _, hg.1⟩
 ·refine Classical.byContradiction λh2 => ?_;have h3 := yM hq0 hg.1;rw [<- h1] at h3;have h4 := zP (xR f (der f)) hd;have h5 := zbJ hm.1;have h6 : dg (quo f (gcd f (der f))) ≠ 0 := λe => hq0 (zd.1 e);omega
 ·exact zP ⟨gcd f (der f), h1⟩ hm.1

end Poly
namespace Poly
variable {p : Int} [SP p]

def zch (f v : Poly p) (s : Nat) (O : List (Poly p)) : Prop := O.Nodup ∧ ∀ h, h ∈ O ↔ Irr h ∧ Mon h ∧ ∃ a ∈ xm v f s, h ∣ a

theorem zch.start (f v : Poly p) : zch f v 0 [] := ⟨List.nodup_nil, λh => ⟨λhh => by simp at hh, λ⟨_, _, a, ha, _⟩ => by simp [xm] at ha⟩⟩
theorem zch.skip {f v : Poly p} {s : Nat} {O : List (Poly p)} (h : zch f v s O) (hd : ¬ 2 <= dg (gcd f (v - con p (s : Int)))) : zch f v (s + 1) O := by
 have e : xm v f (s + 1) = xm v f s := by rw [kE, zfJ, if_neg hd, List.append_nil]
 unfold zch at *;rw [e]; exact h
theorem zch.step {f v : Poly p} {s : Nat} {O P : List (Poly p)} (h : zch f v s O) (hs : (s : Int) < p) (hd : 2 <= dg (gcd f (v - con p (s : Int)))) (hP : zbK (gcd f (v - con p (s : Int))) P) : zch f v (s + 1) (O ++ P) := by
 have e : xm v f (s + 1) = xm v f s ++ [gcd f (v - con p (s : Int))] := by rw [kE, zfJ, if_pos hd]
 have hap := zgs (v := v) (a := f) (n := s + 1) (by omega);rw [e] at hap;refine ⟨List.nodup_append.2 ⟨h.1, hP.1, λa ha b hb hab => ?_⟩, λq => ?_⟩
 ·subst hab;obtain ⟨a1, a2, c, hc, h3⟩ := (h.2 a).1 ha;obtain ⟨_, _, h4⟩ := (hP.2 a).1 hb;exact (List.pairwise_append.1 hap).2.2 c hc _ (by simp) a a1 h3 h4
 ·rw [e, List.mem_append, h.2, hP.2]
  constructor
  ·rintro (⟨a1, a2, c, hc, h3⟩ | ⟨a1, a2, h3⟩)
   ·exact ⟨a1, a2, c, by simp [hc], h3⟩
   ·exact ⟨a1, a2, _, by simp, h3⟩
  ·rintro ⟨a1, a2, c, hc, h3⟩;rcases List.mem_append.1 hc with hc | hc
   ·exact .inl ⟨a1, a2, c, hc, h3⟩
   ·simp at hc; subst hc; exact .inr ⟨a1, a2, h3⟩
theorem zch.fin {f v : Poly p} {O : List (Poly p)} (h : zch f v p.toNat O) (hm : Mon f) (hd : 2 <= dg f) (hv : Ber f v) : zbK f O := by
 have hc := (Parts.start hm hd).cut hv;have e : zT v [f] = xm v f p.toNat := by simp [zT]
 rw [e] at hc;refine ⟨h.1, λq => ?_⟩;rw [h.2]
 constructor
 ·rintro ⟨a1, a2, c, h1, h2⟩;exact ⟨a1, a2, zy h2 (hc.1.each c h1).2.2⟩
 ·rintro ⟨a1, a2, h1⟩;obtain ⟨c, h2, h3⟩ := hc.1.all q a1 h1;exact ⟨a1, a2, c, h2, h3⟩
theorem znK {f v : Poly p} {n : Nat} (_hf : dg f = n + 1) (h2 : 2 <= dg v) (hv : dg v <= n) (s : Int) : dg (gcd f (v - con p s)) <= n := by
 have h1 : v - con p s ≠ 0 := λe => by
  have h3 := zeC (v - con p s) (con p s);have e2 : v - con p s + con p s = v := by exact zf [v, con p s] (by rfl)
  rw [e2, e, zC] at h3;have := jb (p := p) s;omega
 have h3 := zP (xR f (v - con p s)) h1;have h4 := vH v (con p s);have := jb (p := p) s;omega

end Poly

def yc {α : Type} (G : List α) (k : Nat) (x : α) : List α := G.take k ++ [x] ++ G.drop k
theorem zeX {α : Type} {G : List α} {k j : Nat} {x d : α} (hk : k <= G.length) (h : j < k) : (yc G k x).getD j d = G.getD j d := by
 rw [yc, List.append_assoc, List.getD_eq_getElem?_getD, List.getD_eq_getElem?_getD, List.getElem?_append_left (by simp; omega), List.getElem?_take_of_lt h]
theorem zeY {α : Type} {G : List α} {k : Nat} {x d : α} (hk : k <= G.length) : (yc G k x).getD k d = x := by
 simp [yc, List.getD_eq_getElem?_getD, Nat.min_eq_left hk]
theorem zeZ {α : Type} {G : List α} {k j : Nat} {x d : α} (hk : k <= G.length) : (yc G k x).getD (k + 1 + j) d = G.getD (k + j) d := by
 rw [yc, List.getD_eq_getElem?_getD, List.getD_eq_getElem?_getD, List.getElem?_append_right (by simp [Nat.min_eq_left hk]), List.getElem?_drop];simp [Nat.min_eq_left hk]
theorem zgw {α : Type} {G : List α} {k : Nat} {x y : α} : y ∈ yc G k x ↔ y = x ∨ y ∈ G := by
 have : y ∈ G ↔ y ∈ G.take k ++ G.drop k := by rw [List.take_append_drop]
 rw [this, yc];simp only [List.mem_append, List.mem_singleton]
 constructor
 ·rintro ((h | h) | h)
  ·exact .inr (.inl h)
  ·exact .inl h
  ·exact .inr (.inr h)
 ·rintro (h | h | h)
  ·exact .inl (.inr h)
  ·exact .inl (.inl h)
  ·exact .inr h
theorem zci {α : Type} {G : List α} {k : Nat} {x : α} (hk : k <= G.length) : (yc G k x).length = G.length + 1 := by
 simp [yc]; omega

namespace Poly
variable {p : Int} [SP p]

abbrev Srt (G : List (Poly p × Nat)) : Prop := G.Pairwise λx y => ltP x.1 y.1

theorem zdR {α : Type} {d : α} {G : List α} {j : Nat} (h : j < G.length) : G.getD j d = G[j] := by
 rw [List.getD_eq_getElem?_getD, List.getElem?_eq_getElem h]; rfl

theorem Srt.put {G : List (Poly p × Nat)} (h : Srt G) {k : Nat} {x : Poly p × Nat} (hk : k <= G.length) (h1 : ∀ j, j < k -> ltP (G.getD j (0, 0)).1 x.1) (h2 : k = G.length ∨ ¬ ltP (G.getD k (0, 0)).1 x.1) (hn : ∀ y ∈ G, y.1 ≠ x.1) : Srt (yc G k x) := by
 have hG := h;rw [<- List.take_append_drop k G] at hG;obtain ⟨a1, a2, a3⟩ := List.pairwise_append.1 hG
 have ht : ∀ a ∈ G.take k, ltP a.1 x.1 := λa ha => by
  obtain ⟨j, hj, e⟩ := List.getElem_of_mem ha;have hj' : j < k ∧ j < G.length := by simp at hj; omega
  have := h1 j hj'.1;rw [zdR hj'.2] at this;rw [List.getElem_take] at e;rw [<- e]; exact this
 have hd : ∀ a ∈ G.drop k, ltP x.1 a.1 := λa ha => by
  obtain ⟨j, hj, e⟩ := List.getElem_of_mem ha;have hj' : k + j < G.length := by simp at hj; omega
  rw [List.getElem_drop] at e;have hk' : k < G.length := by omega
  have hx := h2.resolve_left (by omega);rw [zdR hk'] at hx;have hlt : ltP x.1 G[k].1 := (zgq (hn G[k] (List.getElem_mem hk'))).resolve_left hx;rcases Nat.eq_zero_or_pos j with h0 | h0
  ·subst h0; rw [<- e]; exact hlt
  ·rw [<- e];exact zcO hlt (List.pairwise_iff_getElem.1 h k (k + j) hk' hj' (by omega))
 refine List.pairwise_append.2 ⟨List.pairwise_append.2 ⟨a1, List.pairwise_singleton _ _, λa ha b hb => ?_⟩, a2, λa ha b hb => ?_⟩
 ·rw [List.mem_singleton.1 hb]; exact ht a ha
 ·rcases List.mem_append.1 ha with h' | h'
  ·exact a3 a h' b hb
  ·rw [List.mem_singleton.1 h']; exact hd b hb

structure PutOf (f : Poly p) (t : Nat) (G G' : List (Poly p × Nat)) : Prop where
 srt : Srt G'
 mem : ∀ x, x ∈ G' ↔ x ∈ G ∨ ∃ e, zbm f (x.1, e) ∧ x.2 = t * e

theorem PutOf.unit {f : Poly p} (h : dg f = 1) {t : Nat} {G : List (Poly p × Nat)} (hG : Srt G) : PutOf f t G G :=
 ⟨hG, λ_x => ⟨.inl, λhx => hx.elim id λ⟨_e, he, _⟩ => (zeW h _ he).elim⟩⟩
theorem PutOf.root {g f : Poly p} (hg : g ≠ 0) {n t : Nat} (hn : 1 <= n) (he : g ^ n = f) {G G' : List (Poly p × Nat)} (h : PutOf g (n * t) G G') : PutOf f t G G' :=
 ⟨h.srt, λx => by
  rw [h.mem];refine or_congr Iff.rfl ⟨λ⟨e, h1, h2⟩ => ⟨n * e, (zcS hg hn he _).2 ⟨e, h1, rfl⟩, by rw [h2, Nat.mul_comm n t, Nat.mul_assoc]⟩, λ⟨e, h1, h2⟩ => ?_⟩;obtain ⟨e', h3, h4⟩ := (zcS hg hn he _).1 h1;have h4 : e = n * e' := h4;exact ⟨e', h3, by rw [h2, h4, Nat.mul_comm n t, Nat.mul_assoc]⟩⟩
theorem PutOf.fac {f : Poly p} {F : List (Poly p × Nat)} (h : PutOf f 1 [] F) : jH f F :=
 ⟨h.srt, λx => by
  rw [h.mem];refine ⟨λhx => hx.elim (λh => by simp at h) λ⟨e, h1, h2⟩ => ?_, λhx => .inr ⟨x.2, hx, by omega⟩⟩;obtain rfl : e = x.2 := by omega
  exact h1⟩

structure Putting (f : Poly p) (P : List (Poly p)) (t : Nat) (G : List (Poly p × Nat)) (k : Nat) (r : Poly p) (L H : List (Poly p × Nat)) : Prop where
 peel : Peel f P k r L
 srt : Srt H
 mem : ∀ x, x ∈ H ↔ x ∈ G ∨ x ∈ up t L
 len : H.length = G.length + k

theorem Putting.start {f : Poly p} (hm : Mon f) (P : List (Poly p)) (t : Nat) {G : List (Poly p × Nat)} (hG : Srt G) : Putting f P t G 0 f [] G :=
 ⟨Peel.start hm P, hG, λx => by simp [up], rfl⟩

theorem zj4 {p : Int} {t : Nat} {L : List (Poly p × Nat)} {x : Poly p × Nat} (h : x ∈ up t L) : ∃ y ∈ L, x = (y.1, t * y.2) := by
 obtain ⟨y, hy, e⟩ := List.mem_map.1 h;exact ⟨y, hy, e.symm⟩

theorem Peel.mem_fst {f r : Poly p} {P : List (Poly p)} {k : Nat} {L : List (Poly p × Nat)} (h : Peel f P k r L) {y : Poly p × Nat} (hy : y ∈ L) : ∃ j, j < k ∧ y.1 = P.getD j 0 := by
 obtain ⟨j, hj, e⟩ := List.getElem_of_mem hy;have hjk : j < k := by rw [<- h.len]; exact hj
 have := (h.fac j hjk).1;rw [zdR hj, e] at this;exact ⟨j, hjk, this⟩

theorem Putting.step {f r r' : Poly p} {P : List (Poly p)} {t k n i : Nat} {G L H : List (Poly p × Nat)} (h : Putting f P t G k r L H) (hG : ∀ x ∈ G, ¬ x.1 ∣ f) (hP : P.Nodup) (hk : k < P.length) (hi : Irr (P.getD k 0)) (hm : Mon (P.getD k 0)) (hd : P.getD k 0 ∣ f)
  (he : r = P.getD k 0 ^ n * r') (hn : ¬ P.getD k 0 ∣ r') (hil : i <= H.length) (h1 : ∀ j, j < i -> ltP (H.getD j (0, 0)).1 (P.getD k 0)) (h2 : i = H.length ∨ ¬ ltP (H.getD i (0, 0)).1 (P.getD k 0)) :
  Putting f P t G (k + 1) r' (L ++ [(P.getD k 0, n)]) (yc H i (P.getD k 0, n * t)) := by
 refine ⟨h.peel.step hP hk hi hm hd he hn, h.srt.put hil h1 h2 λy hy e => ?_, λx => ?_, by rw [zci hil, h.len]; omega⟩
 ·have e : y.1 = P.getD k 0 := e;rcases (h.mem y).1 hy with hy | hy
  ·exact hG y hy (e ▸ hd)
  ·obtain ⟨z, hz, rfl⟩ := zj4 hy;obtain ⟨j, hj, e'⟩ := h.peel.mem_fst hz;have := zbM hP hk (by omega) (e.symm.trans e');omega
 ·rw [zgw, h.mem];have : up t (L ++ [(P.getD k 0, n)]) = up t L ++ [(P.getD k 0, n * t)] := by simp [up, Nat.mul_comm]
  rw [this, List.mem_append, List.mem_singleton]
  constructor
  ·rintro (h | h | h)
   ·exact .inr (.inr h)
   ·exact .inl h
   ·exact .inr (.inl h)
  ·rintro (h | h | h)
   ·exact .inr (.inl h)
   ·exact .inr (.inr h)
   ·exact .inl h

theorem Putting.apart {f r : Poly p} {P : List (Poly p)} {t : Nat} {G L H : List (Poly p × Nat)} (h : Putting f P t G P.length r L H) (hG : ∀ x ∈ G, ¬ x.1 ∣ f) : ∀ x ∈ H, ¬ x.1 ∣ r := by
 intro x hx hd;rcases (h.mem x).1 hx with hx | hx
 ·obtain ⟨s, hs, _⟩ := h.peel.cut;exact hG x hx (zy hd ⟨s, hs⟩)
 ·obtain ⟨z, hz, rfl⟩ := zj4 hx;obtain ⟨j, hj, e'⟩ := h.peel.mem_fst hz;exact h.peel.out j hj (by rw [<- e']; exact hd)

theorem Putting.fin {f r : Poly p} {P : List (Poly p)} {t : Nat} {G L H G' : List (Poly p × Nat)} (h : Putting f P t G P.length r L H) (hf : Mon f) {q c : Poly p} (hq : zbK q P) (he : f = q * c) (hc : c ∣ der f) (hG' : PutOf r t H G') : PutOf f t G G' := by
 obtain ⟨_, h2⟩ := h.peel.fin hf hq he hc;refine ⟨hG'.srt, λx => ?_⟩;rw [hG'.mem, h.mem]
 constructor
 ·rintro ((h3 | h3) | ⟨e, h3, h4⟩)
  ·exact .inl h3
  ·obtain ⟨z, hz, rfl⟩ := zj4 h3;exact .inr ⟨z.2, (h2 _).2 (.inl hz), rfl⟩
  ·exact .inr ⟨e, (h2 _).2 (.inr h3), h4⟩
 ·rintro (h3 | ⟨e, h3, h4⟩)
  ·exact .inl (.inl h3)
  ·rcases (h2 _).1 h3 with h5 | h5
   ·refine .inl (.inr (List.mem_map.2 ⟨_, h5, Prod.ext rfl h4.symm⟩))
   ·exact .inr ⟨e, h5, h4⟩

theorem Peel.less {f r : Poly p} {P : List (Poly p)} {L : List (Poly p × Nat)} (h : Peel f P P.length r L) (hf : Mon f) {q c : Poly p} (hq : zbK q P) (he : f = q * c) (hq2 : 2 <= dg q) : dg r < dg f := by
 obtain ⟨g, g1, g2, g3⟩ := zbG _ q (Nat.le_refl _) hq2;obtain ⟨j, hj, e⟩ := List.getElem_of_mem ((hq.2 g).2 ⟨g1, g2, g3⟩);have hg : g = P.getD j 0 := by rw [zdR hj, e]
 obtain ⟨s, hs, _⟩ := h.cut;have hr0 := h.mon.1;have hs0 : s ≠ 0 := λe => hf.1 (by rw [hs, e]; exact zf [r] (by rfl));have h1 := yM hr0 hs0;rw [<- hs] at h1
 have hgs : g ∣ s := by
  have : g ∣ r * s := by rw [<- hs, he]; exact zy g3 ⟨c, rfl⟩
  rcases g1.prime this with h2 | h2
  ·exact absurd (hg ▸ h2) (h.out j hj)
  ·exact h2
 have h2 := zP hgs hs0;have h3 := g1.1;omega

theorem ziO {a : Poly p} {n : Nat} (h : 1 <= n) : a ∣ a ^ n := by
 obtain ⟨m, rfl⟩ : ∃ m, n = m + 1 := ⟨n - 1, by omega⟩
 exact ⟨a ^ m, by rw [zj]; exact jp _ _⟩

theorem znL {g f : Poly p} (hg : Mon g) (he : g ^ p.toNat = f) (h2 : 2 <= dg f) : p.toNat < dg f := by
 have : 2 <= dg g := by
  refine Classical.byContradiction λh => ?_
  have h1 : dg g = 1 := by
   have : dg g ≠ 0 := λe => hg.1 (zd.1 e);omega
  have h3 : g = 1 := zjV hg zkZ (znn h1 _) (zdJ g);rw [h3, zdM] at he;rw [<- he, yV] at h2;omega
 have := zeL this p.toNat;rw [he] at this;exact this

theorem zj5 {f h : Poly p} (hf : f ≠ 0) (hF : jH f [(h, 1)]) : Irr f := by
 obtain ⟨h1, h2, _, u, hu, hn⟩ := (hF.2 (h, 1)).1 (by simp);have h1 : Irr h := h1;have h2 : Mon h := h2;have hu : f = h * u := by rw [hu, zj, zv]; exact zf [h, u] (by rfl)
 have hu0 : u ≠ 0 := λe => hf (by rw [hu, e]; exact zf [h] (by rfl))
 have hd : dg u = 1 := by
  have h0 : dg u ≠ 0 := λe => hu0 (zd.1 e);rcases Nat.lt_or_ge (dg u) 2 with h3 | h3
  ·omega
  ·obtain ⟨g, g1, g2, g3⟩ := zbG _ u (Nat.le_refl _) h3;have hgf : g ∣ f := by rw [hu]; exact ye h g3
   obtain ⟨e, he⟩ := j4 g1.1 _ f hf (Nat.le_refl _)
   have he1 : 1 <= e := by
    rcases Nat.eq_zero_or_pos e with h4 | h4
    ·subst h4; exact absurd hgf (xe.1 he)
    ·exact h4
   have hm := (hF.2 (g, e)).2 ⟨g1, g2, he1, he⟩;rw [List.mem_singleton] at hm;have : g = h := congrArg Prod.fst hm;rw [this] at g3;exact absurd g3 hn
 obtain ⟨v, hv⟩ := jD hd
 have hv0 : v ≠ 0 := λe => by
  rw [e] at hv;exact zeE (p := p) (by rw [<- hv]; exact zf [u] (by rfl))
 have hdv : dg v = 1 := by
  have := yM hu0 hv0;rw [hv, yV] at this;omega
 have hdf := yM h1.ne hu0;rw [<- hu] at hdf;refine ⟨by have := h1.1; omega, λa b hab => ?_⟩
 have hh : h = a * (b * v) := by
  have : h = f * v := by
   have e : h * u * v = h * (u * v) := by exact zf [h, u, v] (by rfl)
   rw [hu, e, hv]; exact zf [h] (by rfl)
  rw [this, hab]; exact zf [a, b, v] (by rfl)
 rcases h1.2 _ _ hh with h3 | h3
 ·exact .inl h3
 ·have hb0 : b ≠ 0 := λe => hf (by rw [hab, e]; exact zf [a] (by rfl));have := yM hb0 hv0;exact .inr (by omega)

theorem zj6 {f : Poly p} (hf : Irr f) : jH f [(mnc f, 1)] := by
 obtain ⟨a1, a2⟩ := ya f;obtain ⟨b1, b2⟩ := j2 hf;have hm : yb (mnc f) 1 f := kZ a1 a2 b2.1 b1 1 (ziH b1);refine ⟨List.pairwise_singleton _ _, λx => ?_⟩;rw [List.mem_singleton]
 constructor
 ·rintro rfl;exact ⟨b1, b2, Nat.le_refl _, hm⟩
 ·rintro ⟨c1, c2, c3, c4⟩;have h1 : x.1 = mnc f := zbF c1 b1 c2 b2 (zy (c4.dvd c3) a2)
  have h2 : x.2 = 1 := by
   rw [h1] at c4;exact c4.unique b1.ne hm
  exact Prod.ext h1 h2

end Poly
namespace Poly

def zj7 (p : Nat) : Nat -> Nat -> List Int
 | 0, _ => []
 | k + 1, n => if n = 0 then [] else ((n % p : Nat) : Int) :: zj7 p k (n / p)
def dig (p n : Nat) : List Int := zj7 p n n
def num (p : Nat) : List Int -> Nat
 | [] => 0
 | c :: l => c.toNat + p * num p l

theorem ziP {p : Nat} (hp : 2 <= p) : ∀ (n k j : Nat), n <= k -> n <= j -> zj7 p k n = zj7 p j n := by
 intro n
 induction n using Nat.strongRecOn with
 | ind n ih =>
  intro k j hk hj
  by_cases h0 : n = 0
  ·subst h0; cases k <;> cases j <;> simp [zj7]
  ·obtain ⟨k, rfl⟩ : ∃ k', k = k' + 1 := ⟨k - 1, by omega⟩
   obtain ⟨j, rfl⟩ : ∃ j', j = j' + 1 := ⟨j - 1, by omega⟩
   have h1 : n / p < n := Nat.div_lt_self (by omega) hp;simp only [zj7, if_neg h0]
   rw [ih (n / p) h1 k j (by omega) (by omega)]
theorem kF (p : Nat) : dig p 0 = [] := rfl
theorem jk {p n : Nat} (hp : 2 <= p) (h : 0 < n) : dig p n = ((n % p : Nat) : Int) :: dig p (n / p) := by
 have h1 : n / p < n := Nat.div_lt_self h hp;unfold dig;obtain ⟨k, rfl⟩ : ∃ k, n = k + 1 := ⟨n - 1, by omega⟩
 show (if k + 1 = 0 then [] else (((k + 1) % p : Nat) : Int) :: zj7 p k ((k + 1) / p)) = _
 rw [if_neg (by omega), ziP hp _ k _ (by omega) (Nat.le_refl _)]

def zmd (p : Nat) (l : List Int) : Prop := ∀ x ∈ l, 0 <= x ∧ x < p
theorem ziQ {p : Nat} (hp : 2 <= p) (n : Nat) : zmd p (dig p n) := by
 induction n using Nat.strongRecOn with
 | ind n ih =>
  by_cases h0 : n = 0
  ·subst h0; intro x hx; simp [kF] at hx
  ·rw [jk hp (by omega)];intro x hx;rcases List.mem_cons.1 hx with rfl | hx
   ·have := Nat.mod_lt n (show 0 < p by omega); omega
   ·exact ih (n / p) (Nat.div_lt_self (by omega) hp) x hx
theorem zhi {p : Nat} (hp : 2 <= p) (n : Nat) : num p (dig p n) = n := by
 induction n using Nat.strongRecOn with
 | ind n ih =>
  by_cases h0 : n = 0
  ·subst h0; rfl
  ·rw [jk hp (by omega), num, ih (n / p) (Nat.div_lt_self (by omega) hp), Int.toNat_natCast];have := Nat.mod_add_div n p; omega
theorem zhj {p : Nat} (hp : 2 <= p) : ∀ {l : List Int}, zmd p l -> v8 l -> l ≠ [] -> 0 < num p l
 | [], _, _, h => absurd rfl h
 | [c], hd, hz, _ => by
  have h1 := hd c (by simp);have h2 := hz 0 rfl;simp only [zx] at h2
  simp only [num]; omega
 | c :: b :: l, hd, hz, _ => by
  have h1 := zhj hp (l := b :: l) (λx hx => hd x (by simp at hx ⊢; exact .inr hx)) (λn hn => by have := hz (n + 1) (by simp at hn ⊢; omega); rwa [zk] at this) (by simp);simp only [num] at h1 ⊢
  have : 0 < p * (b.toNat + p * num p l) := Nat.mul_pos (by omega) h1;omega
theorem zhk {p : Nat} (hp : 2 <= p) : ∀ {l : List Int}, zmd p l -> v8 l -> dig p (num p l) = l
 | [], _, _ => rfl
 | c :: l, hd, hz => by
  have h0 := zhj hp hd hz (by simp);have hc := hd c (by simp);have hl : v8 l := λn hn => by have := hz (n + 1) (by simp [hn]); rwa [zk] at this
  rw [jk hp h0]
  have h1 : num p (c :: l) % p = c.toNat := by
   show (c.toNat + p * num p l) % p = _
   rw [Nat.add_mul_mod_self_left, Nat.mod_eq_of_lt (by omega)]
  have h2 : num p (c :: l) / p = num p l := by
   show (c.toNat + p * num p l) / p = _
   rw [Nat.add_mul_div_left _ _ (by omega), Nat.div_eq_of_lt (by omega), Nat.zero_add]
  rw [h1, h2, zhk hp (λx hx => hd x (by simp [hx])) hl]
  congr 1; omega
theorem znM {p : Nat} (hp : 2 <= p) (n : Nat) : v8 (dig p n) := by
 induction n using Nat.strongRecOn with
 | ind n ih =>
  by_cases h0 : n = 0
  ·subst h0; intro k hk; simp [kF] at hk
  ·have h1 := ih (n / p) (Nat.div_lt_self (by omega) hp);rw [jk hp (by omega)];intro k hk
   by_cases h2 : n / p = 0
   ·rw [h2, kF] at hk ⊢;obtain rfl : k = 0 := by simpa using hk.symm
    rw [zx]
    have h3 : n < p := by
     rcases Nat.lt_or_ge n p with h | h
     ·exact h
     ·have := Nat.div_pos h (by omega); omega
    rw [Nat.mod_eq_of_lt h3]; omega
   ·have h3 : dig p (n / p) ≠ [] := by rw [jk hp (Nat.pos_of_ne_zero h2)]; simp
    cases k with
    | zero => simp only [List.length_cons] at hk; exact absurd (List.eq_nil_of_length_eq_zero (by omega)) h3
    | succ k => rw [zk]; exact h1 k (by simpa using hk)
theorem ze0 {p : Nat} (hp : 2 <= p) : ∀ (k n : Nat), p ^ k <= n -> n < p ^ (k + 1) -> (dig p n).length = k + 1
 | 0, n, h1, h2 => by
  rw [jk hp (by rw [Nat.pow_zero] at h1; omega)];have : n / p = 0 := Nat.div_eq_of_lt (by simpa using h2);rw [this, kF]; rfl
 | k + 1, n, h1, h2 => by
  have hk : 0 < p ^ (k + 1) := Nat.pow_pos (by omega);rw [jk hp (by omega)];have h3 : p ^ k <= n / p := (Nat.le_div_iff_mul_le (by omega)).2 (by rw [<- Nat.pow_succ]; exact h1);have h4 : n / p < p ^ (k + 1) := (Nat.div_lt_iff_lt_mul (by omega)).2 (by rw [<- Nat.pow_succ]; exact h2);simp [ze0 hp k (n / p) h3 h4]
theorem zbn {p : Nat} (hp : 2 <= p) : ∀ (k n : Nat), n < p ^ k -> (dig p n).length <= k
 | 0, n, h => by have : n = 0 := by simpa using h
                 subst this; simp [kF]
 | k + 1, n, h => by
   by_cases h0 : n = 0
   · subst h0; simp [kF]
   · rw [jk hp (by omega)]
     have h4 : n / p < p ^ k := (Nat.div_lt_iff_lt_mul (by omega)).2 (by rw [<- Nat.pow_succ]; exact h);have := zbn hp k (n / p) h4;simp; omega
theorem zhl {p : Nat} (hp : 2 <= p) : ∀ {l : List Int}, zmd p l -> num p l < p ^ l.length
 | [], _ => by simp [num]
 | c :: l, hd => by
  have h1 := zhl hp (l := l) λx hx => hd x (by simp [hx]);have hc := hd c (by simp)
  have h2 : p * num p l + p <= p * p ^ l.length := by
   have := Nat.mul_le_mul_left p h1;rw [Nat.mul_succ] at this; exact this
  simp only [num, List.length_cons, Nat.pow_succ, Nat.mul_comm (p ^ l.length) p]
  omega
theorem zbN {p : Nat} : ∀ (l m : List Int), num p (l ++ m) = num p l + p ^ l.length * num p m
 | [], m => by simp [num]
 | c :: l, m => by
  simp only [List.cons_append, num, zbN l m, List.length_cons, Nat.pow_succ]
  rw [Nat.mul_add, <- Nat.mul_assoc, Nat.mul_comm (p ^ l.length) p, Nat.add_assoc]

theorem zcT {p : Nat} (l : List Int) (i : Nat) (h : i <= l.length) : num p l = num p (l.take i) + p ^ i * num p (l.drop i) := by
 have := zbN (p := p) (l.take i) (l.drop i)
 rwa [List.take_append_drop, List.length_take, Nat.min_eq_left h] at this
theorem ze1 {p : Nat} {l : List Int} {i : Nat} (h : i < l.length) : num p (l.drop i) = (cf l i).toNat + p * num p (l.drop (i + 1)) := by
 rw [List.drop_eq_getElem_cons h, num, yE h]
theorem zcU {p : Nat} : ∀ (i : Nat) (m : List Int), num p (List.replicate i 0 ++ m) = p ^ i * num p m
 | 0, m => by simp
 | i + 1, m => by
  rw [List.replicate_succ, List.cons_append, num, zcU i m, Nat.pow_succ];simp [Nat.mul_comm, Nat.mul_assoc]
theorem zcV {p : Nat} (hp : 2 <= p) {l : List Int} : ∀ {i : Nat}, i <= l.length -> (∀ j, j < i -> cf l j = p - 1) -> num p (l.take i) + 1 = p ^ i
 | 0, _, _ => by simp [num]
 | i + 1, hi, h => by
  have h1 := zcV hp (l := l) (i := i) (by omega) λj hj => h j (by omega);have h2 := h i (by omega)
  have h3 : l.take (i + 1) = l.take i ++ [cf l i] := by
   rw [List.take_add_one, List.getElem?_eq_getElem (by omega), yE (by omega)]; rfl
  rw [h3, zbN, List.length_take, Nat.min_eq_left (by omega), h2, Nat.pow_succ];have h4 : num p [((p : Int) - 1)] = p - 1 := by simp only [num]; omega
  rw [h4];obtain ⟨q, rfl⟩ : ∃ q, p = q + 1 := ⟨p - 1, by omega⟩
  simp only [Nat.add_sub_cancel, Nat.mul_add, Nat.mul_one]
  omega

structure Top (p d : Nat) (l : List Int) : Prop where
 len : l.length = d + 1
 one : cf l d = 1
 digs : zmd p l
theorem Top.last {p d : Nat} {l : List Int} (h : Top p d l) : v8 l := λn hn => by
 have := h.len;obtain rfl : n = d := by omega
 rw [h.one]; omega
theorem Top.num_eq {p d : Nat} {l : List Int} (h : Top p d l) : num p l = num p (l.take d) + p ^ d := by
 have h1 := h.len;rw [zcT l d (by omega), ze1 (by omega), h.one, List.drop_of_length_le (by omega)];simp [num]
theorem Top.take_lt {p d : Nat} (hp : 2 <= p) {l : List Int} (h : Top p d l) : num p (l.take d) < p ^ d := by
 have h1 := zhl hp (l := l.take d) λx hx => h.digs x (List.mem_of_mem_take hx);rw [List.length_take, h.len, Nat.min_eq_left (by omega)] at h1;exact h1
theorem Top.range {p d : Nat} (hp : 2 <= p) {l : List Int} (h : Top p d l) : p ^ d <= num p l ∧ num p l < 2 * p ^ d := by
 have h2 := h.num_eq;have h3 := h.take_lt hp;omega
theorem Top.dig {p d : Nat} (hp : 2 <= p) {l : List Int} (h : Top p d l) : Poly.dig p (num p l) = l := zhk hp h.digs h.last
theorem znN {p d k : Nat} (hp : 2 <= p) (h1 : p ^ d <= k) (h2 : k < 2 * p ^ d) : Top p d (dig p k) := by
 have hl : (dig p k).length = d + 1 := ze0 hp d k h1 (by rw [Nat.pow_succ, Nat.mul_comm]; exact Nat.lt_of_lt_of_le h2 (Nat.mul_le_mul_right _ hp));have hd := ziQ hp k;refine ⟨hl, ?_, hd⟩;have h3 := zcT (p := p) (dig p k) d (by omega);rw [zhi hp, ze1 (by omega), List.drop_of_length_le (by omega)] at h3;have h4 := zhl hp (l := (dig p k).take d) λx hx => hd x (List.mem_of_mem_take hx);rw [List.length_take, hl, Nat.min_eq_left (by omega)] at h4;have h5 := hd _ (List.getElem_mem (l := dig p k) (n := d) (by omega));rw [<- yE (by omega)] at h5;simp only [num, Nat.mul_zero, Nat.add_zero] at h3
 generalize hc : (cf (dig p k) d).toNat = c at h3
 have h6 : c = 1 := by
  rcases Nat.lt_trichotomy c 1 with h | h | h
  ·have : c = 0 := by omega
   subst this; omega
  ·exact h
  ·have : p ^ d * 2 <= p ^ d * c := Nat.mul_le_mul_left _ h;omega
 omega
theorem zcW (c : Int) (m : List Int) : ∀ i : Nat, cf (List.replicate i 0 ++ c :: m) i = c
 | 0 => rfl
 | i + 1 => by rw [List.replicate_succ, List.cons_append, zk]; exact zcW c m i
theorem znO {p d : Nat} (hp : 2 <= p) {l o : List Int} (h : Top p d l) {i : Nat} (hi : i < d) (h9 : ∀ j, j < i -> cf l j = p - 1) (hc : cf l i < p - 1) (hol : o.length = d + 1)
  (ho : ∀ j, cf o j = if j < i then 0 else if j = i then cf l i + 1 else cf l j) : Top p d o ∧ num p o = num p l + 1 := by
 have hl := h.len;have hci := h.digs _ (List.getElem_mem (l := l) (n := i) (by omega));rw [<- yE (by omega)] at hci
 have hoe : o = List.replicate i 0 ++ ((cf l i + 1) :: l.drop (i + 1)) := by
  refine zaL (by simp; omega) λj hj => ?_;rw [ho]
  by_cases h1 : j < i
  ·rw [if_pos h1, yE (by simp; omega), List.getElem_append_left (by simpa using h1)]; simp
  ·rw [if_neg h1]
   by_cases h2 : j = i
   ·subst h2;rw [if_pos rfl, zcW]
   ·rw [if_neg h2, yE (l := l) (by omega), yE (by rw [List.length_append, List.length_cons, List.length_replicate, List.length_drop]; omega), List.getElem_append_right (by rw [List.length_replicate]; omega)];simp only [List.length_replicate]
    obtain ⟨q, hq⟩ : ∃ q, j - i = q + 1 := ⟨j - i - 1, by omega⟩
    simp only [hq, List.getElem_cons_succ, List.getElem_drop]
    congr 1; omega
 refine ⟨⟨hol, ?_, λx hx => ?_⟩, ?_⟩
 ·rw [ho, if_neg (by omega), if_neg (by omega), h.one]
 ·obtain ⟨j, hj, rfl⟩ := List.getElem_of_mem hx;rw [<- yE hj, ho];have hdj := h.digs _ (List.getElem_mem (l := l) (n := j) (by omega));rw [<- yE (by omega)] at hdj
  split
  ·omega
  ·split
   ·omega
   ·exact hdj
 ·rw [hoe, zcU, num];have h3 := zcT (p := p) l i (by omega);rw [ze1 (by omega)] at h3;have h4 := zcV hp (l := l) (i := i) (by omega) h9;have h5 : (cf l i + 1).toNat = (cf l i).toNat + 1 := by omega
  rw [h5, h3];generalize p ^ i = q at *;simp only [Nat.mul_add, Nat.mul_one]
  omega
theorem znP {p d : Nat} (hp : 2 <= p) {l : List Int} (h : Top p d l) (h9 : ∀ j, j < d -> cf l j = p - 1) : num p l + 1 = 2 * p ^ d := by
 have h1 := h.num_eq;have h2 := zcV hp (l := l) (i := d) (by have := h.len; omega) h9;omega

end Poly
namespace Poly
variable {p : Int} [SP p]

theorem k0 : 2 <= p.toNat := by have := Pr.two (p := p); omega

def xu (p : Int) [SP p] (n : Nat) : Poly p := of p (dig p.toNat n)
theorem zbe (n : Nat) : (xu p n).l = dig p.toNat n := by
 have hp := Pr.two (p := p);refine zg5 ⟨λx hx => ?_, znM (by omega) n⟩;have := ziQ (p := p.toNat) (by omega) n x hx;omega
theorem ziR {n : Nat} (h : 0 < n) : xu p n ≠ 0 := λe => by
 have hp := Pr.two (p := p);have h1 := zbe (p := p) n;rw [e, kd, jk (by omega) h] at h1; cases h1
def nm (X : Poly p) : Nat := num p.toNat X.l
theorem zj8 (X : Poly p) : zmd p.toNat X.l := λx hx => by
 have h := X.ok.1 x hx;have := Pr.two (p := p);omega
theorem znQ (X : Poly p) : xu p (nm X) = X := zai (by rw [zbe]; exact zhk k0 (zj8 X) X.ok.2)
theorem ziS (n : Nat) : nm (xu p n) = n := by unfold nm; rw [zbe, zhi k0]
theorem zqA (X : Poly p) {n : Nat} (h : dg X <= n) : nm X < p.toNat ^ n :=
 Nat.lt_of_lt_of_le (zhl k0 (zj8 X)) (Nat.pow_le_pow_right (by have := k0 (p := p); omega) h)
theorem zp0 {X : Poly p} (h : X ≠ 0) : 0 < nm X := zhj k0 (zj8 X) X.ok.2 λe => h (zai (by rw [e, kd]))
theorem znR {n k : Nat} (h : k < p.toNat ^ n) : dg (xu p k) <= n := by
 show (xu p k).l.length <= n
 rw [zbe]; exact zbn k0 n k h
theorem zme {n m : Nat} (h : xu p n = xu p m) : n = m := by rw [<- ziS (p := p) n, h, ziS]

theorem zpe {α : Type} [DecidableEq α] {l r : List α} (hl : l.Nodup) (hr : r.Nodup) (hs : ∀ x ∈ l, x ∈ r) (hn : r.length <= l.length) : l.Perm r := by
 rw [List.perm_iff_count];intro a;rw [hl.count, hr.count]
 by_cases ha : a ∈ l
 ·rw [if_pos ha, if_pos (hs a ha)]
 ·rw [if_neg ha, if_neg];intro hb
  have h1 := (List.nodup_cons.2 ⟨ha, hl⟩).length_le_of_subset (l₂ := r) (λx hx => by
   rcases List.mem_cons.1 hx with rfl | hx
   ·exact hb
   ·exact hs x hx)
  rw [List.length_cons] at h1; omega

theorem zj9 {l r : List (Poly p)} (h : l.Perm r) : xg l = xg r := by
 induction h with
 | nil => rfl
 | cons x _ ih => rw [xg, xg, ih]
 | swap x y l => simp only [xg]; exact zf [x, y, xg l] (by rfl)
 | trans _ _ h1 h2 => rw [h1, h2]

def zfM (p : Int) [SP p] (q : Nat) : List (Poly p) := (List.range (q - 1)).map λk => xu p (k + 1)
theorem ziT (q : Nat) : (zfM p q).length = q - 1 := by simp [zfM]
theorem zaO {n : Nat} {X : Poly p} : X ∈ zfM p (p.toNat ^ n) ↔ X ≠ 0 ∧ dg X <= n := by
 unfold zfM;rw [List.mem_map]
 constructor
 ·rintro ⟨k, hk, rfl⟩;have hk := List.mem_range.1 hk;exact ⟨ziR (by omega), znR (by omega)⟩
 ·rintro ⟨h0, hd⟩;have h1 := zp0 h0;have h2 := zqA X hd;exact ⟨nm X - 1, List.mem_range.2 (by omega), by rw [show nm X - 1 + 1 = nm X by omega, znQ]⟩
theorem ze2 (q : Nat) : (zfM p q).Nodup := by
 unfold zfM;rw [List.Nodup, List.pairwise_map];exact List.nodup_range.imp λh e => h (by have := zme e; omega)

theorem ze3 {f a b : Poly p} (h : rem a f = rem b f) : f ∣ a - b := by
 have h1 := xS a f;have h2 := xS b f;rw [<- h] at h2;have h3 := dvd_sub h1 h2
 rwa [show a - rem a f - (b - rem a f) = a - b from zf [a, b, rem a f] (by rfl)] at h3
theorem jI {f y : Poly p} (hy : y ≠ 0) (h : dg y < dg f) : ¬ f ∣ y := λhd => by have := zP hd hy; omega
theorem znS {f y : Poly p} (hf : f ≠ 0) (h : ¬ f ∣ y) : rem y f ≠ 0 := λe => h ((jZ hf).2 e)
theorem zgx {f : Poly p} (hi : Irr f) : ∀ {l : List (Poly p)}, (∀ y ∈ l, ¬ f ∣ y) -> ¬ f ∣ xg l
 | [], _ => hi.not_unit yV
 | y :: l, h => λhd => (hi.prime hd).elim (h y (by simp)) (zgx hi λz hz => h z (by simp [hz]))
theorem ze4 {a b : Poly p} (h : a - b = 0) : a = b := comb 1 h (zf [a, b] (by rfl))

theorem zcj {f x : Poly p} (hf : f ≠ 0) : ∀ l : List (Poly p), rem (xg (l.map λy => rem (x * y) f)) f = rem (x ^ l.length * xg l) f
 | [] => by rw [List.map_nil, xg, List.length_nil, zv, CR.one_mul]
 | y :: l => by
  rw [List.map_cons, xg, xg, List.length_cons, zj, <- xE hf, zcj hf l, xE hf, yA hf];generalize x ^ l.length = u;rw [show x * y * (u * xg l) = u * x * (y * xg l) from zf [x, y, u, xg l] (by rfl)]

def One (f x : Poly p) (e : Nat) : Prop := f ∣ x ^ e - 1
theorem zp1 {f x : Poly p} (hi : Irr f) (hx : ¬ f ∣ x) {n : Nat} (hn : dg f = n + 1) : One f x (p.toNat ^ n - 1) := by
 have hf := hi.ne
 have hper : ((zfM p (p.toNat ^ n)).map λy => rem (x * y) f).Perm (zfM p (p.toNat ^ n)) := by
  refine zpe ?_ (ze2 _) ?_ (by simp)
  ·rw [List.Nodup, List.pairwise_map];refine List.Pairwise.imp_of_mem ?_ (ze2 (p := p) (p.toNat ^ n));intro a b ha hb hne he;refine hne ?_;have h1 := ze3 he;rw [show x * a - x * b = x * (a - b) from zf [x, a, b] (by rfl)] at h1;rcases hi.prime h1 with h2 | h2
   ·exact absurd h2 hx
   ·have ha := (zaO.1 ha).2;have hb := (zaO.1 hb).2;exact ze4 (Classical.byContradiction λh0 => jI h0 (by have := vH a b; omega) h2)
  ·intro z hz;obtain ⟨y, hy, rfl⟩ := List.mem_map.1 hz;obtain ⟨h0, hd⟩ := zaO.1 hy;refine zaO.2 ⟨znS hf λh => (hi.prime h).elim hx (jI h0 (by omega)), ?_⟩;have := zX (x * y) hf;omega
 have h1 := zcj (x := x) hf (zfM p (p.toNat ^ n));rw [zj9 hper, ziT] at h1;have h2 := ze3 h1.symm;unfold One;generalize x ^ (p.toNat ^ n - 1) = u at h2;generalize hP : xg (zfM p (p.toNat ^ n)) = P at h2;rw [show u * P - P = (u - 1) * P from zf [u, P] (by rfl)] at h2;refine (hi.prime h2).resolve_right ?_;rw [<- hP];refine zgx hi λy hy => ?_;obtain ⟨h0, hd⟩ := zaO.1 hy;exact jI h0 (by omega)

/- powers that are 1 -/
theorem One.zero (f x : Poly p) : One f x 0 := by
 unfold One; rw [zv, show (1 : Poly p) - 1 = 0 from zf [(1 : Poly p)] (by rfl)]; exact dvd_zero f
theorem ziU {f a b c : Poly p} (h1 : f ∣ a - 1) (h2 : f ∣ b - c) : f ∣ a * b - c := by
 have h3 := dvd_add (xC b h1) h2
 rwa [show (a - 1) * b + (b - c) = a * b - c from zf [a, b, c] (by rfl)] at h3
theorem One.add {f x : Poly p} {a b : Nat} (h : One f x a) (k : One f x b) : One f x (a + b) := by
 unfold One; rw [pow_add]; exact ziU h k
theorem One.mul {f x : Poly p} {a : Nat} (h : One f x a) (b : Nat) : One f x (a * b) := by
 induction b with
 | zero => exact One.zero f x
 | succ b ih => rw [Nat.mul_succ]; exact ih.add h
theorem zpf {f x : Poly p} (hi : Irr f) (hx : ¬ f ∣ x) {n : Nat} (hn : dg f = n + 1) : f ∣ x * rem (x ^ (2 * p.toNat ^ n - 3)) f - 1 := by
 have h2 := hi.1
 have hq : 2 <= p.toNat ^ n := by
  have h3 : p.toNat ^ 1 <= p.toNat ^ n := Nat.pow_le_pow_right vg (by omega);have := k0 (p := p);rw [Nat.pow_one] at h3; omega
 have h1 := (zp1 hi hx hn).mul 2;unfold One at h1;rw [show (p.toNat ^ n - 1) * 2 = (2 * p.toNat ^ n - 3) + 1 by omega, zj] at h1;generalize x ^ (2 * p.toNat ^ n - 3) = u at h1 ⊢;have h3 := ye x (xS u f);have h4 := dvd_sub h1 h3
 rwa [show u * x - 1 - x * (u - rem u f) = x * rem u f - 1 from zf [u, x, rem u f] (by rfl)] at h4

end Poly
namespace Poly
variable {p : Int} [SP p]

def PrN (l : Nat) : Prop := 2 <= l ∧ ∀ d, d ∣ l -> d = 1 ∨ d = l
def znT : List (Nat × Nat) -> Nat
 | [] => 1
 | x :: l => x.1 ^ x.2 * znT l
structure FacN (n : Nat) (L : List (Nat × Nat)) : Prop where
 prod : znT L = n
 pr : ∀ x ∈ L, PrN x.1 ∧ 1 <= x.2
 one : L.Pairwise λx y => x.1 ≠ y.1
end Poly
namespace Poly

structure FacS (n : Nat) (L : List (Nat × Nat)) : Prop where
 prod : znT L = n
 pr : ∀ x ∈ L, PrN x.1 ∧ 1 <= x.2
 sort : L.Pairwise λx y => x.1 < y.1
/- a search for factors that goes up -/
/- orders, by steps down -/
structure OrdI {p : Int} [SP p] (f x : Poly p) (n : Nat) (L : List (Nat × Nat)) (i e : Nat) : Prop where
 pos : 0 < e
 dvd : e ∣ n
 one : One f x e
 todo : ∀ y ∈ L.drop i, y.1 ^ y.2 ∣ e
 done : ∀ y ∈ L.take i, y.1 ∣ e -> ¬ One f x (e / y.1)
structure OrdJ {p : Int} [SP p] (f x : Poly p) (n : Nat) (L : List (Nat × Nat)) (i : Nat) (l k j e : Nat) : Prop where
 pos : 0 < e
 dvd : e ∣ n
 one : One f x e
 todo : ∀ y ∈ L.drop (i + 1), y.1 ^ y.2 ∣ e
 done : ∀ y ∈ L.take i, y.1 ∣ e -> ¬ One f x (e / y.1)
 at_ : (∃ m, e = l ^ (k - j) * m ∧ ¬ l ∣ m ∧ j <= k) ∨ ¬ One f x (e / l)
end Poly
namespace Poly

end Poly
namespace Poly
variable {p : Int} [SP p]

theorem Cop.rem {f h : Poly p} (hc : Cop f h) : Cop f (rem h f) := by
 obtain ⟨a, b, e⟩ := hc;have h1 := vd h f;exact ⟨a + b * quo h f, b, comb 1 e (comb (-b) h1 (zf [a, b, f, h, quo h f, Poly.rem h f] (by rfl)))⟩
theorem Cop.step {a b : Poly p} (h : Cop a b) : Cop b (Poly.rem a b) := by
 have h1 := h.symm.rem;exact h1
theorem Cop.unit {a : Poly p} (h : Cop a 0) : dg a = 1 := by
 obtain ⟨u, v, e⟩ := h;exact zb8 yV ⟨u, comb (-1) e (zf [u, v, a] (by rfl))⟩
theorem znU {a b : Poly p} (_ha : a ≠ 0) (hb : b ≠ 0) (hl : dg b <= dg a) : dg (quo a b) + dg b = dg a + 1 := by
 have h1 := vd a b;have h2 := zX a hb
 have hq : quo a b ≠ 0 := λe => by
  rw [e, show (0 : Poly p) * b + Poly.rem a b = Poly.rem a b from zf [b, Poly.rem a b] (by rfl)] at h1;rw [<- h1] at h2; omega
 have h3 := yM hq hb;have hd : dg (quo a b) ≠ 0 := λe => hq (zd.1 e);have hb0 : dg b ≠ 0 := λe => hb (zd.1 e)
 have h4 : dg a <= max (dg (quo a b * b)) (dg (Poly.rem a b)) := by
  have := zeC (quo a b * b) (Poly.rem a b);rw [<- h1] at this; exact this
 have h5 : dg (quo a b * b) <= max (dg a) (dg (Poly.rem a b)) := by
  have := vH a (Poly.rem a b)
  rwa [show a - Poly.rem a b = quo a b * b from comb 1 h1 (zf [a, b, quo a b, Poly.rem a b] (by rfl))] at this
 omega

structure CofI (f h a b u v : Poly p) : Prop where
 a0 : a ≠ 0
 lt : dg b < dg a
 cop : Cop a b
 ua : f ∣ u * h - a
 vb : f ∣ v * h - b
 dv : dg v + dg a <= dg f + 1
 du : dg u + dg a <= dg f
theorem CofI.start {f h : Poly p} (hf : f ≠ 0) (hc : Cop f h) : CofI f h f (rem h f) 0 1 := by
 refine ⟨hf, zX h hf, hc.rem, ⟨-1, zf [f, h] (by rfl)⟩, ?_, by rw [yV]; omega, by rw [zC]; omega⟩;rw [CR.one_mul]; exact xS h f
theorem CofI.step {f h a b u v : Poly p} (k : CofI f h a b u v) (hb : b ≠ 0) : CofI f h b (rem a b) v (u - quo a b * v) := by
 have h1 := znU k.a0 hb (Nat.le_of_lt k.lt);have h2 := zX a hb;have h3 := vd a b;have hv := k.dv;have hu := k.du;have hlt := k.lt;refine ⟨hb, h2, k.cop.step, k.vb, ?_, ?_, by omega⟩
 ·have h4 := dvd_sub k.ua (ye (quo a b) k.vb)
  rwa [show u * h - a - quo a b * (v * h - b) = (u - quo a b * v) * h - rem a b from comb (-1) h3 (zf [u, v, h, a, b, quo a b, rem a b] (by rfl))] at h4
 ·have h5 := vH u (quo a b * v);have h6 := y0 (quo a b) v;omega
theorem CofI.few {f h a b u v : Poly p} (k : CofI f h a b u v) : dg u <= dg f ∧ dg v <= dg f ∧ dg a <= dg f ∧ dg b <= dg f := by
 have h1 := k.dv;have h2 := k.du;have h3 := k.lt;omega
theorem CofI.fin {f h a u v : Poly p} (k : CofI f h a 0 u v) {c : Int} (hc : cf a.l 0 * c % p = 1) : dg (u * con p c) < dg f ∧ f ∣ h * (u * con p c) - 1 := by
 have h1 := k.cop.unit;have h2 := zg9 (f := a) (by omega);have h3 := k.du;refine ⟨by have := y0 u (con p c); have := jb (p := p) c; omega, ?_⟩;have h4 := xC (con p c) k.ua
 have h5 : a * con p c = 1 := by
  rw [h2, zdK, <- zb7, hc]; rfl
 rwa [show (u * h - a) * con p c = h * (u * con p c) - 1 from comb (-1) h5 (zf [u, h, a, con p c] (by rfl))] at h4

end Poly
namespace Poly
variable {p : Int} [SP p]

noncomputable def frN (f X : Poly p) : Nat -> Poly p
 | 0 => X
 | k + 1 => rem (frN f X k ^ p.toNat) f
theorem zp2 {f X : Poly p} (hf : f ≠ 0) (hX : dg X < dg f) : ∀ k, dg (frN f X k) < dg f
 | 0 => hX
 | _ + 1 => zX _ hf
structure Per (f X : Poly p) (m : Nat) : Prop where
 pos : 0 < m
 back : frN f X m = X
 first : ∀ k, 0 < k -> k < m -> frN f X k ≠ X
end Poly
namespace Poly
section
variable {m : Int} [Pos m]

def cn (m : Int) [Pos m] (c : Int) : Poly m := of m [c]
theorem zbo (c : Int) (i : Nat) : cf (cn m c).l i = if i = 0 then c % m else 0 := by
 unfold cn;rw [zG];cases i with
 | zero => rw [zx, if_pos rfl]
 | succ i => rw [zk, zO, if_neg (by omega)]; simp
theorem zgy (c : Int) (f : Poly m) (i : Nat) : cf (cn m c * f).l i = c * cf f.l i % m := by
 have h := yq c 0 f i;rw [if_pos (Nat.zero_le _), Nat.sub_zero] at h;exact h
theorem zka (a b : Int) : cn m a * cn m b = cn m (a * b) := (zpX [a] [b]).symm
theorem znV (a b : Int) : cn m a + cn m b = cn m (a + b) := (znh [a] [b]).symm
theorem ze5 (a : Int) : cn m (a % m) = cn m a := zw λi => by rw [zbo, zbo]; simp
theorem zdS : cn m 0 = 0 := zw λi => by rw [zbo, zR]; simp
theorem zla : cn m m = 0 := zw λi => by rw [zbo, zR]; simp
theorem zp3 : cn m 1 = 1 := rfl
theorem znW (a : Int) : dg (cn m a) <= 1 := jC [a]

def Mn (f : Poly m) (n : Nat) : Prop := dg f = n + 1 ∧ cf f.l n = 1
theorem ziV {f : Poly m} {n : Nat} (hf : Mn f n) : ∀ (k : Nat) (a : Poly m), dg a <= k -> ∃ q r : Poly m, a = q * f + r ∧ dg r <= n := by
 intro k
 induction k with
 | zero => intro a ha; exact ⟨0, a, zf [a, f] (by rfl), by omega⟩
 | succ k ih =>
  intro a ha
  by_cases hlt : dg a <= n
  ·exact ⟨0, a, zf [a, f] (by rfl), hlt⟩
  by_cases hle : dg a <= k
  ·exact ih a hle
  have h1 := hf.1
  obtain ⟨q, r, h2, h3⟩ := ih (a - mono m (cf a.l k) (k - n) * f) (by
   refine jX λi hi => ?_;rw [ja, yq, if_pos (by omega)];rcases Nat.eq_or_lt_of_le hi with rfl | hlt'
   ·rw [show k - (k - n) = n by omega, hf.2, Int.mul_one, xd]; simp
   ·rw [z3 (f := a) (by omega), z3 (f := f) (by omega)]; simp)
  exact ⟨q + mono m (cf a.l k) (k - n), r, comb 1 h2 (zf [a, q, mono m (cf a.l k) (k - n), f, r] (by rfl)), h3⟩
theorem zgz {f d : Poly m} {n : Nat} (hf : Mn f n) (hd : d ≠ 0) : n < dg (d * f) := by
 have h0 : dg d ≠ 0 := λe => hd (zd.1 e);obtain ⟨j, hj⟩ := Nat.exists_eq_succ_of_ne_zero h0;have h1 := hf.1
 have h2 : cf (d * f).l (j + n) ≠ 0 := by
  rw [yL, zne (λi hi => z3 (by omega)) (λi hi => z3 (by omega)), hf.2, Int.mul_one, xd];exact yF hj
 have := zkX h2;omega
theorem znX {f a v : Poly m} {n : Nat} (hf : Mn f n) (h : a = v * f) (ha : dg a <= n) : a = 0 := by
 by_cases hv : v = 0
 ·rw [h, hv]; exact zf [f] (by rfl)
 ·have := zgz hf hv;rw [<- h] at this; omega
noncomputable def rdM (a f : Poly m) : Poly m := @dite _ (∃ q r : Poly m, a = q * f + r ∧ dg r < dg f) (Classical.propDecidable _) (λh => h.choose_spec.choose) λ_ => a
noncomputable def qtM (a f : Poly m) : Poly m := @dite _ (∃ q r : Poly m, a = q * f + r ∧ dg r < dg f) (Classical.propDecidable _) (λh => h.choose) λ_ => 0
theorem ze6 {f : Poly m} {n : Nat} (hf : Mn f n) (a : Poly m) : a = qtM a f * f + rdM a f ∧ dg (rdM a f) <= n := by
 have h1 := hf.1
 have h : ∃ q r : Poly m, a = q * f + r ∧ dg r < dg f := by
  obtain ⟨q, r, h2, h3⟩ := ziV hf _ a (Nat.le_refl _);exact ⟨q, r, h2, by omega⟩
 have h4 := h.choose_spec.choose_spec;unfold rdM qtM;rw [dif_pos h, dif_pos h];exact ⟨h4.1, by omega⟩
theorem yW {f : Poly m} {n : Nat} (hf : Mn f n) (a : Poly m) : dg (rdM a f) <= n := (ze6 hf a).2

def Cg (f a b : Poly m) : Prop := ∃ v, a - b = v * f
theorem Cg.refl (f a : Poly m) : Cg f a a := ⟨0, zf [a, f] (by rfl)⟩
theorem Cg.symm {f a b : Poly m} (h : Cg f a b) : Cg f b a := by
 obtain ⟨v, h⟩ := h;exact ⟨-v, comb (-1) h (zf [a, b, v, f] (by rfl))⟩
theorem Cg.trans {f a b c : Poly m} (h : Cg f a b) (k : Cg f b c) : Cg f a c := by
 obtain ⟨v, h⟩ := h;obtain ⟨w, k⟩ := k;exact ⟨v + w, comb 1 h (comb 1 k (zf [a, b, c, v, w, f] (by rfl)))⟩
theorem Cg.add {f a b c d : Poly m} (h : Cg f a b) (k : Cg f c d) : Cg f (a + c) (b + d) := by
 obtain ⟨v, h⟩ := h;obtain ⟨w, k⟩ := k;exact ⟨v + w, comb 1 h (comb 1 k (zf [a, b, c, d, v, w, f] (by rfl)))⟩
theorem Cg.sub {f a b c d : Poly m} (h : Cg f a b) (k : Cg f c d) : Cg f (a - c) (b - d) := by
 obtain ⟨v, h⟩ := h;obtain ⟨w, k⟩ := k;exact ⟨v - w, comb 1 h (comb (-1) k (zf [a, b, c, d, v, w, f] (by rfl)))⟩
theorem Cg.mul {f a b c d : Poly m} (h : Cg f a b) (k : Cg f c d) : Cg f (a * c) (b * d) := by
 obtain ⟨v, h⟩ := h;obtain ⟨w, k⟩ := k;exact ⟨v * c + b * w, comb c h (comb b k (zf [a, b, c, d, v, w, f] (by rfl)))⟩
theorem vj {f : Poly m} {n : Nat} (hf : Mn f n) (a : Poly m) : Cg f (rdM a f) a :=
 ⟨-qtM a f, comb (-1) (ze6 hf a).1 (zf [a, f, qtM a f, rdM a f] (by rfl))⟩
theorem Cg.eq {f a b : Poly m} {n : Nat} (hf : Mn f n) (h : Cg f a b) (ha : dg a <= n) (hb : dg b <= n) : a = b := by
 obtain ⟨v, h⟩ := h;have h1 := znX hf h (by have := vH a b; omega);exact comb 1 h1 (zf [a, b] (by rfl))
theorem zmf {f a b : Poly m} {n : Nat} (hf : Mn f n) (h : Cg f a b) : rdM a f = rdM b f :=
 Cg.eq hf ((vj hf a).trans (h.trans (vj hf b).symm)) (yW hf a) (yW hf b)
theorem zmg {f a : Poly m} {n : Nat} (hf : Mn f n) (ha : dg a <= n) : rdM a f = a := Cg.eq hf (vj hf a) (yW hf a) ha
theorem znY {f a q r : Poly m} {n : Nat} (hf : Mn f n) (h : a = q * f + r) (hr : dg r <= n) : rdM a f = r :=
 Cg.eq hf ((vj hf a).trans ⟨q, comb 1 h (zf [a, q, f, r] (by rfl))⟩) (yW hf a) hr

/- what is divided by the power i of p, up to multiples of f -/
def Up (p : Int) (f : Poly m) (i : Nat) (a : Poly m) : Prop := ∃ u v, a = cn m (p ^ i) * u + v * f
variable {p : Int}
theorem Up.mulr {f a : Poly m} {i : Nat} (h : Up p f i a) (b : Poly m) : Up p f i (a * b) := by
 obtain ⟨u, v, h⟩ := h;exact ⟨u * b, v * b, comb b h (zf [a, b, u, v, f, cn m (p ^ i)] (by rfl))⟩
theorem Up.neg {f a : Poly m} {i : Nat} (h : Up p f i a) : Up p f i (-a) := by
 obtain ⟨u, v, h⟩ := h;exact ⟨-u, -v, comb (-1) h (zf [a, u, v, f, cn m (p ^ i)] (by rfl))⟩
theorem Up.mul {f a b : Poly m} {i j : Nat} (h : Up p f i a) (k : Up p f j b) : Up p f (i + j) (a * b) := by
 obtain ⟨u, v, h⟩ := h;obtain ⟨u', v', k⟩ := k;refine ⟨u * u', v * b + cn m (p ^ i) * u * v', ?_⟩;rw [Int.pow_add, <- zka];exact comb b h (comb (cn m (p ^ i) * u) k (zf [a, b, u, v, u', v', f, cn m (p ^ i), cn m (p ^ j)] (by rfl)))
theorem Up.low {f a : Poly m} {i j : Nat} (h : Up p f (i + j) a) : Up p f i a := by
 obtain ⟨u, v, h⟩ := h;rw [Int.pow_add, <- zka] at h;exact ⟨cn m (p ^ j) * u, v, comb 1 h (zf [a, u, v, f, cn m (p ^ i), cn m (p ^ j)] (by rfl))⟩
theorem Up.le {f a : Poly m} {i j : Nat} (h : Up p f j a) (hij : i <= j) : Up p f i a := by
 obtain ⟨d, rfl⟩ := Nat.exists_eq_add_of_le hij;exact h.low
theorem Up.cg {f a b : Poly m} {i : Nat} (h : Up p f i a) (k : Cg f a b) : Up p f i b := by
 obtain ⟨u, v, h⟩ := h;obtain ⟨w, k⟩ := k;exact ⟨u, v - w, comb 1 h (comb (-1) k (zf [a, b, u, v, w, f, cn m (p ^ i)] (by rfl)))⟩
theorem Up.top {f a : Poly m} {k : Nat} (hm : m = p ^ k) (h : Up p f k a) : Cg f a 0 := by
 obtain ⟨u, v, h⟩ := h;rw [<- hm, zla] at h;exact ⟨v, comb 1 h (zf [a, u, v, f] (by rfl))⟩

/- inverses -/
theorem zdh {f x u v : Poly m} {n : Nat} (hf : Mn f n) (hu : dg u <= n) (hv : dg v <= n) (h1 : Cg f (x * u) 1) (h2 : Cg f (x * v) 1) : u = v := by
 refine Cg.eq hf ?_ hu hv;obtain ⟨w, h1⟩ := h1;obtain ⟨z, h2⟩ := h2;exact ⟨v * w - u * z, comb v h1 (comb (-u) h2 (zf [x, u, v, w, z, f] (by rfl)))⟩
theorem ziW {f x y : Poly m} {i : Nat} (h : Up p f i (x * y - 1)) : Up p f (i + i) (x * (y * (1 + 1 - x * y)) - 1) := by
 have h1 := (h.mul h).neg
 rwa [show -((x * y - 1) * (x * y - 1)) = x * (y * (1 + 1 - x * y)) - 1 from zf [x, y] (by rfl)] at h1
end
end Poly
namespace Poly
section
variable {m p : Int} [Pos m] [Pos p]

def im (p : Int) [Pos p] (X : Poly m) : Poly p := of p X.l
theorem jJ {m : Int} (X : Poly m) (i : Nat) : cf (im p X).l i = cf X.l i % p := zG _ _
theorem zaP {m p : Int} (hd : p ∣ m) (a : Int) : a % m % p = a % p := Int.emod_emod_of_dvd a hd
theorem zkb (hd : p ∣ m) (X Y : Poly m) : im p (X + Y) = im p X + im p Y := zw λi => by
 rw [jJ, yl, yl, jJ, jJ, zaP hd, <- Int.add_emod]
theorem zcX (hd : p ∣ m) (X Y : Poly m) : im p (X - Y) = im p X - im p Y := zw λi => by
 rw [jJ, ja, ja, jJ, jJ, zaP hd, <- Int.sub_emod]
theorem znZ {m : Int} (X : Poly m) : cf (im p X).l = λi => cf X.l i % p := funext λi => jJ X i
theorem k6 (hd : p ∣ m) (X Y : Poly m) : im p (X * Y) = im p X * im p Y := zw λi => by
 rw [jJ, yL, yL, znZ, znZ, zaP hd, zkW]
theorem zn0 (hd : p ∣ m) (c : Int) : im p (cn m c) = of p [c] := zw λi => by
 rw [jJ, zbo, zG];cases i with
 | zero => rw [if_pos rfl, zx, zaP hd]
 | succ i => rw [if_neg (by omega), zk, zO]
theorem zkc (hd : p ∣ m) : im p (1 : Poly m) = 1 := zn0 hd 1
theorem zp4 (_hd : p ∣ m) {X : Poly m} (h : im p X = 0) : ∃ Z, X = cn m p * Z := by
 refine ⟨of m (X.l.map (· / p)), zw λi => ?_⟩;have h1 : cf X.l i % p = 0 := by rw [<- jJ (p := p), h, zR]
 have h2 : cf (X.l.map (· / p)) i = cf X.l i / p := by
  by_cases hi : i < X.l.length
  ·exact znD (· / p) X.l hi
  ·rw [zN (by simpa using hi), zN (by omega)]; simp
 rw [zgy, zG, h2];have h3 : p * (cf X.l i / p) = cf X.l i := by have := Int.mul_ediv_add_emod (cf X.l i) p; omega
 have h4 : p * (cf X.l i / p % m) % m = p * (cf X.l i / p) % m := by rw [Int.mul_emod, Int.emod_emod_of_dvd _ (Int.dvd_refl m), <- Int.mul_emod]
 rw [h4, h3, xd]
def lft (m : Int) [Pos m] (Y : Poly p) : Poly m := of m Y.l
theorem ziX (hd : p ∣ m) (Y : Poly p) : im p (lft m Y) = Y := zw λi => by
 rw [jJ]; unfold lft; rw [zG, zaP hd, xd]
theorem zlb {p : Int} (hpm : p <= m) (Y : Poly p) : (lft m Y).l = Y.l := by
 refine zg5 ⟨λx hx => ?_, Y.ok.2⟩;have := Y.ok.1 x hx;omega
theorem zn1 {p : Int} (Y : Poly p) : dg (lft m Y) <= dg Y := jX λi hi => by
 unfold lft; rw [zG, z3 hi]; simp
theorem zdi {m : Int} (X : Poly m) : dg (im p X) <= dg X := jX λi hi => by rw [jJ, z3 hi]; simp
theorem zhm {f a : Poly m} (hd : p ∣ m) {q : Poly p} (h : im p a = q * im p f) : Up p f 1 a := by
 have h1 : im p (a - lft m q * f) = 0 := by
  rw [zcX hd, k6 hd, ziX hd, h]; exact zf [q, im p f] (by rfl)
 obtain ⟨Z, hZ⟩ := zp4 hd h1;refine ⟨Z, lft m q, ?_⟩;rw [Int.pow_succ, Int.pow_zero, Int.one_mul];exact comb 1 hZ (zf [a, lft m q, f, Z, cn m p] (by rfl))
theorem zp5 {f a : Poly m} (hd : p ∣ m) (h : Up p f 1 a) : ∃ q, im p a = q * im p f := by
 obtain ⟨u, v, h⟩ := h;refine ⟨im p v, ?_⟩;rw [h, zkb hd, k6 hd, k6 hd, Int.pow_succ, Int.pow_zero, Int.one_mul, zn0 hd];have : of p [p] = 0 := zla (m := p);rw [this];exact zf [im p u, im p v, im p f] (by rfl)
theorem zn2 {f a b : Poly m} (hd : p ∣ m) (h : Cg f a b) : ∃ q, im p a - im p b = q * im p f := by
 obtain ⟨v, h⟩ := h;exact ⟨im p v, by rw [<- zcX hd, h, k6 hd]⟩
end

section
variable {m p : Int} [Pos m] [SP p]
theorem ze7 {m : Int} {f : Poly m} {n : Nat} (_hd : p ∣ m) (hf : Mn f n) : dg (im p f) = n + 1 ∧ cf (im p f).l n = 1 := by
 have h1 : cf (im p f).l n = 1 := by
  rw [jJ, hf.2]; exact Int.emod_eq_of_lt (by omega) (by have := Pr.two (p := p); omega)
 have h2 := zkX (f := im p f) (n := n) (by rw [h1]; omega);have h3 := zdi (p := p) f;have := hf.1;exact ⟨by omega, h1⟩
theorem ze8 {p : Int} {f x y : Poly m} {n : Nat} (hf : Mn f n) (h : Up p f 1 (x * y - 1)) : ∀ j : Nat, ∃ z, dg z <= n ∧ Up p f (2 ^ j) (x * z - 1) := by
 intro j
 induction j with
 | zero =>
  refine ⟨rdM y f, yW hf y, h.cg ?_⟩;exact ((Cg.refl f x).mul (vj hf y).symm).sub (Cg.refl f 1)
 | succ j ih =>
  obtain ⟨z, _, h2⟩ := ih;have h3 := ziW h2;refine ⟨rdM (z * (1 + 1 - x * z)) f, yW hf _, ?_⟩;rw [Nat.pow_succ, Nat.mul_two];exact h3.cg (((Cg.refl f x).mul (vj hf _).symm).sub (Cg.refl f 1))
theorem zdj (k : Nat) : k <= 2 ^ k := Nat.le_of_lt Nat.lt_two_pow_self
theorem zaQ {f a b : Poly m} (h : Cg f (a - b) 0) : Cg f a b := by
 obtain ⟨v, h⟩ := h;exact ⟨v, comb 1 h (zf [a, b, v, f] (by rfl))⟩
theorem zaR {f x : Poly m} {n k : Nat} (hm : m = p ^ k) (hk : 1 <= k) (hf : Mn f n) (hi : Irr (im p f)) (hx : ¬ im p f ∣ im p x) : ∃ U, dg U <= n ∧ Cg f (x * U) 1 := by
 have hd : p ∣ m := by
  obtain ⟨j, rfl⟩ : ∃ j, k = j + 1 := ⟨k - 1, by omega⟩
  exact ⟨p ^ j, by rw [hm, Int.pow_succ, Int.mul_comm]⟩
 obtain ⟨a, b, hab⟩ := hi.cop hx
 have h1 : Up p f 1 (x * lft m b - 1) := by
  refine zhm hd (q := -a) ?_;rw [zcX hd, k6 hd, ziX hd, zkc hd];exact comb 1 hab (zf [a, b, im p f, im p x] (by rfl))
 obtain ⟨z, hz, h2⟩ := ze8 hf h1 k;exact ⟨z, hz, zaQ ((h2.le (zdj k)).top hm)⟩

/- roots -/
def evL : List Int -> Poly m -> Poly m
 | [], _ => 0
 | c :: l, X => cn m c + X * evL l X
def deL : List Int -> Poly m -> Poly m
 | [], _ => 0
 | _ :: l, X => evL l X + X * deL l X
theorem xo (X : Poly m) : ∀ {a b : List Int}, (∀ i, cf a i % m = cf b i % m) -> evL a X = evL b X
 | [], [], _ => rfl
 | [], c :: l, h => by
  have h0 := h 0;rw [zO, zx] at h0;have h1 := xo X (a := []) (b := l) λi => by have := h (i + 1); rwa [zO, zk] at this
  have h2 : cn m c = 0 := by rw [<- ze5, <- h0]; simp [zdS]
  rw [evL, evL, <- h1, h2, evL]; exact zf [X] (by rfl)
 | c :: l, [], h => by
  have h0 := h 0;rw [zO, zx] at h0;have h1 := xo X (a := l) (b := []) λi => by have := h (i + 1); rwa [zO, zk] at this
  have h2 : cn m c = 0 := by rw [<- ze5, h0]; simp [zdS]
  rw [evL, evL, h1, h2, evL]; exact zf [X] (by rfl)
 | c :: l, d :: k, h => by
  have h0 := h 0;rw [zx, zx] at h0;have h1 := xo X (a := l) (b := k) λi => by have := h (i + 1); rwa [zk, zk] at this
  rw [evL, evL, h1, <- ze5 c, h0, ze5]
theorem ze9 {f X Y : Poly m} (h : Cg f X Y) : ∀ l : List Int, Cg f (evL l X) (evL l Y)
 | [] => Cg.refl f 0
 | _ :: l => (Cg.refl f _).add (h.mul (ze9 h l))
theorem zn3 {f X Y : Poly m} (h : Cg f X Y) : ∀ l : List Int, Cg f (deL l X) (deL l Y)
 | [] => Cg.refl f 0
 | _ :: l => (ze9 h l).add (h.mul (zn3 h l))
theorem zkd (X D : Poly m) : ∀ l : List Int, ∃ w, evL l (X + D) = evL l X + D * deL l X + D * D * w
 | [] => ⟨0, by simp only [evL, deL]; exact zf [D] (by rfl)⟩
 | c :: l => by
  obtain ⟨w, h⟩ := zkd X D l;refine ⟨X * w + deL l X + D * w, ?_⟩;simp only [evL, deL]
  exact comb (X + D) h (zf [X, D, w, cn m c, evL l X, deL l X, evL l (X + D)] (by rfl))
theorem ziY {p : Int} {f y z s : Poly m} {l : List Int} {n k : Nat} (hm : m = p ^ k) (hf : Mn f n) (hy : Cg f (evL l y) 0) (hz : Cg f (evL l z) 0) (h1 : Up p f 1 (y - z)) (hs : Cg f (deL l z * s) 1) (dy : dg y <= n) (dz : dg z <= n) : y = z := by
 refine Cg.eq hf (zaQ ?_) dy dz;obtain ⟨w, ht⟩ := zkd z (y - z) l;rw [show z + (y - z) = y from zf [y, z] (by rfl)] at ht;generalize y - z = D at h1 ht ⊢
 -- D (slope + D w) is 0, so D = - D D w s
 have hD : Cg f D (-(D * (D * w * s))) := by
  obtain ⟨a, hy⟩ := hy;obtain ⟨b, hz⟩ := hz;obtain ⟨c, hs⟩ := hs;generalize evL l y = Y at hy ht;generalize evL l z = Z at hz ht;generalize deL l z = E at hs ht;have hy' : Y = a * f := comb 1 hy (zf [Y, a, f] (by rfl));have hz' : Z = b * f := comb 1 hz (zf [Z, b, f] (by rfl));rw [hy', hz'] at ht;exact ⟨s * (a - b) - D * c, comb (-D) hs (comb (-s) ht (zf [D, w, s, a, b, c, f, E] (by rfl)))⟩
 have hall : ∀ j, Up p f (j + 1) D := λj => by
  induction j with
  | zero => exact h1
  | succ j ih =>
   have h2 := (ih.mul ((h1.mulr w).mulr s)).neg;rw [show j + 1 + 1 = j + 1 + 1 from rfl] at h2;exact h2.cg hD.symm
 exact ((hall k).le (by omega)).top hm
theorem zmh {p : Int} {f y s : Poly m} {l : List Int} {i : Nat} (h : Up p f i (evL l y)) (hs : Cg f (deL l y * s) 1) : Up p f (i + i) (evL l (y - evL l y * s)) := by
 obtain ⟨w, ht⟩ := zkd y (-(evL l y * s)) l;rw [show y + -(evL l y * s) = y - evL l y * s from zf [y, evL l y, s] (by rfl)] at ht;have h2 := ((h.mul h).mulr (s * s * w))
 refine h2.cg ?_;obtain ⟨c, hs⟩ := hs;exact ⟨evL l y * c, comb (-1) ht (comb (evL l y) hs (zf [s, w, c, f, evL l y, deL l y, evL l (y - evL l y * s)] (by rfl)))⟩
end
end Poly
end Go.Proofs.YtffhmebkkbfaeaaGreat
