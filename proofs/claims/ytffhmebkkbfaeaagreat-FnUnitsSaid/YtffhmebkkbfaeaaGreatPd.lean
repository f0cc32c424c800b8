/- Plain mathematics of polynomials by a prime. No conditions. -/
import Derived.Test.YtffhmebkkbfaeaaGreatPc
namespace Go.Proofs.YtffhmebkkbfaeaaGreat

class CR (α : Type) [Add α] [Mul α] [Neg α] [Sub α] [OfNat α 0] [OfNat α 1] : Prop where
 add_comm : ∀ a b : α, a + b = b + a
 add_assoc : ∀ a b c : α, a + b + c = a + (b + c)
 add_zero : ∀ a : α, a + 0 = a
 add_neg : ∀ a : α, a + -a = 0
 sub_def : ∀ a b : α, a - b = a + -b
 mul_comm : ∀ a b : α, a * b = b * a
 mul_assoc : ∀ a b c : α, a * b * c = a * (b * c)
 one_mul : ∀ a : α, 1 * a = a
 add_mul : ∀ a b c : α, (a + b) * c = a * c + b * c

inductive RE where
 | at (n : Nat)
 | zero
 | one
 | add (a b : RE)
 | sub (a b : RE)
 | mul (a b : RE)
 | neg (a : RE)

abbrev RM := List (Bool × List Nat)

def zpm (a : Nat) : List Nat -> List Nat
 | [] => [a]
 | b :: l => bif Nat.ble a b then a :: b :: l else b :: zpm a l
def zmg : List Nat -> List Nat -> List Nat
 | [], m => m
 | a :: l, m => zpm a (zmg l m)
def zeL : RM -> RM
 | [] => []
 | (s, m) :: r => (!s, m) :: zeL r
def znt (s : Bool) (m : List Nat) : RM -> RM
 | [] => []
 | (t, k) :: r => (s == t, zmg m k) :: znt s m r
def znu : RM -> RM -> RM
 | [], _ => []
 | (s, m) :: r, k => znt s m k ++ znu r k
def RE.ex : RE -> RM
 | .at n => [(true, [n])]
 | .zero => []
 | .one => [(true, [])]
 | .add a b => a.ex ++ b.ex
 | .sub a b => a.ex ++ zeL b.ex
 | .mul a b => znu a.ex b.ex
 | .neg a => zeL a.ex
def zka (s : Bool) (m : List Nat) : RM -> Option RM
 | [] => none
 | (t, k) :: r => bif t == s && k == m then some r else match zka s m r with
  | some r' => some ((t, k) :: r')
  | none => none
def ziF : Nat -> RM -> Bool
 | _, [] => true
 | 0, _ => false
 | n + 1, (s, m) :: r => match zka (!s) m r with
  | some r' => ziF n r'
  | none => false
def RE.chk (a b : RE) : Bool := ziF 1000 (a.ex ++ zeL b.ex)

section
variable {α : Type} [Add α] [Mul α] [Neg α] [Sub α] [OfNat α 0] [OfNat α 1]

def atM (ctx : List α) (n : Nat) : α := match ctx, n with
 | [], _ => 0
 | a :: _, 0 => a
 | _ :: r, n + 1 => atM r n
def RE.ev (ctx : List α) : RE -> α
 | .at n => atM ctx n
 | .zero => 0
 | .one => 1
 | .add a b => a.ev ctx + b.ev ctx
 | .sub a b => a.ev ctx - b.ev ctx
 | .mul a b => a.ev ctx * b.ev ctx
 | .neg a => -a.ev ctx
def evN (ctx : List α) : List Nat -> α
 | [] => 1
 | a :: l => atM ctx a * evN ctx l
def ev1 (ctx : List α) (s : Bool) (m : List Nat) : α := bif s then evN ctx m else -evN ctx m
def evM (ctx : List α) : RM -> α
 | [] => 0
 | (s, m) :: r => ev1 ctx s m + evM ctx r

variable [CR α]
namespace CR
theorem zero_add (a : α) : 0 + a = a := by rw [CR.add_comm, CR.add_zero]
theorem left_cancel {a b c : α} (h : a + b = a + c) : b = c := by
 have h1 : -a + (a + b) = -a + (a + c) := by rw [h]
 rw [<- CR.add_assoc, <- CR.add_assoc, CR.add_comm (-a) a, CR.add_neg, zero_add, zero_add] at h1;exact h1
theorem left_comm (a b c : α) : a + (b + c) = b + (a + c) := by rw [<- CR.add_assoc, CR.add_comm a b, CR.add_assoc]
theorem mul_left_comm (a b c : α) : a * (b * c) = b * (a * c) := by rw [<- CR.mul_assoc, CR.mul_comm a b, CR.mul_assoc]
theorem zero_mul (a : α) : 0 * a = 0 := by
 have h : 0 * a + 0 * a = 0 * a + 0 := by rw [<- CR.add_mul, CR.add_zero, CR.add_zero]
 exact left_cancel h
theorem jI {a b : α} (h : a + b = 0) : b = -a := left_cancel (by rw [h, CR.add_neg])
theorem neg_zero : -(0 : α) = 0 := (jI (CR.add_zero 0)).symm
theorem neg_neg (a : α) : -(-a) = a := (jI (by rw [CR.add_comm, CR.add_neg])).symm
theorem neg_add (a b : α) : -(a + b) = -a + -b := (jI (by
 rw [CR.add_assoc, left_comm b, <- CR.add_assoc, CR.add_neg, CR.add_neg, CR.add_zero])).symm
theorem neg_mul (a b : α) : -a * b = -(a * b) := jI (by rw [<- CR.add_mul, CR.add_neg, zero_mul])
theorem mul_zero (a : α) : a * 0 = 0 := by rw [CR.mul_comm, zero_mul]
theorem mul_neg (a b : α) : a * -b = -(a * b) := by rw [CR.mul_comm, neg_mul, CR.mul_comm]
theorem mul_add (a b c : α) : a * (b + c) = a * b + a * c := by rw [CR.mul_comm, CR.add_mul, CR.mul_comm b, CR.mul_comm c]
theorem mul_one (a : α) : a * 1 = a := by rw [CR.mul_comm, CR.one_mul]
theorem sub_self (a : α) : a - a = 0 := by rw [CR.sub_def, CR.add_neg]
theorem eq_of_sub {a b : α} (h : a - b = 0) : a = b := by
 rw [CR.sub_def] at h;have := jI (a := -b) (b := a) (by rw [CR.add_comm, h]);rw [this, neg_neg]
end CR

theorem zk8 (ctx : List α) (a : Nat) : ∀ l, evN ctx (zpm a l) = atM ctx a * evN ctx l
 | [] => rfl
 | b :: l => by
  unfold zpm;cases Nat.ble a b
  ·simp only [cond_false, evN, zk8 ctx a l, CR.mul_left_comm]
  ·rfl
theorem zk9 (ctx : List α) : ∀ l m, evN ctx (zmg l m) = evN ctx l * evN ctx m
 | [], m => by simp only [zmg, evN, CR.one_mul]
 | a :: l, m => by simp only [zmg, evN, zk8, zk9 ctx l m, CR.mul_assoc]
theorem zce (ctx : List α) : ∀ a b, evM ctx (a ++ b) = evM ctx a + evM ctx b
 | [], b => by simp only [List.nil_append, evM, CR.zero_add]
 | (s, m) :: a, b => by simp only [List.cons_append, evM, zce ctx a b, CR.add_assoc]
theorem zla (ctx : List α) (s : Bool) (m : List Nat) : ev1 ctx (!s) m = -ev1 ctx s m := by
 cases s <;> simp [ev1, CR.neg_neg]
theorem zcf (ctx : List α) : ∀ a, evM ctx (zeL a) = -evM ctx a
 | [] => by simp only [zeL, evM, CR.neg_zero]
 | (s, m) :: a => by simp only [zeL, evM, zcf ctx a, zla, CR.neg_add]
theorem zpn (ctx : List α) (s t : Bool) (m k : List Nat) : ev1 ctx (s == t) (zmg m k) = ev1 ctx s m * ev1 ctx t k := by
 cases s <;> cases t <;> simp [ev1, zk9, CR.neg_mul, CR.mul_neg, CR.neg_neg]
theorem ziG (ctx : List α) (s : Bool) (m : List Nat) : ∀ b, evM ctx (znt s m b) = ev1 ctx s m * evM ctx b
 | [] => by simp only [znt, evM, CR.mul_zero]
 | (t, k) :: b => by simp only [znt, evM, ziG ctx s m b, zpn, CR.mul_add]
theorem zlb (ctx : List α) : ∀ a b, evM ctx (znu a b) = evM ctx a * evM ctx b
 | [], b => by simp only [znu, evM, CR.zero_mul]
 | (s, m) :: a, b => by simp only [znu, evM, zce, ziG, zlb ctx a b, CR.add_mul]
theorem zcg (ctx : List α) : ∀ e : RE, evM ctx e.ex = e.ev ctx
 | .at n => by simp only [RE.ex, evM, ev1, cond_true, evN, RE.ev, CR.mul_one, CR.add_zero]
 | .zero => rfl
 | .one => by simp only [RE.ex, evM, ev1, cond_true, evN, RE.ev, CR.add_zero]
 | .add a b => by simp only [RE.ex, RE.ev, zce, zcg ctx a, zcg ctx b]
 | .sub a b => by simp only [RE.ex, RE.ev, zce, zcf, zcg ctx a, zcg ctx b, CR.sub_def]
 | .mul a b => by simp only [RE.ex, RE.ev, zlb, zcg ctx a, zcg ctx b]
 | .neg a => by simp only [RE.ex, RE.ev, zcf, zcg ctx a]
theorem zlc (ctx : List α) (s : Bool) (m : List Nat) : ∀ (r r' : RM), zka s m r = some r' -> evM ctx r = ev1 ctx s m + evM ctx r'
 | [], _, h => by simp [zka] at h
 | (t, k) :: r, r', h => by
  unfold zka at h;cases hc : (t == s && k == m)
  ·rw [hc] at h;simp only [cond_false] at h
   cases hr : zka s m r with
   | none => rw [hr] at h; simp at h
   | some r2 =>
    rw [hr] at h;simp only [Option.some.injEq] at h
    subst h;simp only [evM, zlc ctx s m r r2 hr, CR.left_comm]
  ·rw [hc] at h;simp only [cond_true, Option.some.injEq] at h
   subst h;simp only [Bool.and_eq_true, beq_iff_eq] at hc
   obtain ⟨rfl, rfl⟩ := hc
   rfl
theorem zeM (ctx : List α) : ∀ n (r : RM), ziF n r = true -> evM ctx r = 0
 | _, [], _ => rfl
 | 0, _ :: _, h => by simp [ziF] at h
 | n + 1, (s, m) :: r, h => by
  unfold ziF at h;cases hr : zka (!s) m r with
  | none => rw [hr] at h; simp at h
  | some r' =>
   rw [hr] at h;simp only [evM, zlc ctx (!s) m r r' hr, zla, zeM ctx n r' h]
   rw [CR.add_zero, CR.add_neg]

class Rf (ctx : List α) (x : α) (e : outParam RE) : Prop where
 eq : e.ev ctx = x

omit [CR α]
instance (priority := high) rfAdd (ctx : List α) (x y : α) (a b : RE) [h : Rf ctx x a] [k : Rf ctx y b] : Rf ctx (x + y) (.add a b) := ⟨by rw [RE.ev, h.eq, k.eq]⟩
instance (priority := high) rfSub (ctx : List α) (x y : α) (a b : RE) [h : Rf ctx x a] [k : Rf ctx y b] : Rf ctx (x - y) (.sub a b) := ⟨by rw [RE.ev, h.eq, k.eq]⟩
instance (priority := high) rfMul (ctx : List α) (x y : α) (a b : RE) [h : Rf ctx x a] [k : Rf ctx y b] : Rf ctx (x * y) (.mul a b) := ⟨by rw [RE.ev, h.eq, k.eq]⟩
instance (priority := high) rfNeg (ctx : List α) (x : α) (a : RE) [h : Rf ctx x a] : Rf ctx (-x) (.neg a) := ⟨by rw [RE.ev, h.eq]⟩
instance (priority := high) rfZero (ctx : List α) : Rf ctx (0 : α) .zero := ⟨rfl⟩
instance (priority := high) rfOne (ctx : List α) : Rf ctx (1 : α) .one := ⟨rfl⟩
instance (priority := low) rfAt0 (x : α) (l : List α) : Rf (x :: l) x (.at 0) := ⟨rfl⟩
instance (priority := low) rfAt1 (x a : α) (l : List α) : Rf (a :: x :: l) x (.at 1) := ⟨rfl⟩
instance (priority := low) rfAt2 (x a b : α) (l : List α) : Rf (a :: b :: x :: l) x (.at 2) := ⟨rfl⟩
instance (priority := low) rfAt3 (x a b c : α) (l : List α) : Rf (a :: b :: c :: x :: l) x (.at 3) := ⟨rfl⟩
instance (priority := low) rfAt4 (x a b c d : α) (l : List α) : Rf (a :: b :: c :: d :: x :: l) x (.at 4) := ⟨rfl⟩
instance (priority := low) rfAt5 (x a b c d e : α) (l : List α) : Rf (a :: b :: c :: d :: e :: x :: l) x (.at 5) := ⟨rfl⟩
instance (priority := low) rfAt6 (x a b c d e f : α) (l : List α) : Rf (a :: b :: c :: d :: e :: f :: x :: l) x (.at 6) := ⟨rfl⟩
instance (priority := low) rfAt7 (x a b c d e f g : α) (l : List α) : Rf (a :: b :: c :: d :: e :: f :: g :: x :: l) x (.at 7) := ⟨rfl⟩
instance (priority := low) rfAt8 (x a b c d e f g h : α) (l : List α) : Rf (a :: b :: c :: d :: e :: f :: g :: h :: x :: l) x (.at 8) := ⟨rfl⟩

theorem zh [CR α] (ctx : List α) {x y : α} {a b : RE} [h : Rf ctx x a] [k : Rf ctx y b] (hc : RE.chk a b = true) : x = y := by
 have h1 := zeM ctx _ _ hc;rw [zce, zcf, zcg, zcg, h.eq, k.eq, <- CR.sub_def] at h1;exact CR.eq_of_sub h1

theorem comb [CR α] (c : α) {a b x y : α} (h : a = b) (e : x - c * a = y - c * b) : x = y := by
 subst h;rw [CR.sub_def, CR.sub_def, CR.add_comm, CR.add_comm y] at e;exact CR.left_cancel e
end

example {α : Type} [Add α] [Mul α] [Neg α] [Sub α] [OfNat α 0] [OfNat α 1] [CR α] (a b c : α) : (a + b) * (a - b) + c * (1 + 1) = a * a - b * b + c + c := zh [a, b, c] (by rfl)
example {α : Type} [Add α] [Mul α] [Neg α] [Sub α] [OfNat α 0] [OfNat α 1] [CR α] (a b c d : α) (h : a = b * c) : a * d + 0 = c * (b * d) := comb d h (zh [a, b, c, d] (by rfl))

def cf (l : List Int) (i : Nat) : Int := l.getD i 0

theorem zS (i : Nat) : cf [] i = 0 := by simp [cf]
theorem zA (a : Int) (l : List Int) : cf (a :: l) 0 = a := rfl
theorem zm (a : Int) (l : List Int) (i : Nat) : cf (a :: l) (i + 1) = cf l i := by simp [cf]
theorem zT {l : List Int} {i : Nat} (h : l.length <= i) : cf l i = 0 := by
 simp [cf, List.getD_eq_getElem?_getD, List.getElem?_eq_none h]
theorem yK {l : List Int} {i : Nat} (h : i < l.length) : cf l i = l[i] := by
 simp [cf, List.getD_eq_getElem?_getD, List.getElem?_eq_getElem h]

def zu : List Int -> List Int
 | [] => []
 | a :: l => match zu l with
  | [] => if a = 0 then [] else [a]
  | b :: r => a :: b :: r

theorem yC (l : List Int) (i : Nat) : cf (zu l) i = cf l i := by
 induction l generalizing i with
 | nil => rfl
 | cons a l ih =>
  unfold zu
  split
  ·rename_i h
   have h0 : ∀ i, cf l i = 0 := λi => by rw [<- ih, h, zS]
   split
   ·rename_i ha
    cases i with
    | zero => rw [zS, zA, ha]
    | succ i => rw [zS, zm, h0]
   ·cases i with
    | zero => rfl
    | succ i => rw [zm, zm, zS, h0]
  ·rename_i b r h
   cases i with
   | zero => rfl
   | succ i => rw [zm, zm, <- ih, h]

theorem zmh {l : List Int} {x : Int} (h : x ∈ zu l) : x ∈ l := by
 induction l with
 | nil => exact h
 | cons a l ih =>
  unfold zu at h
  split at h
  ·split at h
   ·cases h
   ·simp at h; simp [h]
  ·rename_i b r hb
   rcases List.mem_cons.1 h with h | h
   ·simp [h]
   ·exact List.mem_cons_of_mem _ (ih (hb ▸ h))

theorem zW (l : List Int) : (zu l).length <= l.length := by
 induction l with
 | nil => simp [zu]
 | cons a l ih =>
  unfold zu
  split
  ·split <;> simp
  ·rename_i b r hb
   rw [hb] at ih; simpa using ih

def v6 (l : List Int) : Prop := ∀ n, l.length = n + 1 -> cf l n ≠ 0

theorem xg (l : List Int) : v6 (zu l) := by
 induction l with
 | nil => intro n h; simp [zu] at h
 | cons a l ih =>
  intro n;unfold zu
  split
  ·split
   ·intro h; simp at h
   ·rename_i ha
    intro h;have : n = 0 := by simpa using h.symm
    subst this; exact ha
  ·rename_i b r hb
   intro h;have hn : n = r.length + 1 := by simpa using h.symm
   subst hn;rw [zm];rw [hb] at ih;exact ih r.length (by simp)

theorem yw {l l' : List Int} (h : v6 l) (h' : v6 l') (he : ∀ i, cf l i = cf l' i) : l = l' := by
 have hlen : ∀ {l l' : List Int}, v6 l -> v6 l' -> (∀ i, cf l i = cf l' i) -> l.length <= l'.length := by
  intro l l' h h' he;rcases Nat.lt_or_ge l'.length l.length with hlt | hge
  ·exfalso
   have h1 := h (l.length - 1) (by omega);rw [he, zT (by omega)] at h1;exact h1 rfl
  ·exact hge
 have hl : l.length = l'.length := Nat.le_antisymm (hlen h h' he) (hlen h' h λi => (he i).symm);refine List.ext_getElem hl λi h1 h2 => ?_;rw [<- yK h1, <- yK h2, he]

def cv (f g : Nat -> Int) : Nat -> Int
 | 0 => f 0 * g 0
 | k + 1 => f 0 * g (k + 1) + cv (λi => f (i + 1)) g k

theorem znv (f g : Nat -> Int) (k : Nat) : cv f g (k + 1) = f (k + 1) * g 0 + cv f (λi => g (i + 1)) k := by
 induction k generalizing f with
 | zero => simp only [cv]; omega
 | succ k ih =>
  rw [cv, ih, cv]; omega

theorem j2 (f g : Nat -> Int) (k : Nat) : cv f g k = cv g f k := by
 induction k generalizing f g with
 | zero => simp only [cv]; exact Int.mul_comm _ _
 | succ k ih => rw [znv, cv, ih, Int.mul_comm]

theorem zhd (f f' g : Nat -> Int) (k : Nat) : cv (λi => f i + f' i) g k = cv f g k + cv f' g k := by
 induction k generalizing f f' with
 | zero => simp only [cv]; exact Int.add_mul _ _ _
 | succ k ih => simp only [cv, ih, Int.add_mul]; omega

theorem zld (a : Int) (f g : Nat -> Int) (k : Nat) : cv (λi => a * f i) g k = a * cv f g k := by
 induction k generalizing f with
 | zero => simp only [cv]; exact Int.mul_assoc _ _ _
 | succ k ih => simp only [cv, ih, Int.mul_add, Int.mul_assoc]

theorem znw (f g h : Nat -> Int) (k : Nat) : cv (cv f g) h k = cv f (cv g h) k := by
 induction k generalizing f with
 | zero => simp only [cv]; exact Int.mul_assoc _ _ _
 | succ k ih =>
  have e : (λi => cv f g (i + 1)) = λi => f 0 * g (i + 1) + cv (λi => f (i + 1)) g i := rfl;rw [cv, e, zhd, zld, ih];simp only [cv]
  rw [Int.mul_add, Int.mul_assoc]; omega

theorem yD {f g : Nat -> Int} {k : Nat} (hf : ∀ i, i <= k -> f i = 0) : cv f g k = 0 := by
 induction k generalizing f with
 | zero => simp [cv, hf 0 (Nat.le_refl _)]
 | succ k ih => simp only [cv, hf 0 (Nat.zero_le _), ih (f := λi => f (i + 1)) (λi hi => hf _ (by omega))]; simp

theorem zp3 {f g : Nat -> Int} {n m : Nat} (hf : ∀ i, n <= i -> f i = 0) (hg : ∀ i, m <= i -> g i = 0) {k : Nat} (hk : n + m <= k + 1) : cv f g k = 0 := by
 induction n generalizing f k with
 | zero => exact yD λi _ => hf i (Nat.zero_le _)
 | succ n ih =>
  cases k with
  | zero => simp only [cv, hg 0 (by omega), Int.mul_zero]
  | succ k => simp only [cv, hg (k + 1) (by omega), ih (f := λi => f (i + 1)) (λi hi => hf _ (by omega)) (k := k) (by omega)]; simp

theorem znx {f g : Nat -> Int} {n m : Nat} (hf : ∀ i, n < i -> f i = 0) (hg : ∀ i, m < i -> g i = 0) : cv f g (n + m) = f n * g m := by
 induction n generalizing f with
 | zero =>
  cases m with
  | zero => rfl
  | succ m =>
   rw [show 0 + (m + 1) = m + 1 from by omega, cv, yD (f := λi => f (i + 1)) (λi _ => hf _ (by omega))]; simp
 | succ n ih =>
  rw [show n + 1 + m = n + m + 1 from by omega, cv, hg (n + m + 1) (by omega), ih (f := λi => f (i + 1)) (λi hi => hf _ (by omega))]; simp

theorem zny (g : Nat -> Int) (k : Nat) : cv (cf [1]) g k = g k := by
 cases k with
 | zero => simp [cv, cf]
 | succ k =>
  rw [cv, yD (f := λi => cf [1] (i + 1)) (λi _ => by simp [cf])];simp [cf]

theorem kn (p : Int) (f g : Nat -> Int) (k : Nat) : cv (λi => f i % p) g k % p = cv f g k % p := by
 induction k generalizing f with
 | zero => simp only [cv]; rw [Int.mul_emod, Int.emod_emod_of_dvd _ (Int.dvd_refl p), <- Int.mul_emod]
 | succ k ih =>
  simp only [cv]
  rw [Int.add_emod, ih (λi => f (i + 1)), Int.mul_emod, Int.emod_emod_of_dvd _ (Int.dvd_refl p), <- Int.mul_emod, <- Int.add_emod]

theorem zpo (p a : Int) : (-(a % p)) % p = (-a) % p := by
 rw [show -(a % p) = -1 * (a % p) from by omega, show -a = -1 * a from by omega, Int.mul_emod, Int.emod_emod_of_dvd _ (Int.dvd_refl p), <- Int.mul_emod]

def mkL (n : Nat) (f : Nat -> Int) : List Int := (List.range n).map f
theorem y0 (n : Nat) (f : Nat -> Int) (i : Nat) : cf (mkL n f) i = if i < n then f i else 0 := by
 split
 ·rename_i h
  rw [yK (by simpa [mkL] using h)]; simp [mkL]
 ·rename_i h
  exact zT (by simpa [mkL] using h)
theorem zH (n : Nat) (f : Nat -> Int) : (mkL n f).length = n := by simp [mkL]

def yr (a b : List Int) : List Int := mkL (max a.length b.length) λi => cf a i + cf b i
def v7 (a b : List Int) : List Int := mkL (a.length + b.length - 1) (cv (cf a) (cf b))
def zU (c : Int) (a : List Int) : List Int := a.map (c * ·)

theorem y1 (a b : List Int) (i : Nat) : cf (yr a b) i = cf a i + cf b i := by
 rw [yr, y0]
 split
 ·rfl
 ·rename_i h
  rw [zT (by omega), zT (by omega)]; rfl
theorem zbg (a b : List Int) (i : Nat) : cf (v7 a b) i = cv (cf a) (cf b) i := by
 rw [v7, y0]
 split
 ·rfl
 ·rename_i h
  exact (zp3 (n := a.length) (m := b.length) (λi hi => zT hi) (λi hi => zT hi) (by omega)).symm
theorem va (c : Int) (a : List Int) (i : Nat) : cf (zU c a) i = c * cf a i := by
 by_cases h : i < a.length
 ·rw [yK (by simpa [zU] using h), yK h]; simp [zU]
 ·rw [zT (by simpa [zU] using h), zT (by omega)]; simp
theorem zmi (p : Int) (a : List Int) (i : Nat) : cf (a.map (· % p)) i = cf a i % p := by
 by_cases h : i < a.length
 ·rw [yK (by simpa using h), yK h]; simp
 ·rw [zT (by simpa using h), zT (by omega)]; simp

def nrm (p : Int) (a : List Int) : List Int := zu (a.map (· % p))
theorem k8 (p : Int) (a : List Int) (i : Nat) : cf (nrm p a) i = cf a i % p := by rw [nrm, yC, zmi]
theorem vd (p : Int) (a : List Int) : v6 (nrm p a) := xg _

class Pos (p : Int) : Prop where
 pos : 0 < p

def Nrm (p : Int) (l : List Int) : Prop := (∀ x ∈ l, 0 <= x ∧ x < p) ∧ v6 l

theorem zqm {p : Int} [h : Pos p] (a : List Int) : Nrm p (nrm p a) := by
 refine ⟨λx hx => ?_, vd p a⟩;have := zmh hx;rw [List.mem_map] at this;obtain ⟨y, _, rfl⟩ := this;exact ⟨Int.emod_nonneg _ (by have := h.pos; omega), Int.emod_lt_of_pos _ h.pos⟩

theorem Nrm.cf_mod {p : Int} {l : List Int} (h : Nrm p l) (i : Nat) : cf l i % p = cf l i := by
 by_cases hi : i < l.length
 ·rw [yK hi];have := h.1 _ (List.getElem_mem hi);exact Int.emod_eq_of_lt this.1 this.2
 ·rw [zT (by omega)]; simp
theorem zeN {p : Int} {l : List Int} (h : Nrm p l) : nrm p l = l := yw (vd _ _) h.2 λi => by rw [k8, h.cf_mod]

structure Poly (p : Int) where
 l : List Int
 ok : Nrm p l

namespace Poly
variable {p : Int}

theorem vq {f g : Poly p} (h : f.l = g.l) : f = g := by
 cases f; cases g; cases h; rfl
theorem zx {f g : Poly p} (h : ∀ i, cf f.l i = cf g.l i) : f = g := vq (yw f.ok.2 g.ok.2 h)

instance : DecidableEq (Poly p) := λf g => if h : f.l = g.l then isTrue (vq h) else isFalse λe => h (e ▸ rfl)

variable [Pos p]
def of (p : Int) [Pos p] (a : List Int) : Poly p := ⟨nrm p a, zqm a⟩
theorem zM (a : List Int) (i : Nat) : cf (of p a).l i = cf a i % p := k8 p a i
theorem of_l (f : Poly p) : of p f.l = f := vq (zeN f.ok)
theorem zp4 {a b : List Int} (h : ∀ i, cf a i % p = cf b i % p) : of p a = of p b := zx λi => by rw [zM, zM, h]
instance : Add (Poly p) := ⟨λf g => of p (yr f.l g.l)⟩
instance : Mul (Poly p) := ⟨λf g => of p (v7 f.l g.l)⟩
instance : Neg (Poly p) := ⟨λf => of p (zU (-1) f.l)⟩
instance : Sub (Poly p) := ⟨λf g => of p (yr f.l (zU (-1) g.l))⟩
instance : NatCast (Poly p) := ⟨λn => of p [(n : Int)]⟩
instance : IntCast (Poly p) := ⟨λn => of p [n]⟩
instance (n : Nat) : OfNat (Poly p) n := ⟨of p [(n : Int)]⟩
instance : SMul Nat (Poly p) := ⟨λn f => of p [(n : Int)] * f⟩
instance : SMul Int (Poly p) := ⟨λn f => of p [n] * f⟩
def npow (f : Poly p) : Nat -> Poly p
 | 0 => 1
 | n + 1 => npow f n * f
instance : HPow (Poly p) Nat (Poly p) := ⟨npow⟩

theorem yx (f g : Poly p) (i : Nat) : cf (f + g).l i = (cf f.l i + cf g.l i) % p := by
 show cf (of p _).l i = _
 rw [zM, y1]
theorem yQ (f g : Poly p) (i : Nat) : cf (f * g).l i = cv (cf f.l) (cf g.l) i % p := by
 show cf (of p _).l i = _
 rw [zM, zbg]
theorem znz (f : Poly p) (i : Nat) : cf (-f).l i = (-cf f.l i) % p := by
 show cf (of p _).l i = _
 rw [zM, va]; congr 1; omega
theorem v8 (f g : Poly p) (i : Nat) : cf (f - g).l i = (cf f.l i - cf g.l i) % p := by
 show cf (of p _).l i = _
 rw [zM, y1, va]; congr 1; omega
theorem ko : (0 : Poly p).l = [] := by
 refine yw (0 : Poly p).ok.2 (λn h => by simp at h) λi => ?_;show cf (of p [((0 : Nat) : Int)]).l i = _
 rw [zM, zS];cases i with
 | zero => simp [cf]
 | succ i => rw [zm, zS]; simp
theorem zN (i : Nat) : cf (0 : Poly p).l i = 0 := by rw [ko, zS]
theorem zhe (i : Nat) : cf (1 : Poly p).l i = cf [1] i % p := zM _ _

theorem znA (a b : List Int) : of p (yr a b) = of p a + of p b := zx λi => by
 rw [zM, y1, yx, zM, zM]; exact Int.add_emod _ _ _
theorem zle {p : Int} (f g : Nat -> Int) (k : Nat) : cv (λi => f i % p) (λi => g i % p) k % p = cv f g k % p := by
 rw [kn, j2, kn, j2]
theorem zgz (a : List Int) : cf (of p a).l = λi => cf a i % p := funext λi => zM a i
theorem zqn (a b : List Int) : of p (v7 a b) = of p a * of p b := zx λi => by
 rw [zM, zbg, yQ, zgz, zgz, zle]

theorem xz {p : Int} (f : Poly p) (i : Nat) : cf f.l i % p = cf f.l i := f.ok.cf_mod i

theorem zgA (f g : Poly p) : f + g = g + f := zx λi => by rw [yx, yx, Int.add_comm]
theorem zmj (f : Poly p) : f + 0 = f := zx λi => by rw [yx, zN, Int.add_zero, xz]
theorem zkb (f g h : Poly p) : f + g + h = f + (g + h) := zx λi => by
 rw [yx, yx, yx, yx, Int.emod_add_emod, Int.add_emod_emod, Int.add_assoc]
theorem js (f g : Poly p) : f * g = g * f := zx λi => by rw [yQ, yQ, j2]
theorem zbN (f g : Poly p) : cf (f * g).l = λi => cv (cf f.l) (cf g.l) i % p := funext λi => yQ f g i
theorem zkc (f g h : Poly p) : f * g * h = f * (g * h) := zx λi => by
 rw [yQ, zbN, kn, yQ, zbN, j2 (cf f.l), kn, znw, j2 (cf f.l)]
theorem znB (f : Poly p) : 1 * f = f := zx λi => by
 have e : cf (1 : Poly p).l = λi => cf [1] i % p := funext zhe;rw [yQ, e, kn, zny, xz]
theorem zeO (f g : Poly p) : cf (f + g).l = λi => (cf f.l i + cf g.l i) % p := funext λi => yx f g i
theorem znC (f g h : Poly p) : (f + g) * h = f * h + g * h := zx λi => by
 rw [yQ, zeO, kn, zhd, yx, yQ, yQ, <- Int.add_emod]
theorem zdL (f : Poly p) : -f + f = 0 := zx λi => by
 rw [yx, znz, zN, Int.emod_add_emod]; simp [Int.add_left_neg]
theorem zpp (f g : Poly p) : f - g = f + -g := zx λi => by
 rw [v8, yx, znz, Int.add_emod_emod, Int.sub_eq_add_neg]
theorem znD (a b : Int) : of p [a + b] = of p [a] + of p [b] := by
 rw [<- znA]; exact zp4 λi => by rw [y1]; cases i <;> simp [cf]

theorem znE (f : Poly p) : f + -f = 0 := by rw [zgA, zdL]
instance : CR (Poly p) where
 add_comm := zgA
 add_assoc := zkb
 add_zero := zmj
 add_neg := znE
 sub_def := zpp
 mul_comm := js
 mul_assoc := zkc
 one_mul := znB
 add_mul := znC
theorem zi (b : Poly p) (n : Nat) : b ^ (n + 1) = b ^ n * b := rfl
theorem zv (b : Poly p) : b ^ 0 = 1 := rfl

example (f g h : Poly p) : (f + g) * (f - g) + h * (1 + 1) = f * f - g * g + h + h := zh [f, g, h] (by rfl)

end Poly

class Pr (p : Int) : Prop extends Pos p where
 two : 2 <= p
 inv : ∀ a : Int, a % p ≠ 0 -> ∃ b : Int, a * b % p = 1

theorem Pr.mul_ne {p : Int} [h : Pr p] {a b : Int} (ha : a % p ≠ 0) (hb : b % p ≠ 0) : a * b % p ≠ 0 := by
 intro he;obtain ⟨c, hc⟩ := h.inv a ha;have h1 : a * c * b % p = b % p := by rw [Int.mul_emod, hc, Int.one_mul, Int.emod_emod_of_dvd _ (Int.dvd_refl p)]
 have h2 : a * c * b % p = 0 := by
  rw [show a * c * b = c * (a * b) from by rw [Int.mul_comm a c, Int.mul_assoc], Int.mul_emod, he, Int.mul_zero, Int.zero_emod]
 exact hb (h1.symm.trans h2)

namespace Poly
variable {p : Int}

def dg (f : Poly p) : Nat := f.l.length

theorem z5 {f : Poly p} {i : Nat} (h : dg f <= i) : cf f.l i = 0 := zT h
theorem yM {f : Poly p} {n : Nat} (h : dg f = n + 1) : cf f.l n ≠ 0 := f.ok.2 n h
theorem j3 {f : Poly p} {n : Nat} (h : ∀ i, n <= i -> cf f.l i = 0) : dg f <= n := by
 rcases Nat.lt_or_ge n (dg f) with hlt | hge
 ·exfalso
  exact yM (f := f) (n := dg f - 1) (by omega) (h _ (by omega))
 ·exact hge
theorem zlf {f : Poly p} {n : Nat} (h : cf f.l n ≠ 0) : n < dg f := by
 rcases Nat.lt_or_ge n (dg f) with hlt | hge
 ·exact hlt
 ·exact absurd (z5 hge) h

theorem jJ [Pos p] (a : List Int) : dg (of p a) <= a.length := j3 λi hi => by rw [zM, zT hi]; simp

theorem zd [Pos p] {f : Poly p} : dg f = 0 ↔ f = 0 := by
 constructor
 ·intro h;refine zx λi => ?_;rw [zN, z5 (by omega)]
 ·rintro rfl;show (0 : Poly p).l.length = 0
  rw [ko]; rfl

theorem zy [Pos p] : dg (0 : Poly p) = 0 := zd.2 rfl

theorem zc0 [Pos p] (f g : Poly p) : dg (f + g) <= max (dg f) (dg g) := j3 λi hi => by
 rw [yx, z5 (by omega), z5 (by omega)]; simp
theorem vG [Pos p] (f g : Poly p) : dg (f - g) <= max (dg f) (dg g) := j3 λi hi => by
 rw [v8, z5 (by omega), z5 (by omega)]; simp
theorem yR [Pos p] (f g : Poly p) : dg (f * g) <= dg f + dg g - 1 := j3 λi hi => by
 rw [yQ, zp3 (n := dg f) (m := dg g) (λi hi => z5 hi) (λi hi => z5 hi) (by omega)]; simp

theorem ym {f : Poly p} {i : Nat} (h : cf f.l i ≠ 0) : cf f.l i % p ≠ 0 := by rw [f.ok.cf_mod]; exact h

section
variable [Pr p]

theorem ziH {f g : Poly p} {n m : Nat} (hf : dg f = n + 1) (hg : dg g = m + 1) : cf (f * g).l (n + m) = cf f.l n * cf g.l m % p := by
 rw [yQ, znx (λi hi => z5 (by omega)) (λi hi => z5 (by omega))]

theorem yS {f g : Poly p} (hf : f ≠ 0) (hg : g ≠ 0) : dg (f * g) + 1 = dg f + dg g := by
 have h1 : dg f ≠ 0 := λh => hf (zd.1 h);have h2 : dg g ≠ 0 := λh => hg (zd.1 h);obtain ⟨n, hn⟩ := Nat.exists_eq_succ_of_ne_zero h1;obtain ⟨m, hm⟩ := Nat.exists_eq_succ_of_ne_zero h2
 have h3 : cf (f * g).l (n + m) ≠ 0 := by
  rw [ziH hn hm];exact Pr.mul_ne (ym (yM hn)) (ym (yM hm))
 have h4 := zlf h3;have h5 := yR f g;omega

theorem mul_ne {f g : Poly p} (hf : f ≠ 0) (hg : g ≠ 0) : f * g ≠ 0 := by
 intro h;have h1 := yS hf hg;have h2 : dg f ≠ 0 := λh => hf (zd.1 h);have h3 : dg g ≠ 0 := λh => hg (zd.1 h);rw [h, zy] at h1;omega
theorem mul_eq_zero {f g : Poly p} (h : f * g = 0) : f = 0 ∨ g = 0 := by
 by_cases hf : f = 0
 ·exact .inl hf
 ·by_cases hg : g = 0
  ·exact .inr hg
  ·exact absurd h (mul_ne hf hg)
theorem zeP {f g h : Poly p} (hf : f ≠ 0) (he : f * g = f * h) : g = h := by
 have : f * (g - h) = 0 := by exact comb (1) he (zh [f, g, h] (by rfl))
 rcases mul_eq_zero this with h1 | h1
 ·exact absurd h1 hf
 ·exact comb (1) h1 (zh [g, h] (by rfl))

theorem zeQ : (1 : Poly p) ≠ 0 := by
 intro h;have h1 := zhe (p := p) 0;rw [h, zN, zA, Int.emod_eq_of_lt (by omega) (by have := Pr.two (p := p); omega)] at h1;cases h1
theorem yT : dg (1 : Poly p) = 1 := by
 have h1 : dg (1 : Poly p) <= 1 := jJ [((1 : Nat) : Int)];have h2 : dg (1 : Poly p) ≠ 0 := λh => zeQ (zd.1 h);omega
end

def mono (p : Int) [Pos p] (c : Int) (k : Nat) : Poly p := of p (List.replicate k 0 ++ [c])
theorem znF (c : Int) (k i : Nat) : cf (List.replicate k 0 ++ [c]) i = if i = k then c else 0 := by
 induction k generalizing i with
 | zero => cases i with
  | zero => rfl
  | succ i => simp [cf]
 | succ k ih =>
  cases i with
  | zero => simp [cf, List.replicate_succ]
  | succ i =>
   rw [List.replicate_succ, List.cons_append, zm, ih];simp
theorem cv_mono (c : Int) (k : Nat) (g : Nat -> Int) (i : Nat) : cv (λj => if j = k then c else 0) g i = if k <= i then c * g (i - k) else 0 := by
 induction k generalizing i with
 | zero =>
  cases i with
  | zero => simp [cv]
  | succ i =>
   rw [cv, yD (f := λj => if j + 1 = 0 then c else 0) (λi _ => by simp)];simp
 | succ k ih =>
  cases i with
  | zero => simp [cv]
  | succ i =>
   rw [cv];have : (λj => if j + 1 = k + 1 then c else 0) = λj => if j = k then c else 0 := by funext j; simp
   rw [this, ih];simp
theorem j4 [Pos p] (c : Int) (k i : Nat) : cf (mono p c k).l i = if i = k then c % p else 0 := by
 rw [mono, zM, znF]; split <;> simp
theorem yW [Pos p] (c : Int) (k : Nat) (g : Poly p) (i : Nat) : cf (mono p c k * g).l i = if k <= i then c * cf g.l (i - k) % p else 0 := by
 have e : cf (mono p c k).l = λi => (if i = k then c else 0) % p := funext λi => by rw [j4]; split <;> simp
 rw [yQ, e, kn, cv_mono]; split <;> simp

section
variable [Pr p]

theorem k9 (g : Poly p) (hg : g ≠ 0) : ∀ (n : Nat) (f : Poly p), dg f <= n -> ∃ q r : Poly p, f = q * g + r ∧ dg r < dg g := by
 have hg0 : dg g ≠ 0 := λh => hg (zd.1 h);intro n
 induction n with
 | zero =>
  intro f hf;exact ⟨0, f, by exact zh [f, g] (by rfl), by omega⟩
 | succ n ih =>
  intro f hf
  by_cases hlt : dg f < dg g
  ·exact ⟨0, f, by exact zh [f, g] (by rfl), hlt⟩
  ·by_cases hle : dg f <= n
   ·exact ih f hle
   ·obtain ⟨m, hm⟩ := Nat.exists_eq_succ_of_ne_zero hg0;obtain ⟨b, hb⟩ := Pr.inv (p := p) _ (ym (yM hm))
    obtain ⟨q, r, h1, h2⟩ := ih (f - mono p (cf f.l n * b) (n - m) * g) (by
     refine j3 λi hi => ?_;rw [v8, yW, if_pos (by omega)];rcases Nat.eq_or_lt_of_le hi with rfl | hlt'
     ·rw [show n - (n - m) = m by omega];rw [Int.sub_emod, Int.emod_emod_of_dvd _ (Int.dvd_refl p), <- Int.sub_emod]
      have : cf f.l n - cf f.l n * b * cf g.l m = cf f.l n * (1 - cf g.l m * b) := by
       rw [Int.mul_sub, Int.mul_one, Int.mul_assoc, Int.mul_comm b]
      rw [this, Int.mul_emod, Int.sub_emod, hb];have h1 : (1 : Int) % p = 1 := Int.emod_eq_of_lt (by omega) (by have := Pr.two (p := p); omega);rw [h1]; simp
     ·rw [z5 (f := f) (by omega), z5 (f := g) (by omega)]; simp)
    exact ⟨q + mono p (cf f.l n * b) (n - m), r, by exact comb (1) h1 (zh [f, q, mono p (cf f.l n * b) (n - m), g, r] (by rfl)), h2⟩

theorem zkd {f g q r q' r' : Poly p} (h : f = q * g + r) (hr : dg r < dg g) (h' : f = q' * g + r') (hr' : dg r' < dg g) : q = q' ∧ r = r' := by
 have h1 : (q - q') * g = r' - r := by exact comb (1) h' (comb (-1) h (zh [f, q, g, r, q', r'] (by rfl)))
 by_cases hq : q - q' = 0
 ·refine ⟨by exact comb (1) hq (zh [q, q'] (by rfl)), ?_⟩;rw [hq] at h1;exact comb (1) h1 (zh [r, r', g] (by rfl))
 ·exfalso
  have hg : g ≠ 0 := λh => by rw [h, zy] at hr; omega
  have h2 := yS hq hg;rw [h1] at h2;have h3 := vG r' r;have h4 : dg (q - q') ≠ 0 := λh => hq (zd.1 h);omega

open Classical in
noncomputable def zpq (f g : Poly p) : Poly p × Poly p := if hg : g = 0 then (0, f) else ⟨(k9 g hg _ f (Nat.le_refl _)).choose, (k9 g hg _ f (Nat.le_refl _)).choose_spec.choose⟩
noncomputable def quo (f g : Poly p) : Poly p := (zpq f g).1
noncomputable def rem (f g : Poly p) : Poly p := (zpq f g).2

theorem ve (f g : Poly p) : f = quo f g * g + rem f g := by
 unfold quo rem zpq
 split
 ·show f = 0 * g + f; exact zh [f, g] (by rfl)
 ·rename_i hg
  exact (k9 g hg _ f (Nat.le_refl _)).choose_spec.choose_spec.1
theorem zO (f : Poly p) {g : Poly p} (hg : g ≠ 0) : dg (rem f g) < dg g := by
 unfold rem zpq;rw [dif_neg hg];exact (k9 g hg _ f (Nat.le_refl _)).choose_spec.choose_spec.2
theorem zhf {f g q r : Poly p} (h : f = q * g + r) (hr : dg r < dg g) : quo f g = q ∧ rem f g = r := by
 have hg : g ≠ 0 := λh => by rw [h, zy] at hr; omega
 exact zkd (ve f g) (zO f hg) h hr

def Dvd' (g f : Poly p) : Prop := ∃ q, f = g * q
instance : Dvd (Poly p) := ⟨Dvd'⟩
theorem dvd_refl (f : Poly p) : f ∣ f := ⟨1, by exact zh [f] (by rfl)⟩
theorem dvd_zero (f : Poly p) : f ∣ 0 := ⟨0, by exact zh [f] (by rfl)⟩
theorem zdV (f : Poly p) : 1 ∣ f := ⟨f, by exact zh [f] (by rfl)⟩
theorem zw {f g h : Poly p} (h1 : f ∣ g) (h2 : g ∣ h) : f ∣ h := by
 obtain ⟨a, rfl⟩ := h1;obtain ⟨b, rfl⟩ := h2;exact ⟨a * b, by exact zh [f, a, b] (by rfl)⟩
theorem ye {f g : Poly p} (h : Poly p) (h1 : f ∣ g) : f ∣ h * g := by
 obtain ⟨a, rfl⟩ := h1;exact ⟨h * a, by exact zh [f, a, h] (by rfl)⟩
theorem y4 {f g : Poly p} (h : Poly p) (h1 : f ∣ g) : f ∣ g * h := by
 obtain ⟨a, rfl⟩ := h1;exact ⟨a * h, by exact zh [f, a, h] (by rfl)⟩
theorem dvd_add {f g h : Poly p} (h1 : f ∣ g) (h2 : f ∣ h) : f ∣ g + h := by
 obtain ⟨a, rfl⟩ := h1;obtain ⟨b, rfl⟩ := h2;exact ⟨a + b, by exact zh [f, a, b] (by rfl)⟩
theorem dvd_sub {f g h : Poly p} (h1 : f ∣ g) (h2 : f ∣ h) : f ∣ g - h := by
 obtain ⟨a, rfl⟩ := h1;obtain ⟨b, rfl⟩ := h2;exact ⟨a - b, by exact zh [f, a, b] (by rfl)⟩
theorem j5 {g f : Poly p} (hg : g ≠ 0) : g ∣ f ↔ rem f g = 0 := by
 constructor
 ·rintro ⟨q, rfl⟩;exact (zhf (q := q) (r := 0) (by exact zh [g, q] (by rfl)) (by rw [zy]; have : dg g ≠ 0 := λh => hg (zd.1 h); omega)).2
 ·intro h;have := ve f g;rw [h] at this;exact ⟨quo f g, by exact comb (1) this (zh [f, g, quo f g] (by rfl))⟩
theorem zP {g f : Poly p} (h : g ∣ f) (hf : f ≠ 0) : dg g <= dg f := by
 obtain ⟨q, rfl⟩ := h;have hg : g ≠ 0 := λh => hf (by rw [h]; exact zh [q] (by rfl));have hq : q ≠ 0 := λh => hf (by rw [h]; exact zh [g] (by rfl));have h1 := yS hg hq;have : dg q ≠ 0 := λh => hq (zd.1 h);omega
theorem zeR {g f : Poly p} (h : g ∣ f) (hf : f ≠ 0) : g ≠ 0 := by
 rintro rfl;obtain ⟨q, rfl⟩ := h;exact hf (by exact zh [q] (by rfl))
end

end Poly
namespace Poly
variable {p : Int} [Pr p]

def con (p : Int) [Pos p] (c : Int) : Poly p := of p [c]
theorem xN (c : Int) (i : Nat) : cf (con p c).l i = if i = 0 then c % p else 0 := by
 rw [con, zM]; cases i <;> simp [cf]
theorem zeS (c : Int) (f : Poly p) (i : Nat) : cf (con p c * f).l i = c * cf f.l i % p := by
 have e : cf (con p c).l = λi => c * cf [1] i % p := funext λi => by rw [xN]; cases i <;> simp [cf]
 rw [yQ, e, kn, zld, zny]
theorem zdW (a b : Int) : con p a * con p b = con p (a * b) := zx λi => by
 rw [zeS, xN, xN]; split <;> simp [Int.mul_emod]
theorem zhg (a b : Int) : con p a + con p b = con p (a + b) := (znD a b).symm
theorem zdX (a b : Int) : con p a - con p b = con p (a - b) := zx λi => by
 rw [v8, xN, xN, xN]; split
 ·exact (Int.sub_emod _ _ _).symm
 ·simp
theorem zch (a : Int) : con p (a % p) = con p a := zx λi => by rw [xN, xN]; simp
theorem xE : con p 0 = 0 := zx λi => by rw [xN, zN]; simp
theorem zaa : con p 1 = 1 := rfl
theorem xS {a : Int} : con p a = 0 ↔ a % p = 0 := by
 constructor
 ·intro h;have := xN (p := p) a 0;rw [h, zN] at this
  simpa using this.symm
 ·intro h;rw [<- zch, h, xE]
theorem v9 (a : Int) : dg (con p a) <= 1 := jJ [a]
theorem zke {a : Int} (h : a % p ≠ 0) : dg (con p a) = 1 := by
 have h1 := v9 (p := p) a;have h2 : dg (con p a) ≠ 0 := λh' => h (xS.1 (zd.1 h'));omega
theorem zhh {f : Poly p} (h : dg f <= 1) : f = con p (cf f.l 0) := zx λi => by
 rw [xN];cases i with
 | zero => simp [xz]
 | succ i => rw [z5 (by omega)]; simp

theorem jK {u : Poly p} (h : dg u = 1) : ∃ v, u * v = 1 := by
 have h0 := yM (f := u) (n := 0) h;obtain ⟨b, hb⟩ := Pr.inv (p := p) _ (ym h0);refine ⟨con p b, ?_⟩;rw [zhh (f := u) (by omega), zdW, <- zch, hb]; rfl
theorem znG {u : Poly p} (h : dg u = 1) (f : Poly p) : u ∣ f := by
 obtain ⟨v, hv⟩ := jK h;exact ⟨v * f, by exact comb (-f) hv (zh [f, u, v] (by rfl))⟩
theorem zci {u f : Poly p} (h : dg u = 1) (hf : f ∣ u) : dg f = 1 := by
 have hu : u ≠ 0 := λe => by rw [e, zy] at h; cases h
 have h1 := zP hf hu;have h2 : dg f ≠ 0 := λe => zeR hf hu (zd.1 e);omega

def lc (f : Poly p) : Int := cf f.l (dg f - 1)
def Mon (f : Poly p) : Prop := f ≠ 0 ∧ lc f = 1
theorem zqY {f : Poly p} (h : f ≠ 0) : lc f ≠ 0 := by
 have : dg f ≠ 0 := λe => h (zd.1 e);exact yM (n := dg f - 1) (by omega)
theorem zhi {f g : Poly p} (hf : f ≠ 0) (hg : g ≠ 0) : lc (f * g) = lc f * lc g % p := by
 have h1 : dg f ≠ 0 := λe => hf (zd.1 e);have h2 : dg g ≠ 0 := λe => hg (zd.1 e);have h3 := yS hf hg;have := ziH (f := f) (g := g) (n := dg f - 1) (m := dg g - 1) (by omega) (by omega);unfold lc;rw [show dg (f * g) - 1 = dg f - 1 + (dg g - 1) by omega, this]
theorem zlg : (1 : Int) % p = 1 := Int.emod_eq_of_lt (by omega) (by have := Pr.two (p := p); omega)
theorem Mon.mul {f g : Poly p} (hf : Mon f) (hg : Mon g) : Mon (f * g) :=
 ⟨mul_ne hf.1 hg.1, by rw [zhi hf.1 hg.1, hf.2, hg.2]; exact zlg⟩
theorem zlh : Mon (1 : Poly p) := ⟨zeQ, by
 unfold lc;rw [yT, zhe];exact zlg⟩
theorem Mon.right {f g : Poly p} (hf : Mon f) (h : Mon (f * g)) : Mon g := by
 have hg : g ≠ 0 := λe => h.1 (by rw [e]; exact zh [f] (by rfl));refine ⟨hg, ?_⟩;have := zhi hf.1 hg;rw [h.2, hf.2, Int.one_mul] at this;rw [this]; exact (xz g _).symm
theorem znH {c : Int} (h : c % p ≠ 0) : lc (con p c) = c % p := by
 unfold lc;rw [zke h, xN]; rfl
theorem zhj {c : Int} (h : c % p ≠ 0) : con p c ≠ 0 := λe => h (xS.1 e)
theorem zab {f : Poly p} (hf : f ≠ 0) : ∃ c : Int, c % p ≠ 0 ∧ Mon (con p c * f) := by
 obtain ⟨b, hb⟩ := Pr.inv (p := p) (lc f) (ym (zqY hf))
 have hb' : b % p ≠ 0 := by
  intro h;rw [Int.mul_emod, h, Int.mul_zero, Int.zero_emod] at hb; cases hb
 refine ⟨b, hb', mul_ne (zhj hb') hf, ?_⟩;rw [zhi (zhj hb') hf, znH hb', Int.mul_comm, Int.mul_emod, Int.emod_emod_of_dvd _ (Int.dvd_refl p), <- Int.mul_emod, hb]

theorem zkf {f g : Poly p} (hf : Mon f) (hg : Mon g) (h1 : f ∣ g) (h2 : g ∣ f) : f = g := by
 obtain ⟨q, rfl⟩ := h1;have h3 := zP h2 hf.1;have hq : q ≠ 0 := λe => hg.1 (by rw [e]; exact zh [f] (by rfl));have h4 := yS hf.1 hq;have h5 : dg q ≠ 0 := λe => hq (zd.1 e);have h6 : q = con p (cf q.l 0) := zhh (by omega);have h7 := hf.right hg
 have h8 : cf q.l 0 = 1 := by
  have := h7.2;unfold lc at this
  rwa [show dg q - 1 = 0 by omega] at this
 rw [h6, h8, zaa]; exact zh [f] (by rfl)

open Classical in
noncomputable def mnc (f : Poly p) : Poly p := if h : f = 0 then 0 else con p (zab h).choose * f
theorem ziI : mnc (0 : Poly p) = 0 := by simp [mnc]
theorem j6 {f : Poly p} (h : f ≠ 0) : Mon (mnc f) := by
 unfold mnc; rw [dif_neg h]; exact (zab h).choose_spec.2
theorem ya (f : Poly p) : mnc f ∣ f ∧ f ∣ mnc f := by
 unfold mnc
 split
 ·rename_i h; rw [h]; exact ⟨dvd_refl _, dvd_refl _⟩
 ·rename_i h
  obtain ⟨v, hv⟩ := jK (zke (zab h).choose_spec.1);generalize (zab h).choose = c at hv;exact ⟨⟨v, by exact comb (-f) hv (zh [f, con p c, v] (by rfl))⟩, ⟨con p c, by exact zh [f, con p c] (by rfl)⟩⟩
theorem zqo {f : Poly p} {c : Int} (h : Mon (con p c * f)) : mnc f = con p c * f := by
 have hf : f ≠ 0 := λe => h.1 (by rw [e]; exact zh [con p c] (by rfl));have hc : c % p ≠ 0 := λe => h.1 (by rw [xS.2 e]; exact zh [f] (by rfl));obtain ⟨v, hv⟩ := jK (zke hc);refine zkf (j6 hf) h (ye _ (ya f).1) ?_;exact zw ⟨v, by exact comb (-f) hv (zh [f, con p c, v] (by rfl))⟩ (ya f).2

noncomputable def gcd (f g : Poly p) : Poly p :=
 if h : dg g = 0 then mnc f else have : dg (rem f g) < dg g := zO f λe => h (zd.2 e); gcd g (rem f g)
termination_by dg g

theorem zeT (f : Poly p) : gcd f 0 = mnc f := by rw [gcd, dif_pos zy]
theorem zkg (f : Poly p) {g : Poly p} (h : g ≠ 0) : gcd f g = gcd g (rem f g) := by rw [gcd, dif_neg λe => h (zd.1 e)]

theorem zcj : ∀ (n : Nat) (f g : Poly p), dg g <= n -> (gcd f g ∣ f ∧ gcd f g ∣ g) ∧ (∃ a b, gcd f g = a * f + b * g) ∧ (f ≠ 0 ∨ g ≠ 0 -> Mon (gcd f g)) := by
 intro n
 induction n with
 | zero =>
  intro f g h;obtain rfl := zd.1 (by omega : dg g = 0);rw [zeT];obtain ⟨h1, c, hc⟩ := ya f;refine ⟨⟨h1, dvd_zero _⟩, ⟨c, 0, by rw [hc]; exact zh [f, c] (by rfl)⟩, λh => j6 (h.resolve_right λh => h rfl)⟩
 | succ n ih =>
  intro f g h
  by_cases hg : g = 0
  ·subst hg;exact ih f 0 (by rw [zy]; omega)
  ·rw [zkg f hg];have h0 := zO f hg;obtain ⟨⟨h1, h2⟩, ⟨a, b, h3⟩, h4⟩ := ih g (rem f g) (by omega);have h5 := ve f g;refine ⟨⟨?_, h1⟩, ⟨b, a - b * quo f g, ?_⟩, λ_ => h4 (.inl hg)⟩
   ·have := dvd_add (ye (quo f g) h1) h2
    rwa [<- h5] at this
   ·rw [h3]; exact comb (-b) h5 (zh [a, b, f, g, rem f g, quo f g] (by rfl))

theorem vg (f g : Poly p) : gcd f g ∣ f := (zcj _ f g (Nat.le_refl _)).1.1
theorem xT (f g : Poly p) : gcd f g ∣ g := (zcj _ f g (Nat.le_refl _)).1.2
theorem ziJ (f g : Poly p) : ∃ a b, gcd f g = a * f + b * g := (zcj _ f g (Nat.le_refl _)).2.1
theorem zck {f g : Poly p} (h : f ≠ 0 ∨ g ≠ 0) : Mon (gcd f g) := (zcj _ f g (Nat.le_refl _)).2.2 h
theorem zli {h f g : Poly p} (h1 : h ∣ f) (h2 : h ∣ g) : h ∣ gcd f g := by
 obtain ⟨a, b, he⟩ := ziJ f g;rw [he];exact dvd_add (ye _ h1) (ye _ h2)

def Cop (f g : Poly p) : Prop := ∃ a b, a * f + b * g = 1
theorem Cop.symm {f g : Poly p} (h : Cop f g) : Cop g f := by
 obtain ⟨a, b, h⟩ := h;exact ⟨b, a, by exact comb (1) h (zh [a, b, f, g] (by rfl))⟩
theorem zeU {f g : Poly p} (h : dg (gcd f g) = 1) : Cop f g := by
 obtain ⟨a, b, he⟩ := ziJ f g;obtain ⟨v, hv⟩ := jK h;exact ⟨v * a, v * b, by exact comb (1) hv (comb (-v) he (zh [v, a, b, f, g, gcd f g] (by rfl)))⟩
theorem Cop.mul {f g h : Poly p} (h1 : Cop f h) (h2 : Cop g h) : Cop (f * g) h := by
 obtain ⟨a, b, h1⟩ := h1;obtain ⟨c, d, h2⟩ := h2;exact ⟨a * c, a * f * d + b * c * g + b * d * h, by exact comb (c*g+d*h) h1 (comb (1) h2 (zh [a, b, c, d, f, g, h] (by rfl)))⟩
theorem Cop.dvd {f g h : Poly p} (h1 : Cop f g) (h2 : f ∣ g * h) : f ∣ h := by
 obtain ⟨a, b, h1⟩ := h1;obtain ⟨q, h2⟩ := h2;exact ⟨a * h + b * q, by exact comb (-h) h1 (comb (b) h2 (zh [a, b, f, g, h, q] (by rfl)))⟩
theorem Cop.mul_dvd {f g h : Poly p} (h1 : Cop f g) (h2 : f ∣ h) (h3 : g ∣ h) : f * g ∣ h := by
 obtain ⟨a, b, h1⟩ := h1;obtain ⟨q, h2⟩ := h2;obtain ⟨r, h3⟩ := h3;exact ⟨a * r + b * q, by exact comb (-h) h1 (comb (b*g) h2 (comb (a*f) h3 (zh [a, b, f, g, h, q, r] (by rfl))))⟩
theorem zpr (f : Poly p) : Cop 1 f := ⟨1, 0, by exact zh [f] (by rfl)⟩
def Irr (h : Poly p) : Prop := 2 <= dg h ∧ ∀ a b, h = a * b -> dg a = 1 ∨ dg b = 1

theorem Irr.ne {h : Poly p} (hi : Irr h) : h ≠ 0 := λe => by have := hi.1; rw [e, zy] at this; omega

theorem Irr.cop {h a : Poly p} (hi : Irr h) (hn : ¬ h ∣ a) : Cop h a := by
 obtain ⟨q, hq⟩ := vg h a;rcases hi.2 _ _ hq with h1 | h1
 ·exact zeU h1
 ·exfalso
  obtain ⟨v, hv⟩ := jK h1;exact hn (zw ⟨v, by exact comb (-(gcd h a)) hv (comb (-v) hq (zh [gcd h a, h, q, v] (by rfl)))⟩ (xT h a))
theorem Irr.prime {h a b : Poly p} (hi : Irr h) (hd : h ∣ a * b) : h ∣ a ∨ h ∣ b := by
 by_cases ha : h ∣ a
 ·exact .inl ha
 ·exact .inr ((hi.cop ha).dvd hd)
theorem Irr.not_unit {h u : Poly p} (hi : Irr h) (hu : dg u = 1) : ¬ h ∣ u := λhd => by
 have := zci hu hd;have := hi.1;omega
theorem Irr.pow {h a : Poly p} (hi : Irr h) {n : Nat} (hd : h ∣ a ^ n) : h ∣ a := by
 induction n with
 | zero =>
  have e : a ^ 0 = 1 := by exact zv a
  rw [e] at hd;exact absurd hd (hi.not_unit yT)
 | succ n ih =>
  have e : a ^ (n + 1) = a ^ n * a := by exact zi a n
  rw [e] at hd;exact (hi.prime hd).elim ih id

theorem zbO {g h : Poly p} (hg : Irr g) (hh : Irr h) (mg : Mon g) (mh : Mon h) (hd : g ∣ h) : g = h := by
 refine zkf mg mh hd ?_;obtain ⟨q, rfl⟩ := hd;rcases hh.2 _ _ rfl with h1 | h1
 ·exact absurd h1 (by have := hg.1; omega)
 ·obtain ⟨v, hv⟩ := jK h1;exact ⟨v, by exact comb (-g) hv (zh [g, q, v] (by rfl))⟩

theorem j7 {h : Poly p} (hi : Irr h) : Irr (mnc h) ∧ Mon (mnc h) := by
 refine ⟨?_, j6 hi.ne⟩;obtain ⟨⟨q, hq⟩, ⟨r, hr⟩⟩ := ya h;have h1 := zP (ya h).1 hi.ne;have h2 := zP (ya h).2 (j6 hi.ne).1;refine ⟨by have := hi.1; omega, λa b hab => ?_⟩
 have hq1 : dg q = 1 := by
  have hm := (j6 hi.ne).1;have hq0 : q ≠ 0 := λe => hi.ne (by rw [hq, e]; exact zh [mnc h] (by rfl));have := yS hm hq0;rw [<- hq] at this;omega
 rcases hi.2 a (b * q) (by exact comb (1) hq (comb (q) hab (zh [h, a, b, q, mnc h] (by rfl)))) with h3 | h3
 ·exact .inl h3
 ·exact .inr (zci h3 ⟨q, rfl⟩)

theorem zbP : ∀ (n : Nat) (f : Poly p), dg f <= n -> 2 <= dg f -> ∃ h, Irr h ∧ Mon h ∧ h ∣ f := by
 intro n
 induction n with
 | zero => intro f h1 h2; omega
 | succ n ih =>
  intro f h1 h2;have hf : f ≠ 0 := λe => by rw [e, zy] at h2; omega
  by_cases hi : Irr f
  ·exact ⟨mnc f, (j7 hi).1, (j7 hi).2, (ya f).1⟩
  ·unfold Irr at hi;simp only [not_and, Classical.not_forall, not_or] at hi
   obtain ⟨a, b, rfl, ha, hb⟩ := hi h2;have ha0 : a ≠ 0 := λe => hf (by rw [e]; exact zh [b] (by rfl));have hb0 : b ≠ 0 := λe => hf (by rw [e]; exact zh [a] (by rfl));have h3 := yS ha0 hb0;have h4 : dg a ≠ 0 := λe => ha0 (zd.1 e);have h5 : dg b ≠ 0 := λe => hb0 (zd.1 e);obtain ⟨h, h6, h7, h8⟩ := ih a (by omega) (by omega);exact ⟨h, h6, h7, y4 _ h8⟩

def Sqf (f : Poly p) : Prop := ∀ h, Irr h -> ¬ h * h ∣ f

theorem zbQ {f g : Poly p} (hf : f ≠ 0) (h : ∀ h, Irr h -> h ∣ f -> h ∣ g -> False) : Cop f g := by
 have hm := zck (f := f) (g := g) (.inl hf);have h0 : dg (gcd f g) ≠ 0 := λe => hm.1 (zd.1 e)
 by_cases h1 : dg (gcd f g) = 1
 ·exact zeU h1
 ·obtain ⟨q, h2, _, h3⟩ := zbP _ (gcd f g) (Nat.le_refl _) (by omega);exact (h q h2 (zw h3 (vg f g)) (zw h3 (xT f g))).elim

theorem Sqf.cop {f a b : Poly p} (hs : Sqf f) (hf : f ≠ 0) (h : a * b ∣ f) : Cop a b := by
 have ha : a ≠ 0 := λe => zeR h hf (by rw [e]; exact zh [b] (by rfl));refine zbQ ha λq hq h1 h2 => hs q hq ?_;obtain ⟨x, rfl⟩ := h1;obtain ⟨y, rfl⟩ := h2;exact zw ⟨x * y, by exact zh [q, x, y] (by rfl)⟩ h
theorem Sqf.dvd {f g : Poly p} (hs : Sqf f) (h : g ∣ f) : Sqf g := λq hq hd => hs q hq (zw hd h)

end Poly

def zY : List Int := [2, 3, 5, 7, 11, 13, 17, 19, 23, 29, 31, 37, 41, 43, 47, 53, 59, 61, 67, 71, 73, 79, 83, 89, 97]

def zkh (p k : Int) : List Int -> List Int -> List Int
 | x :: l, y :: l' => (x - k * y) % p :: zkh p k l l'
 | _, _ => []
def stir (p : Int) : Nat -> List Int
 | 0 => [1]
 | n + 1 => zkh p n (0 :: stir p n) (stir p n ++ [0])
def zki (p : Int) : List Int := 0 :: (p - 1) :: (List.replicate (p.toNat - 2) 0 ++ [1])

theorem ziK : zY.all (λp => stir p p.toNat == zki p) = true := by decide +kernel
theorem zkj : zY.all (λp => (List.range p.toNat).all λa => a == 0 || (List.range p.toNat).any λb => (a : Int) * b % p == 1) = true := by decide +kernel
theorem zbR : zY.all (λp => decide (2 <= p ∧ p <= 97)) = true := by decide +kernel

class SP (p : Int) : Prop extends Pr p where
 le : p <= 97
 stir : stir p p.toNat = zki p

theorem yL {p : Int} (h : p ∈ zY) : SP p := by
 have h1 := List.all_eq_true.1 ziK p h;have h2 := List.all_eq_true.1 zkj p h;have h3 := List.all_eq_true.1 zbR p h;simp only [beq_iff_eq, decide_eq_true_eq] at h1 h3
 refine { pos := by omega, two := h3.1, le := h3.2, stir := h1, inv := λa ha => ?_ };rw [List.all_eq_true] at h2;have h4 := Int.emod_nonneg a (show p ≠ 0 by omega);have h5 := Int.emod_lt_of_pos a (show 0 < p by omega);have h6 := h2 (a % p).toNat (List.mem_range.2 (by omega));simp only [Bool.or_eq_true, beq_iff_eq, List.any_eq_true] at h6
 rcases h6 with h6 | ⟨b, _, h6⟩
 ·omega
 ·refine ⟨b, ?_⟩;rw [show ((a % p).toNat : Int) = a % p by omega, Int.mul_emod, Int.emod_emod_of_dvd _ (Int.dvd_refl p), <- Int.mul_emod] at h6;exact h6

namespace Poly
variable {p : Int} [Pr p]

def hev (a b : Poly p) : List Int -> Nat -> Poly p
 | [], _ => 0
 | c :: l, n => con p c * b ^ n + a * hev a b l (n - 1)

def vQ (a b : Poly p) : Nat -> Poly p
 | 0 => 1
 | n + 1 => vQ a b n * (a - con p n * b)


theorem ziL (a b : Poly p) : ∀ (l : List Int) (n : Nat), l.length = n + 1 -> hev a b (l ++ [0]) (n + 1) = b * hev a b l n
 | [], n, h => by simp at h
 | [c], n, h => by
  have : n = 0 := by simpa using h.symm
  subst this;simp only [List.cons_append, List.nil_append, hev, xE]
  rw [zi, zv];exact zh [con p c, b, a, b ^ (0 + 1 - 1)] (by rfl)
 | c :: d :: l, n, h => by
  cases n with
  | zero => simp at h
  | succ n =>
   have ih := ziL a b (d :: l) n (by simpa using h);simp only [List.cons_append] at ih ⊢
   have e1 : hev a b (c :: d :: (l ++ [0])) (n + 1 + 1) = con p c * b ^ (n + 1 + 1) + a * hev a b (d :: (l ++ [0])) (n + 1) := rfl;have e2 : hev a b (c :: d :: l) (n + 1) = con p c * b ^ (n + 1) + a * hev a b (d :: l) n := rfl;rw [e1, e2, ih, zi b (n + 1)];exact zh [a, b, con p c, b ^ (n+1), hev a b (d :: l) n] (by rfl)

theorem ziM (a b : Poly p) (k : Int) : ∀ (l l' : List Int) (n : Nat), l.length = l'.length -> hev a b (zkh p k l l') n = hev a b l n - con p k * hev a b l' n
 | [], [], n, _ => by simp only [zkh, hev]; exact zh [con p k] (by rfl)
 | x :: l, y :: l', n, h => by
  simp only [zkh, hev]
  rw [ziM a b k l l' (n - 1) (by simpa using h), zch, <- zdX, <- zdW];exact zh [con p k, con p x, con p y, a, b ^ n, hev a b l (n-1), hev a b l' (n-1)] (by rfl)
 | [], _ :: _, n, h => by simp at h
 | _ :: _, [], n, h => by simp at h

theorem zdr {p : Int} (k : Int) : ∀ (l l' : List Int), l.length = l'.length -> (zkh p k l l').length = l.length
 | [], [], _ => rfl
 | x :: l, y :: l', h => by simp [zkh, zdr k l l' (by simpa using h)]
 | [], _ :: _, h => by simp at h
 | _ :: _, [], h => by simp at h

theorem ziN {p : Int} (n : Nat) : (stir p n).length = n + 1 := by
 induction n with
 | zero => rfl
 | succ n ih => rw [stir, zdr _ _ _ (by simp)]; simp [ih]

theorem znI (a b : Poly p) (n : Nat) : hev a b (stir p n) n = vQ a b n := by
 induction n with
 | zero => simp only [stir, hev, vQ, zaa, zv]; exact zh [a] (by rfl)
 | succ n ih =>
  rw [stir, ziM _ _ _ _ _ _ (by simp), ziL _ _ _ _ (ziN n), vQ];simp only [hev, xE, Nat.add_sub_cancel, ih]
  exact zh [a, b, vQ a b n, con p (n:Int), b ^ (n+1)] (by rfl)

theorem zps (a b : Poly p) (m : Nat) : hev a b (List.replicate m 0 ++ [1]) m = a ^ m := by
 induction m with
 | zero => simp only [List.replicate_zero, List.nil_append, hev, zaa, zv]; exact zh [a] (by rfl)
 | succ m ih =>
  rw [List.replicate_succ, List.cons_append, hev, Nat.add_sub_cancel, ih, xE, zi a m];exact zh [a, a ^ m, b ^ (m+1)] (by rfl)

section
variable {p : Int} [SP p]

theorem zeV (a b : Poly p) : vQ a b p.toNat = a ^ p.toNat - a * b ^ (p.toNat - 1) := by
 have h2 := Pr.two (p := p);rw [<- znI, SP.stir (p := p), zki];obtain ⟨m, hm⟩ : ∃ m, p.toNat = m + 2 := ⟨p.toNat - 2, by omega⟩
 rw [hm];simp only [hev, xE, show m + 2 - 1 = m + 1 from rfl, show m + 1 - 1 = m from rfl, show m + 2 - 2 = m from rfl, zps]
 have h1 : con p (p - 1) = -1 := by
  rw [<- zdX, zaa, xS.2 (Int.emod_self)]; exact zh [a] (by rfl)
 rw [h1, zi a (m + 1), zi a m];exact zh [a, b, a ^ m, b ^ (m+1), b ^ (m+2)] (by rfl)

theorem ziO (a b : Poly p) (n : Nat) : vQ (a + b) b (n + 1) = (a + b) * vQ a b n := by
 induction n with
 | zero =>
  simp only [vQ]
  rw [show (((0 : Nat)) : Int) = 0 from rfl, xE]; exact zh [a, b] (by rfl)
 | succ n ih =>
  rw [vQ, ih, vQ, show (((n + 1 : Nat)) : Int) = (n : Int) + 1 from by omega, <- zhg, zaa];exact zh [a, b, vQ a b n, con p (n:Int)] (by rfl)

theorem zaO (a b : Poly p) : (a + b) ^ p.toNat = a ^ p.toNat + b ^ p.toNat := by
 have h2 := Pr.two (p := p);obtain ⟨m, hm⟩ : ∃ m, p.toNat = m + 1 := ⟨p.toNat - 1, by omega⟩
 have h1 := zeV (a + b) b;have h3 := zeV a b;rw [hm] at h1 h3 ⊢;rw [ziO] at h1;rw [vQ] at h3;simp only [Nat.add_sub_cancel] at h1 h3
 have h4 : con p (m : Int) = -1 := by
  have : (m : Int) = p - 1 := by omega
  rw [this, <- zdX, zaa, xS.2 (Int.emod_self)]; exact zh [a] (by rfl)
 rw [h4] at h3;rw [zi b m];exact comb (-1) h1 (comb (1) h3 (zh [a, b, vQ a b m, b^m, a^(m+1), (a+b)^(m+1)] (by rfl)))

theorem zdY (n : Nat) : (1 : Poly p) ^ n = 1 := by
 induction n with
 | zero => exact zv _
 | succ n ih => rw [zi, ih]; exact CR.one_mul 1
theorem kK {n : Nat} (h : 0 < n) : (0 : Poly p) ^ n = 0 := by
 obtain ⟨m, rfl⟩ : ∃ m, n = m + 1 := ⟨n - 1, by omega⟩
 rw [zi]; exact CR.mul_zero _
theorem zdZ (a b : Poly p) (n : Nat) : (a * b) ^ n = a ^ n * b ^ n := by
 induction n with
 | zero => simp only [zv]; exact (CR.one_mul 1).symm
 | succ n ih => rw [zi, ih, zi, zi]; exact zh [a, b, a^n, b^n] (by rfl)
theorem pow_add (a : Poly p) (n m : Nat) : a ^ (n + m) = a ^ n * a ^ m := by
 induction m with
 | zero => rw [Nat.add_zero, zv]; exact (CR.mul_one _).symm
 | succ m ih => rw [<- Nat.add_assoc, zi, ih, zi]; exact CR.mul_assoc _ _ _
theorem zhk (a : Poly p) (n m : Nat) : a ^ (n * m) = (a ^ n) ^ m := by
 induction m with
 | zero => rw [Nat.mul_zero, zv, zv]
 | succ m ih => rw [Nat.mul_succ, pow_add, ih, zi]

theorem xp : 0 < p.toNat := by have := Pr.two (p := p); omega

theorem ziP (c : Int) : con p c ^ p.toNat = con p c := by
 have hn : ∀ n : Nat, con p (n : Int) ^ p.toNat = con p (n : Int) := by
  intro n
  induction n with
  | zero => rw [show (((0 : Nat)) : Int) = 0 from rfl, xE, kK xp]
  | succ n ih => rw [show (((n + 1 : Nat)) : Int) = (n : Int) + 1 from by omega, <- zhg, zaO, ih, zaa, zdY]
 have h1 := Int.emod_nonneg c (show p ≠ 0 by have := Pr.two (p := p); omega);have := hn (c % p).toNat
 rwa [show (((c % p).toNat : Nat) : Int) = c % p by omega, zch] at this

theorem znJ (a : Poly p) : vQ a 1 p.toNat = a ^ p.toNat - a := by
 rw [zeV, zdY]; rw [CR.mul_one]
theorem ziQ (a b : Poly p) : (a - b) ^ p.toNat = a ^ p.toNat - b ^ p.toNat := by
 have h := zaO (a - b) b;have : a - b + b = a := by exact zh [a, b] (by rfl)
 rw [this] at h;exact comb (-1) h (zh [(a-b)^p.toNat, a^p.toNat, b^p.toNat] (by rfl))
end

end Poly
namespace Poly
variable {p : Int} [SP p]

def Ber (f v : Poly p) : Prop := f ∣ v ^ p.toNat - v

theorem zgB {h v : Poly p} (hi : Irr h) : ∀ {n : Nat}, h ∣ vQ v 1 n -> ∃ s, s < n ∧ h ∣ v - con p (s : Int)
 | 0, hd => absurd hd (hi.not_unit yT)
 | n + 1, hd => by
  rw [vQ] at hd;rcases hi.prime hd with h1 | h1
  ·obtain ⟨s, h2, h3⟩ := zgB hi h1;exact ⟨s, by omega, h3⟩
  ·exact ⟨n, by omega, by
    have e : v - con p (n : Int) * 1 = v - con p (n : Int) := by exact zh [v, con p (n:Int)] (by rfl)
    rwa [e] at h1⟩

theorem zpt {h v : Poly p} (hi : Irr h) (hd : Ber h v) : ∃ s : Int, 0 <= s ∧ s < p ∧ h ∣ v - con p s := by
 unfold Ber at hd;rw [<- znJ] at hd;obtain ⟨s, h1, h2⟩ := zgB hi hd;exact ⟨s, by omega, by have := Pr.two (p := p); omega, h2⟩

theorem zkk {h v : Poly p} (hi : 2 <= dg h) {s t : Int} (h1 : h ∣ v - con p s) (h2 : h ∣ v - con p t) : s % p = t % p := by
 have h3 : h ∣ con p (s - t) := by
  have := dvd_sub h2 h1;have e : v - con p t - (v - con p s) = con p (s - t) := by rw [<- zdX]; exact zh [v, con p s, con p t] (by rfl)
  rwa [e] at this
 have h4 : con p (s - t) = 0 := by
  refine Classical.byContradiction λhne => ?_;have := zP h3 hne;have := v9 (p := p) (s - t);omega
 have h5 := xS.1 h4;exact Int.emod_eq_emod_iff_emod_sub_eq_zero.2 h5

theorem Ber.dvd {f g v : Poly p} (h : Ber f v) (hd : g ∣ f) : Ber g v := zw hd h
theorem Ber.congr {f v w : Poly p} (h : Ber f v) (hd : f ∣ v - w) : Ber f w := by
 unfold Ber at *;obtain ⟨q, hq⟩ := hd
 have h1 : f ∣ (v - w) ^ p.toNat - (v - w) := by
  rw [hq, zdZ];obtain ⟨m, hm⟩ : ∃ m, p.toNat = m + 1 := ⟨p.toNat - 1, by have := xp (p := p); omega⟩
  rw [hm, zi f, zi q];exact ⟨f ^ m * (q ^ m * q) - q, by exact zh [f, q, f^m, q^m] (by rfl)⟩
 rw [ziQ] at h1;have := dvd_sub h h1;have e : v ^ p.toNat - v - (v ^ p.toNat - w ^ p.toNat - (v - w)) = w ^ p.toNat - w := by exact zh [v, w, v ^ p.toNat, w ^ p.toNat] (by rfl)
 rwa [e] at this

theorem ziR {f part : Poly p} (hf : f ≠ 0) (hs : Sqf f) (hd : part ∣ f) (h2 : 2 <= dg part) (hc : ∀ w, dg w < dg f -> Ber f w -> ∃ s : Int, part ∣ w - con p s) : Irr part := by
 refine ⟨h2, λa b hab => Classical.byContradiction λhn => ?_⟩;simp only [not_or] at hn
 obtain ⟨c, hfc⟩ := hd;have hpart : part ≠ 0 := λe => by rw [e, zy] at h2; omega
 have ha0 : a ≠ 0 := λe => hpart (by rw [hab, e]; exact zh [b] (by rfl));have hb0 : b ≠ 0 := λe => hpart (by rw [hab, e]; exact zh [a] (by rfl));have hda : dg a ≠ 0 := λe => ha0 (zd.1 e);have hdb : dg b ≠ 0 := λe => hb0 (zd.1 e);have hfa : f = a * (b * c) := by rw [hfc, hab]; exact zh [a, b, c] (by rfl)
 have hcop : Cop a (b * c) := hs.cop hf ⟨1, by rw [<- hfa]; exact zh [f] (by rfl)⟩;obtain ⟨u, v, huv⟩ := hcop
 have hber : Ber f (u * a) := by
  unfold Ber;rw [hfa];have hcop' : Cop a (b * c) := ⟨u, v, huv⟩
  obtain ⟨m, hm⟩ : ∃ m, p.toNat = m + 1 := ⟨p.toNat - 1, by have := xp (p := p); omega⟩
  refine hcop'.mul_dvd ?_ ?_
  ·rw [hm, zi];exact ⟨((u * a) ^ m - 1) * u, by exact zh [u, a, (u*a)^m] (by rfl)⟩
  ·have e : u * a = 1 - v * (b * c) := by exact comb (1) huv (zh [u, a, v, b, c] (by rfl))
   rw [e, ziQ, zdY, hm, zi];exact ⟨v - (v * (b * c)) ^ m * v, by exact zh [v, b, c, (v*(b*c))^m] (by rfl)⟩
 have hrem := ve (u * a) f;have hlt := zO (u * a) hf;have hbr : Ber f (rem (u * a) f) := hber.congr ⟨quo (u * a) f, by exact comb (1) hrem (zh [u, a, f, quo (u*a) f, rem (u*a) f] (by rfl))⟩;obtain ⟨s, hs'⟩ := hc _ hlt hbr
 have h3 : part ∣ u * a - con p s := by
  have h4 : part ∣ f := ⟨c, hfc⟩
  have h5 := dvd_add hs' (ye (quo (u * a) f) h4);have e : rem (u * a) f - con p s + quo (u * a) f * f = u * a - con p s := by exact comb (-1) hrem (zh [u, a, f, con p s, quo (u*a) f, rem (u*a) f] (by rfl))
  rwa [e] at h5
 have h6 : a ∣ con p s := by
  have h7 : a ∣ part := ⟨b, hab⟩
  have h8 := dvd_sub (ye u (dvd_refl a)) (zw h7 h3);have e : u * a - (u * a - con p s) = con p s := by exact zh [u, a, con p s] (by rfl)
  rwa [e] at h8
 have h9 : con p s = 0 := by
  refine Classical.byContradiction λhne => ?_;have := zP h6 hne;have := v9 (p := p) s;omega
 rw [h9] at h3
 have h10 : b ∣ 1 := by
  have h7 : b ∣ part := ⟨a, by rw [hab]; exact zh [a, b] (by rfl)⟩
  have h8 := zw h7 h3;have h11 : b ∣ v * (b * c) := ⟨v * c, by exact zh [v, b, c] (by rfl)⟩
  have h12 := dvd_add h8 h11;have e : u * a - 0 + v * (b * c) = 1 := by exact comb (1) huv (zh [u, a, v, b, c] (by rfl))
  rwa [e] at h12
 exact hn.2 (zci yT h10)

end Poly

def dv (f : Nat -> Int) : Nat -> Int := λi => ((i : Int) + 1) * f (i + 1)

theorem zqZ (f g : Nat -> Int) (k : Nat) : dv (cv f g) k = cv (dv f) g k + cv f (dv g) k := by
 induction k generalizing f with
 | zero => simp [dv, cv]; omega
 | succ k ih =>
  have h1 := ih (λi => f (i + 1));have e1 : dv (cv (λi => f (i + 1)) g) k = ((k : Int) + 1) * cv (λi => f (i + 1)) g (k + 1) := rfl
  have e2 : dv (cv f g) (k + 1) = ((k : Int) + 2) * (f 0 * g (k + 2) + cv (λi => f (i + 1)) g (k + 1)) := by
   unfold dv; rw [cv]; congr 1
  have e3 : cv (dv f) g (k + 1) = f 1 * g (k + 1) + cv (λi => dv f (i + 1)) g k := by
   rw [cv]; simp [dv]
  have e4 : cv f (dv g) (k + 1) = f 0 * (((k : Int) + 2) * g (k + 2)) + cv (λi => f (i + 1)) (dv g) k := by
   rw [cv]; unfold dv; congr 3
  have e5 : (λi => dv f (i + 1)) = λi => dv (λi => f (i + 1)) i + f (i + 1 + 1) := by
   funext i
   unfold dv;rw [show ((i + 1 : Nat) : Int) + 1 = ((i : Int) + 1) + 1 from by omega, Int.add_mul ((i : Int) + 1)]; simp
  have e6 : cv (λi => f (i + 1)) g (k + 1) = f 1 * g (k + 1) + cv (λi => f (i + 1 + 1)) g k := by rw [cv]
  rw [e2, e3, e4, e5, zhd];rw [e1] at h1
  have e7 : ((k : Int) + 2) * cv (λi => f (i + 1)) g (k + 1) = ((k : Int) + 1) * cv (λi => f (i + 1)) g (k + 1) + cv (λi => f (i + 1)) g (k + 1) := by
   rw [show (k : Int) + 2 = ((k : Int) + 1) + 1 from by omega, Int.add_mul]; simp
  have e8 : ((k : Int) + 2) * (f 0 * g (k + 2)) = f 0 * (((k : Int) + 2) * g (k + 2)) := by
   rw [<- Int.mul_assoc, Int.mul_comm _ (f 0), Int.mul_assoc]
  rw [Int.mul_add, e7, e8, h1, e6];have e9 : (λi => dv (λi => f (i + 1)) i) = dv (λi => f (i + 1)) := rfl;omega

namespace Poly
variable {p : Int} [SP p]

def der (f : Poly p) : Poly p := of p (mkL (dg f) (dv (cf f.l)))
theorem ja (f : Poly p) (i : Nat) : cf (der f).l i = dv (cf f.l) i % p := by
 rw [der, zM, y0]
 split
 ·rfl
 ·rename_i h
  unfold dv;rw [z5 (f := f) (by omega)]; simp
theorem znK {p : Int} (f : Nat -> Int) (i : Nat) : dv (λi => f i % p) i % p = dv f i % p := by
 unfold dv;rw [Int.mul_emod, Int.emod_emod_of_dvd _ (Int.dvd_refl p), <- Int.mul_emod]
theorem zpu (f g : Poly p) : der (f + g) = der f + der g := zx λi => by
 rw [ja, zeO, znK, yx, ja, ja, <- Int.add_emod];unfold dv; rw [Int.mul_add]
theorem zd0 (f g : Poly p) : der (f * g) = der f * g + f * der g := zx λi => by
 have e1 : cf (der f).l = λi => dv (cf f.l) i % p := funext (ja f);have e2 : cf (der g).l = λi => dv (cf g.l) i % p := funext (ja g);rw [ja, zbN, znK, zqZ, yx, yQ, yQ, e1, e2, kn, j2 (cf f.l) (λi => dv (cf g.l) i % p), kn, j2 (cf f.l) (dv (cf g.l)), <- Int.add_emod]
theorem zbS {f : Poly p} (h : f ≠ 0) : dg (der f) < dg f := by
 have h0 : dg f ≠ 0 := λe => h (zd.1 e)
 have : dg (der f) <= dg f - 1 := j3 λi hi => by
  rw [ja]; unfold dv; rw [z5 (f := f) (by omega)]; simp
 omega

theorem ziS (h : Poly p) (n : Nat) : h ^ n ∣ der (h ^ (n + 1)) := by
 induction n with
 | zero => rw [zv]; exact zdV _
 | succ n ih =>
  rw [zi h (n + 1), zd0, zi h n];rw [zi h n] at ih;obtain ⟨q, hq⟩ := ih;rw [hq];exact ⟨q + der h, by exact zh [h, q, der h, h^n] (by rfl)⟩

theorem zeW {h f : Poly p} {n : Nat} (hd : h ^ (n + 1) ∣ f) : h ^ n ∣ der f := by
 obtain ⟨u, rfl⟩ := hd;rw [zd0];refine dvd_add (y4 _ (ziS h n)) ?_;rw [zi];exact ⟨h * der u, by exact zh [h, der u, h^n] (by rfl)⟩

theorem zeX {h : Poly p} (hi : 2 <= dg h) (n : Nat) : n < dg (h ^ n) := by
 have h0 : h ≠ 0 := λe => by rw [e, zy] at hi; omega
 induction n with
 | zero => rw [zv, yT]; omega
 | succ n ih =>
  have h1 : h ^ n ≠ 0 := λe => by rw [e, zy] at ih; omega
  have := yS h1 h0;rw [zi]; omega

theorem znL {f q c : Poly p} (hf : f ≠ 0) (he : f = q * c) (hc : ∀ h, h ∣ f -> h ∣ der f -> h ∣ c) : Sqf q := by
 intro h hi hd
 have key : ∀ n : Nat, h ^ n ∣ f := by
  intro n
  induction n with
  | zero => rw [zv]; exact zdV _
  | succ n ih =>
   cases n with
   | zero =>
    rw [zi, zv, he];obtain ⟨r, hr⟩ := hd;exact ⟨h * r * c, by exact comb (c) hr (zh [q, c, h, r] (by rfl))⟩
   | succ n =>
    have h1 : h ^ n ∣ f := zw ⟨h, zi h n⟩ ih;obtain ⟨a, ha⟩ := hc _ h1 (zeW ih);obtain ⟨b, hb⟩ := hd;rw [zi, zi, he, ha, hb];exact ⟨b * a, by exact zh [h, a, b, h^n] (by rfl)⟩
 have h1 := zeX hi.1 (dg f);have h2 := zP (key (dg f)) hf;omega

theorem znM {f q c rest s : Poly p} (he : f = q * c) (hs : f = rest * s) (hr : rest ≠ 0) (hc : c ∣ der f) (h1 : Cop rest q) (h2 : Cop rest s) : der rest = 0 := by
 have h3 : rest ∣ c := h1.dvd ⟨s, by rw [<- he, hs]⟩;have h4 := zw h3 hc;rw [hs, zd0] at h4
 have h5 : rest ∣ s * der rest := by
  have := dvd_sub h4 (y4 (der s) (dvd_refl rest));have e : der rest * s + rest * der s - rest * der s = s * der rest := by exact zh [der rest, der s, rest, s] (by rfl)
  rwa [e] at this
 have h6 := h2.dvd h5;refine Classical.byContradiction λhne => ?_;have := zP h6 hne;have := zbS hr;omega

theorem znN (a b : Nat) : mono p 1 a * mono p 1 b = mono p 1 (a + b) := zx λi => by
 rw [yW, j4, j4]
 by_cases h : a <= i
 ·rw [if_pos h]
  by_cases h' : i = a + b
  ·rw [if_pos (by omega), if_pos h']; simp
  ·rw [if_neg (by omega), if_neg h']; simp
 ·rw [if_neg h, if_neg (by omega)]
theorem zeY (a n : Nat) : mono p 1 a ^ n = mono p 1 (a * n) := by
 induction n with
 | zero => rw [zv]; rfl
 | succ n ih => rw [zi, ih, znN, Nat.mul_succ]

def ev (a : Poly p) : List Int -> Poly p
 | [] => 0
 | c :: l => con p c + a * ev a l

theorem zlj (a : Poly p) (l : List Int) : ev a l ^ p.toNat = ev (a ^ p.toNat) l := by
 induction l with
 | nil => exact kK xp
 | cons c l ih => rw [ev, zaO, ziP, zdZ, ih, ev]

theorem zeZ {m : Nat} (hm : 0 < m) (l : List Int) (k : Nat) : cf (ev (mono p 1 m) l).l k = if k % m = 0 then cf l (k / m) % p else 0 := by
 induction l generalizing k with
 | nil => rw [ev, zN, zS]; simp
 | cons c l ih =>
  rw [ev, yx, xN, yW]
  by_cases hk : m <= k
  ·rw [if_pos hk, ih, if_neg (by omega)];have e1 : (k - m) % m = k % m := (Nat.mod_eq_sub_mod hk).symm;have e2 : k / m = (k - m) / m + 1 := Nat.div_eq_sub_div hm hk;rw [e1]
   split
   ·rw [e2, zm]; simp
   ·simp
  ·rw [if_neg hk, Int.add_zero]
   by_cases h0 : k = 0
   ·subst h0; simp [cf]
   ·rw [if_neg h0, if_neg (by rw [Nat.mod_eq_of_lt (by omega)]; exact h0)]; simp

theorem zqp (f : Poly p) : ev (mono p 1 1) f.l = f := zx λi => by
 rw [zeZ (by omega)]; simp [xz, Nat.mod_one]

theorem znO (f : Poly p) (k : Nat) : cf (f ^ p.toNat).l k = if k % p.toNat = 0 then cf f.l (k / p.toNat) else 0 := by
 have h1 := zlj (mono p 1 1) f.l;rw [zqp, zeY, Nat.one_mul] at h1;rw [h1, zeZ xp]
 split
 ·exact xz _ _
 ·rfl

theorem ziT {f r : Poly p} (h : der f = 0) (hr : ∀ i, cf r.l i = cf f.l (i * p.toNat)) : r ^ p.toNat = f := by
 refine zx λk => ?_;rw [znO]
 split
 ·rename_i hk
  rw [hr, Nat.div_mul_cancel (Nat.dvd_of_mod_eq_zero hk)]
 ·rename_i hk
  cases k with
  | zero => simp at hk
  | succ k =>
   have h1 := ja f k;rw [h, zN] at h1;unfold dv at h1;refine Classical.byContradiction λhne => ?_;refine Pr.mul_ne (p := p) (a := (k : Int) + 1) (b := cf f.l (k + 1)) (λh2 => hk ?_) (ym (Ne.symm hne)) h1.symm
   have h3 : ((k + 1 : Nat) : Int) % ((p.toNat : Nat) : Int) = 0 := by
    have := Pr.two (p := p);rw [show ((p.toNat : Nat) : Int) = p by omega]; exact_mod_cast h2
   exact_mod_cast h3

end Poly

def zI (f : Nat -> Int) : Nat -> Int
 | 0 => 0
 | n + 1 => zI f n + f n

theorem xO {f g : Nat -> Int} {n : Nat} (h : ∀ i, i < n -> f i = g i) : zI f n = zI g n := by
 induction n with
 | zero => rfl
 | succ n ih => rw [zI, zI, ih λi hi => h i (by omega), h n (by omega)]
theorem jL (f g : Nat -> Int) (n : Nat) : zI (λi => f i + g i) n = zI f n + zI g n := by
 induction n with
 | zero => rfl
 | succ n ih => simp only [zI, ih]; omega
theorem jM (a : Int) (f : Nat -> Int) (n : Nat) : zI (λi => a * f i) n = a * zI f n := by
 induction n with
 | zero => simp [zI]
 | succ n ih => simp only [zI, ih, Int.mul_add]
theorem kL {f : Nat -> Int} {n : Nat} (h : ∀ i, i < n -> f i = 0) : zI f n = 0 := by
 induction n with
 | zero => rfl
 | succ n ih => rw [zI, ih λi hi => h i (by omega), h n (by omega)]; rfl
theorem y2 (p : Int) {f g : Nat -> Int} {n : Nat} (h : ∀ i, i < n -> f i % p = g i % p) : zI f n % p = zI g n % p := by
 induction n with
 | zero => rfl
 | succ n ih => rw [zI, zI, Int.add_emod, ih λi hi => h i (by omega), h n (by omega), <- Int.add_emod]
theorem vS {f : Nat -> Int} {n k : Nat} (hk : k < n) (h : ∀ i, i < n -> i ≠ k -> f i = 0) : zI f n = f k := by
 induction n with
 | zero => omega
 | succ n ih =>
  rw [zI]
  by_cases he : k = n
  ·subst he; rw [kL λi hi => h i (by omega) (by omega)]; simp
  ·rw [ih (by omega) λi hi hne => h i (by omega) hne, h n (by omega) (by omega)]; simp
theorem zmk (f : Nat -> Nat -> Int) (n m : Nat) : zI (λi => zI (f i) m) n = zI (λj => zI (λi => f i j) n) m := by
 induction n with
 | zero => simp only [zI]; exact (kL λ_ _ => rfl).symm
 | succ n ih => simp only [zI, ih, <- jL]

def j8 (p : Int) (n : Nat) (r c : Nat -> Int) : Prop := zI (λi => r i * c i) n % p = 0
def Sol (p : Int) (n m : Nat) (R : Nat -> Nat -> Int) (c : Nat -> Int) : Prop := ∀ k, k < m -> j8 p n (R k) c

theorem vT {p : Int} {n : Nat} {r r' c c' : Nat -> Int} (hr : ∀ i, i < n -> r i % p = r' i % p) (hc : ∀ i, i < n -> c i % p = c' i % p) : j8 p n r c ↔ j8 p n r' c' := by
 unfold j8;rw [y2 p (g := λi => r' i * c' i) λi hi => by rw [Int.mul_emod, hr i hi, hc i hi, <- Int.mul_emod]]
theorem zgC {p : Int} {n : Nat} {r r' c : Nat -> Int} (a : Int) (h : j8 p n r c) (h' : j8 p n r' c) : j8 p n (λi => r i + a * r' i) c := by
 unfold j8 at *
 have e : zI (λi => (r i + a * r' i) * c i) n = zI (λi => r i * c i) n + a * zI (λi => r' i * c i) n := by
  rw [<- jM, <- jL];exact xO λi _ => by rw [Int.add_mul, Int.mul_assoc]
 rw [e, Int.add_emod, h, Int.mul_emod, h']; simp
theorem zac {p : Int} {n : Nat} {r c : Nat -> Int} (a : Int) (h : j8 p n r c) : j8 p n (λi => a * r i) c := by
 unfold j8 at *
 have e : zI (λi => a * r i * c i) n = a * zI (λi => r i * c i) n := by
  rw [<- jM];exact xO λi _ => by rw [Int.mul_assoc]
 rw [e, Int.mul_emod, h]; simp

theorem znP {p : Int} {n m a b : Nat} {R R' : Nat -> Nat -> Int} (ha : a < m) (hb : b < m) (h1 : R' a = R b) (h2 : R' b = R a) (h3 : ∀ k, k < m -> k ≠ a -> k ≠ b -> R' k = R k) (c : Nat -> Int) : Sol p n m R' c ↔ Sol p n m R c := by
 constructor
 ·intro h k hk
  by_cases hka : k = a
  ·subst hka; rw [<- h2]; exact h b hb
  ·by_cases hkb : k = b
   ·subst hkb; rw [<- h1]; exact h a ha
   ·rw [<- h3 k hk hka hkb]; exact h k hk
 ·intro h k hk
  by_cases hka : k = a
  ·subst hka; rw [h1]; exact h b hb
  ·by_cases hkb : k = b
   ·subst hkb; rw [h2]; exact h a ha
   ·rw [h3 k hk hka hkb]; exact h k hk

structure Steps (p : Int) (n : Nat) (col : Nat) (piv : List Nat) (R : Nat -> Nat -> Int) : Prop where
 le : piv.length <= n
 lt : ∀ x ∈ piv, x < col
 nodup : piv.Nodup
 one : ∀ i x, piv[i]? = some x -> R i x % p = 1
 zero : ∀ i x, piv[i]? = some x -> ∀ k, k < n -> k ≠ i -> R k x % p = 0
 rest : ∀ k, piv.length <= k -> k < n -> ∀ x, x < col -> R k x % p = 0

theorem Steps.start (p : Int) (n : Nat) (R : Nat -> Nat -> Int) : Steps p n 0 [] R :=
 ⟨by simp, by simp, by simp, by simp, by simp, λk _ _ x hx => by omega⟩

theorem Steps.skip {p : Int} {n col : Nat} {piv : List Nat} {R : Nat -> Nat -> Int} (h : Steps p n col piv R) (h0 : ∀ k, piv.length <= k -> k < n -> R k col % p = 0) : Steps p n (col + 1) piv R :=
 ⟨h.le, λx hx => by have := h.lt x hx; omega, h.nodup, h.one, h.zero, λk hk hkn x hx => by
  by_cases he : x = col
  ·subst he; exact h0 k hk hkn
  ·exact h.rest k hk hkn x (by omega)⟩

def jN (_p : Int) (piv : List Nat) (R : Nat -> Nat -> Int) (col : Nat) (x : Nat) : Int :=
 if x = col then 1 else match piv.idxOf? x with | some i => -(R i col) | none => 0

theorem yf (p a : Int) : a % p % p = a % p := Int.emod_emod_of_dvd _ (Int.dvd_refl p)
theorem vh {p a a' : Int} (b : Int) (h : a % p = a' % p) : a * b % p = a' * b % p := by rw [Int.mul_emod, h, <- Int.mul_emod]
theorem y5 {p a a' : Int} (b : Int) (h : a % p = a' % p) : b * a % p = b * a' % p := by rw [Int.mul_emod, h, <- Int.mul_emod]
theorem yt {p a : Int} (b : Int) (h : a % p = 0) : b * a % p = 0 := by rw [Int.mul_emod, h]; simp
theorem zbh {p a a' b b' : Int} (h : a % p = a' % p) (k : b % p = b' % p) : (a - b) % p = (a' - b') % p := by rw [Int.sub_emod, h, k, <- Int.sub_emod]

theorem Steps.pivot {p : Int} {n col : Nat} {piv : List Nat} {R R' : Nat -> Nat -> Int} {s : Int} (h : Steps p n col piv R) (hp : (1 : Int) % p = 1) (hc : col < n) (hat : piv.length < n) (hs : s * R piv.length col % p = 1)
  (h1 : ∀ x, x < n -> R' piv.length x % p = (s * R piv.length x) % p)
  (h2 : ∀ i, i < n -> i ≠ piv.length -> ∀ x, x < n -> R' i x % p = (R i x - R i col * (s * R piv.length x)) % p) : Steps p n (col + 1) (piv ++ [col]) R' := by
 have hnew : ∀ i x, (piv ++ [col])[i]? = some x -> (i < piv.length ∧ piv[i]? = some x) ∨ (i = piv.length ∧ x = col) := by
  intro i x hx;rcases Nat.lt_or_ge i piv.length with hlt | hge
  ·rw [List.getElem?_append_left hlt] at hx; exact .inl ⟨hlt, hx⟩
  ·rw [List.getElem?_append_right hge] at hx;cases hi : i - piv.length with
   | zero => rw [hi] at hx; simp at hx; exact .inr ⟨by omega, hx.symm⟩
   | succ j => rw [hi] at hx; simp at hx
 have hzat : ∀ x, x < col -> R piv.length x % p = 0 := λx hx => h.rest _ (Nat.le_refl _) hat x hx
 have hkeep : ∀ i, i < n -> i ≠ piv.length -> ∀ x, x < col -> R' i x % p = R i x % p := λi hi hne x hx => by
  rw [h2 i hi hne x (by omega), <- Int.sub_zero (R i x)];refine (zbh (by rw [Int.sub_zero]) ?_).trans (by rw [Int.sub_zero]);rw [<- Int.mul_assoc, yt _ (hzat x hx)]; simp
 have hcol : ∀ i, i < n -> i ≠ piv.length -> R' i col % p = 0 := λi hi hne => by
  rw [h2 i hi hne col hc];have : (R i col - R i col * (s * R piv.length col)) % p = (R i col - R i col * 1) % p := zbh rfl (y5 _ (by rw [hs, hp]));rw [this]; simp
 refine ⟨by simp; omega, λx hx => ?_, ?_, λi x hx => ?_, λi x hx k hk hne => ?_, λk hk hkn x hx => ?_⟩
 ·rcases List.mem_append.1 hx with hx | hx
  ·have := h.lt x hx; omega
  ·simp at hx; omega
 ·refine List.nodup_append.2 ⟨h.nodup, by simp, λa ha b hb => ?_⟩;simp at hb
  have := h.lt a ha;omega
 ·rcases hnew i x hx with ⟨hi, hx'⟩ | ⟨rfl, rfl⟩
  ·have hxc := h.lt x (List.mem_of_getElem? hx');rw [hkeep i (by have := h.le; omega) (by omega) x hxc]; exact h.one i x hx'
  ·rw [h1 _ hc]; exact hs
 ·rcases hnew i x hx with ⟨hi, hx'⟩ | ⟨rfl, rfl⟩
  ·have hxc := h.lt x (List.mem_of_getElem? hx')
   by_cases hka : k = piv.length
   ·subst hka;rw [h1 x (by omega), yt _ (hzat x hxc)]
   ·rw [hkeep k hk hka x hxc]; exact h.zero i x hx' k hk hne
  ·exact hcol k hk hne
 ·simp only [List.length_append, List.length_singleton] at hk
  by_cases hxc : x = col
  ·subst hxc; exact hcol k hkn (by omega)
  ·rw [hkeep k hkn (by omega) x (by omega)]; exact h.rest k (by omega) hkn x (by omega)

theorem Steps.swap {p : Int} {n col : Nat} {piv : List Nat} {R R' : Nat -> Nat -> Int} {b : Nat} (h : Steps p n col piv R) (hb : piv.length <= b) (hbn : b < n) (h1 : R' piv.length = R b) (h2 : R' b = R piv.length) (h3 : ∀ k, k < n -> k ≠ piv.length -> k ≠ b -> R' k = R k) : Steps p n col piv R' := by
 have hlow : ∀ i, i < piv.length -> R' i = R i := λi hi => h3 i (by omega) (by omega) (by omega)
 have hrest : ∀ k, piv.length <= k -> k < n -> ∀ x, x < col -> R' k x % p = 0 := λk hk hkn x hx => by
  by_cases hka : k = piv.length
  ·subst hka; rw [h1]; exact h.rest b hb hbn x hx
  ·by_cases hkb : k = b
   ·subst hkb; rw [h2]; exact h.rest _ (Nat.le_refl _) (by omega) x hx
   ·rw [h3 k hkn hka hkb]; exact h.rest k hk hkn x hx
 refine ⟨h.le, h.lt, h.nodup, λi x hx => ?_, λi x hx k hk hne => ?_, hrest⟩
 ·rw [hlow i (List.getElem?_eq_some_iff.1 hx).1]; exact h.one i x hx
 ·rcases Nat.lt_or_ge k piv.length with hlt | hge
  ·rw [hlow k hlt]; exact h.zero i x hx k hk hne
  ·exact hrest k hge hk x (h.lt x (List.mem_of_getElem? hx))

theorem zad {piv : List Nat} (hn : piv.Nodup) {i x : Nat} (h : piv[i]? = some x) : piv.idxOf? x = some i := by
 obtain ⟨hi, he⟩ := List.getElem?_eq_some_iff.1 h;rw [List.idxOf?_eq_some_iff];refine ⟨hi, by simpa using he, λj hj => ?_⟩;have h1 : piv[j]'(by omega) ≠ piv[i] := List.pairwise_iff_getElem.1 hn j i (by omega) hi hj;simp only [ne_eq]
 rw [<- he]; exact h1
theorem zcl {piv : List Nat} {x : Nat} (h : x ∉ piv) : piv.idxOf? x = none := by
 rw [List.idxOf?_eq_none_iff]; exact h

theorem znQ {f : Nat -> Int} {n a b : Nat} (hab : a ≠ b) (ha : a < n) (hb : b < n) (h : ∀ i, i < n -> i ≠ a -> i ≠ b -> f i = 0) : zI f n = f a + f b := by
 have e : zI f n = zI (λi => (if i = a then f i else 0) + (if i = a then 0 else f i)) n := xO λi _ => by split <;> simp
 rw [e, jL, vS ha λi _ hne => by simp [hne], vS (k := b) hb λi hi hne => by
  by_cases hia : i = a
  ·simp [hia]
  ·simp [hia, h i hi hia hne]]
 simp [Ne.symm hab]

theorem Steps.free {p : Int} {n : Nat} {piv : List Nat} {R : Nat -> Nat -> Int} (h : Steps p n n piv R) {col : Nat} (hc : col < n) (hf : col ∉ piv) : Sol p n n R (jN p piv R col) := by
 intro k hk;unfold j8;rcases Nat.lt_or_ge k piv.length with hlt | hge
 ·have hx := List.getElem?_eq_getElem hlt;have hxl := h.lt _ (List.mem_of_getElem? hx);have hne : piv[k] ≠ col := λe => hf (e ▸ List.getElem_mem hlt)
  have e1 : zI (λx => R k x * jN p piv R col x) n % p = zI (λx => if x = piv[k] then -(R k col) else if x = col then R k col else 0) n % p := by
   refine y2 p λx hxn => ?_
   by_cases hxc : x = col
   ·subst hxc;simp [jN, Ne.symm hne]
   ·by_cases hxp : x ∈ piv
    ·obtain ⟨i, hi, he⟩ := List.mem_iff_getElem.1 hxp;have hix : piv[i]? = some x := by rw [List.getElem?_eq_getElem hi, he]
     have e2 : jN p piv R col x = -(R i col) := by simp [jN, hxc, zad h.nodup hix]
     rw [e2]
     by_cases hik : i = k
     ·subst hik;have h1 := h.one i x hix;simp only [he, if_true]
      rw [vh (a' := 1) _ (by
       rw [h1];have := yf p (R i x);rw [h1] at this; exact this.symm)]
      simp
     ·have h0 := h.zero i x hix k hk (Ne.symm hik)
      have hne2 : x ≠ piv[k] := λe => hik (by
       have := zad h.nodup hix;rw [e, zad h.nodup hx] at this;exact (Option.some.inj this).symm)
      rw [if_neg hne2, if_neg hxc, Int.mul_comm, yt _ h0]; simp
    ·have hne2 : x ≠ piv[k] := λe => hxp (e ▸ List.getElem_mem hlt);simp [jN, hxc, zcl hxp, hne2]
  rw [e1, znQ (a := piv[k]) (b := col) hne hxl hc λi _ h1 h2 => by simp [h1, h2]];simp [Ne.symm hne, Int.add_left_neg]
 ·rw [y2 p (g := λ_ => 0) λx hx => by rw [Int.mul_comm, yt _ (h.rest k hge hk x hx)]; simp, kL λ_ _ => rfl]; simp

theorem Steps.all {p : Int} {n : Nat} {piv : List Nat} {R : Nat -> Nat -> Int} (h : Steps p n n piv R) {c : Nat -> Int} (hs : Sol p n n R c) : ∀ x, x < n -> c x % p = zI (λcol => if col ∈ piv then 0 else c col * jN p piv R col x) n % p := by
 intro x hx
 by_cases hxp : x ∈ piv
 ·obtain ⟨i, hi, he⟩ := List.mem_iff_getElem.1 hxp;have hix : piv[i]? = some x := by rw [List.getElem?_eq_getElem hi, he]
  have hin : i < n := by have := h.le; omega
  have h1 := hs i hin;unfold j8 at h1
  have e1 : zI (λcol => R i col * c col) n % p = zI (λcol => (if col = x then c x else 0) + (if col ∈ piv then 0 else R i col * c col)) n % p := by
   refine y2 p λcol hcn => ?_
   by_cases hcp : col ∈ piv
   ·obtain ⟨j, hj, hje⟩ := List.mem_iff_getElem.1 hcp;have hjc : piv[j]? = some col := by rw [List.getElem?_eq_getElem hj, hje]
    by_cases hij : j = i
    ·subst hij;have hcx : col = x := by rw [hix] at hjc; exact (Option.some.inj hjc).symm
     subst hcx;have h2 := h.one j col hjc;simp only [if_true, hcp, Int.add_zero]
     rw [vh (a' := 1) _ (by
      rw [h2];have := yf p (R j col);rw [h2] at this; exact this.symm)]
     simp
    ·have hcx : col ≠ x := λe => hij (by
      have := zad h.nodup hix;rw [<- e, zad h.nodup hjc] at this;exact Option.some.inj this)
     rw [if_neg hcx, if_pos hcp, Int.mul_comm, yt _ (h.zero j col hjc i hin (Ne.symm hij))]; simp
   ·have hcx : col ≠ x := λe => hcp (e ▸ hxp);simp [hcx, hcp]
  rw [e1, jL, vS (k := x) hx λi _ hne => by simp [hne]] at h1;simp only [if_true] at h1
  have e2 : zI (λcol => if col ∈ piv then 0 else c col * jN p piv R col x) n = -1 * zI (λcol => if col ∈ piv then 0 else R i col * c col) n := by
   rw [<- jM];refine xO λcol _ => ?_
   by_cases hcp : col ∈ piv
   ·simp [hcp]
   ·have hcx : x ≠ col := λe => hcp (e ▸ hxp);simp only [hcp, if_false]
    simp only [jN, hcx, if_false, zad h.nodup hix]
    rw [Int.mul_comm, Int.neg_mul]; omega
  rw [e2];have h3 : c x = (c x + zI (λcol => if col ∈ piv then 0 else R i col * c col) n) - zI (λcol => if col ∈ piv then 0 else R i col * c col) n := by omega
  rw [h3, Int.sub_emod, h1];rw [show -1 * zI (λcol => if col ∈ piv then 0 else R i col * c col) n = 0 - zI (λcol => if col ∈ piv then 0 else R i col * c col) n from by omega, Int.sub_emod 0];simp [zpo]
 ·rw [vS (k := x) hx λi _ hne => by
   by_cases hip : i ∈ piv
   ·simp [hip]
   ·simp [hip, jN, Ne.symm hne, zcl hxp]]
  simp [hxp, jN]


structure Half (p : Int) (n : Nat) (M : Nat -> Nat -> Int) (col : Nat) (used : Nat -> Prop) (L T : Nat -> Nat -> Int) : Prop where
 comb : ∀ k, k < n -> ∀ x, x < n -> L k x % p = zI (λj => T k j * M j x) n % p
 span : ∀ c : Nat -> Int, ∃ d : Nat -> Int, ∀ j, j < n -> c j % p = zI (λk => d k * T k j) n % p
 piv : ∀ k, k < n -> used k -> ∃ x, x < col ∧ x < n ∧ L k x % p ≠ 0 ∧ ∀ k', k' < n -> k' ≠ k -> L k' x % p = 0
 rest : ∀ k, k < n -> ¬ used k -> ∀ x, x < col -> L k x % p = 0

theorem Half.start (p : Int) (n : Nat) (M T : Nat -> Nat -> Int) (hT : ∀ i, i < n -> ∀ j, j < n -> T i j = if i = j then 1 else 0) : Half p n M 0 (λ_ => False) M T := by
 refine ⟨λk hk x hx => ?_, λc => ⟨c, λj hj => ?_⟩, λk _ h => h.elim, λk _ _ x hx => by omega⟩
 ·rw [vS (k := k) hk λi hi hne => by rw [hT k hk i hi]; simp [Ne.symm hne], hT k hk k hk]; simp
 ·rw [vS (k := j) hj λi hi hne => by rw [hT i hi j hj]; simp [hne], hT j hj j hj]; simp

theorem Half.skip {p : Int} {n : Nat} {M : Nat -> Nat -> Int} {col : Nat} {used : Nat -> Prop} {L T : Nat -> Nat -> Int} (h : Half p n M col used L T) (h0 : ∀ k, k < n -> ¬ used k -> L k col % p = 0) : Half p n M (col + 1) used L T :=
 ⟨h.comb, h.span, λk hk hu => by obtain ⟨x, h1, h2⟩ := h.piv k hk hu; exact ⟨x, by omega, h2⟩, λk hk hu x hx => by
  by_cases he : x = col
  ·subst he; exact h0 k hk hu
  ·exact h.rest k hk hu x (by omega)⟩

theorem Half.pivot {p : Int} {n : Nat} {M : Nat -> Nat -> Int} {col : Nat} {used : Nat -> Prop} {L T L' T' : Nat -> Nat -> Int} {at' : Nat} {q : Nat -> Int} (h : Half p n M col used L T) (hc : col < n) (hat : at' < n) (hu : ¬ used at') (hne : L at' col % p ≠ 0)
  (hq0 : q at' = 0) (hq : ∀ i, i < n -> i ≠ at' -> q i * L at' col % p = L i col % p) (hL : ∀ i, i < n -> ∀ x, x < n -> L' i x % p = (L i x - q i * L at' x) % p) (hT : ∀ i, i < n -> ∀ x, x < n -> T' i x % p = (T i x - q i * T at' x) % p) :
  Half p n M (col + 1) (λk => k = at' ∨ used k) L' T' := by
 have hLat : ∀ x, x < n -> L' at' x % p = L at' x % p := λx hx => by rw [hL _ hat x hx, hq0]; simp
 have hTat : ∀ x, x < n -> T' at' x % p = T at' x % p := λx hx => by rw [hT _ hat x hx, hq0]; simp
 have hzat : ∀ x, x < col -> L at' x % p = 0 := λx hx => h.rest at' hat hu x hx
 have hkeep : ∀ i, i < n -> ∀ x, x < col -> L' i x % p = L i x % p := λi hi x hx => by
  rw [hL i hi x (by omega)];refine (zbh (a' := L i x) (b' := 0) rfl (by rw [yt _ (hzat x hx)]; simp)).trans (by rw [Int.sub_zero])
 have hcol : ∀ i, i < n -> i ≠ at' -> L' i col % p = 0 := λi hi hne => by
  rw [hL i hi col hc];exact (zbh rfl (hq i hi hne)).trans (by simp)
 refine ⟨λk hk x hx => ?_, λc => ?_, λk hk hu' => ?_, λk hk hu' x hx => ?_⟩
 ·have e1 : zI (λj => T' k j * M j x) n % p = zI (λj => T k j * M j x + -q k * (T at' j * M j x)) n % p := by
   refine y2 p λj hj => ?_;rw [vh _ (hT k hk j hj)]
   congr 1
   rw [Int.sub_mul, Int.mul_assoc, Int.neg_mul]; omega
  rw [e1, jL, jM, hL k hk x hx];have e2 : zI (λj => T k j * M j x) n + -q k * zI (λj => T at' j * M j x) n = zI (λj => T k j * M j x) n - q k * zI (λj => T at' j * M j x) n := by rw [Int.neg_mul]; omega
  rw [e2];exact zbh (h.comb k hk x hx) (y5 _ (h.comb at' hat x hx))
 ·obtain ⟨d, hd⟩ := h.span c;refine ⟨λk => d k + if k = at' then zI (λi => d i * q i) n else 0, λj hj => ?_⟩;rw [hd j hj]
  have e1 : zI (λk => d k * T k j) n % p = zI (λk => d k * T' k j + T' at' j * (d k * q k)) n % p := by
   refine y2 p λk hk => ?_
   have h1 : T k j % p = (T' k j + q k * T' at' j) % p := by
    have h2 := hT k hk j hj;rw [Int.add_emod, h2, Int.mul_emod, hTat j hj, <- Int.mul_emod, <- Int.add_emod]
    congr 1; omega
   rw [y5 _ h1]
   congr 1
   rw [Int.mul_add, <- Int.mul_assoc, Int.mul_comm (T' at' j)]
  rw [e1, jL, jM]
  have e2 : zI (λk => (d k + if k = at' then zI (λi => d i * q i) n else 0) * T' k j) n = zI (λk => d k * T' k j + (if k = at' then zI (λi => d i * q i) n * T' k j else 0)) n := by
   refine xO λk _ => ?_;rw [Int.add_mul]; split <;> simp
  rw [e2, jL, vS (k := at') (f := λk => if k = at' then zI (λi => d i * q i) n * T' k j else 0) hat λi _ hne => by simp [hne]];simp [Int.mul_comm]
 ·by_cases hka : k = at'
  ·subst hka;refine ⟨col, by omega, hc, ?_, λk' hk' hne' => hcol k' hk' hne'⟩;rw [hLat col hc]; exact hne
  ·obtain ⟨x, h1, h2, h3, h4⟩ := h.piv k hk (hu'.resolve_left hka);refine ⟨x, by omega, h2, by rw [hkeep k hk x h1]; exact h3, λk' hk' hne' => ?_⟩;rw [hkeep k' hk' x h1]; exact h4 k' hk' hne'
 ·simp only [not_or] at hu'
  by_cases hxc : x = col
  ·subst hxc; exact hcol k hk hu'.1
  ·rw [hkeep k hk x (by omega)]; exact h.rest k hk hu'.2 x (by omega)

theorem Half.free {p : Int} {n : Nat} {M : Nat -> Nat -> Int} {used : Nat -> Prop} {L T : Nat -> Nat -> Int} (h : Half p n M n used L T) {k : Nat} (hk : k < n) (hu : ¬ used k) : ∀ x, x < n -> zI (λj => T k j * M j x) n % p = 0 := λx hx => by
 rw [<- h.comb k hk x hx]; exact h.rest k hk hu x hx

theorem Half.all {p : Int} [Pr p] {n : Nat} {M : Nat -> Nat -> Int} {used : Nat -> Prop} {L T : Nat -> Nat -> Int} (h : Half p n M n used L T) {w : Nat -> Int} (hw : ∀ x, x < n -> zI (λj => w j * M j x) n % p = 0)
  {j : Nat} (hj : j < n) (h0 : ∀ k, k < n -> ¬ used k -> T k j % p = 0) : w j % p = 0 := by
 obtain ⟨d, hd⟩ := h.span w
 have h1 : ∀ x, x < n -> zI (λk => d k * L k x) n % p = 0 := by
  intro x hx
  have e1 : zI (λk => d k * L k x) n % p = zI (λk => zI (λj => d k * (T k j * M j x)) n) n % p := by
   refine y2 p λk hk => ?_;rw [jM, y5 _ (h.comb k hk x hx)]
  rw [e1, zmk, <- hw x hx];refine y2 p λj hj => ?_;rw [vh _ (hd j hj)]
  congr 1
  rw [Int.mul_comm _ (M j x), <- jM];exact xO λk _ => by rw [<- Int.mul_assoc, Int.mul_comm]
 have h2 : ∀ k, k < n -> used k -> d k % p = 0 := by
  intro k hk hu;obtain ⟨x, _, hxn, h3, h4⟩ := h.piv k hk hu;have h5 := h1 x hxn
  rw [y2 p (g := λk' => if k' = k then d k * L k x else 0) λk' hk' => by
   by_cases he : k' = k
   ·subst he; simp
   ·rw [yt _ (h4 k' hk' he)]; simp [he], vS (k := k) hk λi _ hne => by simp [hne]] at h5
  simp only [if_true] at h5
  exact Classical.byContradiction λhne => Pr.mul_ne hne h3 h5
 rw [hd j hj, y2 p (g := λ_ => 0) λk hk => by
  by_cases hu : used k
  ·rw [Int.mul_comm, yt _ (h2 k hk hu)]; simp
  ·rw [yt _ (h0 k hk hu)]; simp, kL λ_ _ => rfl]
 simp

namespace Poly
variable {p : Int} [SP p]

def yz (g : Nat -> Poly p) : Nat -> Poly p
 | 0 => 0
 | n + 1 => yz g n + g n
theorem zkl (g : Nat -> Poly p) (n : Nat) : yz g (n + 1) = g 0 + yz (λi => g (i + 1)) n := by
 induction n with
 | zero => simp only [yz]; exact zh [g 0] (by rfl)
 | succ n ih => rw [yz, ih, yz]; exact CR.add_assoc _ _ _
theorem ze0 {f g : Nat -> Poly p} {n : Nat} (h : ∀ i, i < n -> f i = g i) : yz f n = yz g n := by
 induction n with
 | zero => rfl
 | succ n ih => rw [yz, yz, ih λi hi => h i (by omega), h n (by omega)]
theorem znR (a : Poly p) (g : Nat -> Poly p) (n : Nat) : yz (λi => a * g i) n = a * yz g n := by
 induction n with
 | zero => simp only [yz]; exact (CR.mul_zero a).symm
 | succ n ih => simp only [yz, ih]; exact (CR.mul_add _ _ _).symm
theorem ziU (f g : Nat -> Poly p) (n : Nat) : yz (λi => f i - g i) n = yz f n - yz g n := by
 induction n with
 | zero => simp only [yz]; exact (CR.sub_self 0).symm
 | succ n ih => simp only [yz, ih]; exact zh [yz f n, yz g n, f n, g n] (by rfl)
theorem zml {f : Nat -> Poly p} {n : Nat} (h : ∀ i, i < n -> f i = 0) : yz f n = 0 := by
 induction n with
 | zero => rfl
 | succ n ih => rw [yz, ih λi hi => h i (by omega), h n (by omega)]; exact CR.add_zero 0
theorem znS {f : Poly p} {g : Nat -> Poly p} {n : Nat} (h : ∀ i, i < n -> f ∣ g i) : f ∣ yz g n := by
 induction n with
 | zero => exact dvd_zero _
 | succ n ih => exact dvd_add (ih λi hi => h i (by omega)) (h n (by omega))
theorem zhl (c : Nat -> Int) (g : Nat -> Poly p) (n x : Nat) : cf (yz (λj => con p (c j) * g j) n).l x = zI (λj => cf (g j).l x * c j) n % p := by
 induction n with
 | zero => rw [yz, zN, zI]; simp
 | succ n ih => rw [yz, yx, ih, zeS, zI, <- Int.add_emod, Int.mul_comm (c n)]
theorem zpv {g : Nat -> Poly p} {n m : Nat} (h : ∀ i, i < n -> dg (g i) <= m) : dg (yz g n) <= m := by
 induction n with
 | zero => rw [yz, zy]; omega
 | succ n ih =>
  have h1 := ih λi hi => h i (by omega);have h2 := h n (by omega);have := zc0 (yz g n) (g n);rw [yz]; omega

theorem znT (a : Poly p) (l : List Int) {n : Nat} (h : l.length <= n) : ev a l = yz (λj => con p (cf l j) * a ^ j) n := by
 induction l generalizing n with
 | nil => exact (zml λi _ => by rw [zS, xE]; exact CR.zero_mul _).symm
 | cons c l ih =>
  obtain ⟨m, rfl⟩ : ∃ m, n = m + 1 := ⟨n - 1, by simp at h; omega⟩
  rw [ev, ih (n := m) (by simpa using h), zkl, <- znR, zA, zv]
  have : yz (λi => con p (cf (c :: l) (i + 1)) * a ^ (i + 1)) m = yz (λi => a * (con p (cf l i) * a ^ i)) m := ze0 λi _ => by
   rw [zm, zi]; exact zh [con p (cf l i), a, a^i] (by rfl)
  rw [this]; rw [CR.mul_one]

abbrev X (p : Int) [Pos p] : Poly p := mono p 1 1

noncomputable def zaP (f : Poly p) (i : Nat) : Poly p := rem (X p ^ (p.toNat * i)) f - X p ^ i

theorem dg_X (i : Nat) : dg (X p ^ i) <= i + 1 := by
 rw [zeY];exact j3 λj hj => by rw [j4, if_neg (by omega)]

theorem zpw {f : Poly p} {n i : Nat} (hf : dg f = n + 1) (hi : i < n) : dg (zaP f i) <= n := by
 have hf0 : f ≠ 0 := λe => by rw [e, zy] at hf; omega
 have h1 := zO (X p ^ (p.toNat * i)) hf0;have h2 := dg_X (p := p) i;have h3 := vG (rem (X p ^ (p.toNat * i)) f) (X p ^ i);unfold zaP; omega

theorem zhm {f w : Poly p} {n : Nat} (hf : dg f = n + 1) (hw : dg w <= n) : Ber f w ↔ ∀ x, x < n -> zI (λj => cf (zaP f j).l x * cf w.l j) n % p = 0 := by
 have hf0 : f ≠ 0 := λe => by rw [e, zy] at hf; omega
 have h1 : w ^ p.toNat - w = yz (λj => con p (cf w.l j) * (X p ^ (p.toNat * j) - X p ^ j)) n := by
  have e1 := zlj (X p) w.l;rw [zqp, znT _ _ hw] at e1;have e2 := zqp w;rw [znT (X p) w.l hw] at e2
  have e3 : yz (λj => con p (cf w.l j) * (X p ^ p.toNat) ^ j) n - yz (λj => con p (cf w.l j) * X p ^ j) n = yz (λj => con p (cf w.l j) * (X p ^ (p.toNat * j) - X p ^ j)) n := by
   rw [<- ziU];exact ze0 λj _ => by rw [zhk]; exact zh [con p (cf w.l j), X p ^ j, (X p ^ p.toNat) ^ j] (by rfl)
  rwa [e2, <- e1] at e3
 have h2 : f ∣ (w ^ p.toNat - w) - yz (λj => con p (cf w.l j) * zaP f j) n := by
  rw [h1, <- ziU];refine znS λj _ => ?_;have := ve (X p ^ (p.toNat * j)) f;unfold zaP;exact ⟨con p (cf w.l j) * quo (X p ^ (p.toNat * j)) f, by exact comb (con p (cf w.l j)) this (zh [f, con p (cf w.l j), X p ^ j, X p ^ (p.toNat * j), quo (X p ^ (p.toNat * j)) f, rem (X p ^ (p.toNat * j)) f] (by rfl))⟩
 have h3 : dg (yz (λj => con p (cf w.l j) * zaP f j) n) <= n := zpv λi hi => by
  have h4 := zpw hf hi;have h5 := yR (con p (cf w.l i)) (zaP f i);have h6 := v9 (p := p) (cf w.l i);omega
 have h4 : Ber f w ↔ yz (λj => con p (cf w.l j) * zaP f j) n = 0 := by
  unfold Ber
  constructor
  ·intro h;refine Classical.byContradiction λhne => ?_;have h5 := dvd_sub h h2;have e : w ^ p.toNat - w - (w ^ p.toNat - w - yz (λj => con p (cf w.l j) * zaP f j) n) = yz (λj => con p (cf w.l j) * zaP f j) n := by exact zh [w ^ p.toNat, w, yz (λj => con p (cf w.l j) * zaP f j) n] (by rfl)
   rw [e] at h5;have := zP h5 hne;omega
  ·intro h;rw [h] at h2;have e : w ^ p.toNat - w - 0 = w ^ p.toNat - w := by exact zh [w ^ p.toNat, w] (by rfl)
   rwa [e] at h2
 rw [h4]
 constructor
 ·intro h x _;rw [<- zhl, h, zN]
 ·intro h;refine zx λx => ?_;rw [zN];rcases Nat.lt_or_ge x n with hx | hx
  ·rw [zhl]; exact h x hx
  ·exact z5 (by omega)

end Poly
namespace Poly
variable {p : Int} [SP p]

def yb (h : Poly p) (e : Nat) (f : Poly p) : Prop := ∃ u, f = h ^ e * u ∧ ¬ h ∣ u

theorem yb.unique {h f : Poly p} (hh : h ≠ 0) {e e' : Nat} (h1 : yb h e f) (h2 : yb h e' f) : e = e' := by
 have key : ∀ {e e' : Nat} {u u' : Poly p}, h ^ e * u = h ^ e' * u' -> ¬ h ∣ u' -> e <= e' := by
  intro e e' u u' he hn;rcases Nat.lt_or_ge e' e with hlt | hge
  ·exfalso
   obtain ⟨k, rfl⟩ : ∃ k, e = e' + k + 1 := ⟨e - e' - 1, by omega⟩
   have hp0 : h ^ e' ≠ 0 := by
    clear he hlt
    induction e' with
    | zero => rw [zv]; exact zeQ
    | succ n ih => rw [zi]; exact mul_ne ih hh
   rw [Nat.add_assoc, pow_add] at he;have h3 : h ^ e' * (h ^ (k + 1) * u) = h ^ e' * u' := by exact comb (1) he (zh [u, u', h^e', h^(k+1)] (by rfl))
   have h4 := zeP hp0 h3;exact hn ⟨h ^ k * u, by rw [<- h4, zi]; exact zh [h, u, h^k] (by rfl)⟩
  ·exact hge
 obtain ⟨u, h3, h4⟩ := h1;obtain ⟨u', h5, h6⟩ := h2;exact Nat.le_antisymm (key (h3.symm.trans h5) h6) (key (h5.symm.trans h3) h4)

theorem yb.mul {h f g : Poly p} (hi : Irr h) {e e' : Nat} (h1 : yb h e f) (h2 : yb h e' g) : yb h (e + e') (f * g) := by
 obtain ⟨u, rfl, h4⟩ := h1;obtain ⟨u', rfl, h6⟩ := h2;exact ⟨u * u', by rw [pow_add]; exact zh [u, u', h^e, h^e'] (by rfl), λhd => (hi.prime hd).elim h4 h6⟩
theorem xh {h f : Poly p} : yb h 0 f ↔ ¬ h ∣ f := by
 constructor
 ·rintro ⟨u, rfl, hn⟩;rw [zv];have : 1 * u = u := by exact zh [u] (by rfl)
  rwa [this]
 ·intro hn;exact ⟨f, by rw [zv]; exact zh [f] (by rfl), hn⟩
theorem yb.pow {h f : Poly p} (hi : Irr h) {e : Nat} (h1 : yb h e f) (n : Nat) : yb h (e * n) (f ^ n) := by
 induction n with
 | zero => rw [Nat.mul_zero, zv, xh]; exact hi.not_unit yT
 | succ n ih => rw [Nat.mul_succ, zi]; exact ih.mul hi h1
theorem ziV {h : Poly p} (hi : Irr h) : yb h 1 h := ⟨1, by
 have e : h ^ 1 = h := by rw [show (1 : Nat) = 0 + 1 from rfl, zi, zv]; exact zh [h] (by rfl)
 rw [e]; exact zh [h] (by rfl), hi.not_unit yT⟩
theorem j9 {h : Poly p} (hi : 2 <= dg h) : ∀ (n : Nat) (f : Poly p), f ≠ 0 -> dg f <= n -> ∃ e, yb h e f := by
 intro n
 induction n with
 | zero => intro f hf hn; exact absurd (zd.1 (by omega)) hf
 | succ n ih =>
  intro f hf hn
  by_cases hd : h ∣ f
  ·obtain ⟨q, rfl⟩ := hd;have hh : h ≠ 0 := λe => hf (by rw [e]; exact zh [q] (by rfl));have hq : q ≠ 0 := λe => hf (by rw [e]; exact zh [h] (by rfl));have h1 := yS hh hq;obtain ⟨e, u, h2, h3⟩ := ih q hq (by omega);exact ⟨e + 1, u, by rw [zi, h2]; exact zh [h, u, h^e] (by rfl), h3⟩
  ·exact ⟨0, xh.2 hd⟩
theorem yb.dvd {h f : Poly p} {e : Nat} (h1 : yb h e f) (he : 1 <= e) : h ∣ f := by
 obtain ⟨u, rfl, _⟩ := h1;obtain ⟨n, rfl⟩ : ∃ n, e = n + 1 := ⟨e - 1, by omega⟩
 exact ⟨h ^ n * u, by rw [zi]; exact zh [h, u, h^n] (by rfl)⟩

def ltP (f g : Poly p) : Prop := dg f < dg g ∨ dg f = dg g ∧ ∃ i, cf f.l i < cf g.l i ∧ ∀ j, i < j -> cf f.l j = cf g.l j
theorem ze1 {p : Int} (f : Poly p) : ¬ ltP f f := by
 rintro (h | ⟨_, i, h, _⟩) <;> omega
theorem zc1 {p : Int} {f g h : Poly p} (h1 : ltP f g) (h2 : ltP g h) : ltP f h := by
 rcases h1 with h1 | ⟨h1, i, hi, hi'⟩ <;> rcases h2 with h2 | ⟨h2, j, hj, hj'⟩
 ·exact .inl (by omega)
 ·exact .inl (by omega)
 ·exact .inl (by omega)
 ·refine .inr ⟨by omega, ?_⟩;rcases Nat.lt_trichotomy i j with h | h | h
  ·exact ⟨j, by rw [hi' j h]; exact hj, λk hk => by rw [hi' k (by omega), hj' k hk]⟩
  ·subst h; exact ⟨i, by omega, λk hk => by rw [hi' k hk, hj' k hk]⟩
  ·exact ⟨i, by rw [<- hj' i h]; exact hi, λk hk => by rw [hi' k hk, hj' k (by omega)]⟩
theorem zgD {p : Int} {f g : Poly p} (h : f ≠ g) : ltP f g ∨ ltP g f := by
 rcases Nat.lt_trichotomy (dg f) (dg g) with h1 | h1 | h1
 ·exact .inl (.inl h1)
 ·have : ∀ n, n <= dg f -> (∀ j, n <= j -> cf f.l j = cf g.l j) -> ltP f g ∨ ltP g f := by
   intro n
   induction n with
   | zero => intro _ hj; exact absurd (zx λi => hj i (Nat.zero_le _)) h
   | succ n ih =>
    intro hn hj;rcases Int.lt_trichotomy (cf f.l n) (cf g.l n) with h2 | h2 | h2
    ·exact .inl (.inr ⟨h1, n, h2, λj hj' => hj j hj'⟩)
    ·exact ih (by omega) λj hj' => by
      rcases Nat.eq_or_lt_of_le hj' with rfl | h3
      ·exact h2
      ·exact hj j h3
    ·exact .inr (.inr ⟨h1.symm, n, h2, λj hj' => (hj j hj').symm⟩)
  exact this (dg f) (Nat.le_refl _) λj hj => by rw [z5 hj, z5 (by omega)]
 ·exact .inr (.inl h1)

theorem zgE {α : Type} {lt : α -> α -> Prop} (irr : ∀ a, ¬ lt a a) (tr : ∀ a b c, lt a b -> lt b c -> lt a c) : ∀ {l l' : List α}, l.Pairwise lt -> l'.Pairwise lt -> (∀ x, x ∈ l ↔ x ∈ l') -> l = l'
 | [], [], _, _, _ => rfl
 | [], b :: l', _, _, h => absurd ((h b).2 (by simp)) (by simp)
 | a :: l, [], _, _, h => absurd ((h a).1 (by simp)) (by simp)
 | a :: l, b :: l', h1, h2, h => by
  rw [List.pairwise_cons] at h1 h2
  have hab : a = b := by
   rcases List.mem_cons.1 ((h a).1 (by simp)) with h3 | h3
   ·exact h3
   ·rcases List.mem_cons.1 ((h b).2 (by simp)) with h4 | h4
    ·exact h4.symm
    ·exact absurd (tr _ _ _ (h2.1 a h3) (h1.1 b h4)) (irr b)
  subst hab;rw [zgE irr tr h1.2 h2.2 λx => ?_]
  constructor
  ·intro hx;rcases List.mem_cons.1 ((h x).1 (by simp [hx])) with h3 | h3
   ·subst h3; exact absurd (h1.1 x hx) (irr x)
   ·exact h3
  ·intro hx;rcases List.mem_cons.1 ((h x).2 (by simp [hx])) with h3 | h3
   ·subst h3; exact absurd (h2.1 x hx) (irr x)
   ·exact h3

def zbt (f : Poly p) (x : Poly p × Nat) : Prop := Irr x.1 ∧ Mon x.1 ∧ 1 <= x.2 ∧ yb x.1 x.2 f
def jO (f : Poly p) (F : List (Poly p × Nat)) : Prop := F.Pairwise (λx y => ltP x.1 y.1) ∧ ∀ x, x ∈ F ↔ zbt f x
theorem jO.unique {f : Poly p} {F F' : List (Poly p × Nat)} (h : jO f F) (h' : jO f F') : F = F' :=
 zgE (lt := λx y : Poly p × Nat => ltP x.1 y.1) (λx => ze1 x.1) (λ_ _ _ h1 h2 => zc1 h1 h2) h.1 h'.1 λx => (h.2 x).trans (h'.2 x).symm

def zbT (f : Poly p) (L : List (Poly p)) : Prop := L.Nodup ∧ ∀ h, h ∈ L ↔ (Irr h ∧ Mon h ∧ h ∣ f)

structure Parts (f : Poly p) (L : List (Poly p)) : Prop where
 each : ∀ a ∈ L, Mon a ∧ 2 <= dg a ∧ a ∣ f
 all : ∀ h, Irr h -> h ∣ f -> ∃ a ∈ L, h ∣ a
 apart : L.Pairwise λa b => ∀ h, Irr h -> h ∣ a -> h ∣ b -> False

theorem Parts.start {f : Poly p} (hm : Mon f) (h2 : 2 <= dg f) : Parts f [f] :=
 ⟨by simp [hm, h2, dvd_refl], λh hi hd => ⟨f, by simp, hd⟩, by simp⟩

theorem Parts.irrs {f : Poly p} {L : List (Poly p)} (h : Parts f L) (hi : ∀ a ∈ L, Irr a) : zbT f L := by
 refine ⟨?_, λg => ⟨λhg => ⟨hi g hg, (h.each g hg).1, (h.each g hg).2.2⟩, λ⟨h1, h2, h3⟩ => ?_⟩⟩
 ·have : L.Pairwise λa b => a ∈ L -> a ≠ b := h.apart.imp λ{a b} hab ha (he : a = b) => hab a (hi a ha) (dvd_refl a) (by rw [<- he]; exact dvd_refl a);exact List.pairwise_iff_getElem.2 λi j hi' hj' hij => (List.pairwise_iff_getElem.1 this i j hi' hj' hij) (List.getElem_mem _)
 ·obtain ⟨a, ha, hd⟩ := h.all g h1 h3;rw [zbO h1 (hi a ha) h2 (h.each a ha).1 hd]; exact ha

noncomputable def zf0 (v a : Poly p) (s : Nat) : List (Poly p) := if 2 <= dg (gcd a (v - con p (s : Int))) then [gcd a (v - con p (s : Int))] else []
noncomputable def xq (v a : Poly p) (n : Nat) : List (Poly p) := (List.range n).flatMap (zf0 v a)
noncomputable def zV (v : Poly p) (L : List (Poly p)) : List (Poly p) := L.flatMap λa => xq v a p.toNat

theorem zcm {v a g : Poly p} {n : Nat} : g ∈ xq v a n ↔ ∃ s, s < n ∧ 2 <= dg (gcd a (v - con p (s : Int))) ∧ g = gcd a (v - con p (s : Int)) := by
 simp only [xq, List.mem_flatMap, List.mem_range, zf0]
 constructor
 ·rintro ⟨s, h1, h2⟩
  split at h2
  ·rename_i h3; simp at h2; exact ⟨s, h1, h3, h2⟩
  ·cases h2
 ·rintro ⟨s, h1, h2, h3⟩;exact ⟨s, h1, by rw [if_pos h2]; simp [h3]⟩

theorem znU {h v : Poly p} (hi : Irr h) {s t : Nat} (hs : (s : Int) < p) (ht : (t : Int) < p) (h1 : h ∣ v - con p (s : Int)) (h2 : h ∣ v - con p (t : Int)) : s = t := by
 have := zkk hi.1 h1 h2;rw [Int.emod_eq_of_lt (by omega) hs, Int.emod_eq_of_lt (by omega) ht] at this;omega

theorem zgF {v a : Poly p} {n : Nat} (hn : (n : Int) <= p) : (xq v a n).Pairwise λx y => ∀ h, Irr h -> h ∣ x -> h ∣ y -> False := by
 induction n with
 | zero => simp [xq]
 | succ n ih =>
  have e : xq v a (n + 1) = xq v a n ++ zf0 v a n := by simp [xq, List.range_succ]
  rw [e, List.pairwise_append];refine ⟨ih (by omega), ?_, λx hx y hy h hi h1 h2 => ?_⟩
  ·unfold zf0; split <;> simp
  ·obtain ⟨s, hs, _, rfl⟩ := zcm.1 hx;unfold zf0 at hy
   split at hy
   ·simp at hy; subst hy
    have := znU (p := p) hi (s := s) (t := n) (by omega) (by omega) (zw h1 (xT _ _)) (zw h2 (xT _ _));omega
   ·cases hy

theorem zpx {v a h : Poly p} (hv : Ber h v) (hi : Irr h) (hd : h ∣ a) (ha : a ≠ 0) : ∃ g ∈ xq v a p.toNat, h ∣ g := by
 obtain ⟨s, h1, h2, h3⟩ := zpt hi hv;have h4 := zli hd h3;have hm := zck (f := a) (g := v - con p s) (.inl ha);have h5 := zP h4 hm.1;have h6 := hi.1;have e : ((s.toNat : Nat) : Int) = s := by omega
 refine ⟨_, zcm.2 ⟨s.toNat, by omega, ?_, rfl⟩, ?_⟩
 ·rw [e]; omega
 ·rw [e]; exact h4

theorem Parts.cut {f v : Poly p} {L : List (Poly p)} (h : Parts f L) (hv : Ber f v) : Parts f (zV v L) ∧ ∀ a' ∈ zV v L, (∃ s : Int, a' ∣ v - con p s) ∧ ∃ a ∈ L, a' ∣ a := by
 have hmem : ∀ a' ∈ zV v L, ∃ a ∈ L, ∃ s : Nat, 2 <= dg a' ∧ a' = gcd a (v - con p (s : Int)) := by
  intro a' ha';obtain ⟨a, ha, hg⟩ := List.mem_flatMap.1 ha';obtain ⟨s, _, h2, rfl⟩ := zcm.1 hg;exact ⟨a, ha, s, h2, rfl⟩
 refine ⟨⟨λa' ha' => ?_, λq hq hd => ?_, ?_⟩, λa' ha' => ?_⟩
 ·obtain ⟨a, ha, s, h2, rfl⟩ := hmem a' ha';exact ⟨zck (.inl (h.each a ha).1.1), h2, zw (vg _ _) (h.each a ha).2.2⟩
 ·obtain ⟨a, ha, hqa⟩ := h.all q hq hd;obtain ⟨g, hg, hqg⟩ := zpx (hv.dvd hd) hq hqa (h.each a ha).1.1;exact ⟨g, List.mem_flatMap.2 ⟨a, ha, hg⟩, hqg⟩
 ·unfold zV;rw [List.pairwise_flatMap];refine ⟨λa _ => zgF (by have := Pr.two (p := p); omega), h.apart.imp λ{a b} hab x hx y hy q hq h1 h2 => ?_⟩;obtain ⟨s, _, _, rfl⟩ := zcm.1 hx;obtain ⟨t, _, _, rfl⟩ := zcm.1 hy;exact hab q hq (zw h1 (vg _ _)) (zw h2 (vg _ _))
 ·obtain ⟨a, ha, s, h2, rfl⟩ := hmem a' ha';exact ⟨⟨s, xT _ _⟩, a, ha, vg _ _⟩

end Poly

theorem ziW (n m : Int) (hm : 0 < m) : (n.tmod m + m).tmod m = n % m := by
 have h1 := Int.lt_tmod_of_pos n hm;rw [Int.tmod_eq_emod_of_nonneg (by omega), Int.add_emod_right];rw [Int.tmod_eq_emod]
 split
 ·simp
 ·rw [show (m.natAbs : Int) = m by omega, Int.sub_emod, Int.emod_self]; simp

abbrev isP (p : Int) : Bool := decide (p ∈ zY)

theorem zkm : (List.range 98).all (λn => decide ((n : Int) ∈ zY) == (decide (2 <= n) && (List.range 10).all λd => !(decide (2 <= d ∧ d * d <= n ∧ n % d = 0)))) = true := by decide +kernel
theorem zae {n : Int} (h : n <= 97) : n ∈ zY ↔ 2 <= n ∧ ∀ d : Int, 2 <= d -> d * d <= n -> n % d ≠ 0 := by
 rcases Int.lt_or_le n 2 with h2 | h2
 ·constructor
  ·intro hm;have := List.all_eq_true.1 zbR n hm;simp only [decide_eq_true_eq] at this
   omega
  ·intro h3; omega
 ·obtain ⟨k, rfl⟩ : ∃ k : Nat, n = k := ⟨n.toNat, by omega⟩
  have h3 := List.all_eq_true.1 zkm k (List.mem_range.2 (by omega));simp only [beq_iff_eq] at h3
  have h4 : ((k : Int) ∈ zY) ↔ decide ((k : Int) ∈ zY) = true := by simp
  rw [h4, h3];simp only [Bool.and_eq_true, decide_eq_true_eq, List.all_eq_true, List.mem_range, Bool.not_eq_true', decide_eq_false_iff_not, not_and]
  constructor
  ·rintro ⟨h5, h6⟩;refine ⟨h2, λd hd hdd hr => ?_⟩
   have h9 : d < 10 := by
    rcases Int.lt_or_le d 10 with h | h
    ·exact h
    ·have : 10 * 10 <= d * d := Int.mul_le_mul h h (by omega) (by omega);omega
   obtain ⟨m, rfl⟩ : ∃ m : Nat, d = m := ⟨d.toNat, by omega⟩
   refine h6 m (by omega) (by omega) (by exact_mod_cast hdd) ?_;omega
  ·rintro ⟨_, h6⟩;refine ⟨by omega, λd hd h7 h8 h9 => h6 d (by omega) (by exact_mod_cast h8) (by omega)⟩
theorem yU {n : Int} (h : n ∈ zY) : 2 <= n ∧ n <= 97 := by
 have := List.all_eq_true.1 zbR n h
 simpa using this

structure Bz (a b r x y s u v : Int) : Prop where
 r0 : 0 <= r
 s0 : 0 <= s
 e1 : a * x + b * y = r
 e2 : a * u + b * v = s
 g : ∀ d : Int, (d ∣ a ∧ d ∣ b) ↔ (d ∣ r ∧ d ∣ s)
 bd : ∃ ε X U Y V : Int, (ε = 1 ∨ ε = -1) ∧ 0 <= X ∧ 0 <= U ∧ 0 <= Y ∧ 0 <= V ∧ x = ε * X ∧ u = -(ε * U) ∧ y = -(ε * Y) ∧ v = ε * V ∧ U * r + X * s = b ∧ V * r + Y * s = a

theorem Bz.start {a b : Int} (ha : 0 <= a) (hb : 0 <= b) : Bz a b a 1 0 b 0 1 :=
 ⟨ha, hb, by omega, by omega, λ_ => Iff.rfl, 1, 1, 0, 0, 1, .inl rfl, by omega, by omega, by omega, by omega, by omega, by omega, by omega, by omega, by omega, by omega⟩

theorem kM {q s r : Int} (hs : 1 <= s) (hq : 0 <= q) (h : q * s <= r) : q <= r := by
 have : q * 1 <= q * s := Int.mul_le_mul_of_nonneg_left hs hq;omega

structure BzB (a b r x y s u v q : Int) : Prop where
 q0 : 0 <= q
 qr : q <= r
 qs : 0 <= q * s ∧ q * s <= r
 qu : -b <= q * u ∧ q * u <= b
 qv : -a <= q * v ∧ q * v <= a
 bx : -b <= x ∧ x <= b
 by' : -a <= y ∧ y <= a
 nx : -b <= x - q * u ∧ x - q * u <= b
 ny : -a <= y - q * v ∧ y - q * v <= a

theorem zbi {ε z B : Int} (he : ε = 1 ∨ ε = -1) (h0 : 0 <= z) (h : z <= B) : -B <= ε * z ∧ ε * z <= B := by
 rcases he with rfl | rfl <;> omega
theorem Bz.step {a b r x y s u v : Int} (h : Bz a b r x y s u v) (hs : s ≠ 0) : BzB a b r x y s u v (r / s) ∧ Bz a b s u v (r - r / s * s) (x - r / s * u) (y - r / s * v) := by
 obtain ⟨h1, h2, h3, h4, h5, ε, X, U, Y, V, he, hX, hU, hY, hV, rfl, rfl, rfl, rfl, h6, h7⟩ := h;have hs1 : 1 <= s := by omega
 have hm := Int.emod_nonneg r hs;have hm2 := Int.emod_lt_of_pos r (show 0 < s by omega);have hd : r = r / s * s + r % s := by have := Int.mul_ediv_add_emod r s; rw [Int.mul_comm] at this; omega
 have hq : 0 <= r / s := Int.ediv_nonneg h1 h2;generalize hqq : r / s = q at *;generalize hrr : r % s = r' at *;have hqs0 : 0 <= q * s := Int.mul_nonneg hq h2;have hqs : q * s <= r := by omega
 have hUr : 0 <= U * r := Int.mul_nonneg hU h1;have hVr : 0 <= V * r := Int.mul_nonneg hV h1;have hXs : 0 <= X * s := Int.mul_nonneg hX h2;have hYs : 0 <= Y * s := Int.mul_nonneg hY h2;have hXb : X <= b := kM (s := s) hs1 hX (by omega);have hYa : Y <= a := kM (s := s) hs1 hY (by omega);have hqU : 0 <= q * U := Int.mul_nonneg hq hU;have hqV : 0 <= q * V := Int.mul_nonneg hq hV
 have k1 : q * U * s <= U * r := by
  have : U * (q * s) <= U * r := Int.mul_le_mul_of_nonneg_left hqs hU;have e : q * U * s = U * (q * s) := by rw [Int.mul_comm q U, Int.mul_assoc]
  omega
 have k2 : q * V * s <= V * r := by
  have : V * (q * s) <= V * r := Int.mul_le_mul_of_nonneg_left hqs hV;have e : q * V * s = V * (q * s) := by rw [Int.mul_comm q V, Int.mul_assoc]
  omega
 have hXU : X + q * U <= b := kM (s := s) hs1 (by omega) (by rw [Int.add_mul]; omega);have hYV : Y + q * V <= a := kM (s := s) hs1 (by omega) (by rw [Int.add_mul]; omega);have e1 : q * -(ε * U) = -(ε * (q * U)) := by rw [Int.mul_neg, <- Int.mul_assoc, Int.mul_comm q ε, Int.mul_assoc]
 have e2 : q * (ε * V) = ε * (q * V) := by rw [<- Int.mul_assoc, Int.mul_comm q ε, Int.mul_assoc]
 have e3 : ε * X - q * -(ε * U) = ε * (X + q * U) := by rw [e1, Int.mul_add]; omega
 have e4 : -(ε * Y) - q * (ε * V) = -(ε * (Y + q * V)) := by rw [e2, Int.mul_add]; omega
 refine ⟨⟨hq, kM hs1 hq hqs, ⟨hqs0, hqs⟩, ?_, ?_, zbi he hX hXb, ?_, ?_, ?_⟩, h2, by omega, h4, ?_, λd => ?_, -ε, U, X + q * U, V, Y + q * V, by omega, hU, by omega, hV, by omega, ?_, ?_, ?_, ?_, ?_, ?_⟩
 ·rw [e1]; have := zbi he hqU (show q * U <= b by omega); omega
 ·rw [e2]; exact zbi he hqV (show q * V <= a by omega)
 ·have := zbi he hY hYa; omega
 ·rw [e3]; exact zbi he (by omega) hXU
 ·rw [e4]; have := zbi he (by omega) hYV; omega
 ·rw [Int.mul_sub, Int.mul_sub];have i1 : a * (q * -(ε * U)) = q * (a * -(ε * U)) := by rw [<- Int.mul_assoc, Int.mul_comm a q, Int.mul_assoc]
  have i2 : b * (q * (ε * V)) = q * (b * (ε * V)) := by rw [<- Int.mul_assoc, Int.mul_comm b q, Int.mul_assoc]
  have i3 : q * (a * -(ε * U)) + q * (b * (ε * V)) = q * s := by rw [<- Int.mul_add, h4]
  omega
 ·rw [h5 d]
  constructor
  ·rintro ⟨h8, h9⟩; exact ⟨h9, Int.dvd_sub h8 (Int.dvd_mul_of_dvd_right h9)⟩
  ·rintro ⟨h8, h9⟩;refine ⟨?_, h8⟩;have := Int.dvd_add h9 (Int.dvd_mul_of_dvd_right h8 (b := q))
   rwa [show r - q * s + q * s = r by omega] at this
 ·rw [Int.neg_mul]
 ·rw [Int.neg_mul, e3]; omega
 ·rw [Int.neg_mul]; omega
 ·rw [Int.neg_mul, e4]
 ·rw [Int.add_mul, Int.mul_sub];have : U * (q * s) = q * U * s := by rw [Int.mul_comm q U, Int.mul_assoc]
  omega
 ·rw [Int.add_mul, Int.mul_sub];have : V * (q * s) = q * V * s := by rw [Int.mul_comm q V, Int.mul_assoc]
  omega
theorem Bz.fin {a b r x y u v : Int} (h : Bz a b r x y 0 u v) : a * x + b * y = r ∧ 0 <= r ∧ r ∣ a ∧ r ∣ b := by
 have := (h.g r).2 ⟨Int.dvd_refl r, Int.dvd_zero r⟩;exact ⟨h.e1, h.r0, this.1, this.2⟩

def yA (m a : Int) : Int := (((List.range m.toNat).find? λb : Nat => a * (b : Int) % m == 1 % m).getD 0 : Nat)
theorem zhn {m a x : Int} (hm : 0 < m) (h : a * x % m = 1 % m) : yA m a = x % m := by
 unfold yA;have h0 := Int.emod_nonneg x (show m ≠ 0 by omega);have h1 := Int.emod_lt_of_pos x hm;cases hf : (List.range m.toNat).find? λb : Nat => a * (b : Int) % m == 1 % m with
 | none =>
  exfalso
  rw [List.find?_eq_none] at hf;have h2 := hf (x % m).toNat (List.mem_range.2 (by omega));simp only [beq_iff_eq] at h2
  rw [show ((x % m).toNat : Int) = x % m by omega, Int.mul_emod, Int.emod_emod_of_dvd _ (Int.dvd_refl m), <- Int.mul_emod] at h2;exact h2 h
 | some b =>
  have h2 := List.find?_some hf;have h3 := List.mem_range.1 (List.mem_of_find?_eq_some hf);simp only [beq_iff_eq] at h2
  simp only [Option.getD_some]
  -- both are inverses
  have h4 : a * b * x % m = (b : Int) % m := by
   rw [Int.mul_assoc, Int.mul_comm (b : Int) x, <- Int.mul_assoc, Int.mul_emod, h, <- Int.mul_emod, Int.one_mul]
  have h5 : a * b * x % m = x % m := by
   rw [Int.mul_emod, h2, <- Int.mul_emod, Int.one_mul]
  rw [<- h5, h4, Int.emod_eq_of_lt (by omega) (by omega)]
theorem xr {p a : Int} [Pr p] (h : a % p ≠ 0) : 0 <= yA p a ∧ yA p a < p ∧ a * yA p a % p = 1 := by
 have hp := Pr.two (p := p);obtain ⟨b, hb⟩ := Pr.inv (p := p) a h;have h1 : (1 : Int) % p = 1 := Int.emod_eq_of_lt (by omega) (by omega);rw [zhn (m := p) (x := b) (by omega) (by rw [hb, h1])];refine ⟨Int.emod_nonneg _ (by omega), Int.emod_lt_of_pos _ (by omega), ?_⟩;rw [Int.mul_emod, Int.emod_emod_of_dvd _ (Int.dvd_refl p), <- Int.mul_emod, hb]
theorem znV {p a : Int} [Pr p] (h : a % p ≠ 0) : yA p (a % p) = yA p a := by
 have hp := Pr.two (p := p);obtain ⟨h1, h2, h3⟩ := xr h;rw [zhn (m := p) (x := yA p a) (by omega), Int.emod_eq_of_lt h1 h2];rw [Int.mul_emod, Int.emod_emod_of_dvd _ (Int.dvd_refl p), <- Int.mul_emod, h3, Int.emod_eq_of_lt (by omega) (by omega)]

theorem zf1 {p a r : Int} [Pr p] (ha : a % p ≠ 0) (h0 : 0 <= r) (h1 : r ∣ a) (h2 : r ∣ p) : r = 1 := by
 obtain ⟨c, rfl⟩ := h1;obtain ⟨d, hd⟩ := h2;have hp := Pr.two (p := p)
 -- r is a unit by p, so p divides d, so r = 1
 by_cases hr : r % p = 0
 ·exact absurd (by rw [Int.mul_emod, hr]; simp) ha
 ·obtain ⟨b, hb⟩ := Pr.inv (p := p) r hr
  have h3 : d % p = 0 := by
   have h4 : r * b * d % p = d % p := by rw [Int.mul_emod, hb, Int.one_mul, Int.emod_emod_of_dvd _ (Int.dvd_refl p)]
   rw [<- h4, show r * b * d = p * b by rw [Int.mul_assoc, Int.mul_comm b d, <- Int.mul_assoc, <- hd]];exact Int.mul_emod_right p b
  obtain ⟨k, hk⟩ := Int.dvd_of_emod_eq_zero h3;rw [hk, <- Int.mul_assoc, Int.mul_comm r p, Int.mul_assoc] at hd
  have h5 : r * k = 1 := by
   have : p * (r * k) = p * 1 := by omega
   exact Int.eq_of_mul_eq_mul_left (by omega) this
  have hr1 : r ≠ 0 := λh => by rw [h, Int.zero_mul] at h5; omega
  have hk1 : 1 <= k := by
   rcases Int.lt_or_le k 1 with h | h
   ·have : r * k <= r * 0 := Int.mul_le_mul_of_nonneg_left (by omega) h0;omega
   ·exact h
  have : r * 1 <= r * k := Int.mul_le_mul_of_nonneg_left hk1 h0;omega
theorem Bz.inv {p a r x y u v : Int} [Pr p] (ha : a % p ≠ 0) (h : Bz a p r x y 0 u v) : x % p = yA p a := by
 have hp := Pr.two (p := p);obtain ⟨h1, h2, h3, h4⟩ := h.fin;have hr := zf1 ha h2 h3 h4;subst hr;refine (zhn (m := p) (by omega) ?_).symm;have : a * x = 1 + p * -y := by rw [Int.mul_neg]; omega
 rw [this, Int.add_mul_emod_self_left]


theorem z6 {l : List Int} {i : Nat} (h : i < l.length) (x : Int) (j : Nat) : cf (l.set i x) j = if j = i then x else cf l j := by
 unfold cf;simp only [List.getD_eq_getElem?_getD, List.getElem?_set]
 by_cases hj : i = j
 ·subst hj; simp [h]
 ·simp [hj, Ne.symm hj]
theorem zD (n : Nat) (j : Nat) : cf (List.replicate n 0) j = 0 := by
 unfold cf;simp only [List.getD_eq_getElem?_getD, List.getElem?_replicate]
 split <;> rfl
theorem zlk (l : List Int) (n j : Nat) : cf (l.take n) j = if j < n then cf l j else 0 := by
 unfold cf;simp only [List.getD_eq_getElem?_getD, List.getElem?_take]
 split <;> rfl
theorem zpy (l : List Int) (n j : Nat) : cf (l.drop n) j = cf l (n + j) := by
 unfold cf;simp only [List.getD_eq_getElem?_getD, List.getElem?_drop]
theorem zqq (f : Int -> Int) (l : List Int) {j : Nat} (h : j < l.length) : cf (l.map f) j = f (cf l j) := by
 unfold cf;simp [List.getD_eq_getElem?_getD, h]
theorem zaQ {l m : List Int} (h : l.length = m.length) (he : ∀ j, j < l.length -> cf l j = cf m j) : l = m := by
 apply List.ext_getElem h;intro j h1 h2;have := he j h1
 rwa [yK h1, yK h2] at this
theorem znW {l : List Int} {j : Nat} (h : j < l.length) : cf l j ∈ l := by rw [yK h]; exact List.getElem_mem h

theorem zaR {l m : List Int} (h : ∀ j, cf l j = cf m j) : zu l = zu m :=
 yw (xg l) (xg m) λj => by rw [yC, yC, h]
theorem zd1 {l : List Int} {n : Nat} (hn : n <= l.length) (h0 : ∀ j, n <= j -> cf l j = 0) (h : n = 0 ∨ cf l (n - 1) ≠ 0) : l.take n = zu l := by
 refine yw ?_ (xg l) λj => ?_
 ·intro m hm;rw [List.length_take, Nat.min_eq_left hn] at hm;subst hm;rw [zlk, if_pos (by omega)];rcases h with h | h
  ·omega
  ·exact h
 ·rw [zlk, yC]
  split
  ·rfl
  ·exact (h0 j (by omega)).symm
theorem zmm : zu [] = [] := rfl

def Bd (M : Int) (l : List Int) : Prop := ∀ j, -M <= cf l j ∧ cf l j <= M
theorem Bd.trim {M : Int} {l : List Int} (h : Bd M l) : Bd M (zu l) := λj => by rw [yC]; exact h j
namespace Poly
variable {p : Int} [SP p]
theorem jP (f : Poly p) (j : Nat) : 0 <= cf f.l j ∧ cf f.l j < p := by
 have hp := Pr.two (p := p)
 by_cases hj : j < f.l.length
 ·exact f.ok.1 _ (znW hj)
 ·rw [zT (by omega)]; omega
theorem jT (f : Poly p) : Bd 97 f.l := λj => by
 have h := jP f j; have := SP.le (p := p); omega
end Poly

theorem znX {A B : Int} (hA : 0 <= A) (hB : 0 <= B) {n : Nat} (f g : Nat -> Int) (hf : ∀ j, -A <= f j ∧ f j <= A) (hf0 : ∀ j, n <= j -> f j = 0) (hg : ∀ j, -B <= g j ∧ g j <= B) :
  ∀ k, -((n : Int) * (A * B)) <= cv f g k ∧ cv f g k <= (n : Int) * (A * B) := by
 have hAB : 0 <= A * B := Int.mul_nonneg hA hB
 have hm : ∀ i j, -(A * B) <= f i * g j ∧ f i * g j <= A * B := by
  intro i j;have h1 := hf i;have h2 := hg j
  have e1 : (f i * g j).natAbs <= (A * B).natAbs := by
   rw [Int.natAbs_mul, Int.natAbs_mul];exact Nat.mul_le_mul (by omega) (by omega)
  omega
 intro k
 induction n generalizing f k with
 | zero =>
  have : cv f g k = 0 := yD λi _ => hf0 i (Nat.zero_le _);rw [this]; simp
 | succ n ih =>
  have e : ((n + 1 : Nat) : Int) * (A * B) = (n : Int) * (A * B) + A * B := by rw [Int.natCast_add, Int.add_mul]; simp
  rw [e];have hn : 0 <= (n : Int) * (A * B) := Int.mul_nonneg (by omega) hAB;cases k with
  | zero =>
   have := hm 0 0;simp only [cv]; omega
  | succ k =>
   have h1 := ih (λi => f (i + 1)) (λj => hf (j + 1)) (λj hj => hf0 (j + 1) (by omega)) (λi j => hm (i + 1) j) k;have h2 := hm 0 (k + 1);have h3 : cv f g (k + 1) = f 0 * g (k + 1) + cv (λi => f (i + 1)) g k := rfl;rw [h3]; omega

def part (f g : Nat -> Int) (i k j : Nat) : Int := cv (λx => if x < i then f x else 0) g j + (if i <= j ∧ j < i + k then f i * g (j - i) else 0)
theorem zmn (c : Int) (i : Nat) (g : Nat -> Int) (j : Nat) : cv (λx => if x = i then c else 0) g j = if i <= j then c * g (j - i) else 0 := Poly.cv_mono c i g j
theorem ze2 {f g : Nat -> Int} {m : Nat} (hg : ∀ j, m <= j -> g j = 0) (i j : Nat) : part f g i m j = part f g (i + 1) 0 j := by
 unfold part;rw [if_neg (show ¬ (i + 1 <= j ∧ j < i + 1 + 0) by omega), Int.add_zero]
 have e : (λx => if x < i + 1 then f x else 0) = λx => (if x < i then f x else 0) + (if x = i then f i else 0) := by
  funext x
  by_cases h : x < i
  ·rw [if_pos h, if_pos (by omega), if_neg (by omega)]; omega
  ·by_cases h2 : x = i
   ·subst h2; rw [if_pos (by omega), if_neg h, if_pos rfl]; omega
   ·rw [if_neg (by omega), if_neg h, if_neg h2]; rfl
 rw [e, zhd, zmn]
 congr 1
 by_cases h : i <= j
 ·rw [if_pos h]
  by_cases h2 : j < i + m
  ·rw [if_pos ⟨h, h2⟩]
  ·rw [if_neg (by omega), hg _ (by omega), Int.mul_zero]
 ·rw [if_neg (by omega), if_neg h]
theorem zbU (f g : Nat -> Int) (j : Nat) : part f g 0 0 j = 0 := by
 unfold part;rw [if_neg (by omega), yD λi _ => by simp]; rfl
theorem zbj (f g : Nat -> Int) (i k j : Nat) : part f g i (k + 1) j = if j = i + k then part f g i k j + f i * g k else part f g i k j := by
 unfold part
 by_cases h : j = i + k
 ·subst h;rw [if_pos rfl, if_pos ⟨by omega, by omega⟩, if_neg (by omega), show i + k - i = k by omega]; omega
 ·rw [if_neg h]
  congr 1
  by_cases h2 : i <= j ∧ j < i + k
  ·rw [if_pos h2, if_pos ⟨h2.1, by omega⟩]
  ·rw [if_neg h2, if_neg (by omega)]
theorem ze3 {f g : Nat -> Int} {n : Nat} (hf : ∀ j, n <= j -> f j = 0) (j : Nat) : part f g n 0 j = cv f g j := by
 unfold part;rw [if_neg (by omega), Int.add_zero]
 congr 1
 funext x
 split
 ·rfl
 ·exact (hf x (by omega)).symm
theorem zll {A B : Int} (hA : 0 <= A) (hB : 0 <= B) {f g : Nat -> Int} (hf : ∀ j, -A <= f j ∧ f j <= A) (hg : ∀ j, -B <= g j ∧ g j <= B) (i k j : Nat) :
  -(((i : Int) + 1) * (A * B)) <= part f g i k j ∧ part f g i k j <= ((i : Int) + 1) * (A * B) := by
 have h1 := znX hA hB (n := i) (λx => if x < i then f x else 0) g (λj => by split; exact hf j; omega) (λj hj => if_neg (by omega)) hg j;have hAB : 0 <= A * B := Int.mul_nonneg hA hB
 have h2 : -(A * B) <= f i * g (j - i) ∧ f i * g (j - i) <= A * B := by
  have h1 := hf i;have h2 := hg (j - i)
  have e1 : (f i * g (j - i)).natAbs <= (A * B).natAbs := by
   rw [Int.natAbs_mul, Int.natAbs_mul];exact Nat.mul_le_mul (by omega) (by omega)
  omega
 unfold part;rw [Int.add_mul, Int.one_mul]
 split <;> omega

theorem kr (f : Int -> Int) {xs : List Int} {i : Nat} (h : i < xs.length) : (xs.take (i + 1)).map f = (xs.take i).map f ++ [f (xs.getD i 0)] := by
 rw [List.take_add_one, List.map_append, List.getElem?_eq_getElem h, List.getD_eq_getElem?_getD, List.getElem?_eq_getElem h]; rfl

theorem zcn (n : Nat) (f : Nat -> Int) : mkL (n + 1) f = mkL n f ++ [f n] := by simp [mkL, List.range_succ]
theorem ziX {out f g : List Int} (h : ∀ j, cf out j = cf f j + cf g j) : zu out = zu (yr f g) := zaR λj => by rw [h, y1]
theorem ziY {out f g : List Int} (h : ∀ j, cf out j = cv (cf f) (cf g) j) : zu out = zu (v7 f g) := zaR λj => by rw [h, zbg]
theorem zco {f g : List Int} (h : f = [] ∨ g = []) : zu (v7 f g) = [] := by
 rw [<- zmm];refine zaR λj => ?_;rw [zbg, zS];rcases h with rfl | rfl
 ·exact yD λi _ => zS i
 ·rw [j2]; exact yD λi _ => zS i
theorem yE (p : Int) (l : List Int) : nrm p (zu l) = nrm p l := yw (vd _ _) (vd _ _) λj => by rw [k8, k8, yC]

theorem zcp {p : Int} {l : List Int} (h : ∀ j, 0 <= cf l j ∧ cf l j < p) : nrm p l = zu l :=
 yw (vd p l) (xg l) λj => by rw [k8, yC, Int.emod_eq_of_lt (h j).1 (h j).2]

namespace Poly
variable {p : Int} [SP p]

structure DivI (p : Int) [SP p] (F G : Poly p) (nq k : Nat) (r q : List Int) : Prop where
 rl : r.length = dg F
 ql : q.length = nq
 eq : F = of p q * G + of p r
 z : ∀ j, k + dg G <= j + 1 -> cf r j = 0
 rr : ∀ j, 0 <= cf r j ∧ cf r j < p
 qr : ∀ j, 0 <= cf q j ∧ cf q j < p
 qz : ∀ j, j < k -> cf q j = 0

theorem DivI.start (F G : Poly p) {nq : Nat} (h : dg F + 1 <= nq + dg G) : DivI p F G nq nq F.l (List.replicate nq 0) := by
 have hp := Pr.two (p := p);refine ⟨rfl, by simp, ?_, λj hj => z5 (by omega), λj => jP F j, λj => by rw [zD]; omega, λj _ => zD _ _⟩;have h0 : of p (List.replicate nq 0) = (0 : Poly p) := zx λi => by rw [zM, zD, zN]; simp
 rw [h0, of_l];exact zh [F, G] (by rfl)

theorem DivI.step {F G : Poly p} {nq k : Nat} {r q r' : List Int} (h : DivI p F G nq (k + 1) r q) (hG : G ≠ 0) (hk : k < nq) (c : Int) (hc : c = cf r (k + dg G - 1) * yA p (cf G.l (dg G - 1)) % p)
  (hl : r'.length = r.length) (hr : ∀ j, cf r' j = if k <= j ∧ j < k + dg G then (cf r j - c * cf G.l (j - k)) % p else cf r j) : DivI p F G nq k r' (q.set k c) := by
 have hp := Pr.two (p := p);have hm : dg G ≠ 0 := λe => hG (zd.1 e);have hcr : 0 <= c ∧ c < p := by rw [hc]; exact ⟨Int.emod_nonneg _ (by omega), Int.emod_lt_of_pos _ (by omega)⟩
 have hql := h.ql;have hlead : cf G.l (dg G - 1) % p ≠ 0 := ym (yM (by omega));have hinv := (xr (p := p) hlead).2.2
 have e1 : of p (q.set k c) = of p q + mono p c k := zx λi => by
  rw [zM, yx, zM, j4, z6 (by omega)]
  by_cases hi : i = k
  ·subst hi; rw [if_pos rfl, if_pos rfl, h.qz i (by omega)]; simp
  ·rw [if_neg hi, if_neg hi]; simp
 have e2 : of p r' = of p r - mono p c k * G := zx λi => by
  rw [zM, v8, zM, yW, hr]
  by_cases hi : k <= i
  ·rw [if_pos hi]
   by_cases hi2 : i < k + dg G
   ·rw [if_pos ⟨hi, hi2⟩];rw [Int.emod_emod_of_dvd _ (Int.dvd_refl p), <- Int.sub_emod]
   ·rw [if_neg (by omega), z5 (f := G) (by omega)]; simp
  ·rw [if_neg (by omega), if_neg hi]; simp
 refine ⟨by rw [hl, h.rl], by simpa using hql, ?_, λj hj => ?_, λj => ?_, λj => ?_, λj hj => ?_⟩
 ·rw [e1, e2];exact comb 1 h.eq (zh [F, G, of p q, of p r, mono p c k] (by rfl))
 ·rw [hr]
  by_cases hj2 : j < k + dg G
  ·obtain rfl : j = k + dg G - 1 := by omega
   rw [if_pos (by omega), show k + dg G - 1 - k = dg G - 1 by omega, hc];generalize cf r (k + dg G - 1) = a;generalize yA p (cf G.l (dg G - 1)) = v at hinv;generalize cf G.l (dg G - 1) = l at hinv;rw [Int.sub_emod, Int.mul_emod (a * v % p), Int.emod_emod_of_dvd _ (Int.dvd_refl p), <- Int.mul_emod, show a * v * l = a * (l * v) by rw [Int.mul_assoc, Int.mul_comm v l], Int.mul_emod a, hinv, Int.mul_one, Int.emod_emod_of_dvd _ (Int.dvd_refl p)];simp
  ·rw [if_neg (by omega)]; exact h.z j (by omega)
 ·rw [hr]
  split
  ·exact ⟨Int.emod_nonneg _ (by omega), Int.emod_lt_of_pos _ (by omega)⟩
  ·exact h.rr j
 ·rw [z6 (by omega)]
  split
  ·exact hcr
  ·exact h.qr j
 ·rw [z6 (by omega), if_neg (by omega)];exact h.qz j (by omega)

theorem DivI.fin {F G : Poly p} {nq : Nat} {r q : List Int} (h : DivI p F G nq 0 r q) (hG : G ≠ 0) : zu q = (quo F G).l ∧ zu r = (rem F G).l := by
 have hm : dg G ≠ 0 := λe => hG (zd.1 e)
 have h1 := zhf (q := of p q) (r := of p r) h.eq (by
  have : dg (of p r) <= dg G - 1 := j3 λj hj => by rw [zM, h.z j (by omega)]; simp
  omega)
 rw [h1.1, h1.2];exact ⟨(zcp h.qr).symm, (zcp h.rr).symm⟩

theorem zaS {p : Int} {c : Int} {g : Nat -> Int} {r o : List Int} {k i n : Nat} (hn : o.length = n) (hi : k + i < n) (h : ∀ j, cf o j = if k <= j ∧ j < k + i then (cf r j - c * g (j - k)) % p else cf r j) :
  cf o (k + i) = cf r (k + i) ∧ ∀ j, cf (o.set (k + i) ((cf o (k + i) - c * g i) % p)) j = if k <= j ∧ j < k + (i + 1) then (cf r j - c * g (j - k)) % p else cf r j := by
 have h0 : cf o (k + i) = cf r (k + i) := by rw [h, if_neg (by omega)]
 refine ⟨h0, λj => ?_⟩;rw [z6 (by omega), h0, h]
 by_cases hj : j = k + i
 ·subst hj; rw [if_pos rfl, if_pos (by omega), show k + i - k = i by omega]
 ·rw [if_neg hj]
  by_cases h2 : k <= j ∧ j < k + i
  ·rw [if_pos h2, if_pos (by omega)]
  ·rw [if_neg h2, if_neg (by omega)]

end Poly
namespace Poly
variable {p : Int} [SP p]

theorem zbu {f a b : Poly p} (hf : f ≠ 0) (h : f ∣ a - b) : rem a f = rem b f := by
 obtain ⟨q, hq⟩ := h;have h1 := ve b f;have h2 := zO b hf;exact (zhf (q := q + quo b f) (comb 1 hq (comb 1 h1 (zh [a, b, f, q, quo b f, rem b f] (by rfl)))) h2).2
theorem xi (a f : Poly p) : f ∣ a - rem a f := ⟨quo a f, comb 1 (ve a f) (zh [a, f, quo a f, rem a f] (by rfl))⟩
theorem yF {a b f : Poly p} (hf : f ≠ 0) : rem (rem a f * b) f = rem (a * b) f := by
 refine (zbu hf ?_).symm;obtain ⟨q, hq⟩ := xi a f;exact ⟨q * b, comb b hq (zh [a, b, f, q, rem a f] (by rfl))⟩
theorem xF {a b f : Poly p} (hf : f ≠ 0) : rem (a * rem b f) f = rem (a * b) f := by
 have e : a * rem b f = rem b f * a := zh [a, rem b f] (by rfl);have e2 : b * a = a * b := zh [a, b] (by rfl);rw [e, yF hf, e2]
theorem jt {a f : Poly p} (h : dg a < dg f) : rem a f = a := (zhf (q := 0) (f := a) (g := f) (zh [a, f] (by rfl)) h).2
theorem zcq {a f : Poly p} (hf : f ≠ 0) (n : Nat) : rem (rem a f ^ n) f = rem (a ^ n) f := by
 induction n with
 | zero => rfl
 | succ n ih => rw [zi, zi, xF hf, <- yF hf, ih, yF hf]
theorem zho (a : Poly p) (n : Nat) : a ^ n = (a * a) ^ (n / 2) * a ^ (n % 2) := by
 have h1 : (a * a) ^ (n / 2) = a ^ (2 * (n / 2)) := by
  rw [zhk]
  congr 1
  show a * a = 1 * a * a
  rw [CR.one_mul]
 rw [h1, <- pow_add]
 congr 1; omega
theorem ze4 {o b f g : Poly p} (hf : f ≠ 0) {n : Nat} (h : rem (o * b ^ n) f = g) :
  rem ((if n % 2 = 1 then rem (o * b) f else o) * rem (b * b) f ^ (n / 2)) f = g := by
 rw [<- xF hf, zcq hf, xF hf, <- h, zho b n]
 split
 ·rename_i hn
  have e1 : b ^ (n % 2) = b := by rw [hn]; exact CR.one_mul b
  have e2 : o * b * (b * b) ^ (n / 2) = o * ((b * b) ^ (n / 2) * b) := zh [o, b, (b * b) ^ (n / 2)] (by rfl);rw [yF hf, e1, e2]
 ·rename_i hn
  have e1 : b ^ (n % 2) = 1 := by rw [show n % 2 = 0 by omega]; rfl
  rw [e1, CR.mul_one]

theorem zlm {c : Int} (h0 : 0 < c) (h1 : c < p) : (con p c).l = [c] := by
 refine yw (con p c).ok.2 ?_ λi => ?_
 ·intro n hn;have : n = 0 := by simpa using hn.symm
  subst this;show c ≠ 0
  omega
 ·rw [xN, Int.emod_eq_of_lt (by omega) h1];cases i <;> simp [cf]
theorem ziZ : (1 : Poly p).l = [1] := by
 have hp := Pr.two (p := p);exact zlm (c := 1) (by omega) (by omega)
theorem znY {F : Poly p} (hF : F ≠ 0) : 0 < yA p (cf F.l (dg F - 1)) ∧ yA p (cf F.l (dg F - 1)) < p ∧ F * con p (yA p (cf F.l (dg F - 1))) = mnc F := by
 have hp := Pr.two (p := p);have hd : dg F ≠ 0 := λe => hF (zd.1 e);have hl : cf F.l (dg F - 1) % p ≠ 0 := ym (yM (by omega));obtain ⟨h1, h2, h3⟩ := xr hl;generalize yA p (cf F.l (dg F - 1)) = c at h1 h2 h3;have hc0 : c ≠ 0 := λe => by rw [e, Int.mul_zero, Int.zero_emod] at h3; omega
 have hcm : c % p ≠ 0 := by rw [Int.emod_eq_of_lt h1 h2]; exact hc0
 refine ⟨by omega, h2, ?_⟩
 have hm : Mon (con p c * F) := by
  refine ⟨mul_ne (zhj hcm) hF, ?_⟩;rw [zhi (zhj hcm) hF, znH hcm, Int.emod_eq_of_lt h1 h2, Int.mul_comm];exact h3
 rw [zqo hm];exact zh [F, con p c] (by rfl)
theorem zmo (F G : Poly p) (hF : F ≠ 0) : dg (gcd F G) <= dg F := zP (vg F G) hF
end Poly

theorem zmp {p : Int} {n m a0 : Nat} {R R' : Nat -> Nat -> Int} {s b : Int} (hab : s * b % p = 1) (ha : a0 < m) (h1 : ∀ x, x < n -> R' a0 x % p = (s * R a0 x) % p)
  (h2 : ∀ i, i < m -> i ≠ a0 -> ∃ t : Int, ∀ x, x < n -> R' i x % p = (R i x - t * (s * R a0 x)) % p) (c : Nat -> Int) : Sol p n m R' c ↔ Sol p n m R c := by
 constructor
 ·intro h
  have hat : j8 p n (R a0) c := by
   have h3 := zac b (h a0 ha);refine (vT (λx hx => ?_) (λ_ _ => rfl)).1 h3;rw [y5 b (h1 x hx), <- Int.mul_assoc, Int.mul_comm b s, Int.mul_emod, hab, Int.one_mul, yf]
  intro k hk
  by_cases he : k = a0
  ·subst he; exact hat
  ·obtain ⟨t, ht⟩ := h2 k hk he;have h3 := zgC t (h k hk) (zac s hat);refine (vT (λx hx => ?_) (λ_ _ => rfl)).1 h3;rw [Int.add_emod, ht x hx, <- Int.add_emod]
   congr 1; omega
 ·intro h k hk
  by_cases he : k = a0
  ·subst he;exact (vT (λx hx => h1 x hx) (λ_ _ => rfl)).2 (zac s (h k hk))
  ·obtain ⟨t, ht⟩ := h2 k hk he;have h3 := zgC (-t) (h k hk) (zac s (h a0 ha));refine (vT (λx hx => ?_) (λ_ _ => rfl)).2 h3;rw [ht x hx]
   congr 1; rw [Int.neg_mul]; omega

namespace Poly
variable {p : Int} [SP p]

def ze5 (L : List (Poly p)) (w : Poly p) : Prop := ∀ C : Poly p -> Prop, C 0 -> (∀ a b, C a -> C b -> C (a + b)) -> (∀ (c : Int) a, C a -> C (con p c * a)) -> (∀ a ∈ L, C a) -> C w

theorem znZ {L : List (Poly p)} {g : Nat -> Poly p} {n : Nat} (h : ∀ i, i < n -> ze5 L (g i)) : ze5 L (yz g n) := by
 intro C h0 ha hc hL
 induction n with
 | zero => exact h0
 | succ n ih => exact ha _ _ (ih λi hi => h i (by omega)) (h n (by omega) C h0 ha hc hL)

def zds (p : Int) [SP p] (n : Nat) (piv : List Nat) (R : Nat -> Nat -> Int) (col : Nat) : Poly p := of p (mkL n (jN p piv R col))
theorem zcr (n : Nat) (piv : List Nat) (R : Nat -> Nat -> Int) (col x : Nat) : cf (zds p n piv R col).l x = if x < n then jN p piv R col x % p else 0 := by
 rw [zds, zM, y0]; split <;> simp

def vr (p : Int) [SP p] (n : Nat) (piv : List Nat) (R : Nat -> Nat -> Int) (m : Nat) : List (Poly p) := ((List.range m).filter λc => !piv.contains c).map (zds p n piv R)
theorem ze6 (n : Nat) (piv : List Nat) (R : Nat -> Nat -> Int) (m : Nat) : vr p n piv R (m + 1) = if m ∈ piv then vr p n piv R m else vr p n piv R m ++ [zds p n piv R m] := by
 unfold vr;rw [List.range_succ, List.filter_append]
 by_cases h : m ∈ piv
 ·simp [h]
 ·simp [h]

structure Basis (p : Int) [SP p] (n : Nat) (R : Nat -> Nat -> Int) (L : List (Poly p)) : Prop where
 few : L.length <= n
 sol : ∀ w ∈ L, dg w <= n ∧ Sol p n n R (cf w.l)
 span : ∀ w : Poly p, dg w <= n -> Sol p n n R (cf w.l) -> ze5 L w

theorem Steps.basis {n : Nat} {piv : List Nat} {R R0 : Nat -> Nat -> Int} (h : Steps p n n piv R) (he : ∀ c, Sol p n n R c ↔ Sol p n n R0 c) : Basis p n R0 (vr p n piv R n) := by
 refine ⟨?_, ?_, ?_⟩
 ·unfold vr;rw [List.length_map];exact Nat.le_trans (List.length_filter_le _ _) (by simp)
 ·intro w hw;obtain ⟨col, hc, rfl⟩ := List.mem_map.1 hw;simp only [List.mem_filter, List.mem_range, Bool.not_eq_true', List.contains_eq_mem, decide_eq_false_iff_not] at hc
  refine ⟨j3 λi hi => by rw [zcr, if_neg (by omega)], (he _).1 λk hk => ?_⟩;refine (vT (λ_ _ => rfl) (λi hi => ?_)).1 (h.free hc.1 hc.2 k hk);rw [zcr, if_pos hi, yf]
 ·intro w hw hs;have h1 := h.all ((he _).2 hs)
  have e : w = yz (λcol => con p (if col ∈ piv then 0 else cf w.l col) * zds p n piv R col) n := zx λx => by
   rw [zhl (λcol => if col ∈ piv then 0 else cf w.l col)]
   by_cases hx : x < n
   ·rw [<- xz w x, h1 x hx];refine y2 p λcol hcol => ?_;rw [zcr, if_pos hx]
    split
    ·simp
    ·rw [Int.mul_comm, vh _ (yf p _)]
   ·rw [z5 (by omega)];rw [kL λi _ => by rw [zcr, if_neg hx, Int.zero_mul]]; simp
  rw [e];refine znZ λcol hcol => ?_;intro C h0 ha hc hL
  by_cases hp : col ∈ piv
  ·rw [if_pos hp, xE, CR.zero_mul]; exact h0
  ·rw [if_neg hp];refine hc _ _ (hL _ (List.mem_map.2 ⟨col, ?_, rfl⟩));simp [hcol, hp]

structure Ker (f : Poly p) (L : List (Poly p)) : Prop where
 few : L.length <= dg f
 ber : ∀ w ∈ L, Ber f w ∧ dg w < dg f
 span : ∀ w : Poly p, dg w < dg f -> Ber f w -> ze5 L w
noncomputable def zc2 (f : Poly p) (k i : Nat) : Int := cf (zaP f i).l k
theorem Basis.ker {f : Poly p} {n : Nat} {L : List (Poly p)} (hf : dg f = n + 1) (h : Basis p n (zc2 f) L) : Ker f L := by
 have hb : ∀ w : Poly p, dg w <= n -> (Ber f w ↔ Sol p n n (zc2 f) (cf w.l)) := λw hw => zhm hf hw;exact ⟨by have := h.few; omega, λw hw => ⟨(hb w (h.sol w hw).1).2 (h.sol w hw).2, by have := (h.sol w hw).1; omega⟩, λw hw hB => h.span w (by omega) ((hb w (by omega)).1 hB)⟩

theorem zn0 {L : List (Poly p)} {a : Poly p} (h : ∀ w ∈ L, ∃ s : Int, a ∣ w - con p s) {w : Poly p} (hw : ze5 L w) : ∃ s : Int, a ∣ w - con p s := by
 refine hw (λw => ∃ s : Int, a ∣ w - con p s) ⟨0, ?_⟩ ?_ ?_ h
 ·rw [xE, CR.sub_self]; exact dvd_zero _
 ·rintro x y ⟨s, q, hq⟩ ⟨t, r, hr⟩;refine ⟨s + t, q + r, ?_⟩;rw [<- zhg];exact comb 1 hq (comb 1 hr (zh [x, y, a, q, r, con p s, con p t] (by rfl)))
 ·rintro c x ⟨s, q, hq⟩;refine ⟨c * s, con p c * q, ?_⟩;rw [<- zdW];exact comb (con p c) hq (zh [x, a, q, con p c, con p s] (by rfl))

theorem Parts.done {f : Poly p} {P L : List (Poly p)} (hf : f ≠ 0) (hs : Sqf f) (hk : Ker f L) (hp : Parts f P) (hc : ∀ a ∈ P, ∀ w ∈ L, ∃ s : Int, a ∣ w - con p s) : zbT f P :=
 hp.irrs λa ha => ziR hf hs (hp.each a ha).2.2 (hp.each a ha).2.1 λw hw hb => zn0 (hc a ha) (hk.span w hw hb)

structure Cut (f : Poly p) (B P : List (Poly p)) : Prop where
 parts : Parts f P
 con : ∀ a ∈ P, ∀ w ∈ B, ∃ s : Int, a ∣ w - Poly.con p s
theorem Cut.start {f : Poly p} (hm : Mon f) (h2 : 2 <= dg f) : Cut f [] [f] := ⟨Parts.start hm h2, by simp⟩
theorem Cut.next {f v : Poly p} {B P : List (Poly p)} (h : Cut f B P) (hv : Ber f v) : Cut f (B ++ [v]) (zV v P) := by
 obtain ⟨h1, h2⟩ := h.parts.cut hv;refine ⟨h1, λa ha w hw => ?_⟩;obtain ⟨h3, a0, ha0, h4⟩ := h2 a ha;rcases List.mem_append.1 hw with hw | hw
 ·obtain ⟨s, hs⟩ := h.con a0 ha0 w hw;exact ⟨s, zw h4 hs⟩
 ·simp at hw; subst hw; exact h3
theorem Cut.done {f : Poly p} {L P : List (Poly p)} (hf : f ≠ 0) (hs : Sqf f) (hk : Ker f L) (h : Cut f L P) : zbT f P := Parts.done hf hs hk h.parts h.con

theorem X_l : (X p).l = [0, 1] := by
 have hp := Pr.two (p := p);refine yw (X p).ok.2 ?_ λi => ?_
 ·intro n hn;have : n = 1 := by simpa using hn.symm
  subst this;show (1 : Int) ≠ 0
  omega
 ·rw [j4, Int.emod_eq_of_lt (by omega) (by omega)]
  match i with
  | 0 => rfl
  | 1 => rfl
  | i + 2 => rw [if_neg (by omega), zT (by simp)]
theorem zln (i a : Nat) : cf (X p ^ i).l a = if a = i then 1 else 0 := by
 have hp := Pr.two (p := p);rw [zeY, Nat.one_mul, j4, Int.emod_eq_of_lt (by omega) (by omega)]
theorem zhp (f : Poly p) (a i : Nat) : zc2 f a i = (cf (rem (X p ^ (p.toNat * i)) f).l a - if a = i then 1 else 0) % p := by
 unfold zc2 zaP;rw [v8, zln]

end Poly
namespace Poly
variable {p : Int} [SP p]

def xj : List (Poly p) -> Poly p
 | [] => 1
 | a :: l => a * xj l
theorem zi0 {a : Poly p} : ∀ {l : List (Poly p)}, (∀ b ∈ l, Cop a b) -> Cop a (xj l)
 | [], _ => (zpr a).symm
 | b :: l, h => by
  have h1 := h b (by simp);have h2 := zi0 (l := l) λc hc => h c (by simp [hc]);exact (h1.symm.mul h2.symm).symm
theorem ze7 {f : Poly p} (hf : f ≠ 0) : ∀ {l : List (Poly p)}, (∀ a ∈ l, a ∣ f) -> l.Pairwise (λa b => ∀ h, Irr h -> h ∣ a -> h ∣ b -> False) -> xj l ∣ f
 | [], _, _ => zdV f
 | a :: l, h, hp => by
  rw [List.pairwise_cons] at hp;have h1 := ze7 hf (l := l) (λb hb => h b (by simp [hb])) hp.2;have ha := h a (by simp);exact (zi0 λb hb => zbQ (zeR ha hf) (hp.1 b hb)).mul_dvd ha h1
theorem zhq : ∀ {l : List (Poly p)}, (∀ a ∈ l, 2 <= dg a) -> l.length + 1 <= dg (xj l)
 | [], _ => by rw [xj, yT]; simp
 | a :: l, h => by
  have h1 := zhq (l := l) λb hb => h b (by simp [hb]);have h2 := h a (by simp);have ha : a ≠ 0 := λe => by rw [e, zy] at h2; omega
  have hl : xj l ≠ 0 := λe => by rw [e, zy] at h1; omega
  have := yS ha hl;rw [xj, List.length_cons]; omega
theorem Parts.few {f : Poly p} {P : List (Poly p)} (h : Parts f P) (hf : f ≠ 0) : P.length + 1 <= dg f :=
 Nat.le_trans (zhq λa ha => (h.each a ha).2.1) (zP (ze7 hf (λa ha => (h.each a ha).2.2) h.apart) hf)
theorem zbT.few {f : Poly p} {P : List (Poly p)} (h : zbT f P) (hf : f ≠ 0) : P.length + 1 <= dg f := by
 refine Nat.le_trans (zhq (l := P) λa ha => ((h.2 a).1 ha).1.1) (zP (ze7 hf (λa ha => ((h.2 a).1 ha).2.2) ?_) hf);refine List.pairwise_iff_getElem.2 λi j hi hj hij q hq h1 h2 => ?_;have ha := (h.2 _).1 (List.getElem_mem hi);have hb := (h.2 _).1 (List.getElem_mem hj);have e1 := zbO (j7 hq).1 ha.1 (j7 hq).2 ha.2.1 (zw (ya q).1 h1);have e2 := zbO (j7 hq).1 hb.1 (j7 hq).2 hb.2.1 (zw (ya q).1 h2);exact List.pairwise_iff_getElem.1 h.1 i j hi hj hij (e1.symm.trans e2)

theorem kN (v a : Poly p) (n : Nat) : xq v a (n + 1) = xq v a n ++ zf0 v a n := by simp [xq, List.range_succ]
theorem zn1 (v a : Poly p) {n m : Nat} (h : n <= m) : (xq v a n).length <= (xq v a m).length := by
 induction m with
 | zero => obtain rfl : n = 0 := by omega
           exact Nat.le_refl _
 | succ m ih =>
   rcases Nat.eq_or_lt_of_le h with rfl | h'
   · exact Nat.le_refl _
   · have := ih (by omega)
     rw [kN, List.length_append]; omega
theorem zdt (v : Poly p) {P : List (Poly p)} {j : Nat} (h : j < P.length) : zV v (P.take (j + 1)) = zV v (P.take j) ++ xq v (P.getD j 0) p.toNat := by
 unfold zV;rw [List.take_add_one, List.flatMap_append, List.getElem?_eq_getElem h, List.getD_eq_getElem?_getD, List.getElem?_eq_getElem h];simp
theorem zkn (v : Poly p) (P : List (Poly p)) (j : Nat) : (zV v (P.take j)).length <= (zV v P).length := by
 conv => rhs; rw [<- List.take_append_drop j P]
 unfold zV;rw [List.flatMap_append, List.length_append]; omega
theorem zpz (v : Poly p) {P : List (Poly p)} {j a : Nat} (h : j < P.length) (ha : a <= p.toNat) : (zV v (P.take j) ++ xq v (P.getD j 0) a).length <= (zV v P).length := by
 have h1 := zkn v P (j + 1);rw [zdt v h, List.length_append] at h1;have h2 := zn1 v (P.getD j 0) ha;rw [List.length_append]; omega

theorem zgG (v : Poly p) (a : Int) : nrm p (zu (yr v.l [-a])) = (v - con p a).l := by
 rw [yE];show (of p (yr v.l [-a])).l = _
 congr 1
 refine zx λi => ?_;rw [zM, y1, v8, xN];cases i with
 | zero => rw [if_pos rfl, zA]; rw [Int.sub_emod, Int.emod_emod_of_dvd _ (Int.dvd_refl p), <- Int.sub_emod]; congr 1
 | succ i => rw [if_neg (by omega), zm, zS]; simp
theorem zi1 {L : List (Poly p)} {j : Nat} (h : j < L.length) : L.getD j 0 ∈ L := by
 rw [List.getD_eq_getElem?_getD, List.getElem?_eq_getElem h]; exact List.getElem_mem h
theorem zmq {L : List (Poly p)} {j : Nat} (h : j < L.length) : L.take (j + 1) = L.take j ++ [L.getD j 0] := by
 rw [List.take_add_one, List.getD_eq_getElem?_getD, List.getElem?_eq_getElem h]; rfl

end Poly
namespace Poly
variable {p : Int} [SP p]

theorem zpA {h : Poly p} (hm : Mon h) (n : Nat) : Mon (h ^ n) := by
 induction n with
 | zero => rw [zv]; exact zlh
 | succ n ih => rw [zi]; exact ih.mul hm
theorem Mon.left {f g : Poly p} (hf : Mon g) (h : Mon (f * g)) : Mon f := by
 rw [js] at h; exact hf.right h

structure Peel (f : Poly p) (P : List (Poly p)) (k : Nat) (r : Poly p) (L : List (Poly p × Nat)) : Prop where
 mon : Mon r
 len : L.length = k
 le : k <= P.length
 cut : ∃ s, f = r * s ∧ ∀ h, Irr h -> Mon h -> h ∣ s -> ∃ j, j < k ∧ h = P.getD j 0
 fac : ∀ j, j < k -> (L.getD j (0, 0)).1 = P.getD j 0 ∧ 1 <= (L.getD j (0, 0)).2 ∧ yb (P.getD j 0) (L.getD j (0, 0)).2 f
 out : ∀ j, j < k -> ¬ P.getD j 0 ∣ r
 rest : ∀ h e, Irr h -> Mon h -> (∀ j, j < k -> h ≠ P.getD j 0) -> (yb h e f ↔ yb h e r)

theorem Peel.start {f : Poly p} (hm : Mon f) (P : List (Poly p)) : Peel f P 0 f [] :=
 ⟨hm, rfl, Nat.zero_le _, ⟨1, by exact zh [f] (by rfl), λh hi _ hd => (hi.not_unit yT hd).elim⟩, λj hj => absurd hj (by omega), λj hj => absurd hj (by omega), λ_ _ _ _ _ => Iff.rfl⟩

theorem zbV {P : List (Poly p)} (h : P.Nodup) {i j : Nat} (hi : i < P.length) (hj : j < P.length) (e : P.getD i 0 = P.getD j 0) : i = j := by
 rw [List.getD_eq_getElem?_getD, List.getD_eq_getElem?_getD, List.getElem?_eq_getElem hi, List.getElem?_eq_getElem hj] at e;exact (List.getElem_inj h).1 (by simpa using e)

theorem zc3 {α : Type} {d x : α} {L : List α} {j : Nat} : (L ++ [x]).getD j d = if j < L.length then L.getD j d else if j = L.length then x else d := by
 simp only [List.getD_eq_getElem?_getD, List.getElem?_append]
 by_cases h : j < L.length
 ·simp [h]
 ·by_cases h2 : j = L.length
  ·simp [h2]
  ·rw [if_neg h, if_neg h, if_neg h2, List.getElem?_eq_none (by simp; omega)]; rfl

theorem Peel.step {f r r' : Poly p} {P : List (Poly p)} {k n : Nat} {L : List (Poly p × Nat)} (h : Peel f P k r L) (hP : P.Nodup) (hk : k < P.length) (hi : Irr (P.getD k 0)) (hm : Mon (P.getD k 0)) (hd : P.getD k 0 ∣ f)
  (he : r = P.getD k 0 ^ n * r') (hn : ¬ P.getD k 0 ∣ r') : Peel f P (k + 1) r' (L ++ [(P.getD k 0, n)]) := by
 have hr' : r' ∣ r := ⟨P.getD k 0 ^ n, by rw [he]; exact js _ _⟩
 have hmult : yb (P.getD k 0) n r := ⟨r', he, hn⟩
 have hmf : yb (P.getD k 0) n f := (h.rest _ _ hi hm λj hj e => by have := zbV hP hk (by have := h.le; omega) e; omega).2 hmult
 have hn1 : 1 <= n := by
  rcases Nat.eq_zero_or_pos n with h0 | h0
  ·subst h0; exact absurd hd (xh.1 hmf)
  ·exact h0
 refine ⟨(zpA hm n).right (he ▸ h.mon), by simp [h.len], hk, ?_, λj hj => ?_, λj hj => ?_, λq e hq hqm hqn => ?_⟩
 ·obtain ⟨s, h1, h2⟩ := h.cut;refine ⟨P.getD k 0 ^ n * s, by rw [h1, he]; exact zh [P.getD k 0 ^ n, r', s] (by rfl), λq hq hqm hqd => ?_⟩;rcases hq.prime hqd with h3 | h3
  ·exact ⟨k, by omega, zbO hq hi hqm hm (hq.pow h3)⟩
  ·obtain ⟨j, hj, e⟩ := h2 q hq hqm h3;exact ⟨j, by omega, e⟩
 ·rw [zc3]
  by_cases hjk : j = k
  ·subst hjk;rw [if_neg (by have := h.len; omega), if_pos h.len.symm];exact ⟨rfl, hn1, hmf⟩
  ·rw [if_pos (by have := h.len; omega)];exact h.fac j (by omega)
 ·by_cases hjk : j = k
  ·subst hjk; exact hn
  ·exact λhdj => h.out j (by omega) (zw hdj hr')
 ·rw [h.rest q e hq hqm λj hj => hqn j (by omega)];have hne : ¬ q ∣ P.getD k 0 := λhd' => hqn k (by omega) (zbO hq hi hqm hm hd');have h0 : yb q 0 (P.getD k 0 ^ n) := xh.2 λhd' => hne (hq.pow hd');have r0 : r' ≠ 0 := λe0 => h.mon.1 (by rw [he, e0]; exact zh [P.getD k 0 ^ n] (by rfl))
  have up : ∀ e', yb q e' r' -> yb q e' r := λe' h1 => by
   have := h0.mul hq h1;rw [Nat.zero_add] at this;rw [he]; exact this
  refine ⟨λh1 => ?_, up e⟩;obtain ⟨e', h2⟩ := j9 hq.1 _ r' r0 (Nat.le_refl _);rw [h1.unique hq.ne (up e' h2)]; exact h2

theorem zlo {f g : Poly p} (hf : f ≠ 0) (h : ∀ h, Irr h -> Mon h -> h ∣ f -> h ∣ g -> False) : Cop f g :=
 zbQ hf λq hq h1 h2 => by
  obtain ⟨hi, hm⟩ := j7 hq;exact h _ hi hm (zw (ya q).1 h1) (zw (ya q).1 h2)

theorem Peel.fin {f r : Poly p} {P : List (Poly p)} {L : List (Poly p × Nat)} (h : Peel f P P.length r L) (_hf : Mon f) {q c : Poly p} (hq : zbT q P) (he : f = q * c) (hc : c ∣ der f) :
  der r = 0 ∧ ∀ x, zbt f x ↔ x ∈ L ∨ zbt r x := by
 have hr0 := h.mon.1
 have hidx : ∀ {g : Poly p}, g ∈ P -> ∃ j, j < P.length ∧ g = P.getD j 0 := λ{g} hg => by
  obtain ⟨j, hj, e⟩ := List.getElem_of_mem hg;exact ⟨j, hj, by rw [List.getD_eq_getElem?_getD, List.getElem?_eq_getElem hj]; exact e.symm⟩
 constructor
 ·obtain ⟨s, h1, h2⟩ := h.cut;refine znM he h1 hr0 hc (zlo hr0 λg hg hgm h3 h4 => ?_) (zlo hr0 λg hg hgm h3 h4 => ?_)
  ·obtain ⟨j, hj, rfl⟩ := hidx ((hq.2 g).2 ⟨hg, hgm, h4⟩);exact h.out j hj h3
  ·obtain ⟨j, hj, rfl⟩ := h2 g hg hgm h4;exact h.out j hj h3
 ·have hL : ∀ x, x ∈ L ↔ ∃ j, j < P.length ∧ x = L.getD j (0, 0) := λx => by
   constructor
   ·intro hx;obtain ⟨j, hj, e⟩ := List.getElem_of_mem hx;exact ⟨j, by have := h.len; omega, by rw [List.getD_eq_getElem?_getD, List.getElem?_eq_getElem hj]; exact e.symm⟩
   ·rintro ⟨j, hj, rfl⟩;have hj' : j < L.length := by have := h.len; omega
    rw [List.getD_eq_getElem?_getD, List.getElem?_eq_getElem hj'];exact List.getElem_mem hj'
  rintro ⟨g, e⟩;rw [hL]
  constructor
  ·rintro ⟨h1, h2, h3, h4⟩
   by_cases hg : ∃ j, j < P.length ∧ g = P.getD j 0
   ·obtain ⟨j, hj, rfl⟩ := hg;obtain ⟨h5, h6, h7⟩ := h.fac j hj;refine .inl ⟨j, hj, ?_⟩;have : e = (L.getD j (0, 0)).2 := h4.unique h1.ne h7;exact Prod.ext h5.symm this
   ·exact .inr ⟨h1, h2, h3, (h.rest g e h1 h2 λj hj e' => hg ⟨j, hj, e'⟩).1 h4⟩
  ·rintro (⟨j, hj, hx⟩ | ⟨h1, h2, h3, h4⟩)
   ·obtain ⟨h5, h6, h7⟩ := h.fac j hj;rw [hx]
    have hmem : P.getD j 0 ∈ P := by
     rw [List.getD_eq_getElem?_getD, List.getElem?_eq_getElem hj]; exact List.getElem_mem hj
    obtain ⟨h8, h9, _⟩ := (hq.2 _).1 hmem;exact ⟨by rw [h5]; exact h8, by rw [h5]; exact h9, h6, by rw [h5]; exact h7⟩
   ·refine ⟨h1, h2, h3, (h.rest g e h1 h2 λj hj e' => ?_).2 h4⟩;have hd : g ∣ r := h4.dvd h3;exact h.out j hj (e' ▸ hd)

theorem zaf {f g : Poly p} (h : f ∣ g) (h' : g ∣ f) (hf : f ≠ 0) {q : Poly p} (hq : Irr q) (e : Nat) (h1 : yb q e f) : yb q e g := by
 obtain ⟨u, rfl⟩ := h;obtain ⟨v, hv⟩ := h'
 have huv : u * v = 1 := by
  have h3 : f * (u * v) = f * 1 := by
   have : f * (u * v) = f * u * v := by exact zh [f, u, v] (by rfl)
   rw [this, <- hv]; exact zh [f] (by rfl)
  exact zeP hf h3
 have hu : ¬ q ∣ u := λhd => by
  have h4 : q ∣ u * v := by obtain ⟨w, hw⟩ := hd; exact ⟨w * v, by rw [hw]; exact zh [q, w, v] (by rfl)⟩
  rw [huv] at h4;exact hq.not_unit yT h4
 have := h1.mul hq (xh.2 hu)
 rwa [Nat.add_zero] at this
theorem zgH {f : Poly p} (hf : f ≠ 0) (x : Poly p × Nat) : zbt (mnc f) x ↔ zbt f x := by
 obtain ⟨h1, h2⟩ := ya f;exact ⟨λ⟨a, b, c, d⟩ => ⟨a, b, c, zaf h1 h2 (j6 hf).1 a _ d⟩, λ⟨a, b, c, d⟩ => ⟨a, b, c, zaf h2 h1 hf a _ d⟩⟩

theorem ze8 {f : Poly p} (h : dg f = 1) (x : Poly p × Nat) : ¬ zbt f x := λ⟨a, _, c, d⟩ => a.not_unit h (d.dvd c)

theorem zc4 {g f : Poly p} (hg : g ≠ 0) {n : Nat} (hn : 1 <= n) (he : g ^ n = f) (x : Poly p × Nat) : zbt f x ↔ ∃ e, zbt g (x.1, e) ∧ x.2 = n * e := by
 subst he
 constructor
 ·rintro ⟨a, b, c, d⟩;obtain ⟨e, h1⟩ := j9 a.1 _ g hg (Nat.le_refl _);have h2 := h1.pow a n;have h3 := d.unique a.ne h2;refine ⟨e, ⟨a, b, ?_, h1⟩, by rw [h3, Nat.mul_comm]⟩;rcases Nat.eq_zero_or_pos e with h4 | h4
  ·subst h4; omega
  ·exact h4
 ·rintro ⟨e, ⟨a, b, c, d⟩, h⟩;refine ⟨a, b, ?_, ?_⟩
  ·rw [h]; exact Nat.mul_pos hn c
  ·rw [h, Nat.mul_comm]; exact d.pow a n

theorem zgI {f : Poly p} (hm : Mon f) (hd : der f = 0) {l : List Int} {n : Nat} (hl : l.length = n) (hc : ∀ i, i < n -> cf l i = cf f.l (i * p.toNat)) (h1 : dg f <= n * p.toNat) (h2 : n * p.toNat < dg f + p.toNat) :
  ∃ g : Poly p, g.l = l ∧ Mon g ∧ g ^ p.toNat = f ∧ dg g <= dg f ∧ (2 <= dg f -> dg g < dg f) := by
 have hp := Pr.two (p := p);have hp2 : 2 <= p.toNat := by omega
 have hcf : ∀ i, cf l i = cf f.l (i * p.toNat) := λi => by
  by_cases hi : i < n
  ·exact hc i hi
  ·rw [zT (by omega), z5];have : n * p.toNat <= i * p.toNat := Nat.mul_le_mul_right _ (by omega);omega
 have hof : ∀ i, cf (of p l).l i = cf f.l (i * p.toNat) := λi => by
  rw [zM, hcf, f.ok.cf_mod]
 have hpow := ziT hd hof;have hf0 := hm.1
 have hd1 : 1 <= dg f := by
  rcases Nat.eq_zero_or_pos (dg f) with h | h
  ·exact absurd (zd.1 h) hf0
  ·exact h
 have hn1 : 1 <= n := by
  rcases Nat.eq_zero_or_pos n with h | h
  ·subst h; omega
  ·exact h
 -- its last coefficient
 obtain ⟨m, rfl⟩ : ∃ m, n = m + 1 := ⟨n - 1, by omega⟩
 have hlast : dg f = m * p.toNat + 1 := by
  have hne : cf f.l (dg f - 1) ≠ 0 := by have := yM (f := f) (n := dg f - 1) (by omega); exact this
  have hk : (dg f - 1) % p.toNat = 0 := by
   refine Classical.byContradiction λhk => hne ?_;have e := znO (of p l) (dg f - 1)
   rwa [hpow, if_neg hk] at e
  have h3 : dg f - 1 = (dg f - 1) / p.toNat * p.toNat := (Nat.div_mul_cancel (Nat.dvd_of_mod_eq_zero hk)).symm;generalize (dg f - 1) / p.toNat = t at h3
  have h4 : t = m := by
   have e1 : (m + 1) * p.toNat = m * p.toNat + p.toNat := Nat.succ_mul _ _;rcases Nat.lt_trichotomy t m with h | h | h
   ·have : (t + 1) * p.toNat <= m * p.toNat := Nat.mul_le_mul_right _ h;have e2 : (t + 1) * p.toNat = t * p.toNat + p.toNat := Nat.succ_mul _ _;omega
   ·exact h
   ·have : (m + 1) * p.toNat <= t * p.toNat := Nat.mul_le_mul_right _ h;omega
  subst h4; omega
 have hone : cf (of p l).l m = 1 := by
  rw [hof];have := hm.2;unfold lc at this;rw [hlast] at this
  simpa using this
 have hdg : dg (of p l) = m + 1 := by
  have h5 := zlf (f := of p l) (n := m) (by rw [hone]; decide);have h6 := jJ (p := p) l;omega
 refine ⟨of p l, zaQ (by show dg (of p l) = _; omega) λj hj => ?_, ⟨λe => ?_, ?_⟩, hpow, ?_, λh => ?_⟩
 ·rw [hof, hcf]
 ·rw [e, zy] at hdg; omega
 ·unfold lc; rw [hdg]; exact hone
 ·have : m * 2 <= m * p.toNat := Nat.mul_le_mul_left _ hp2;omega
 ·have : m * 2 <= m * p.toNat := Nat.mul_le_mul_left _ hp2
  have : 1 <= m := by
   rcases Nat.eq_zero_or_pos m with h0 | h0
   ·subst h0; simp at hlast; omega
   ·exact h0
  omega

end Poly
namespace Poly
variable {p : Int} [SP p]

def kt (f : Poly p) (G : List (Poly p × Nat)) : Prop := (G.map Prod.fst).Nodup ∧ ∀ x, x ∈ G ↔ zbt f x

theorem kt.few {f : Poly p} {G : List (Poly p × Nat)} (h : kt f G) (hf : f ≠ 0) : G.length + 1 <= dg f := by
 have : zbT f (G.map Prod.fst) := ⟨h.1, λg => ?_⟩
 ·have := this.few hf
  simpa using this
 ·rw [List.mem_map]
  constructor
  ·rintro ⟨x, hx, rfl⟩;obtain ⟨a, b, c, d⟩ := (h.2 x).1 hx;exact ⟨a, b, d.dvd c⟩
  ·rintro ⟨a, b, c⟩;obtain ⟨e, he⟩ := j9 a.1 _ f hf (Nat.le_refl _);refine ⟨(g, e), (h.2 _).2 ⟨a, b, ?_, he⟩, rfl⟩;rcases Nat.eq_zero_or_pos e with h0 | h0
   ·subst h0; exact absurd c (xh.1 he)
   ·exact h0
theorem jO.facs {f : Poly p} {F : List (Poly p × Nat)} (h : jO f F) : kt f F :=
 ⟨by
  refine List.Pairwise.map _ (R := λx y : Poly p × Nat => ltP x.1 y.1) (λx y hxy e => ze1 y.1 (by rw [e] at hxy; exact hxy)) h.1, h.2⟩

theorem kt.unit {r : Poly p} (h : dg r = 1) : kt r [] := ⟨List.nodup_nil, λx => ⟨λhx => by simp at hx, λhx => (ze8 h x hx).elim⟩⟩

def up (n : Nat) (F : List (Poly p × Nat)) : List (Poly p × Nat) := F.map λx => (x.1, n * x.2)
theorem kt.up {g f : Poly p} (hg : g ≠ 0) {n : Nat} (hn : 1 <= n) (he : g ^ n = f) {F : List (Poly p × Nat)} (h : kt g F) : kt f (up n F) := by
 refine ⟨?_, λx => ?_⟩
 ·have : (Poly.up n F).map Prod.fst = F.map Prod.fst := by unfold Poly.up; rw [List.map_map]; rfl
  rw [this]; exact h.1
 ·rw [zc4 hg hn he];unfold Poly.up;rw [List.mem_map]
  constructor
  ·rintro ⟨y, hy, rfl⟩;exact ⟨y.2, (h.2 _).1 hy, rfl⟩
  ·rintro ⟨e, h1, h2⟩;exact ⟨(x.1, e), (h.2 _).2 h1, Prod.ext rfl h2.symm⟩

theorem Peel.fstL {f r : Poly p} {P : List (Poly p)} {L : List (Poly p × Nat)} (h : Peel f P P.length r L) : L.map Prod.fst = P := by
 refine List.ext_getElem (by simpa using h.len) λi h1 h2 => ?_;have h3 := (h.fac i h2).1;have h1' : i < L.length := by simpa using h1
 rw [List.getD_eq_getElem?_getD, List.getD_eq_getElem?_getD, List.getElem?_eq_getElem h1', List.getElem?_eq_getElem h2] at h3
 simpa using h3

theorem Peel.facs {f r : Poly p} {P : List (Poly p)} {L F : List (Poly p × Nat)} (h : Peel f P P.length r L) (hf : Mon f) {q c : Poly p} (hq : zbT q P) (he : f = q * c) (hc : c ∣ der f) (hF : kt r F) : kt f (L ++ F) := by
 obtain ⟨_, h2⟩ := h.fin hf hq he hc;refine ⟨?_, λx => by rw [h2, List.mem_append, hF.2]⟩;rw [List.map_append, h.fstL];refine List.nodup_append.2 ⟨hq.1, hF.1, λa ha b hb e => ?_⟩;subst e;obtain ⟨x, hx, rfl⟩ := List.mem_map.1 hb;obtain ⟨a1, a2, a3, a4⟩ := (hF.2 x).1 hx;obtain ⟨j, hj, hje⟩ := List.getElem_of_mem ha;refine h.out j hj ?_;rw [List.getD_eq_getElem?_getD, List.getElem?_eq_getElem hj];show P[j] ∣ r
 rw [hje]; exact a4.dvd a3

theorem kt.mnc {f : Poly p} (hf : f ≠ 0) {G : List (Poly p × Nat)} (h : kt (mnc f) G) : kt f G := ⟨h.1, λx => by rw [h.2, zgH hf]⟩

theorem zi2 (f : Poly p) : nrm p (mkL (f.l.length - 1) (dv (cf f.l))) = (der f).l := by
 refine yw (vd _ _) (der f).ok.2 λj => ?_;rw [k8, ja, y0]
 by_cases h : j < f.l.length - 1
 ·rw [if_pos h]
 ·rw [if_neg h];unfold dv;rw [zT (by omega)]; simp

theorem zlp {f : Poly p} (hm : Mon f) (hd : der f ≠ 0) : f = quo f (gcd f (der f)) * gcd f (der f) ∧ Mon (quo f (gcd f (der f))) ∧ Sqf (quo f (gcd f (der f))) ∧ 2 <= dg (quo f (gcd f (der f))) ∧ dg (quo f (gcd f (der f))) <= dg f ∧ gcd f (der f) ∣ der f ∧ gcd f (der f) ≠ 0 := by
 have hg := zck (f := f) (g := der f) (.inl hm.1)
 have h1 : f = quo f (gcd f (der f)) * gcd f (der f) := by
  have h2 := ve f (gcd f (der f));rw [(j5 hg.1).1 (vg f (der f))] at h2;have e : ∀ a : Poly p, a + 0 = a := λa => by exact zh [a] (by rfl)
  rw [e] at h2; exact h2
 have hq0 : quo f (gcd f (der f)) ≠ 0 := λe => hm.1 (by rw [h1, e]; exact zh [gcd f (der f)] (by rfl));have hmq : Mon (quo f (gcd f (der f))) := hg.left (h1 ▸ hm);refine ⟨h1, hmq, znL hm.1 h1 (λh a b => zli a b), ?_, ?_, xT _ _, hg.1⟩
 ·refine Classical.byContradiction λh2 => ?_;have h3 := yS hq0 hg.1;rw [<- h1] at h3;have h4 := zP (xT f (der f)) hd;have h5 := zbS hm.1;have h6 : dg (quo f (gcd f (der f))) ≠ 0 := λe => hq0 (zd.1 e);omega
 ·exact zP ⟨gcd f (der f), h1⟩ hm.1

end Poly
namespace Poly
variable {p : Int} [SP p]

def zcs (f v : Poly p) (s : Nat) (O : List (Poly p)) : Prop := O.Nodup ∧ ∀ h, h ∈ O ↔ Irr h ∧ Mon h ∧ ∃ a ∈ xq v f s, h ∣ a

theorem zcs.start (f v : Poly p) : zcs f v 0 [] := ⟨List.nodup_nil, λh => ⟨λhh => by simp at hh, λ⟨_, _, a, ha, _⟩ => by simp [xq] at ha⟩⟩
theorem zcs.skip {f v : Poly p} {s : Nat} {O : List (Poly p)} (h : zcs f v s O) (hd : ¬ 2 <= dg (gcd f (v - con p (s : Int)))) : zcs f v (s + 1) O := by
 have e : xq v f (s + 1) = xq v f s := by rw [kN, zf0, if_neg hd, List.append_nil]
 unfold zcs at *;rw [e]; exact h
theorem zcs.step {f v : Poly p} {s : Nat} {O P : List (Poly p)} (h : zcs f v s O) (hs : (s : Int) < p) (hd : 2 <= dg (gcd f (v - con p (s : Int)))) (hP : zbT (gcd f (v - con p (s : Int))) P) : zcs f v (s + 1) (O ++ P) := by
 have e : xq v f (s + 1) = xq v f s ++ [gcd f (v - con p (s : Int))] := by rw [kN, zf0, if_pos hd]
 have hap := zgF (v := v) (a := f) (n := s + 1) (by omega);rw [e] at hap;refine ⟨List.nodup_append.2 ⟨h.1, hP.1, λa ha b hb hab => ?_⟩, λq => ?_⟩
 ·subst hab;obtain ⟨a1, a2, c, hc, h3⟩ := (h.2 a).1 ha;obtain ⟨_, _, h4⟩ := (hP.2 a).1 hb;exact (List.pairwise_append.1 hap).2.2 c hc _ (by simp) a a1 h3 h4
 ·rw [e, List.mem_append, h.2, hP.2]
  constructor
  ·rintro (⟨a1, a2, c, hc, h3⟩ | ⟨a1, a2, h3⟩)
   ·exact ⟨a1, a2, c, by simp [hc], h3⟩
   ·exact ⟨a1, a2, _, by simp, h3⟩
  ·rintro ⟨a1, a2, c, hc, h3⟩;rcases List.mem_append.1 hc with hc | hc
   ·exact .inl ⟨a1, a2, c, hc, h3⟩
   ·simp at hc; subst hc; exact .inr ⟨a1, a2, h3⟩
theorem zcs.fin {f v : Poly p} {O : List (Poly p)} (h : zcs f v p.toNat O) (hm : Mon f) (hd : 2 <= dg f) (hv : Ber f v) : zbT f O := by
 have hc := (Parts.start hm hd).cut hv;have e : zV v [f] = xq v f p.toNat := by simp [zV]
 rw [e] at hc;refine ⟨h.1, λq => ?_⟩;rw [h.2]
 constructor
 ·rintro ⟨a1, a2, c, h1, h2⟩;exact ⟨a1, a2, zw h2 (hc.1.each c h1).2.2⟩
 ·rintro ⟨a1, a2, h1⟩;obtain ⟨c, h2, h3⟩ := hc.1.all q a1 h1;exact ⟨a1, a2, c, h2, h3⟩
theorem zn2 {f v : Poly p} {n : Nat} (_hf : dg f = n + 1) (h2 : 2 <= dg v) (hv : dg v <= n) (s : Int) : dg (gcd f (v - con p s)) <= n := by
 have h1 : v - con p s ≠ 0 := λe => by
  have h3 := zc0 (v - con p s) (con p s);have e2 : v - con p s + con p s = v := by exact zh [v, con p s] (by rfl)
  rw [e2, e, zy] at h3;have := v9 (p := p) s;omega
 have h3 := zP (xT f (v - con p s)) h1;have h4 := vG v (con p s);have := v9 (p := p) s;omega

end Poly

def yc {α : Type} (G : List α) (k : Nat) (x : α) : List α := G.take k ++ [x] ++ G.drop k
theorem ze9 {α : Type} {G : List α} {k j : Nat} {x d : α} (hk : k <= G.length) (h : j < k) : (yc G k x).getD j d = G.getD j d := by
 rw [yc, List.append_assoc, List.getD_eq_getElem?_getD, List.getD_eq_getElem?_getD, List.getElem?_append_left (by simp; omega), List.getElem?_take_of_lt h]
theorem zfa {α : Type} {G : List α} {k : Nat} {x d : α} (hk : k <= G.length) : (yc G k x).getD k d = x := by
 simp [yc, List.getD_eq_getElem?_getD, Nat.min_eq_left hk]
theorem zfb {α : Type} {G : List α} {k j : Nat} {x d : α} (hk : k <= G.length) : (yc G k x).getD (k + 1 + j) d = G.getD (k + j) d := by
 rw [yc, List.getD_eq_getElem?_getD, List.getD_eq_getElem?_getD, List.getElem?_append_right (by simp [Nat.min_eq_left hk]), List.getElem?_drop];simp [Nat.min_eq_left hk]
theorem zgJ {α : Type} {G : List α} {k : Nat} {x y : α} : y ∈ yc G k x ↔ y = x ∨ y ∈ G := by
 have : y ∈ G ↔ y ∈ G.take k ++ G.drop k := by rw [List.take_append_drop]
 rw [this, yc];simp only [List.mem_append, List.mem_singleton]
 constructor
 ·rintro ((h | h) | h)
  ·exact .inr (.inl h)
  ·exact .inl h
  ·exact .inr (.inr h)
 ·rintro (h | h | h)
  ·exact .inl (.inr h)
  ·exact .inl (.inl h)
  ·exact .inr h
theorem zct {α : Type} {G : List α} {k : Nat} {x : α} (hk : k <= G.length) : (yc G k x).length = G.length + 1 := by
 simp [yc]; omega

namespace Poly
variable {p : Int} [SP p]

abbrev Srt (G : List (Poly p × Nat)) : Prop := G.Pairwise λx y => ltP x.1 y.1

theorem zd2 {α : Type} {d : α} {G : List α} {j : Nat} (h : j < G.length) : G.getD j d = G[j] := by
 rw [List.getD_eq_getElem?_getD, List.getElem?_eq_getElem h]; rfl

theorem Srt.put {G : List (Poly p × Nat)} (h : Srt G) {k : Nat} {x : Poly p × Nat} (hk : k <= G.length) (h1 : ∀ j, j < k -> ltP (G.getD j (0, 0)).1 x.1) (h2 : k = G.length ∨ ¬ ltP (G.getD k (0, 0)).1 x.1) (hn : ∀ y ∈ G, y.1 ≠ x.1) : Srt (yc G k x) := by
 have hG := h;rw [<- List.take_append_drop k G] at hG;obtain ⟨a1, a2, a3⟩ := List.pairwise_append.1 hG
 have ht : ∀ a ∈ G.take k, ltP a.1 x.1 := λa ha => by
  obtain ⟨j, hj, e⟩ := List.getElem_of_mem ha;have hj' : j < k ∧ j < G.length := by simp at hj; omega
  have := h1 j hj'.1;rw [zd2 hj'.2] at this;rw [List.getElem_take] at e;rw [<- e]; exact this
 have hd : ∀ a ∈ G.drop k, ltP x.1 a.1 := λa ha => by
  obtain ⟨j, hj, e⟩ := List.getElem_of_mem ha;have hj' : k + j < G.length := by simp at hj; omega
  rw [List.getElem_drop] at e;have hk' : k < G.length := by omega
  have hx := h2.resolve_left (by omega);rw [zd2 hk'] at hx;have hlt : ltP x.1 G[k].1 := (zgD (hn G[k] (List.getElem_mem hk'))).resolve_left hx;rcases Nat.eq_zero_or_pos j with h0 | h0
  ·subst h0; rw [<- e]; exact hlt
  ·rw [<- e];exact zc1 hlt (List.pairwise_iff_getElem.1 h k (k + j) hk' hj' (by omega))
 refine List.pairwise_append.2 ⟨List.pairwise_append.2 ⟨a1, List.pairwise_singleton _ _, λa ha b hb => ?_⟩, a2, λa ha b hb => ?_⟩
 ·rw [List.mem_singleton.1 hb]; exact ht a ha
 ·rcases List.mem_append.1 ha with h' | h'
  ·exact a3 a h' b hb
  ·rw [List.mem_singleton.1 h']; exact hd b hb

structure PutOf (f : Poly p) (t : Nat) (G G' : List (Poly p × Nat)) : Prop where
 srt : Srt G'
 mem : ∀ x, x ∈ G' ↔ x ∈ G ∨ ∃ e, zbt f (x.1, e) ∧ x.2 = t * e

theorem PutOf.unit {f : Poly p} (h : dg f = 1) {t : Nat} {G : List (Poly p × Nat)} (hG : Srt G) : PutOf f t G G :=
 ⟨hG, λ_x => ⟨.inl, λhx => hx.elim id λ⟨_e, he, _⟩ => (ze8 h _ he).elim⟩⟩
theorem PutOf.root {g f : Poly p} (hg : g ≠ 0) {n t : Nat} (hn : 1 <= n) (he : g ^ n = f) {G G' : List (Poly p × Nat)} (h : PutOf g (n * t) G G') : PutOf f t G G' :=
 ⟨h.srt, λx => by
  rw [h.mem];refine or_congr Iff.rfl ⟨λ⟨e, h1, h2⟩ => ⟨n * e, (zc4 hg hn he _).2 ⟨e, h1, rfl⟩, by rw [h2, Nat.mul_comm n t, Nat.mul_assoc]⟩, λ⟨e, h1, h2⟩ => ?_⟩;obtain ⟨e', h3, h4⟩ := (zc4 hg hn he _).1 h1;have h4 : e = n * e' := h4;exact ⟨e', h3, by rw [h2, h4, Nat.mul_comm n t, Nat.mul_assoc]⟩⟩
theorem PutOf.fac {f : Poly p} {F : List (Poly p × Nat)} (h : PutOf f 1 [] F) : jO f F :=
 ⟨h.srt, λx => by
  rw [h.mem];refine ⟨λhx => hx.elim (λh => by simp at h) λ⟨e, h1, h2⟩ => ?_, λhx => .inr ⟨x.2, hx, by omega⟩⟩;obtain rfl : e = x.2 := by omega
  exact h1⟩

structure Putting (f : Poly p) (P : List (Poly p)) (t : Nat) (G : List (Poly p × Nat)) (k : Nat) (r : Poly p) (L H : List (Poly p × Nat)) : Prop where
 peel : Peel f P k r L
 srt : Srt H
 mem : ∀ x, x ∈ H ↔ x ∈ G ∨ x ∈ up t L
 len : H.length = G.length + k

theorem Putting.start {f : Poly p} (hm : Mon f) (P : List (Poly p)) (t : Nat) {G : List (Poly p × Nat)} (hG : Srt G) : Putting f P t G 0 f [] G :=
 ⟨Peel.start hm P, hG, λx => by simp [up], rfl⟩

theorem zko {p : Int} {t : Nat} {L : List (Poly p × Nat)} {x : Poly p × Nat} (h : x ∈ up t L) : ∃ y ∈ L, x = (y.1, t * y.2) := by
 obtain ⟨y, hy, e⟩ := List.mem_map.1 h;exact ⟨y, hy, e.symm⟩

theorem Peel.mem_fst {f r : Poly p} {P : List (Poly p)} {k : Nat} {L : List (Poly p × Nat)} (h : Peel f P k r L) {y : Poly p × Nat} (hy : y ∈ L) : ∃ j, j < k ∧ y.1 = P.getD j 0 := by
 obtain ⟨j, hj, e⟩ := List.getElem_of_mem hy;have hjk : j < k := by rw [<- h.len]; exact hj
 have := (h.fac j hjk).1;rw [zd2 hj, e] at this;exact ⟨j, hjk, this⟩

theorem Putting.step {f r r' : Poly p} {P : List (Poly p)} {t k n i : Nat} {G L H : List (Poly p × Nat)} (h : Putting f P t G k r L H) (hG : ∀ x ∈ G, ¬ x.1 ∣ f) (hP : P.Nodup) (hk : k < P.length) (hi : Irr (P.getD k 0)) (hm : Mon (P.getD k 0)) (hd : P.getD k 0 ∣ f)
  (he : r = P.getD k 0 ^ n * r') (hn : ¬ P.getD k 0 ∣ r') (hil : i <= H.length) (h1 : ∀ j, j < i -> ltP (H.getD j (0, 0)).1 (P.getD k 0)) (h2 : i = H.length ∨ ¬ ltP (H.getD i (0, 0)).1 (P.getD k 0)) :
  Putting f P t G (k + 1) r' (L ++ [(P.getD k 0, n)]) (yc H i (P.getD k 0, n * t)) := by
 refine ⟨h.peel.step hP hk hi hm hd he hn, h.srt.put hil h1 h2 λy hy e => ?_, λx => ?_, by rw [zct hil, h.len]; omega⟩
 ·have e : y.1 = P.getD k 0 := e;rcases (h.mem y).1 hy with hy | hy
  ·exact hG y hy (e ▸ hd)
  ·obtain ⟨z, hz, rfl⟩ := zko hy;obtain ⟨j, hj, e'⟩ := h.peel.mem_fst hz;have := zbV hP hk (by omega) (e.symm.trans e');omega
 ·rw [zgJ, h.mem];have : up t (L ++ [(P.getD k 0, n)]) = up t L ++ [(P.getD k 0, n * t)] := by simp [up, Nat.mul_comm]
  rw [this, List.mem_append, List.mem_singleton]
  constructor
  ·rintro (h | h | h)
   ·exact .inr (.inr h)
   ·exact .inl h
   ·exact .inr (.inl h)
  ·rintro (h | h | h)
   ·exact .inr (.inl h)
   ·exact .inr (.inr h)
   ·exact .inl h

theorem Putting.apart {f r : Poly p} {P : List (Poly p)} {t : Nat} {G L H : List (Poly p × Nat)} (h : Putting f P t G P.length r L H) (hG : ∀ x ∈ G, ¬ x.1 ∣ f) : ∀ x ∈ H, ¬ x.1 ∣ r := by
 intro x hx hd;rcases (h.mem x).1 hx with hx | hx
 ·obtain ⟨s, hs, _⟩ := h.peel.cut;exact hG x hx (zw hd ⟨s, hs⟩)
 ·obtain ⟨z, hz, rfl⟩ := zko hx;obtain ⟨j, hj, e'⟩ := h.peel.mem_fst hz;exact h.peel.out j hj (by rw [<- e']; exact hd)

theorem Putting.fin {f r : Poly p} {P : List (Poly p)} {t : Nat} {G L H G' : List (Poly p × Nat)} (h : Putting f P t G P.length r L H) (hf : Mon f) {q c : Poly p} (hq : zbT q P) (he : f = q * c) (hc : c ∣ der f) (hG' : PutOf r t H G') : PutOf f t G G' := by
 obtain ⟨_, h2⟩ := h.peel.fin hf hq he hc;refine ⟨hG'.srt, λx => ?_⟩;rw [hG'.mem, h.mem]
 constructor
 ·rintro ((h3 | h3) | ⟨e, h3, h4⟩)
  ·exact .inl h3
  ·obtain ⟨z, hz, rfl⟩ := zko h3;exact .inr ⟨z.2, (h2 _).2 (.inl hz), rfl⟩
  ·exact .inr ⟨e, (h2 _).2 (.inr h3), h4⟩
 ·rintro (h3 | ⟨e, h3, h4⟩)
  ·exact .inl (.inl h3)
  ·rcases (h2 _).1 h3 with h5 | h5
   ·refine .inl (.inr (List.mem_map.2 ⟨_, h5, Prod.ext rfl h4.symm⟩))
   ·exact .inr ⟨e, h5, h4⟩

theorem Peel.less {f r : Poly p} {P : List (Poly p)} {L : List (Poly p × Nat)} (h : Peel f P P.length r L) (hf : Mon f) {q c : Poly p} (hq : zbT q P) (he : f = q * c) (hq2 : 2 <= dg q) : dg r < dg f := by
 obtain ⟨g, g1, g2, g3⟩ := zbP _ q (Nat.le_refl _) hq2;obtain ⟨j, hj, e⟩ := List.getElem_of_mem ((hq.2 g).2 ⟨g1, g2, g3⟩);have hg : g = P.getD j 0 := by rw [zd2 hj, e]
 obtain ⟨s, hs, _⟩ := h.cut;have hr0 := h.mon.1;have hs0 : s ≠ 0 := λe => hf.1 (by rw [hs, e]; exact zh [r] (by rfl));have h1 := yS hr0 hs0;rw [<- hs] at h1
 have hgs : g ∣ s := by
  have : g ∣ r * s := by rw [<- hs, he]; exact zw g3 ⟨c, rfl⟩
  rcases g1.prime this with h2 | h2
  ·exact absurd (hg ▸ h2) (h.out j hj)
  ·exact h2
 have h2 := zP hgs hs0;have h3 := g1.1;omega

theorem zi3 {a : Poly p} {n : Nat} (h : 1 <= n) : a ∣ a ^ n := by
 obtain ⟨m, rfl⟩ : ∃ m, n = m + 1 := ⟨n - 1, by omega⟩
 exact ⟨a ^ m, by rw [zi]; exact js _ _⟩

theorem zn3 {g f : Poly p} (hg : Mon g) (he : g ^ p.toNat = f) (h2 : 2 <= dg f) : p.toNat < dg f := by
 have : 2 <= dg g := by
  refine Classical.byContradiction λh => ?_
  have h1 : dg g = 1 := by
   have : dg g ≠ 0 := λe => hg.1 (zd.1 e);omega
  have h3 : g = 1 := zkf hg zlh (znG h1 _) (zdV g);rw [h3, zdY] at he;rw [<- he, yT] at h2;omega
 have := zeX this p.toNat;rw [he] at this;exact this

theorem zkp {f h : Poly p} (hf : f ≠ 0) (hF : jO f [(h, 1)]) : Irr f := by
 obtain ⟨h1, h2, _, u, hu, hn⟩ := (hF.2 (h, 1)).1 (by simp);have h1 : Irr h := h1;have h2 : Mon h := h2;have hu : f = h * u := by rw [hu, zi, zv]; exact zh [h, u] (by rfl)
 have hu0 : u ≠ 0 := λe => hf (by rw [hu, e]; exact zh [h] (by rfl))
 have hd : dg u = 1 := by
  have h0 : dg u ≠ 0 := λe => hu0 (zd.1 e);rcases Nat.lt_or_ge (dg u) 2 with h3 | h3
  ·omega
  ·obtain ⟨g, g1, g2, g3⟩ := zbP _ u (Nat.le_refl _) h3;have hgf : g ∣ f := by rw [hu]; exact ye h g3
   obtain ⟨e, he⟩ := j9 g1.1 _ f hf (Nat.le_refl _)
   have he1 : 1 <= e := by
    rcases Nat.eq_zero_or_pos e with h4 | h4
    ·subst h4; exact absurd hgf (xh.1 he)
    ·exact h4
   have hm := (hF.2 (g, e)).2 ⟨g1, g2, he1, he⟩;rw [List.mem_singleton] at hm;have : g = h := congrArg Prod.fst hm;rw [this] at g3;exact absurd g3 hn
 obtain ⟨v, hv⟩ := jK hd
 have hv0 : v ≠ 0 := λe => by
  rw [e] at hv;exact zeQ (p := p) (by rw [<- hv]; exact zh [u] (by rfl))
 have hdv : dg v = 1 := by
  have := yS hu0 hv0;rw [hv, yT] at this;omega
 have hdf := yS h1.ne hu0;rw [<- hu] at hdf;refine ⟨by have := h1.1; omega, λa b hab => ?_⟩
 have hh : h = a * (b * v) := by
  have : h = f * v := by
   have e : h * u * v = h * (u * v) := by exact zh [h, u, v] (by rfl)
   rw [hu, e, hv]; exact zh [h] (by rfl)
  rw [this, hab]; exact zh [a, b, v] (by rfl)
 rcases h1.2 _ _ hh with h3 | h3
 ·exact .inl h3
 ·have hb0 : b ≠ 0 := λe => hf (by rw [hab, e]; exact zh [a] (by rfl));have := yS hb0 hv0;exact .inr (by omega)

theorem zkq {f : Poly p} (hf : Irr f) : jO f [(mnc f, 1)] := by
 obtain ⟨a1, a2⟩ := ya f;obtain ⟨b1, b2⟩ := j7 hf;have hm : yb (mnc f) 1 f := zaf a1 a2 b2.1 b1 1 (ziV b1);refine ⟨List.pairwise_singleton _ _, λx => ?_⟩;rw [List.mem_singleton]
 constructor
 ·rintro rfl;exact ⟨b1, b2, Nat.le_refl _, hm⟩
 ·rintro ⟨c1, c2, c3, c4⟩;have h1 : x.1 = mnc f := zbO c1 b1 c2 b2 (zw (c4.dvd c3) a2)
  have h2 : x.2 = 1 := by
   rw [h1] at c4;exact c4.unique b1.ne hm
  exact Prod.ext h1 h2

end Poly
namespace Poly

def zkr (p : Nat) : Nat -> Nat -> List Int
 | 0, _ => []
 | k + 1, n => if n = 0 then [] else ((n % p : Nat) : Int) :: zkr p k (n / p)
def dig (p n : Nat) : List Int := zkr p n n
def num (p : Nat) : List Int -> Nat
 | [] => 0
 | c :: l => c.toNat + p * num p l

theorem zi4 {p : Nat} (hp : 2 <= p) : ∀ (n k j : Nat), n <= k -> n <= j -> zkr p k n = zkr p j n := by
 intro n
 induction n using Nat.strongRecOn with
 | ind n ih =>
  intro k j hk hj
  by_cases h0 : n = 0
  ·subst h0; cases k <;> cases j <;> simp [zkr]
  ·obtain ⟨k, rfl⟩ : ∃ k', k = k' + 1 := ⟨k - 1, by omega⟩
   obtain ⟨j, rfl⟩ : ∃ j', j = j' + 1 := ⟨j - 1, by omega⟩
   have h1 : n / p < n := Nat.div_lt_self (by omega) hp;simp only [zkr, if_neg h0]
   rw [ih (n / p) h1 k j (by omega) (by omega)]
theorem kO (p : Nat) : dig p 0 = [] := rfl
theorem jl {p n : Nat} (hp : 2 <= p) (h : 0 < n) : dig p n = ((n % p : Nat) : Int) :: dig p (n / p) := by
 have h1 : n / p < n := Nat.div_lt_self h hp;unfold dig;obtain ⟨k, rfl⟩ : ∃ k, n = k + 1 := ⟨n - 1, by omega⟩
 show (if k + 1 = 0 then [] else (((k + 1) % p : Nat) : Int) :: zkr p k ((k + 1) / p)) = _
 rw [if_neg (by omega), zi4 hp _ k _ (by omega) (Nat.le_refl _)]

def zmr (p : Nat) (l : List Int) : Prop := ∀ x ∈ l, 0 <= x ∧ x < p
theorem zi5 {p : Nat} (hp : 2 <= p) (n : Nat) : zmr p (dig p n) := by
 induction n using Nat.strongRecOn with
 | ind n ih =>
  by_cases h0 : n = 0
  ·subst h0; intro x hx; simp [kO] at hx
  ·rw [jl hp (by omega)];intro x hx;rcases List.mem_cons.1 hx with rfl | hx
   ·have := Nat.mod_lt n (show 0 < p by omega); omega
   ·exact ih (n / p) (Nat.div_lt_self (by omega) hp) x hx
theorem zhr {p : Nat} (hp : 2 <= p) (n : Nat) : num p (dig p n) = n := by
 induction n using Nat.strongRecOn with
 | ind n ih =>
  by_cases h0 : n = 0
  ·subst h0; rfl
  ·rw [jl hp (by omega), num, ih (n / p) (Nat.div_lt_self (by omega) hp), Int.toNat_natCast];have := Nat.mod_add_div n p; omega
theorem zhs {p : Nat} (hp : 2 <= p) : ∀ {l : List Int}, zmr p l -> v6 l -> l ≠ [] -> 0 < num p l
 | [], _, _, h => absurd rfl h
 | [c], hd, hz, _ => by
  have h1 := hd c (by simp);have h2 := hz 0 rfl;simp only [zA] at h2
  simp only [num]; omega
 | c :: b :: l, hd, hz, _ => by
  have h1 := zhs hp (l := b :: l) (λx hx => hd x (by simp at hx ⊢; exact .inr hx)) (λn hn => by have := hz (n + 1) (by simp at hn ⊢; omega); rwa [zm] at this) (by simp);simp only [num] at h1 ⊢
  have : 0 < p * (b.toNat + p * num p l) := Nat.mul_pos (by omega) h1;omega
theorem zht {p : Nat} (hp : 2 <= p) : ∀ {l : List Int}, zmr p l -> v6 l -> dig p (num p l) = l
 | [], _, _ => rfl
 | c :: l, hd, hz => by
  have h0 := zhs hp hd hz (by simp);have hc := hd c (by simp);have hl : v6 l := λn hn => by have := hz (n + 1) (by simp [hn]); rwa [zm] at this
  rw [jl hp h0]
  have h1 : num p (c :: l) % p = c.toNat := by
   show (c.toNat + p * num p l) % p = _
   rw [Nat.add_mul_mod_self_left, Nat.mod_eq_of_lt (by omega)]
  have h2 : num p (c :: l) / p = num p l := by
   show (c.toNat + p * num p l) / p = _
   rw [Nat.add_mul_div_left _ _ (by omega), Nat.div_eq_of_lt (by omega), Nat.zero_add]
  rw [h1, h2, zht hp (λx hx => hd x (by simp [hx])) hl]
  congr 1; omega
theorem zn4 {p : Nat} (hp : 2 <= p) (n : Nat) : v6 (dig p n) := by
 induction n using Nat.strongRecOn with
 | ind n ih =>
  by_cases h0 : n = 0
  ·subst h0; intro k hk; simp [kO] at hk
  ·have h1 := ih (n / p) (Nat.div_lt_self (by omega) hp);rw [jl hp (by omega)];intro k hk
   by_cases h2 : n / p = 0
   ·rw [h2, kO] at hk ⊢;obtain rfl : k = 0 := by simpa using hk.symm
    rw [zA]
    have h3 : n < p := by
     rcases Nat.lt_or_ge n p with h | h
     ·exact h
     ·have := Nat.div_pos h (by omega); omega
    rw [Nat.mod_eq_of_lt h3]; omega
   ·have h3 : dig p (n / p) ≠ [] := by rw [jl hp (Nat.pos_of_ne_zero h2)]; simp
    cases k with
    | zero => simp only [List.length_cons] at hk; exact absurd (List.eq_nil_of_length_eq_zero (by omega)) h3
    | succ k => rw [zm]; exact h1 k (by simpa using hk)
theorem zfc {p : Nat} (hp : 2 <= p) : ∀ (k n : Nat), p ^ k <= n -> n < p ^ (k + 1) -> (dig p n).length = k + 1
 | 0, n, h1, h2 => by
  rw [jl hp (by rw [Nat.pow_zero] at h1; omega)];have : n / p = 0 := Nat.div_eq_of_lt (by simpa using h2);rw [this, kO]; rfl
 | k + 1, n, h1, h2 => by
  have hk : 0 < p ^ (k + 1) := Nat.pow_pos (by omega);rw [jl hp (by omega)];have h3 : p ^ k <= n / p := (Nat.le_div_iff_mul_le (by omega)).2 (by rw [<- Nat.pow_succ]; exact h1);have h4 : n / p < p ^ (k + 1) := (Nat.div_lt_iff_lt_mul (by omega)).2 (by rw [<- Nat.pow_succ]; exact h2);simp [zfc hp k (n / p) h3 h4]
theorem zbv {p : Nat} (hp : 2 <= p) : ∀ (k n : Nat), n < p ^ k -> (dig p n).length <= k
 | 0, n, h => by have : n = 0 := by simpa using h
                 subst this; simp [kO]
 | k + 1, n, h => by
   by_cases h0 : n = 0
   · subst h0; simp [kO]
   · rw [jl hp (by omega)]
     have h4 : n / p < p ^ k := (Nat.div_lt_iff_lt_mul (by omega)).2 (by rw [<- Nat.pow_succ]; exact h);have := zbv hp k (n / p) h4;simp; omega
theorem zhu {p : Nat} (hp : 2 <= p) : ∀ {l : List Int}, zmr p l -> num p l < p ^ l.length
 | [], _ => by simp [num]
 | c :: l, hd => by
  have h1 := zhu hp (l := l) λx hx => hd x (by simp [hx]);have hc := hd c (by simp)
  have h2 : p * num p l + p <= p * p ^ l.length := by
   have := Nat.mul_le_mul_left p h1;rw [Nat.mul_succ] at this; exact this
  simp only [num, List.length_cons, Nat.pow_succ, Nat.mul_comm (p ^ l.length) p]
  omega
theorem zbW {p : Nat} : ∀ (l m : List Int), num p (l ++ m) = num p l + p ^ l.length * num p m
 | [], m => by simp [num]
 | c :: l, m => by
  simp only [List.cons_append, num, zbW l m, List.length_cons, Nat.pow_succ]
  rw [Nat.mul_add, <- Nat.mul_assoc, Nat.mul_comm (p ^ l.length) p, Nat.add_assoc]

theorem zc5 {p : Nat} (l : List Int) (i : Nat) (h : i <= l.length) : num p l = num p (l.take i) + p ^ i * num p (l.drop i) := by
 have := zbW (p := p) (l.take i) (l.drop i)
 rwa [List.take_append_drop, List.length_take, Nat.min_eq_left h] at this
theorem zfd {p : Nat} {l : List Int} {i : Nat} (h : i < l.length) : num p (l.drop i) = (cf l i).toNat + p * num p (l.drop (i + 1)) := by
 rw [List.drop_eq_getElem_cons h, num, yK h]
theorem zc6 {p : Nat} : ∀ (i : Nat) (m : List Int), num p (List.replicate i 0 ++ m) = p ^ i * num p m
 | 0, m => by simp
 | i + 1, m => by
  rw [List.replicate_succ, List.cons_append, num, zc6 i m, Nat.pow_succ];simp [Nat.mul_comm, Nat.mul_assoc]
theorem zc7 {p : Nat} (hp : 2 <= p) {l : List Int} : ∀ {i : Nat}, i <= l.length -> (∀ j, j < i -> cf l j = p - 1) -> num p (l.take i) + 1 = p ^ i
 | 0, _, _ => by simp [num]
 | i + 1, hi, h => by
  have h1 := zc7 hp (l := l) (i := i) (by omega) λj hj => h j (by omega);have h2 := h i (by omega)
  have h3 : l.take (i + 1) = l.take i ++ [cf l i] := by
   rw [List.take_add_one, List.getElem?_eq_getElem (by omega), yK (by omega)]; rfl
  rw [h3, zbW, List.length_take, Nat.min_eq_left (by omega), h2, Nat.pow_succ];have h4 : num p [((p : Int) - 1)] = p - 1 := by simp only [num]; omega
  rw [h4];obtain ⟨q, rfl⟩ : ∃ q, p = q + 1 := ⟨p - 1, by omega⟩
  simp only [Nat.add_sub_cancel, Nat.mul_add, Nat.mul_one]
  omega

structure Top (p d : Nat) (l : List Int) : Prop where
 len : l.length = d + 1
 one : cf l d = 1
 digs : zmr p l
theorem Top.last {p d : Nat} {l : List Int} (h : Top p d l) : v6 l := λn hn => by
 have := h.len;obtain rfl : n = d := by omega
 rw [h.one]; omega
theorem Top.num_eq {p d : Nat} {l : List Int} (h : Top p d l) : num p l = num p (l.take d) + p ^ d := by
 have h1 := h.len;rw [zc5 l d (by omega), zfd (by omega), h.one, List.drop_of_length_le (by omega)];simp [num]
theorem Top.take_lt {p d : Nat} (hp : 2 <= p) {l : List Int} (h : Top p d l) : num p (l.take d) < p ^ d := by
 have h1 := zhu hp (l := l.take d) λx hx => h.digs x (List.mem_of_mem_take hx);rw [List.length_take, h.len, Nat.min_eq_left (by omega)] at h1;exact h1
theorem Top.range {p d : Nat} (hp : 2 <= p) {l : List Int} (h : Top p d l) : p ^ d <= num p l ∧ num p l < 2 * p ^ d := by
 have h2 := h.num_eq;have h3 := h.take_lt hp;omega
theorem Top.dig {p d : Nat} (hp : 2 <= p) {l : List Int} (h : Top p d l) : Poly.dig p (num p l) = l := zht hp h.digs h.last
theorem zn5 {p d k : Nat} (hp : 2 <= p) (h1 : p ^ d <= k) (h2 : k < 2 * p ^ d) : Top p d (dig p k) := by
 have hl : (dig p k).length = d + 1 := zfc hp d k h1 (by rw [Nat.pow_succ, Nat.mul_comm]; exact Nat.lt_of_lt_of_le h2 (Nat.mul_le_mul_right _ hp));have hd := zi5 hp k;refine ⟨hl, ?_, hd⟩;have h3 := zc5 (p := p) (dig p k) d (by omega);rw [zhr hp, zfd (by omega), List.drop_of_length_le (by omega)] at h3;have h4 := zhu hp (l := (dig p k).take d) λx hx => hd x (List.mem_of_mem_take hx);rw [List.length_take, hl, Nat.min_eq_left (by omega)] at h4;have h5 := hd _ (List.getElem_mem (l := dig p k) (n := d) (by omega));rw [<- yK (by omega)] at h5;simp only [num, Nat.mul_zero, Nat.add_zero] at h3
 generalize hc : (cf (dig p k) d).toNat = c at h3
 have h6 : c = 1 := by
  rcases Nat.lt_trichotomy c 1 with h | h | h
  ·have : c = 0 := by omega
   subst this; omega
  ·exact h
  ·have : p ^ d * 2 <= p ^ d * c := Nat.mul_le_mul_left _ h;omega
 omega
theorem zc8 (c : Int) (m : List Int) : ∀ i : Nat, cf (List.replicate i 0 ++ c :: m) i = c
 | 0 => rfl
 | i + 1 => by rw [List.replicate_succ, List.cons_append, zm]; exact zc8 c m i
theorem zn6 {p d : Nat} (hp : 2 <= p) {l o : List Int} (h : Top p d l) {i : Nat} (hi : i < d) (h9 : ∀ j, j < i -> cf l j = p - 1) (hc : cf l i < p - 1) (hol : o.length = d + 1)
  (ho : ∀ j, cf o j = if j < i then 0 else if j = i then cf l i + 1 else cf l j) : Top p d o ∧ num p o = num p l + 1 := by
 have hl := h.len;have hci := h.digs _ (List.getElem_mem (l := l) (n := i) (by omega));rw [<- yK (by omega)] at hci
 have hoe : o = List.replicate i 0 ++ ((cf l i + 1) :: l.drop (i + 1)) := by
  refine zaQ (by simp; omega) λj hj => ?_;rw [ho]
  by_cases h1 : j < i
  ·rw [if_pos h1, yK (by simp; omega), List.getElem_append_left (by simpa using h1)]; simp
  ·rw [if_neg h1]
   by_cases h2 : j = i
   ·subst h2;rw [if_pos rfl, zc8]
   ·rw [if_neg h2, yK (l := l) (by omega), yK (by rw [List.length_append, List.length_cons, List.length_replicate, List.length_drop]; omega), List.getElem_append_right (by rw [List.length_replicate]; omega)];simp only [List.length_replicate]
    obtain ⟨q, hq⟩ : ∃ q, j - i = q + 1 := ⟨j - i - 1, by omega⟩
    simp only [hq, List.getElem_cons_succ, List.getElem_drop]
    congr 1; omega
 refine ⟨⟨hol, ?_, λx hx => ?_⟩, ?_⟩
 ·rw [ho, if_neg (by omega), if_neg (by omega), h.one]
 ·obtain ⟨j, hj, rfl⟩ := List.getElem_of_mem hx;rw [<- yK hj, ho];have hdj := h.digs _ (List.getElem_mem (l := l) (n := j) (by omega));rw [<- yK (by omega)] at hdj
  split
  ·omega
  ·split
   ·omega
   ·exact hdj
 ·rw [hoe, zc6, num];have h3 := zc5 (p := p) l i (by omega);rw [zfd (by omega)] at h3;have h4 := zc7 hp (l := l) (i := i) (by omega) h9;have h5 : (cf l i + 1).toNat = (cf l i).toNat + 1 := by omega
  rw [h5, h3];generalize p ^ i = q at *;simp only [Nat.mul_add, Nat.mul_one]
  omega
theorem zn7 {p d : Nat} (hp : 2 <= p) {l : List Int} (h : Top p d l) (h9 : ∀ j, j < d -> cf l j = p - 1) : num p l + 1 = 2 * p ^ d := by
 have h1 := h.num_eq;have h2 := zc7 hp (l := l) (i := d) (by have := h.len; omega) h9;omega

end Poly
namespace Poly
variable {p : Int} [SP p]

theorem zag : 2 <= p.toNat := by have := Pr.two (p := p); omega

def xv (p : Int) [SP p] (n : Nat) : Poly p := of p (dig p.toNat n)
theorem zbk (n : Nat) : (xv p n).l = dig p.toNat n := by
 have hp := Pr.two (p := p);refine zeN ⟨λx hx => ?_, zn4 (by omega) n⟩;have := zi5 (p := p.toNat) (by omega) n x hx;omega
theorem zi6 {n : Nat} (h : 0 < n) : xv p n ≠ 0 := λe => by
 have hp := Pr.two (p := p);have h1 := zbk (p := p) n;rw [e, ko, jl (by omega) h] at h1; cases h1
def nm (X : Poly p) : Nat := num p.toNat X.l
theorem zks (X : Poly p) : zmr p.toNat X.l := λx hx => by
 have h := X.ok.1 x hx;have := Pr.two (p := p);omega
theorem zn8 (X : Poly p) : xv p (nm X) = X := vq (by rw [zbk]; exact zht zag (zks X) X.ok.2)
theorem zi7 (n : Nat) : nm (xv p n) = n := by unfold nm; rw [zbk, zhr zag]
theorem zq0 (X : Poly p) {n : Nat} (h : dg X <= n) : nm X < p.toNat ^ n :=
 Nat.lt_of_lt_of_le (zhu zag (zks X)) (Nat.pow_le_pow_right (by have := zag (p := p); omega) h)
theorem zqr {X : Poly p} (h : X ≠ 0) : 0 < nm X := zhs zag (zks X) X.ok.2 λe => h (vq (by rw [e, ko]))
theorem zn9 {n k : Nat} (h : k < p.toNat ^ n) : dg (xv p k) <= n := by
 show (xv p k).l.length <= n
 rw [zbk]; exact zbv zag n k h
theorem zms {n m : Nat} (h : xv p n = xv p m) : n = m := by rw [<- zi7 (p := p) n, h, zi7]

theorem zpB {α : Type} [DecidableEq α] {l r : List α} (hl : l.Nodup) (hr : r.Nodup) (hs : ∀ x ∈ l, x ∈ r) (hn : r.length <= l.length) : l.Perm r := by
 rw [List.perm_iff_count];intro a;rw [hl.count, hr.count]
 by_cases ha : a ∈ l
 ·rw [if_pos ha, if_pos (hs a ha)]
 ·rw [if_neg ha, if_neg];intro hb
  have h1 := (List.nodup_cons.2 ⟨ha, hl⟩).length_le_of_subset (l₂ := r) (λx hx => by
   rcases List.mem_cons.1 hx with rfl | hx
   ·exact hb
   ·exact hs x hx)
  rw [List.length_cons] at h1; omega

theorem zkt {l r : List (Poly p)} (h : l.Perm r) : xj l = xj r := by
 induction h with
 | nil => rfl
 | cons x _ ih => rw [xj, xj, ih]
 | swap x y l => simp only [xj]; exact zh [x, y, xj l] (by rfl)
 | trans _ _ h1 h2 => rw [h1, h2]

def zf2 (p : Int) [SP p] (q : Nat) : List (Poly p) := (List.range (q - 1)).map λk => xv p (k + 1)
theorem zi8 (q : Nat) : (zf2 p q).length = q - 1 := by simp [zf2]
theorem zaT {n : Nat} {X : Poly p} : X ∈ zf2 p (p.toNat ^ n) ↔ X ≠ 0 ∧ dg X <= n := by
 unfold zf2;rw [List.mem_map]
 constructor
 ·rintro ⟨k, hk, rfl⟩;have hk := List.mem_range.1 hk;exact ⟨zi6 (by omega), zn9 (by omega)⟩
 ·rintro ⟨h0, hd⟩;have h1 := zqr h0;have h2 := zq0 X hd;exact ⟨nm X - 1, List.mem_range.2 (by omega), by rw [show nm X - 1 + 1 = nm X by omega, zn8]⟩
theorem zfe (q : Nat) : (zf2 p q).Nodup := by
 unfold zf2;rw [List.Nodup, List.pairwise_map];exact List.nodup_range.imp λh e => h (by have := zms e; omega)

theorem zff {f a b : Poly p} (h : rem a f = rem b f) : f ∣ a - b := by
 have h1 := xi a f;have h2 := xi b f;rw [<- h] at h2;have h3 := dvd_sub h1 h2
 rwa [show a - rem a f - (b - rem a f) = a - b from zh [a, b, rem a f] (by rfl)] at h3
theorem xP {f y : Poly p} (hy : y ≠ 0) (h : dg y < dg f) : ¬ f ∣ y := λhd => by have := zP hd hy; omega
theorem zoa {f y : Poly p} (hf : f ≠ 0) (h : ¬ f ∣ y) : rem y f ≠ 0 := λe => h ((j5 hf).2 e)
theorem zgK {f : Poly p} (hi : Irr f) : ∀ {l : List (Poly p)}, (∀ y ∈ l, ¬ f ∣ y) -> ¬ f ∣ xj l
 | [], _ => hi.not_unit yT
 | y :: l, h => λhd => (hi.prime hd).elim (h y (by simp)) (zgK hi λz hz => h z (by simp [hz]))
theorem zfg {a b : Poly p} (h : a - b = 0) : a = b := comb 1 h (zh [a, b] (by rfl))

theorem zcu {f x : Poly p} (hf : f ≠ 0) : ∀ l : List (Poly p), rem (xj (l.map λy => rem (x * y) f)) f = rem (x ^ l.length * xj l) f
 | [] => by rw [List.map_nil, xj, List.length_nil, zv, CR.one_mul]
 | y :: l => by
  rw [List.map_cons, xj, xj, List.length_cons, zi, <- xF hf, zcu hf l, xF hf, yF hf];generalize x ^ l.length = u;rw [show x * y * (u * xj l) = u * x * (y * xj l) from zh [x, y, u, xj l] (by rfl)]

def One (f x : Poly p) (e : Nat) : Prop := f ∣ x ^ e - 1
theorem zob {f x : Poly p} (hi : Irr f) (hx : ¬ f ∣ x) {n : Nat} (hn : dg f = n + 1) : One f x (p.toNat ^ n - 1) := by
 have hf := hi.ne
 have hper : ((zf2 p (p.toNat ^ n)).map λy => rem (x * y) f).Perm (zf2 p (p.toNat ^ n)) := by
  refine zpB ?_ (zfe _) ?_ (by simp)
  ·rw [List.Nodup, List.pairwise_map];refine List.Pairwise.imp_of_mem ?_ (zfe (p := p) (p.toNat ^ n));intro a b ha hb hne he;refine hne ?_;have h1 := zff he;rw [show x * a - x * b = x * (a - b) from zh [x, a, b] (by rfl)] at h1;rcases hi.prime h1 with h2 | h2
   ·exact absurd h2 hx
   ·have ha := (zaT.1 ha).2;have hb := (zaT.1 hb).2;exact zfg (Classical.byContradiction λh0 => xP h0 (by have := vG a b; omega) h2)
  ·intro z hz;obtain ⟨y, hy, rfl⟩ := List.mem_map.1 hz;obtain ⟨h0, hd⟩ := zaT.1 hy;refine zaT.2 ⟨zoa hf λh => (hi.prime h).elim hx (xP h0 (by omega)), ?_⟩;have := zO (x * y) hf;omega
 have h1 := zcu (x := x) hf (zf2 p (p.toNat ^ n));rw [zkt hper, zi8] at h1;have h2 := zff h1.symm;unfold One;generalize x ^ (p.toNat ^ n - 1) = u at h2;generalize hP : xj (zf2 p (p.toNat ^ n)) = P at h2;rw [show u * P - P = (u - 1) * P from zh [u, P] (by rfl)] at h2;refine (hi.prime h2).resolve_right ?_;rw [<- hP];refine zgK hi λy hy => ?_;obtain ⟨h0, hd⟩ := zaT.1 hy;exact xP h0 (by omega)

/- powers that are 1 -/
theorem One.zero (f x : Poly p) : One f x 0 := by
 unfold One; rw [zv, show (1 : Poly p) - 1 = 0 from zh [(1 : Poly p)] (by rfl)]; exact dvd_zero f
theorem zi9 {f a b c : Poly p} (h1 : f ∣ a - 1) (h2 : f ∣ b - c) : f ∣ a * b - c := by
 have h3 := dvd_add (y4 b h1) h2
 rwa [show (a - 1) * b + (b - c) = a * b - c from zh [a, b, c] (by rfl)] at h3
theorem One.add {f x : Poly p} {a b : Nat} (h : One f x a) (k : One f x b) : One f x (a + b) := by
 unfold One; rw [pow_add]; exact zi9 h k
theorem One.mul {f x : Poly p} {a : Nat} (h : One f x a) (b : Nat) : One f x (a * b) := by
 induction b with
 | zero => exact One.zero f x
 | succ b ih => rw [Nat.mul_succ]; exact ih.add h
theorem zpC {f x : Poly p} (hi : Irr f) (hx : ¬ f ∣ x) {n : Nat} (hn : dg f = n + 1) : f ∣ x * rem (x ^ (2 * p.toNat ^ n - 3)) f - 1 := by
 have h2 := hi.1
 have hq : 2 <= p.toNat ^ n := by
  have h3 : p.toNat ^ 1 <= p.toNat ^ n := Nat.pow_le_pow_right xp (by omega);have := zag (p := p);rw [Nat.pow_one] at h3; omega
 have h1 := (zob hi hx hn).mul 2;unfold One at h1;rw [show (p.toNat ^ n - 1) * 2 = (2 * p.toNat ^ n - 3) + 1 by omega, zi] at h1;generalize x ^ (2 * p.toNat ^ n - 3) = u at h1 ⊢;have h3 := ye x (xi u f);have h4 := dvd_sub h1 h3
 rwa [show u * x - 1 - x * (u - rem u f) = x * rem u f - 1 from zh [u, x, rem u f] (by rfl)] at h4

end Poly
namespace Poly
variable {p : Int} [SP p]

def PrN (l : Nat) : Prop := 2 <= l ∧ ∀ d, d ∣ l -> d = 1 ∨ d = l
def zoc : List (Nat × Nat) -> Nat
 | [] => 1
 | x :: l => x.1 ^ x.2 * zoc l
structure FacN (n : Nat) (L : List (Nat × Nat)) : Prop where
 prod : zoc L = n
 pr : ∀ x ∈ L, PrN x.1 ∧ 1 <= x.2
 one : L.Pairwise λx y => x.1 ≠ y.1
end Poly
namespace Poly

structure FacS (n : Nat) (L : List (Nat × Nat)) : Prop where
 prod : zoc L = n
 pr : ∀ x ∈ L, PrN x.1 ∧ 1 <= x.2
 sort : L.Pairwise λx y => x.1 < y.1
/- a search for factors that goes up -/
/- orders, by steps down -/
structure OrdI {p : Int} [SP p] (f x : Poly p) (n : Nat) (L : List (Nat × Nat)) (i e : Nat) : Prop where
 pos : 0 < e
 dvd : e ∣ n
 one : One f x e
 todo : ∀ y ∈ L.drop i, y.1 ^ y.2 ∣ e
 done : ∀ y ∈ L.take i, y.1 ∣ e -> ¬ One f x (e / y.1)
structure OrdJ {p : Int} [SP p] (f x : Poly p) (n : Nat) (L : List (Nat × Nat)) (i : Nat) (l k j e : Nat) : Prop where
 pos : 0 < e
 dvd : e ∣ n
 one : One f x e
 todo : ∀ y ∈ L.drop (i + 1), y.1 ^ y.2 ∣ e
 done : ∀ y ∈ L.take i, y.1 ∣ e -> ¬ One f x (e / y.1)
 at_ : (∃ m, e = l ^ (k - j) * m ∧ ¬ l ∣ m ∧ j <= k) ∨ ¬ One f x (e / l)
end Poly
namespace Poly

end Poly
namespace Poly
variable {p : Int} [SP p]

theorem Cop.rem {f h : Poly p} (hc : Cop f h) : Cop f (rem h f) := by
 obtain ⟨a, b, e⟩ := hc;have h1 := ve h f;exact ⟨a + b * quo h f, b, comb 1 e (comb (-b) h1 (zh [a, b, f, h, quo h f, Poly.rem h f] (by rfl)))⟩
theorem Cop.step {a b : Poly p} (h : Cop a b) : Cop b (Poly.rem a b) := by
 have h1 := h.symm.rem;exact h1
theorem Cop.unit {a : Poly p} (h : Cop a 0) : dg a = 1 := by
 obtain ⟨u, v, e⟩ := h;exact zci yT ⟨u, comb (-1) e (zh [u, v, a] (by rfl))⟩
theorem zod {a b : Poly p} (_ha : a ≠ 0) (hb : b ≠ 0) (hl : dg b <= dg a) : dg (quo a b) + dg b = dg a + 1 := by
 have h1 := ve a b;have h2 := zO a hb
 have hq : quo a b ≠ 0 := λe => by
  rw [e, show (0 : Poly p) * b + Poly.rem a b = Poly.rem a b from zh [b, Poly.rem a b] (by rfl)] at h1;rw [<- h1] at h2; omega
 have h3 := yS hq hb;have hd : dg (quo a b) ≠ 0 := λe => hq (zd.1 e);have hb0 : dg b ≠ 0 := λe => hb (zd.1 e)
 have h4 : dg a <= max (dg (quo a b * b)) (dg (Poly.rem a b)) := by
  have := zc0 (quo a b * b) (Poly.rem a b);rw [<- h1] at this; exact this
 have h5 : dg (quo a b * b) <= max (dg a) (dg (Poly.rem a b)) := by
  have := vG a (Poly.rem a b)
  rwa [show a - Poly.rem a b = quo a b * b from comb 1 h1 (zh [a, b, quo a b, Poly.rem a b] (by rfl))] at this
 omega

structure CofI (f h a b u v : Poly p) : Prop where
 a0 : a ≠ 0
 lt : dg b < dg a
 cop : Cop a b
 ua : f ∣ u * h - a
 vb : f ∣ v * h - b
 dv : dg v + dg a <= dg f + 1
 du : dg u + dg a <= dg f
theorem CofI.start {f h : Poly p} (hf : f ≠ 0) (hc : Cop f h) : CofI f h f (rem h f) 0 1 := by
 refine ⟨hf, zO h hf, hc.rem, ⟨-1, zh [f, h] (by rfl)⟩, ?_, by rw [yT]; omega, by rw [zy]; omega⟩;rw [CR.one_mul]; exact xi h f
theorem CofI.step {f h a b u v : Poly p} (k : CofI f h a b u v) (hb : b ≠ 0) : CofI f h b (rem a b) v (u - quo a b * v) := by
 have h1 := zod k.a0 hb (Nat.le_of_lt k.lt);have h2 := zO a hb;have h3 := ve a b;have hv := k.dv;have hu := k.du;have hlt := k.lt;refine ⟨hb, h2, k.cop.step, k.vb, ?_, ?_, by omega⟩
 ·have h4 := dvd_sub k.ua (ye (quo a b) k.vb)
  rwa [show u * h - a - quo a b * (v * h - b) = (u - quo a b * v) * h - rem a b from comb (-1) h3 (zh [u, v, h, a, b, quo a b, rem a b] (by rfl))] at h4
 ·have h5 := vG u (quo a b * v);have h6 := yR (quo a b) v;omega
theorem CofI.few {f h a b u v : Poly p} (k : CofI f h a b u v) : dg u <= dg f ∧ dg v <= dg f ∧ dg a <= dg f ∧ dg b <= dg f := by
 have h1 := k.dv;have h2 := k.du;have h3 := k.lt;omega
theorem CofI.fin {f h a u v : Poly p} (k : CofI f h a 0 u v) {c : Int} (hc : cf a.l 0 * c % p = 1) : dg (u * con p c) < dg f ∧ f ∣ h * (u * con p c) - 1 := by
 have h1 := k.cop.unit;have h2 := zhh (f := a) (by omega);have h3 := k.du;refine ⟨by have := yR u (con p c); have := v9 (p := p) c; omega, ?_⟩;have h4 := y4 (con p c) k.ua
 have h5 : a * con p c = 1 := by
  rw [h2, zdW, <- zch, hc]; rfl
 rwa [show (u * h - a) * con p c = h * (u * con p c) - 1 from comb (-1) h5 (zh [u, h, a, con p c] (by rfl))] at h4

end Poly
namespace Poly
variable {p : Int} [SP p]

noncomputable def frN (f X : Poly p) : Nat -> Poly p
 | 0 => X
 | k + 1 => rem (frN f X k ^ p.toNat) f
theorem zku {f X : Poly p} (hf : f ≠ 0) (hX : dg X < dg f) : ∀ k, dg (frN f X k) < dg f
 | 0 => hX
 | _ + 1 => zO _ hf
theorem zhv {f X : Poly p} (hf : f ≠ 0) (hX : dg X < dg f) : ∀ k, frN f X k = rem (X ^ (p.toNat ^ k)) f
 | 0 => by rw [frN, Nat.pow_zero, zi, zv, CR.one_mul, jt hX]
 | k + 1 => by rw [frN, zhv hf hX k, zcq hf, Nat.pow_succ, zhk]
theorem zpD {f X : Poly p} (hi : Irr f) (hX : dg X < dg f) {n : Nat} (hn : dg f = n + 1) : frN f X n = X := by
 have hf := hi.ne
 by_cases h0 : X = 0
 ·have hz : ∀ k, frN f X k = 0 := λk => by
   induction k with
   | zero => exact h0
   | succ k ih =>
    rw [frN, ih, kK xp];exact jt (by rw [zy]; have := hi.1; omega)
  rw [hz, h0]
 ·rw [zhv hf hX];have hq : 1 <= p.toNat ^ n := Nat.pow_pos xp;have h1 := zob hi (xP h0 hX) hn;unfold One at h1;have h2 := y4 X h1;have e : X ^ (p.toNat ^ n) = X ^ (p.toNat ^ n - 1) * X := by rw [<- zi]; congr 1; omega
  rw [e];generalize X ^ (p.toNat ^ n - 1) = u at h2;rw [show (u - 1) * X = u * X - X from zh [u, X] (by rfl)] at h2;rw [zbu hf h2, jt hX]
structure Per (f X : Poly p) (m : Nat) : Prop where
 pos : 0 < m
 back : frN f X m = X
 first : ∀ k, 0 < k -> k < m -> frN f X k ≠ X
end Poly
namespace Poly
section
variable {m : Int} [Pos m]

def cn (m : Int) [Pos m] (c : Int) : Poly m := of m [c]
theorem zcv (c : Int) (i : Nat) : cf (cn m c).l i = if i = 0 then c % m else 0 := by
 unfold cn;rw [zM];cases i with
 | zero => rw [zA, if_pos rfl]
 | succ i => rw [zm, zS, if_neg (by omega)]; simp
theorem zmt (c : Int) (f : Poly m) (i : Nat) : cf (cn m c * f).l i = c * cf f.l i % m := by
 have h := yW c 0 f i;rw [if_pos (Nat.zero_le _), Nat.sub_zero] at h;exact h
theorem zoe (a b : Int) : cn m a * cn m b = cn m (a * b) := (zqn [a] [b]).symm
theorem zof (a b : Int) : cn m a + cn m b = cn m (a + b) := (znA [a] [b]).symm
theorem zfh (a : Int) : cn m (a % m) = cn m a := zx λi => by rw [zcv, zcv]; simp
theorem zhw : cn m 0 = 0 := zx λi => by rw [zcv, zN]; simp
theorem zlq : cn m m = 0 := zx λi => by rw [zcv, zN]; simp
theorem zqs : cn m 1 = 1 := rfl
theorem zog (a : Int) : dg (cn m a) <= 1 := jJ [a]

def Mn (f : Poly m) (n : Nat) : Prop := dg f = n + 1 ∧ cf f.l n = 1
theorem zja {f : Poly m} {n : Nat} (hf : Mn f n) : ∀ (k : Nat) (a : Poly m), dg a <= k -> ∃ q r : Poly m, a = q * f + r ∧ dg r <= n := by
 intro k
 induction k with
 | zero => intro a ha; exact ⟨0, a, zh [a, f] (by rfl), by omega⟩
 | succ k ih =>
  intro a ha
  by_cases hlt : dg a <= n
  ·exact ⟨0, a, zh [a, f] (by rfl), hlt⟩
  by_cases hle : dg a <= k
  ·exact ih a hle
  have h1 := hf.1
  obtain ⟨q, r, h2, h3⟩ := ih (a - mono m (cf a.l k) (k - n) * f) (by
   refine j3 λi hi => ?_;rw [v8, yW, if_pos (by omega)];rcases Nat.eq_or_lt_of_le hi with rfl | hlt'
   ·rw [show k - (k - n) = n by omega, hf.2, Int.mul_one, xz]; simp
   ·rw [z5 (f := a) (by omega), z5 (f := f) (by omega)]; simp)
  exact ⟨q + mono m (cf a.l k) (k - n), r, comb 1 h2 (zh [a, q, mono m (cf a.l k) (k - n), f, r] (by rfl)), h3⟩
theorem zgL {f d : Poly m} {n : Nat} (hf : Mn f n) (hd : d ≠ 0) : n < dg (d * f) := by
 have h0 : dg d ≠ 0 := λe => hd (zd.1 e);obtain ⟨j, hj⟩ := Nat.exists_eq_succ_of_ne_zero h0;have h1 := hf.1
 have h2 : cf (d * f).l (j + n) ≠ 0 := by
  rw [yQ, znx (λi hi => z5 (by omega)) (λi hi => z5 (by omega)), hf.2, Int.mul_one, xz];exact yM hj
 have := zlf h2;omega
theorem zoh {f a v : Poly m} {n : Nat} (hf : Mn f n) (h : a = v * f) (ha : dg a <= n) : a = 0 := by
 by_cases hv : v = 0
 ·rw [h, hv]; exact zh [f] (by rfl)
 ·have := zgL hf hv;rw [<- h] at this; omega
noncomputable def rdM (a f : Poly m) : Poly m := @dite _ (∃ q r : Poly m, a = q * f + r ∧ dg r < dg f) (Classical.propDecidable _) (λh => h.choose_spec.choose) λ_ => a
noncomputable def qtM (a f : Poly m) : Poly m := @dite _ (∃ q r : Poly m, a = q * f + r ∧ dg r < dg f) (Classical.propDecidable _) (λh => h.choose) λ_ => 0
theorem zfi {f : Poly m} {n : Nat} (hf : Mn f n) (a : Poly m) : a = qtM a f * f + rdM a f ∧ dg (rdM a f) <= n := by
 have h1 := hf.1
 have h : ∃ q r : Poly m, a = q * f + r ∧ dg r < dg f := by
  obtain ⟨q, r, h2, h3⟩ := zja hf _ a (Nat.le_refl _);exact ⟨q, r, h2, by omega⟩
 have h4 := h.choose_spec.choose_spec;unfold rdM qtM;rw [dif_pos h, dif_pos h];exact ⟨h4.1, by omega⟩
theorem yi {f : Poly m} {n : Nat} (hf : Mn f n) (a : Poly m) : dg (rdM a f) <= n := (zfi hf a).2

def Cg (f a b : Poly m) : Prop := ∃ v, a - b = v * f
theorem Cg.refl (f a : Poly m) : Cg f a a := ⟨0, zh [a, f] (by rfl)⟩
theorem Cg.symm {f a b : Poly m} (h : Cg f a b) : Cg f b a := by
 obtain ⟨v, h⟩ := h;exact ⟨-v, comb (-1) h (zh [a, b, v, f] (by rfl))⟩
theorem Cg.trans {f a b c : Poly m} (h : Cg f a b) (k : Cg f b c) : Cg f a c := by
 obtain ⟨v, h⟩ := h;obtain ⟨w, k⟩ := k;exact ⟨v + w, comb 1 h (comb 1 k (zh [a, b, c, v, w, f] (by rfl)))⟩
theorem Cg.add {f a b c d : Poly m} (h : Cg f a b) (k : Cg f c d) : Cg f (a + c) (b + d) := by
 obtain ⟨v, h⟩ := h;obtain ⟨w, k⟩ := k;exact ⟨v + w, comb 1 h (comb 1 k (zh [a, b, c, d, v, w, f] (by rfl)))⟩
theorem Cg.sub {f a b c d : Poly m} (h : Cg f a b) (k : Cg f c d) : Cg f (a - c) (b - d) := by
 obtain ⟨v, h⟩ := h;obtain ⟨w, k⟩ := k;exact ⟨v - w, comb 1 h (comb (-1) k (zh [a, b, c, d, v, w, f] (by rfl)))⟩
theorem Cg.mul {f a b c d : Poly m} (h : Cg f a b) (k : Cg f c d) : Cg f (a * c) (b * d) := by
 obtain ⟨v, h⟩ := h;obtain ⟨w, k⟩ := k;exact ⟨v * c + b * w, comb c h (comb b k (zh [a, b, c, d, v, w, f] (by rfl)))⟩
theorem xk {f : Poly m} {n : Nat} (hf : Mn f n) (a : Poly m) : Cg f (rdM a f) a :=
 ⟨-qtM a f, comb (-1) (zfi hf a).1 (zh [a, f, qtM a f, rdM a f] (by rfl))⟩
theorem Cg.eq {f a b : Poly m} {n : Nat} (hf : Mn f n) (h : Cg f a b) (ha : dg a <= n) (hb : dg b <= n) : a = b := by
 obtain ⟨v, h⟩ := h;have h1 := zoh hf h (by have := vG a b; omega);exact comb 1 h1 (zh [a, b] (by rfl))
theorem zmu {f a b : Poly m} {n : Nat} (hf : Mn f n) (h : Cg f a b) : rdM a f = rdM b f :=
 Cg.eq hf ((xk hf a).trans (h.trans (xk hf b).symm)) (yi hf a) (yi hf b)
theorem zmv {f a : Poly m} {n : Nat} (hf : Mn f n) (ha : dg a <= n) : rdM a f = a := Cg.eq hf (xk hf a) (yi hf a) ha
theorem zoi {f a q r : Poly m} {n : Nat} (hf : Mn f n) (h : a = q * f + r) (hr : dg r <= n) : rdM a f = r :=
 Cg.eq hf ((xk hf a).trans ⟨q, comb 1 h (zh [a, q, f, r] (by rfl))⟩) (yi hf a) hr

/- what is divided by the power i of p, up to multiples of f -/
def Up (p : Int) (f : Poly m) (i : Nat) (a : Poly m) : Prop := ∃ u v, a = cn m (p ^ i) * u + v * f
variable {p : Int}
theorem Up.mulr {f a : Poly m} {i : Nat} (h : Up p f i a) (b : Poly m) : Up p f i (a * b) := by
 obtain ⟨u, v, h⟩ := h;exact ⟨u * b, v * b, comb b h (zh [a, b, u, v, f, cn m (p ^ i)] (by rfl))⟩
theorem Up.neg {f a : Poly m} {i : Nat} (h : Up p f i a) : Up p f i (-a) := by
 obtain ⟨u, v, h⟩ := h;exact ⟨-u, -v, comb (-1) h (zh [a, u, v, f, cn m (p ^ i)] (by rfl))⟩
theorem Up.mul {f a b : Poly m} {i j : Nat} (h : Up p f i a) (k : Up p f j b) : Up p f (i + j) (a * b) := by
 obtain ⟨u, v, h⟩ := h;obtain ⟨u', v', k⟩ := k;refine ⟨u * u', v * b + cn m (p ^ i) * u * v', ?_⟩;rw [Int.pow_add, <- zoe];exact comb b h (comb (cn m (p ^ i) * u) k (zh [a, b, u, v, u', v', f, cn m (p ^ i), cn m (p ^ j)] (by rfl)))
theorem Up.low {f a : Poly m} {i j : Nat} (h : Up p f (i + j) a) : Up p f i a := by
 obtain ⟨u, v, h⟩ := h;rw [Int.pow_add, <- zoe] at h;exact ⟨cn m (p ^ j) * u, v, comb 1 h (zh [a, u, v, f, cn m (p ^ i), cn m (p ^ j)] (by rfl))⟩
theorem Up.le {f a : Poly m} {i j : Nat} (h : Up p f j a) (hij : i <= j) : Up p f i a := by
 obtain ⟨d, rfl⟩ := Nat.exists_eq_add_of_le hij;exact h.low
theorem Up.cg {f a b : Poly m} {i : Nat} (h : Up p f i a) (k : Cg f a b) : Up p f i b := by
 obtain ⟨u, v, h⟩ := h;obtain ⟨w, k⟩ := k;exact ⟨u, v - w, comb 1 h (comb (-1) k (zh [a, b, u, v, w, f, cn m (p ^ i)] (by rfl)))⟩
theorem Up.top {f a : Poly m} {k : Nat} (hm : m = p ^ k) (h : Up p f k a) : Cg f a 0 := by
 obtain ⟨u, v, h⟩ := h;rw [<- hm, zlq] at h;exact ⟨v, comb 1 h (zh [a, u, v, f] (by rfl))⟩

/- inverses -/
theorem zdu {f x u v : Poly m} {n : Nat} (hf : Mn f n) (hu : dg u <= n) (hv : dg v <= n) (h1 : Cg f (x * u) 1) (h2 : Cg f (x * v) 1) : u = v := by
 refine Cg.eq hf ?_ hu hv;obtain ⟨w, h1⟩ := h1;obtain ⟨z, h2⟩ := h2;exact ⟨v * w - u * z, comb v h1 (comb (-u) h2 (zh [x, u, v, w, z, f] (by rfl)))⟩
theorem zjb {f x y : Poly m} {i : Nat} (h : Up p f i (x * y - 1)) : Up p f (i + i) (x * (y * (1 + 1 - x * y)) - 1) := by
 have h1 := (h.mul h).neg
 rwa [show -((x * y - 1) * (x * y - 1)) = x * (y * (1 + 1 - x * y)) - 1 from zh [x, y] (by rfl)] at h1
end
end Poly
namespace Poly
section
variable {m p : Int} [Pos m] [Pos p]

def im (p : Int) [Pos p] (X : Poly m) : Poly p := of p X.l
theorem vV {m : Int} (X : Poly m) (i : Nat) : cf (im p X).l i = cf X.l i % p := zM _ _
theorem zaU {m p : Int} (hd : p ∣ m) (a : Int) : a % m % p = a % p := Int.emod_emod_of_dvd a hd
theorem zhx (hd : p ∣ m) (X Y : Poly m) : im p (X + Y) = im p X + im p Y := zx λi => by
 rw [vV, yx, yx, vV, vV, zaU hd, <- Int.add_emod]
theorem zc9 (hd : p ∣ m) (X Y : Poly m) : im p (X - Y) = im p X - im p Y := zx λi => by
 rw [vV, v8, v8, vV, vV, zaU hd, <- Int.sub_emod]
theorem zoj {m : Int} (X : Poly m) : cf (im p X).l = λi => cf X.l i % p := funext λi => vV X i
theorem jQ (hd : p ∣ m) (X Y : Poly m) : im p (X * Y) = im p X * im p Y := zx λi => by
 rw [vV, yQ, yQ, zoj, zoj, zaU hd, zle]
theorem zok (hd : p ∣ m) (c : Int) : im p (cn m c) = of p [c] := zx λi => by
 rw [vV, zcv, zM];cases i with
 | zero => rw [if_pos rfl, zA, zaU hd]
 | succ i => rw [if_neg (by omega), zm, zS]
theorem zfj (hd : p ∣ m) : im p (1 : Poly m) = 1 := zok hd 1
theorem zqt (_hd : p ∣ m) {X : Poly m} (h : im p X = 0) : ∃ Z, X = cn m p * Z := by
 refine ⟨of m (X.l.map (· / p)), zx λi => ?_⟩;have h1 : cf X.l i % p = 0 := by rw [<- vV (p := p), h, zN]
 have h2 : cf (X.l.map (· / p)) i = cf X.l i / p := by
  by_cases hi : i < X.l.length
  ·exact zqq (· / p) X.l hi
  ·rw [zT (by simpa using hi), zT (by omega)]; simp
 rw [zmt, zM, h2];have h3 : p * (cf X.l i / p) = cf X.l i := by have := Int.mul_ediv_add_emod (cf X.l i) p; omega
 have h4 : p * (cf X.l i / p % m) % m = p * (cf X.l i / p) % m := by rw [Int.mul_emod, Int.emod_emod_of_dvd _ (Int.dvd_refl m), <- Int.mul_emod]
 rw [h4, h3, xz]
def lft (m : Int) [Pos m] (Y : Poly p) : Poly m := of m Y.l
theorem zjc (hd : p ∣ m) (Y : Poly p) : im p (lft m Y) = Y := zx λi => by
 rw [vV]; unfold lft; rw [zM, zaU hd, xz]
theorem zlr {p : Int} (hpm : p <= m) (Y : Poly p) : (lft m Y).l = Y.l := by
 refine zeN ⟨λx hx => ?_, Y.ok.2⟩;have := Y.ok.1 x hx;omega
theorem zol {p : Int} (Y : Poly p) : dg (lft m Y) <= dg Y := j3 λi hi => by
 unfold lft; rw [zM, z5 hi]; simp
theorem zbw {m : Int} (X : Poly m) : dg (im p X) <= dg X := j3 λi hi => by rw [vV, z5 hi]; simp
theorem zhy {f a : Poly m} (hd : p ∣ m) {q : Poly p} (h : im p a = q * im p f) : Up p f 1 a := by
 have h1 : im p (a - lft m q * f) = 0 := by
  rw [zc9 hd, jQ hd, zjc hd, h]; exact zh [q, im p f] (by rfl)
 obtain ⟨Z, hZ⟩ := zqt hd h1;refine ⟨Z, lft m q, ?_⟩;rw [Int.pow_succ, Int.pow_zero, Int.one_mul];exact comb 1 hZ (zh [a, lft m q, f, Z, cn m p] (by rfl))
theorem zqu {f a : Poly m} (hd : p ∣ m) (h : Up p f 1 a) : ∃ q, im p a = q * im p f := by
 obtain ⟨u, v, h⟩ := h;refine ⟨im p v, ?_⟩;rw [h, zhx hd, jQ hd, jQ hd, Int.pow_succ, Int.pow_zero, Int.one_mul, zok hd];have : of p [p] = 0 := zlq (m := p);rw [this];exact zh [im p u, im p v, im p f] (by rfl)
theorem zls {f a b : Poly m} (hd : p ∣ m) (h : Cg f a b) : ∃ q, im p a - im p b = q * im p f := by
 obtain ⟨v, h⟩ := h;exact ⟨im p v, by rw [<- zc9 hd, h, jQ hd]⟩
end

section
variable {m p : Int} [Pos m] [SP p]
theorem zaV {m : Int} {f : Poly m} {n : Nat} (_hd : p ∣ m) (hf : Mn f n) : dg (im p f) = n + 1 ∧ cf (im p f).l n = 1 := by
 have h1 : cf (im p f).l n = 1 := by
  rw [vV, hf.2]; exact Int.emod_eq_of_lt (by omega) (by have := Pr.two (p := p); omega)
 have h2 := zlf (f := im p f) (n := n) (by rw [h1]; omega);have h3 := zbw (p := p) f;have := hf.1;exact ⟨by omega, h1⟩
theorem zfk {p : Int} {f x y : Poly m} {n : Nat} (hf : Mn f n) (h : Up p f 1 (x * y - 1)) : ∀ j : Nat, ∃ z, dg z <= n ∧ Up p f (2 ^ j) (x * z - 1) := by
 intro j
 induction j with
 | zero =>
  refine ⟨rdM y f, yi hf y, h.cg ?_⟩;exact ((Cg.refl f x).mul (xk hf y).symm).sub (Cg.refl f 1)
 | succ j ih =>
  obtain ⟨z, _, h2⟩ := ih;have h3 := zjb h2;refine ⟨rdM (z * (1 + 1 - x * z)) f, yi hf _, ?_⟩;rw [Nat.pow_succ, Nat.mul_two];exact h3.cg (((Cg.refl f x).mul (xk hf _).symm).sub (Cg.refl f 1))
theorem zdv (k : Nat) : k <= 2 ^ k := Nat.le_of_lt Nat.lt_two_pow_self
theorem zaW {f a b : Poly m} (h : Cg f (a - b) 0) : Cg f a b := by
 obtain ⟨v, h⟩ := h;exact ⟨v, comb 1 h (zh [a, b, v, f] (by rfl))⟩
theorem ka {f x : Poly m} {n k : Nat} (hm : m = p ^ k) (hk : 1 <= k) (hf : Mn f n) (hi : Irr (im p f)) (hx : ¬ im p f ∣ im p x) : ∃ U, dg U <= n ∧ Cg f (x * U) 1 := by
 have hd : p ∣ m := by
  obtain ⟨j, rfl⟩ : ∃ j, k = j + 1 := ⟨k - 1, by omega⟩
  exact ⟨p ^ j, by rw [hm, Int.pow_succ, Int.mul_comm]⟩
 obtain ⟨a, b, hab⟩ := hi.cop hx
 have h1 : Up p f 1 (x * lft m b - 1) := by
  refine zhy hd (q := -a) ?_;rw [zc9 hd, jQ hd, zjc hd, zfj hd];exact comb 1 hab (zh [a, b, im p f, im p x] (by rfl))
 obtain ⟨z, hz, h2⟩ := zfk hf h1 k;exact ⟨z, hz, zaW ((h2.le (zdv k)).top hm)⟩

/- roots -/
def evL : List Int -> Poly m -> Poly m
 | [], _ => 0
 | c :: l, X => cn m c + X * evL l X
def deL : List Int -> Poly m -> Poly m
 | [], _ => 0
 | _ :: l, X => evL l X + X * deL l X
theorem ju (X : Poly m) : ∀ {a b : List Int}, (∀ i, cf a i % m = cf b i % m) -> evL a X = evL b X
 | [], [], _ => rfl
 | [], c :: l, h => by
  have h0 := h 0;rw [zS, zA] at h0;have h1 := ju X (a := []) (b := l) λi => by have := h (i + 1); rwa [zS, zm] at this
  have h2 : cn m c = 0 := by rw [<- zfh, <- h0]; simp [zhw]
  rw [evL, evL, <- h1, h2, evL]; exact zh [X] (by rfl)
 | c :: l, [], h => by
  have h0 := h 0;rw [zS, zA] at h0;have h1 := ju X (a := l) (b := []) λi => by have := h (i + 1); rwa [zS, zm] at this
  have h2 : cn m c = 0 := by rw [<- zfh, h0]; simp [zhw]
  rw [evL, evL, h1, h2, evL]; exact zh [X] (by rfl)
 | c :: l, d :: k, h => by
  have h0 := h 0;rw [zA, zA] at h0;have h1 := ju X (a := l) (b := k) λi => by have := h (i + 1); rwa [zm, zm] at this
  rw [evL, evL, h1, <- zfh c, h0, zfh]
theorem zfl {f X Y : Poly m} (h : Cg f X Y) : ∀ l : List Int, Cg f (evL l X) (evL l Y)
 | [] => Cg.refl f 0
 | _ :: l => (Cg.refl f _).add (h.mul (zfl h l))
theorem zom {f X Y : Poly m} (h : Cg f X Y) : ∀ l : List Int, Cg f (deL l X) (deL l Y)
 | [] => Cg.refl f 0
 | _ :: l => (zfl h l).add (h.mul (zom h l))
theorem zkv (X D : Poly m) : ∀ l : List Int, ∃ w, evL l (X + D) = evL l X + D * deL l X + D * D * w
 | [] => ⟨0, by simp only [evL, deL]; exact zh [D] (by rfl)⟩
 | c :: l => by
  obtain ⟨w, h⟩ := zkv X D l;refine ⟨X * w + deL l X + D * w, ?_⟩;simp only [evL, deL]
  exact comb (X + D) h (zh [X, D, w, cn m c, evL l X, deL l X, evL l (X + D)] (by rfl))
theorem zjd {p : Int} {f y z s : Poly m} {l : List Int} {n k : Nat} (hm : m = p ^ k) (hf : Mn f n) (hy : Cg f (evL l y) 0) (hz : Cg f (evL l z) 0) (h1 : Up p f 1 (y - z)) (hs : Cg f (deL l z * s) 1) (dy : dg y <= n) (dz : dg z <= n) : y = z := by
 refine Cg.eq hf (zaW ?_) dy dz;obtain ⟨w, ht⟩ := zkv z (y - z) l;rw [show z + (y - z) = y from zh [y, z] (by rfl)] at ht;generalize y - z = D at h1 ht ⊢
 -- D (slope + D w) is 0, so D = - D D w s
 have hD : Cg f D (-(D * (D * w * s))) := by
  obtain ⟨a, hy⟩ := hy;obtain ⟨b, hz⟩ := hz;obtain ⟨c, hs⟩ := hs;generalize evL l y = Y at hy ht;generalize evL l z = Z at hz ht;generalize deL l z = E at hs ht;have hy' : Y = a * f := comb 1 hy (zh [Y, a, f] (by rfl));have hz' : Z = b * f := comb 1 hz (zh [Z, b, f] (by rfl));rw [hy', hz'] at ht;exact ⟨s * (a - b) - D * c, comb (-D) hs (comb (-s) ht (zh [D, w, s, a, b, c, f, E] (by rfl)))⟩
 have hall : ∀ j, Up p f (j + 1) D := λj => by
  induction j with
  | zero => exact h1
  | succ j ih =>
   have h2 := (ih.mul ((h1.mulr w).mulr s)).neg;rw [show j + 1 + 1 = j + 1 + 1 from rfl] at h2;exact h2.cg hD.symm
 exact ((hall k).le (by omega)).top hm
theorem zmw {p : Int} {f y s : Poly m} {l : List Int} {i : Nat} (h : Up p f i (evL l y)) (hs : Cg f (deL l y * s) 1) : Up p f (i + i) (evL l (y - evL l y * s)) := by
 obtain ⟨w, ht⟩ := zkv y (-(evL l y * s)) l;rw [show y + -(evL l y * s) = y - evL l y * s from zh [y, evL l y, s] (by rfl)] at ht;have h2 := ((h.mul h).mulr (s * s * w))
 refine h2.cg ?_;obtain ⟨c, hs⟩ := hs;exact ⟨evL l y * c, comb (-1) ht (comb (evL l y) hs (zh [s, w, c, f, evL l y, deL l y, evL l (y - evL l y * s)] (by rfl)))⟩
end
end Poly
end Go.Proofs.YtffhmebkkbfaeaaGreat
