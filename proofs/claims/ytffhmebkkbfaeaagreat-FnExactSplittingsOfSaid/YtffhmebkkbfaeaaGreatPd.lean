/- Plain mathematics of polynomials by a prime. No conditions. -/
import Derived.Test.YtffhmebkkbfaeaaGreatPc
namespace Go.Proofs.YtffhmebkkbfaeaaGreat

class CR (α : Type) [Add α] [Mul α] [Neg α] [Sub α] [OfNat α 0] [OfNat α 1] : Prop where
 add_comm : ∀ a b : α, a + b = b + a
 add_assoc : ∀ a b c : α, a + b + c = a + (b + c)
 add_zero : ∀ a : α, a + 0 = a
 add_neg : ∀ a : α, a + -a = 0
 sub_def : ∀ a b : α, a - b = a + -b
 mul_comm : ∀ a b : α, a * b = b * a
 mul_assoc : ∀ a b c : α, a * b * c = a * (b * c)
 one_mul : ∀ a : α, 1 * a = a
 add_mul : ∀ a b c : α, (a + b) * c = a * c + b * c

inductive RE where
 | at (n : Nat)
 | zero
 | one
 | add (a b : RE)
 | sub (a b : RE)
 | mul (a b : RE)
 | neg (a : RE)

abbrev RM := List (Bool × List Nat)

def zmF (a : Nat) : List Nat -> List Nat
 | [] => [a]
 | b :: l => bif Nat.ble a b then a :: b :: l else b :: zmF a l
def zj0 : List Nat -> List Nat -> List Nat
 | [], m => m
 | a :: l, m => zmF a (zj0 l m)
def zdh : RM -> RM
 | [] => []
 | (s, m) :: r => (!s, m) :: zdh r
def zk9 (s : Bool) (m : List Nat) : RM -> RM
 | [] => []
 | (t, k) :: r => (s == t, zj0 m k) :: zk9 s m r
def zla : RM -> RM -> RM
 | [], _ => []
 | (s, m) :: r, k => zk9 s m k ++ zla r k
def RE.ex : RE -> RM
 | .at n => [(true, [n])]
 | .zero => []
 | .one => [(true, [])]
 | .add a b => a.ex ++ b.ex
 | .sub a b => a.ex ++ zdh b.ex
 | .mul a b => zla a.ex b.ex
 | .neg a => zdh a.ex
def zh8 (s : Bool) (m : List Nat) : RM -> Option RM
 | [] => none
 | (t, k) :: r => bif t == s && k == m then some r else match zh8 s m r with
  | some r' => some ((t, k) :: r')
  | none => none
def zgK : Nat -> RM -> Bool
 | _, [] => true
 | 0, _ => false
 | n + 1, (s, m) :: r => match zh8 (!s) m r with
  | some r' => zgK n r'
  | none => false
def RE.chk (a b : RE) : Bool := zgK 1000 (a.ex ++ zdh b.ex)

section
variable {α : Type} [Add α] [Mul α] [Neg α] [Sub α] [OfNat α 0] [OfNat α 1]

def atM (ctx : List α) (n : Nat) : α := match ctx, n with
 | [], _ => 0
 | a :: _, 0 => a
 | _ :: r, n + 1 => atM r n
def RE.ev (ctx : List α) : RE -> α
 | .at n => atM ctx n
 | .zero => 0
 | .one => 1
 | .add a b => a.ev ctx + b.ev ctx
 | .sub a b => a.ev ctx - b.ev ctx
 | .mul a b => a.ev ctx * b.ev ctx
 | .neg a => -a.ev ctx
def evN (ctx : List α) : List Nat -> α
 | [] => 1
 | a :: l => atM ctx a * evN ctx l
def ev1 (ctx : List α) (s : Bool) (m : List Nat) : α := bif s then evN ctx m else -evN ctx m
def evM (ctx : List α) : RM -> α
 | [] => 0
 | (s, m) :: r => ev1 ctx s m + evM ctx r

variable [CR α]
namespace CR
theorem zero_add (a : α) : 0 + a = a := by rw [CR.add_comm, CR.add_zero]
theorem left_cancel {a b c : α} (h : a + b = a + c) : b = c := by
 have h1 : -a + (a + b) = -a + (a + c) := by rw [h]
 rw [<- CR.add_assoc, <- CR.add_assoc, CR.add_comm (-a) a, CR.add_neg, zero_add, zero_add] at h1;exact h1
theorem left_comm (a b c : α) : a + (b + c) = b + (a + c) := by rw [<- CR.add_assoc, CR.add_comm a b, CR.add_assoc]
theorem mul_left_comm (a b c : α) : a * (b * c) = b * (a * c) := by rw [<- CR.mul_assoc, CR.mul_comm a b, CR.mul_assoc]
theorem zero_mul (a : α) : 0 * a = 0 := by
 have h : 0 * a + 0 * a = 0 * a + 0 := by rw [<- CR.add_mul, CR.add_zero, CR.add_zero]
 exact left_cancel h
theorem vL {a b : α} (h : a + b = 0) : b = -a := left_cancel (by rw [h, CR.add_neg])
theorem neg_zero : -(0 : α) = 0 := (vL (CR.add_zero 0)).symm
theorem neg_neg (a : α) : -(-a) = a := (vL (by rw [CR.add_comm, CR.add_neg])).symm
theorem neg_add (a b : α) : -(a + b) = -a + -b := (vL (by
 rw [CR.add_assoc, left_comm b, <- CR.add_assoc, CR.add_neg, CR.add_neg, CR.add_zero])).symm
theorem neg_mul (a b : α) : -a * b = -(a * b) := vL (by rw [<- CR.add_mul, CR.add_neg, zero_mul])
theorem mul_zero (a : α) : a * 0 = 0 := by rw [CR.mul_comm, zero_mul]
theorem mul_neg (a b : α) : a * -b = -(a * b) := by rw [CR.mul_comm, neg_mul, CR.mul_comm]
theorem mul_add (a b c : α) : a * (b + c) = a * b + a * c := by rw [CR.mul_comm, CR.add_mul, CR.mul_comm b, CR.mul_comm c]
theorem mul_one (a : α) : a * 1 = a := by rw [CR.mul_comm, CR.one_mul]
theorem sub_self (a : α) : a - a = 0 := by rw [CR.sub_def, CR.add_neg]
theorem eq_of_sub {a b : α} (h : a - b = 0) : a = b := by
 rw [CR.sub_def] at h;have := vL (a := -b) (b := a) (by rw [CR.add_comm, h]);rw [this, neg_neg]
end CR

theorem zi3 (ctx : List α) (a : Nat) : ∀ l, evN ctx (zmF a l) = atM ctx a * evN ctx l
 | [] => rfl
 | b :: l => by
  unfold zmF;cases Nat.ble a b
  ·simp only [cond_false, evN, zi3 ctx a l, CR.mul_left_comm]
  ·rfl
theorem zi4 (ctx : List α) : ∀ l m, evN ctx (zj0 l m) = evN ctx l * evN ctx m
 | [], m => by simp only [zj0, evN, CR.one_mul]
 | a :: l, m => by simp only [zj0, evN, zi3, zi4 ctx l m, CR.mul_assoc]
theorem zaX (ctx : List α) : ∀ a b, evM ctx (a ++ b) = evM ctx a + evM ctx b
 | [], b => by simp only [List.nil_append, evM, CR.zero_add]
 | (s, m) :: a, b => by simp only [List.cons_append, evM, zaX ctx a b, CR.add_assoc]
theorem zi5 (ctx : List α) (s : Bool) (m : List Nat) : ev1 ctx (!s) m = -ev1 ctx s m := by
 cases s <;> simp [ev1, CR.neg_neg]
theorem zaY (ctx : List α) : ∀ a, evM ctx (zdh a) = -evM ctx a
 | [] => by simp only [zdh, evM, CR.neg_zero]
 | (s, m) :: a => by simp only [zdh, evM, zaY ctx a, zi5, CR.neg_add]
theorem zmG (ctx : List α) (s t : Bool) (m k : List Nat) : ev1 ctx (s == t) (zj0 m k) = ev1 ctx s m * ev1 ctx t k := by
 cases s <;> cases t <;> simp [ev1, zi4, CR.neg_mul, CR.mul_neg, CR.neg_neg]
theorem zgL (ctx : List α) (s : Bool) (m : List Nat) : ∀ b, evM ctx (zk9 s m b) = ev1 ctx s m * evM ctx b
 | [] => by simp only [zk9, evM, CR.mul_zero]
 | (t, k) :: b => by simp only [zk9, evM, zgL ctx s m b, zmG, CR.mul_add]
theorem zi6 (ctx : List α) : ∀ a b, evM ctx (zla a b) = evM ctx a * evM ctx b
 | [], b => by simp only [zla, evM, CR.zero_mul]
 | (s, m) :: a, b => by simp only [zla, evM, zaX, zgL, zi6 ctx a b, CR.add_mul]
theorem zaZ (ctx : List α) : ∀ e : RE, evM ctx e.ex = e.ev ctx
 | .at n => by simp only [RE.ex, evM, ev1, cond_true, evN, RE.ev, CR.mul_one, CR.add_zero]
 | .zero => rfl
 | .one => by simp only [RE.ex, evM, ev1, cond_true, evN, RE.ev, CR.add_zero]
 | .add a b => by simp only [RE.ex, RE.ev, zaX, zaZ ctx a, zaZ ctx b]
 | .sub a b => by simp only [RE.ex, RE.ev, zaX, zaY, zaZ ctx a, zaZ ctx b, CR.sub_def]
 | .mul a b => by simp only [RE.ex, RE.ev, zi6, zaZ ctx a, zaZ ctx b]
 | .neg a => by simp only [RE.ex, RE.ev, zaY, zaZ ctx a]
theorem zi7 (ctx : List α) (s : Bool) (m : List Nat) : ∀ (r r' : RM), zh8 s m r = some r' -> evM ctx r = ev1 ctx s m + evM ctx r'
 | [], _, h => by simp [zh8] at h
 | (t, k) :: r, r', h => by
  unfold zh8 at h;cases hc : (t == s && k == m)
  ·rw [hc] at h;simp only [cond_false] at h
   cases hr : zh8 s m r with
   | none => rw [hr] at h; simp at h
   | some r2 =>
    rw [hr] at h;simp only [Option.some.injEq] at h
    subst h;simp only [evM, zi7 ctx s m r r2 hr, CR.left_comm]
  ·rw [hc] at h;simp only [cond_true, Option.some.injEq] at h
   subst h;simp only [Bool.and_eq_true, beq_iff_eq] at hc
   obtain ⟨rfl, rfl⟩ := hc
   rfl
theorem zdi (ctx : List α) : ∀ n (r : RM), zgK n r = true -> evM ctx r = 0
 | _, [], _ => rfl
 | 0, _ :: _, h => by simp [zgK] at h
 | n + 1, (s, m) :: r, h => by
  unfold zgK at h;cases hr : zh8 (!s) m r with
  | none => rw [hr] at h; simp at h
  | some r' =>
   rw [hr] at h;simp only [evM, zi7 ctx (!s) m r r' hr, zi5, zdi ctx n r' h]
   rw [CR.add_zero, CR.add_neg]

class Rf (ctx : List α) (x : α) (e : outParam RE) : Prop where
 eq : e.ev ctx = x

omit [CR α]
instance (priority := high) rfAdd (ctx : List α) (x y : α) (a b : RE) [h : Rf ctx x a] [k : Rf ctx y b] : Rf ctx (x + y) (.add a b) := ⟨by rw [RE.ev, h.eq, k.eq]⟩
instance (priority := high) rfSub (ctx : List α) (x y : α) (a b : RE) [h : Rf ctx x a] [k : Rf ctx y b] : Rf ctx (x - y) (.sub a b) := ⟨by rw [RE.ev, h.eq, k.eq]⟩
instance (priority := high) rfMul (ctx : List α) (x y : α) (a b : RE) [h : Rf ctx x a] [k : Rf ctx y b] : Rf ctx (x * y) (.mul a b) := ⟨by rw [RE.ev, h.eq, k.eq]⟩
instance (priority := high) rfNeg (ctx : List α) (x : α) (a : RE) [h : Rf ctx x a] : Rf ctx (-x) (.neg a) := ⟨by rw [RE.ev, h.eq]⟩
instance (priority := high) rfZero (ctx : List α) : Rf ctx (0 : α) .zero := ⟨rfl⟩
instance (priority := high) rfOne (ctx : List α) : Rf ctx (1 : α) .one := ⟨rfl⟩
instance (priority := low) rfAt0 (x : α) (l : List α) : Rf (x :: l) x (.at 0) := ⟨rfl⟩
instance (priority := low) rfAt1 (x a : α) (l : List α) : Rf (a :: x :: l) x (.at 1) := ⟨rfl⟩
instance (priority := low) rfAt2 (x a b : α) (l : List α) : Rf (a :: b :: x :: l) x (.at 2) := ⟨rfl⟩
instance (priority := low) rfAt3 (x a b c : α) (l : List α) : Rf (a :: b :: c :: x :: l) x (.at 3) := ⟨rfl⟩
instance (priority := low) rfAt4 (x a b c d : α) (l : List α) : Rf (a :: b :: c :: d :: x :: l) x (.at 4) := ⟨rfl⟩
instance (priority := low) rfAt5 (x a b c d e : α) (l : List α) : Rf (a :: b :: c :: d :: e :: x :: l) x (.at 5) := ⟨rfl⟩
instance (priority := low) rfAt6 (x a b c d e f : α) (l : List α) : Rf (a :: b :: c :: d :: e :: f :: x :: l) x (.at 6) := ⟨rfl⟩
instance (priority := low) rfAt7 (x a b c d e f g : α) (l : List α) : Rf (a :: b :: c :: d :: e :: f :: g :: x :: l) x (.at 7) := ⟨rfl⟩
instance (priority := low) rfAt8 (x a b c d e f g h : α) (l : List α) : Rf (a :: b :: c :: d :: e :: f :: g :: h :: x :: l) x (.at 8) := ⟨rfl⟩

theorem zj [CR α] (ctx : List α) {x y : α} {a b : RE} [h : Rf ctx x a] [k : Rf ctx y b] (hc : RE.chk a b = true) : x = y := by
 have h1 := zdi ctx _ _ hc;rw [zaX, zaY, zaZ, zaZ, h.eq, k.eq, <- CR.sub_def] at h1;exact CR.eq_of_sub h1

theorem comb [CR α] (c : α) {a b x y : α} (h : a = b) (e : x - c * a = y - c * b) : x = y := by
 subst h;rw [CR.sub_def, CR.sub_def, CR.add_comm, CR.add_comm y] at e;exact CR.left_cancel e
end

example {α : Type} [Add α] [Mul α] [Neg α] [Sub α] [OfNat α 0] [OfNat α 1] [CR α] (a b c : α) : (a + b) * (a - b) + c * (1 + 1) = a * a - b * b + c + c := zj [a, b, c] (by rfl)
example {α : Type} [Add α] [Mul α] [Neg α] [Sub α] [OfNat α 0] [OfNat α 1] [CR α] (a b c d : α) (h : a = b * c) : a * d + 0 = c * (b * d) := comb d h (zj [a, b, c, d] (by rfl))

def cf (l : List Int) (i : Nat) : Int := l.getD i 0

theorem yW (i : Nat) : cf [] i = 0 := by simp [cf]
theorem yt (a : Int) (l : List Int) : cf (a :: l) 0 = a := rfl
theorem zA (a : Int) (l : List Int) (i : Nat) : cf (a :: l) (i + 1) = cf l i := by simp [cf]
theorem z1 {l : List Int} {i : Nat} (h : l.length <= i) : cf l i = 0 := by
 simp [cf, List.getD_eq_getElem?_getD, List.getElem?_eq_none h]
theorem v6 {l : List Int} {i : Nat} (h : i < l.length) : cf l i = l[i] := by
 simp [cf, List.getD_eq_getElem?_getD, List.getElem?_eq_getElem h]

def zx : List Int -> List Int
 | [] => []
 | a :: l => match zx l with
  | [] => if a = 0 then [] else [a]
  | b :: r => a :: b :: r

theorem xz (l : List Int) (i : Nat) : cf (zx l) i = cf l i := by
 induction l generalizing i with
 | nil => rfl
 | cons a l ih =>
  unfold zx
  split
  ·rename_i h
   have h0 : ∀ i, cf l i = 0 := λi => by rw [<- ih, h, yW]
   split
   ·rename_i ha
    cases i with
    | zero => rw [yW, yt, ha]
    | succ i => rw [yW, zA, h0]
   ·cases i with
    | zero => rfl
    | succ i => rw [zA, zA, yW, h0]
  ·rename_i b r h
   cases i with
   | zero => rfl
   | succ i => rw [zA, zA, <- ih, h]

theorem zj1 {l : List Int} {x : Int} (h : x ∈ zx l) : x ∈ l := by
 induction l with
 | nil => exact h
 | cons a l ih =>
  unfold zx at h
  split at h
  ·split at h
   ·cases h
   ·simp at h; simp [h]
  ·rename_i b r hb
   rcases List.mem_cons.1 h with h | h
   ·simp [h]
   ·exact List.mem_cons_of_mem _ (ih (hb ▸ h))

theorem vh (l : List Int) : (zx l).length <= l.length := by
 induction l with
 | nil => simp [zx]
 | cons a l ih =>
  unfold zx
  split
  ·split <;> simp
  ·rename_i b r hb
   rw [hb] at ih; simpa using ih

def kw (l : List Int) : Prop := ∀ n, l.length = n + 1 -> cf l n ≠ 0

theorem xf (l : List Int) : kw (zx l) := by
 induction l with
 | nil => intro n h; simp [zx] at h
 | cons a l ih =>
  intro n;unfold zx
  split
  ·split
   ·intro h; simp at h
   ·rename_i ha
    intro h;have : n = 0 := by simpa using h.symm
    subst this; exact ha
  ·rename_i b r hb
   intro h;have hn : n = r.length + 1 := by simpa using h.symm
   subst hn;rw [zA];rw [hb] at ih;exact ih r.length (by simp)

theorem yx {l l' : List Int} (h : kw l) (h' : kw l') (he : ∀ i, cf l i = cf l' i) : l = l' := by
 have hlen : ∀ {l l' : List Int}, kw l -> kw l' -> (∀ i, cf l i = cf l' i) -> l.length <= l'.length := by
  intro l l' h h' he;rcases Nat.lt_or_ge l'.length l.length with hlt | hge
  ·exfalso
   have h1 := h (l.length - 1) (by omega);rw [he, z1 (by omega)] at h1;exact h1 rfl
  ·exact hge
 have hl : l.length = l'.length := Nat.le_antisymm (hlen h h' he) (hlen h' h λi => (he i).symm);refine List.ext_getElem hl λi h1 h2 => ?_;rw [<- v6 h1, <- v6 h2, he]

def cv (f g : Nat -> Int) : Nat -> Int
 | 0 => f 0 * g 0
 | k + 1 => f 0 * g (k + 1) + cv (λi => f (i + 1)) g k

theorem zlb (f g : Nat -> Int) (k : Nat) : cv f g (k + 1) = f (k + 1) * g 0 + cv f (λi => g (i + 1)) k := by
 induction k generalizing f with
 | zero => simp only [cv]; omega
 | succ k ih =>
  rw [cv, ih, cv]; omega

theorem k0 (f g : Nat -> Int) (k : Nat) : cv f g k = cv g f k := by
 induction k generalizing f g with
 | zero => simp only [cv]; exact Int.mul_comm _ _
 | succ k ih => rw [zlb, cv, ih, Int.mul_comm]

theorem zfp (f f' g : Nat -> Int) (k : Nat) : cv (λi => f i + f' i) g k = cv f g k + cv f' g k := by
 induction k generalizing f f' with
 | zero => simp only [cv]; exact Int.add_mul _ _ _
 | succ k ih => simp only [cv, ih, Int.add_mul]; omega

theorem zi8 (a : Int) (f g : Nat -> Int) (k : Nat) : cv (λi => a * f i) g k = a * cv f g k := by
 induction k generalizing f with
 | zero => simp only [cv]; exact Int.mul_assoc _ _ _
 | succ k ih => simp only [cv, ih, Int.mul_add, Int.mul_assoc]

theorem zlc (f g h : Nat -> Int) (k : Nat) : cv (cv f g) h k = cv f (cv g h) k := by
 induction k generalizing f with
 | zero => simp only [cv]; exact Int.mul_assoc _ _ _
 | succ k ih =>
  have e : (λi => cv f g (i + 1)) = λi => f 0 * g (i + 1) + cv (λi => f (i + 1)) g i := rfl;rw [cv, e, zfp, zi8, ih];simp only [cv]
  rw [Int.mul_add, Int.mul_assoc]; omega

theorem ye {f g : Nat -> Int} {k : Nat} (hf : ∀ i, i <= k -> f i = 0) : cv f g k = 0 := by
 induction k generalizing f with
 | zero => simp [cv, hf 0 (Nat.le_refl _)]
 | succ k ih => simp only [cv, hf 0 (Nat.zero_le _), ih (f := λi => f (i + 1)) (λi hi => hf _ (by omega))]; simp

theorem zm7 {f g : Nat -> Int} {n m : Nat} (hf : ∀ i, n <= i -> f i = 0) (hg : ∀ i, m <= i -> g i = 0) {k : Nat} (hk : n + m <= k + 1) : cv f g k = 0 := by
 induction n generalizing f k with
 | zero => exact ye λi _ => hf i (Nat.zero_le _)
 | succ n ih =>
  cases k with
  | zero => simp only [cv, hg 0 (by omega), Int.mul_zero]
  | succ k => simp only [cv, hg (k + 1) (by omega), ih (f := λi => f (i + 1)) (λi hi => hf _ (by omega)) (k := k) (by omega)]; simp

theorem znp {f g : Nat -> Int} {n m : Nat} (hf : ∀ i, n < i -> f i = 0) (hg : ∀ i, m < i -> g i = 0) : cv f g (n + m) = f n * g m := by
 induction n generalizing f with
 | zero =>
  cases m with
  | zero => rfl
  | succ m =>
   rw [show 0 + (m + 1) = m + 1 from by omega, cv, ye (f := λi => f (i + 1)) (λi _ => hf _ (by omega))]; simp
 | succ n ih =>
  rw [show n + 1 + m = n + m + 1 from by omega, cv, hg (n + m + 1) (by omega), ih (f := λi => f (i + 1)) (λi hi => hf _ (by omega))]; simp

theorem zld (g : Nat -> Int) (k : Nat) : cv (cf [1]) g k = g k := by
 cases k with
 | zero => simp [cv, cf]
 | succ k =>
  rw [cv, ye (f := λi => cf [1] (i + 1)) (λi _ => by simp [cf])];simp [cf]

theorem kz (p : Int) (f g : Nat -> Int) (k : Nat) : cv (λi => f i % p) g k % p = cv f g k % p := by
 induction k generalizing f with
 | zero => simp only [cv]; rw [Int.mul_emod, Int.emod_emod_of_dvd _ (Int.dvd_refl p), <- Int.mul_emod]
 | succ k ih =>
  simp only [cv]
  rw [Int.add_emod, ih (λi => f (i + 1)), Int.mul_emod, Int.emod_emod_of_dvd _ (Int.dvd_refl p), <- Int.mul_emod, <- Int.add_emod]

theorem zmH (p a : Int) : (-(a % p)) % p = (-a) % p := by
 rw [show -(a % p) = -1 * (a % p) from by omega, show -a = -1 * a from by omega, Int.mul_emod, Int.emod_emod_of_dvd _ (Int.dvd_refl p), <- Int.mul_emod]

def mkL (n : Nat) (f : Nat -> Int) : List Int := (List.range n).map f
theorem xA (n : Nat) (f : Nat -> Int) (i : Nat) : cf (mkL n f) i = if i < n then f i else 0 := by
 split
 ·rename_i h
  rw [v6 (by simpa [mkL] using h)]; simp [mkL]
 ·rename_i h
  exact z1 (by simpa [mkL] using h)
theorem zT (n : Nat) (f : Nat -> Int) : (mkL n f).length = n := by simp [mkL]

def kC (a b : List Int) : List Int := mkL (max a.length b.length) λi => cf a i + cf b i
def jP (a b : List Int) : List Int := mkL (a.length + b.length - 1) (cv (cf a) (cf b))
def kD (c : Int) (a : List Int) : List Int := a.map (c * ·)

theorem v7 (a b : List Int) (i : Nat) : cf (kC a b) i = cf a i + cf b i := by
 rw [kC, xA]
 split
 ·rfl
 ·rename_i h
  rw [z1 (by omega), z1 (by omega)]; rfl
theorem zcx (a b : List Int) (i : Nat) : cf (jP a b) i = cv (cf a) (cf b) i := by
 rw [jP, xA]
 split
 ·rfl
 ·rename_i h
  exact (zm7 (n := a.length) (m := b.length) (λi hi => z1 hi) (λi hi => z1 hi) (by omega)).symm
theorem zdj (c : Int) (a : List Int) (i : Nat) : cf (kD c a) i = c * cf a i := by
 by_cases h : i < a.length
 ·rw [v6 (by simpa [kD] using h), v6 h]; simp [kD]
 ·rw [z1 (by simpa [kD] using h), z1 (by omega)]; simp
theorem zj2 (p : Int) (a : List Int) (i : Nat) : cf (a.map (· % p)) i = cf a i % p := by
 by_cases h : i < a.length
 ·rw [v6 (by simpa using h), v6 h]; simp
 ·rw [z1 (by simpa using h), z1 (by omega)]; simp

def nrm (p : Int) (a : List Int) : List Int := zx (a.map (· % p))
theorem zbF (p : Int) (a : List Int) (i : Nat) : cf (nrm p a) i = cf a i % p := by rw [nrm, xz, zj2]
theorem jB (p : Int) (a : List Int) : kw (nrm p a) := xf _

class Pos (p : Int) : Prop where
 pos : 0 < p

def Nrm (p : Int) (l : List Int) : Prop := (∀ x ∈ l, 0 <= x ∧ x < p) ∧ kw l

theorem znq {p : Int} [h : Pos p] (a : List Int) : Nrm p (nrm p a) := by
 refine ⟨λx hx => ?_, jB p a⟩;have := zj1 hx;rw [List.mem_map] at this;obtain ⟨y, _, rfl⟩ := this;exact ⟨Int.emod_nonneg _ (by have := h.pos; omega), Int.emod_lt_of_pos _ h.pos⟩

theorem Nrm.cf_mod {p : Int} {l : List Int} (h : Nrm p l) (i : Nat) : cf l i % p = cf l i := by
 by_cases hi : i < l.length
 ·rw [v6 hi];have := h.1 _ (List.getElem_mem hi);exact Int.emod_eq_of_lt this.1 this.2
 ·rw [z1 (by omega)]; simp
theorem zle {p : Int} {l : List Int} (h : Nrm p l) : nrm p l = l := yx (jB _ _) h.2 λi => by rw [zbF, h.cf_mod]

structure Poly (p : Int) where
 l : List Int
 ok : Nrm p l

namespace Poly
variable {p : Int}

theorem zlf {f g : Poly p} (h : f.l = g.l) : f = g := by
 cases f; cases g; cases h; rfl
theorem zM {f g : Poly p} (h : ∀ i, cf f.l i = cf g.l i) : f = g := zlf (yx f.ok.2 g.ok.2 h)

instance : DecidableEq (Poly p) := λf g => if h : f.l = g.l then isTrue (zlf h) else isFalse λe => h (e ▸ rfl)

variable [Pos p]
def of (p : Int) [Pos p] (a : List Int) : Poly p := ⟨nrm p a, znq a⟩
theorem ym (a : List Int) (i : Nat) : cf (of p a).l i = cf a i % p := zbF p a i
theorem of_l (f : Poly p) : of p f.l = f := zlf (zle f.ok)
theorem zm8 {a b : List Int} (h : ∀ i, cf a i % p = cf b i % p) : of p a = of p b := zM λi => by rw [ym, ym, h]
instance : Add (Poly p) := ⟨λf g => of p (kC f.l g.l)⟩
instance : Mul (Poly p) := ⟨λf g => of p (jP f.l g.l)⟩
instance : Neg (Poly p) := ⟨λf => of p (kD (-1) f.l)⟩
instance : Sub (Poly p) := ⟨λf g => of p (kC f.l (kD (-1) g.l))⟩
instance : NatCast (Poly p) := ⟨λn => of p [(n : Int)]⟩
instance : IntCast (Poly p) := ⟨λn => of p [n]⟩
instance (n : Nat) : OfNat (Poly p) n := ⟨of p [(n : Int)]⟩
instance : SMul Nat (Poly p) := ⟨λn f => of p [(n : Int)] * f⟩
instance : SMul Int (Poly p) := ⟨λn f => of p [n] * f⟩
def npow (f : Poly p) : Nat -> Poly p
 | 0 => 1
 | n + 1 => npow f n * f
instance : HPow (Poly p) Nat (Poly p) := ⟨npow⟩

theorem yJ (f g : Poly p) (i : Nat) : cf (f + g).l i = (cf f.l i + cf g.l i) % p := by
 show cf (of p _).l i = _
 rw [ym, v7]
theorem xg (f g : Poly p) (i : Nat) : cf (f * g).l i = cv (cf f.l) (cf g.l) i % p := by
 show cf (of p _).l i = _
 rw [ym, zcx]
theorem zlg (f : Poly p) (i : Nat) : cf (-f).l i = (-cf f.l i) % p := by
 show cf (of p _).l i = _
 rw [ym, zdj]; congr 1; omega
theorem zax (f g : Poly p) (i : Nat) : cf (f - g).l i = (cf f.l i - cf g.l i) % p := by
 show cf (of p _).l i = _
 rw [ym, v7, zdj]; congr 1; omega
theorem zfq : (0 : Poly p).l = [] := by
 refine yx (0 : Poly p).ok.2 (λn h => by simp at h) λi => ?_;show cf (of p [((0 : Nat) : Int)]).l i = _
 rw [ym, yW];cases i with
 | zero => simp [cf]
 | succ i => rw [zA, yW]; simp
theorem y8 (i : Nat) : cf (0 : Poly p).l i = 0 := by rw [zfq, yW]
theorem zh9 (i : Nat) : cf (1 : Poly p).l i = cf [1] i % p := ym _ _

theorem znr (a b : List Int) : of p (kC a b) = of p a + of p b := zM λi => by
 rw [ym, v7, yJ, ym, ym]; exact Int.add_emod _ _ _
theorem jh {p : Int} (f : Poly p) (i : Nat) : cf f.l i % p = cf f.l i := f.ok.cf_mod i

theorem zeN (f g : Poly p) : f + g = g + f := zM λi => by rw [yJ, yJ, Int.add_comm]
theorem zj3 (f : Poly p) : f + 0 = f := zM λi => by rw [yJ, y8, Int.add_zero, jh]
theorem zia (f g h : Poly p) : f + g + h = f + (g + h) := zM λi => by
 rw [yJ, yJ, yJ, yJ, Int.emod_add_emod, Int.add_emod_emod, Int.add_assoc]
theorem vr (f g : Poly p) : f * g = g * f := zM λi => by rw [xg, xg, k0]
theorem zay (f g : Poly p) : cf (f * g).l = λi => cv (cf f.l) (cf g.l) i % p := funext λi => xg f g i
theorem zib (f g h : Poly p) : f * g * h = f * (g * h) := zM λi => by
 rw [xg, zay, kz, xg, zay, k0 (cf f.l), kz, zlc, k0 (cf f.l)]
theorem zlh (f : Poly p) : 1 * f = f := zM λi => by
 have e : cf (1 : Poly p).l = λi => cf [1] i % p := funext zh9;rw [xg, e, kz, zld, jh]
theorem zic (f g : Poly p) : cf (f + g).l = λi => (cf f.l i + cf g.l i) % p := funext λi => yJ f g i
theorem zli (f g h : Poly p) : (f + g) * h = f * h + g * h := zM λi => by
 rw [xg, zic, kz, zfp, yJ, xg, xg, <- Int.add_emod]
theorem zcn (f : Poly p) : -f + f = 0 := zM λi => by
 rw [yJ, zlg, y8, Int.emod_add_emod]; simp [Int.add_left_neg]
theorem zmI (f g : Poly p) : f - g = f + -g := zM λi => by
 rw [zax, yJ, zlg, Int.add_emod_emod, Int.sub_eq_add_neg]
theorem zlj (a b : Int) : of p [a + b] = of p [a] + of p [b] := by
 rw [<- znr]; exact zm8 λi => by rw [v7]; cases i <;> simp [cf]

theorem zlk (f : Poly p) : f + -f = 0 := by rw [zeN, zcn]
instance : CR (Poly p) where
 add_comm := zeN
 add_assoc := zia
 add_zero := zj3
 add_neg := zlk
 sub_def := zmI
 mul_comm := vr
 mul_assoc := zib
 one_mul := zlh
 add_mul := zli
theorem zh (b : Poly p) (n : Nat) : b ^ (n + 1) = b ^ n * b := rfl
theorem zq (b : Poly p) : b ^ 0 = 1 := rfl

example (f g h : Poly p) : (f + g) * (f - g) + h * (1 + 1) = f * f - g * g + h + h := zj [f, g, h] (by rfl)

end Poly

class Pr (p : Int) : Prop extends Pos p where
 two : 2 <= p
 inv : ∀ a : Int, a % p ≠ 0 -> ∃ b : Int, a * b % p = 1

theorem Pr.mul_ne {p : Int} [h : Pr p] {a b : Int} (ha : a % p ≠ 0) (hb : b % p ≠ 0) : a * b % p ≠ 0 := by
 intro he;obtain ⟨c, hc⟩ := h.inv a ha;have h1 : a * c * b % p = b % p := by rw [Int.mul_emod, hc, Int.one_mul, Int.emod_emod_of_dvd _ (Int.dvd_refl p)]
 have h2 : a * c * b % p = 0 := by
  rw [show a * c * b = c * (a * b) from by rw [Int.mul_comm a c, Int.mul_assoc], Int.mul_emod, he, Int.mul_zero, Int.zero_emod]
 exact hb (h1.symm.trans h2)

namespace Poly
variable {p : Int}

def dg (f : Poly p) : Nat := f.l.length

theorem yj {f : Poly p} {i : Nat} (h : dg f <= i) : cf f.l i = 0 := z1 h
theorem yO {f : Poly p} {n : Nat} (h : dg f = n + 1) : cf f.l n ≠ 0 := f.ok.2 n h
theorem zad {f : Poly p} {n : Nat} (h : ∀ i, n <= i -> cf f.l i = 0) : dg f <= n := by
 rcases Nat.lt_or_ge n (dg f) with hlt | hge
 ·exfalso
  exact yO (f := f) (n := dg f - 1) (by omega) (h _ (by omega))
 ·exact hge
theorem zm9 {f : Poly p} {n : Nat} (h : cf f.l n ≠ 0) : n < dg f := by
 rcases Nat.lt_or_ge n (dg f) with hlt | hge
 ·exact hlt
 ·exact absurd (yj hge) h

theorem za0 [Pos p] (a : List Int) : dg (of p a) <= a.length := zad λi hi => by rw [ym, z1 hi]; simp

theorem zd [Pos p] {f : Poly p} : dg f = 0 ↔ f = 0 := by
 constructor
 ·intro h;refine zM λi => ?_;rw [y8, yj (by omega)]
 ·rintro rfl;show (0 : Poly p).l.length = 0
  rw [zfq]; rfl

theorem zt [Pos p] : dg (0 : Poly p) = 0 := zd.2 rfl

theorem zll [Pos p] (f g : Poly p) : dg (f + g) <= max (dg f) (dg g) := zad λi hi => by
 rw [yJ, yj (by omega), yj (by omega)]; simp
theorem zdk [Pos p] (f g : Poly p) : dg (f - g) <= max (dg f) (dg g) := zad λi hi => by
 rw [zax, yj (by omega), yj (by omega)]; simp
theorem k6 [Pos p] (f g : Poly p) : dg (f * g) <= dg f + dg g - 1 := zad λi hi => by
 rw [xg, zm7 (n := dg f) (m := dg g) (λi hi => yj hi) (λi hi => yj hi) (by omega)]; simp

theorem ya {f : Poly p} {i : Nat} (h : cf f.l i ≠ 0) : cf f.l i % p ≠ 0 := by rw [f.ok.cf_mod]; exact h

section
variable [Pr p]

theorem zgM {f g : Poly p} {n m : Nat} (hf : dg f = n + 1) (hg : dg g = m + 1) : cf (f * g).l (n + m) = cf f.l n * cf g.l m % p := by
 rw [xg, znp (λi hi => yj (by omega)) (λi hi => yj (by omega))]

theorem yA {f g : Poly p} (hf : f ≠ 0) (hg : g ≠ 0) : dg (f * g) + 1 = dg f + dg g := by
 have h1 : dg f ≠ 0 := λh => hf (zd.1 h);have h2 : dg g ≠ 0 := λh => hg (zd.1 h);obtain ⟨n, hn⟩ := Nat.exists_eq_succ_of_ne_zero h1;obtain ⟨m, hm⟩ := Nat.exists_eq_succ_of_ne_zero h2
 have h3 : cf (f * g).l (n + m) ≠ 0 := by
  rw [zgM hn hm];exact Pr.mul_ne (ya (yO hn)) (ya (yO hm))
 have h4 := zm9 h3;have h5 := k6 f g;omega

theorem mul_ne {f g : Poly p} (hf : f ≠ 0) (hg : g ≠ 0) : f * g ≠ 0 := by
 intro h;have h1 := yA hf hg;have h2 : dg f ≠ 0 := λh => hf (zd.1 h);have h3 : dg g ≠ 0 := λh => hg (zd.1 h);rw [h, zt] at h1;omega
theorem mul_eq_zero {f g : Poly p} (h : f * g = 0) : f = 0 ∨ g = 0 := by
 by_cases hf : f = 0
 ·exact .inl hf
 ·by_cases hg : g = 0
  ·exact .inr hg
  ·exact absurd h (mul_ne hf hg)
theorem zaz {f g h : Poly p} (hf : f ≠ 0) (he : f * g = f * h) : g = h := by
 have : f * (g - h) = 0 := by exact comb (1) he (zj [f, g, h] (by rfl))
 rcases mul_eq_zero this with h1 | h1
 ·exact absurd h1 hf
 ·exact comb (1) h1 (zj [g, h] (by rfl))

theorem zfr : (1 : Poly p) ≠ 0 := by
 intro h;have h1 := zh9 (p := p) 0;rw [h, y8, yt, Int.emod_eq_of_lt (by omega) (by have := Pr.two (p := p); omega)] at h1;cases h1
theorem xh : dg (1 : Poly p) = 1 := by
 have h1 : dg (1 : Poly p) <= 1 := za0 [((1 : Nat) : Int)];have h2 : dg (1 : Poly p) ≠ 0 := λh => zfr (zd.1 h);omega
end

def mono (p : Int) [Pos p] (c : Int) (k : Nat) : Poly p := of p (List.replicate k 0 ++ [c])
theorem zlm (c : Int) (k i : Nat) : cf (List.replicate k 0 ++ [c]) i = if i = k then c else 0 := by
 induction k generalizing i with
 | zero => cases i with
  | zero => rfl
  | succ i => simp [cf]
 | succ k ih =>
  cases i with
  | zero => simp [cf, List.replicate_succ]
  | succ i =>
   rw [List.replicate_succ, List.cons_append, zA, ih];simp
theorem cv_mono (c : Int) (k : Nat) (g : Nat -> Int) (i : Nat) : cv (λj => if j = k then c else 0) g i = if k <= i then c * g (i - k) else 0 := by
 induction k generalizing i with
 | zero =>
  cases i with
  | zero => simp [cv]
  | succ i =>
   rw [cv, ye (f := λj => if j + 1 = 0 then c else 0) (λi _ => by simp)];simp
 | succ k ih =>
  cases i with
  | zero => simp [cv]
  | succ i =>
   rw [cv];have : (λj => if j + 1 = k + 1 then c else 0) = λj => if j = k then c else 0 := by funext j; simp
   rw [this, ih];simp
theorem jQ [Pos p] (c : Int) (k i : Nat) : cf (mono p c k).l i = if i = k then c % p else 0 := by
 rw [mono, ym, zlm]; split <;> simp
theorem v8 [Pos p] (c : Int) (k : Nat) (g : Poly p) (i : Nat) : cf (mono p c k * g).l i = if k <= i then c * cf g.l (i - k) % p else 0 := by
 have e : cf (mono p c k).l = λi => (if i = k then c else 0) % p := funext λi => by rw [jQ]; split <;> simp
 rw [xg, e, kz, cv_mono]; split <;> simp

section
variable [Pr p]

theorem jR (g : Poly p) (hg : g ≠ 0) : ∀ (n : Nat) (f : Poly p), dg f <= n -> ∃ q r : Poly p, f = q * g + r ∧ dg r < dg g := by
 have hg0 : dg g ≠ 0 := λh => hg (zd.1 h);intro n
 induction n with
 | zero =>
  intro f hf;exact ⟨0, f, by exact zj [f, g] (by rfl), by omega⟩
 | succ n ih =>
  intro f hf
  by_cases hlt : dg f < dg g
  ·exact ⟨0, f, by exact zj [f, g] (by rfl), hlt⟩
  ·by_cases hle : dg f <= n
   ·exact ih f hle
   ·obtain ⟨m, hm⟩ := Nat.exists_eq_succ_of_ne_zero hg0;obtain ⟨b, hb⟩ := Pr.inv (p := p) _ (ya (yO hm))
    obtain ⟨q, r, h1, h2⟩ := ih (f - mono p (cf f.l n * b) (n - m) * g) (by
     refine zad λi hi => ?_;rw [zax, v8, if_pos (by omega)];rcases Nat.eq_or_lt_of_le hi with rfl | hlt'
     ·rw [show n - (n - m) = m by omega];rw [Int.sub_emod, Int.emod_emod_of_dvd _ (Int.dvd_refl p), <- Int.sub_emod]
      have : cf f.l n - cf f.l n * b * cf g.l m = cf f.l n * (1 - cf g.l m * b) := by
       rw [Int.mul_sub, Int.mul_one, Int.mul_assoc, Int.mul_comm b]
      rw [this, Int.mul_emod, Int.sub_emod, hb];have h1 : (1 : Int) % p = 1 := Int.emod_eq_of_lt (by omega) (by have := Pr.two (p := p); omega);rw [h1]; simp
     ·rw [yj (f := f) (by omega), yj (f := g) (by omega)]; simp)
    exact ⟨q + mono p (cf f.l n * b) (n - m), r, by exact comb (1) h1 (zj [f, q, mono p (cf f.l n * b) (n - m), g, r] (by rfl)), h2⟩

theorem zid {f g q r q' r' : Poly p} (h : f = q * g + r) (hr : dg r < dg g) (h' : f = q' * g + r') (hr' : dg r' < dg g) : q = q' ∧ r = r' := by
 have h1 : (q - q') * g = r' - r := by exact comb (1) h' (comb (-1) h (zj [f, q, g, r, q', r'] (by rfl)))
 by_cases hq : q - q' = 0
 ·refine ⟨by exact comb (1) hq (zj [q, q'] (by rfl)), ?_⟩;rw [hq] at h1;exact comb (1) h1 (zj [r, r', g] (by rfl))
 ·exfalso
  have hg : g ≠ 0 := λh => by rw [h, zt] at hr; omega
  have h2 := yA hq hg;rw [h1] at h2;have h3 := zdk r' r;have h4 : dg (q - q') ≠ 0 := λh => hq (zd.1 h);omega

open Classical in
noncomputable def zmJ (f g : Poly p) : Poly p × Poly p := if hg : g = 0 then (0, f) else ⟨(jR g hg _ f (Nat.le_refl _)).choose, (jR g hg _ f (Nat.le_refl _)).choose_spec.choose⟩
noncomputable def quo (f g : Poly p) : Poly p := (zmJ f g).1
noncomputable def rem (f g : Poly p) : Poly p := (zmJ f g).2

theorem ji (f g : Poly p) : f = quo f g * g + rem f g := by
 unfold quo rem zmJ
 split
 ·show f = 0 * g + f; exact zj [f, g] (by rfl)
 ·rename_i hg
  exact (jR g hg _ f (Nat.le_refl _)).choose_spec.choose_spec.1
theorem yB (f : Poly p) {g : Poly p} (hg : g ≠ 0) : dg (rem f g) < dg g := by
 unfold rem zmJ;rw [dif_neg hg];exact (jR g hg _ f (Nat.le_refl _)).choose_spec.choose_spec.2
theorem zfs {f g q r : Poly p} (h : f = q * g + r) (hr : dg r < dg g) : quo f g = q ∧ rem f g = r := by
 have hg : g ≠ 0 := λh => by rw [h, zt] at hr; omega
 exact zid (ji f g) (yB f hg) h hr

def Dvd' (g f : Poly p) : Prop := ∃ q, f = g * q
instance : Dvd (Poly p) := ⟨Dvd'⟩
theorem dvd_refl (f : Poly p) : f ∣ f := ⟨1, by exact zj [f] (by rfl)⟩
theorem dvd_zero (f : Poly p) : f ∣ 0 := ⟨0, by exact zj [f] (by rfl)⟩
theorem zcy (f : Poly p) : 1 ∣ f := ⟨f, by exact zj [f] (by rfl)⟩
theorem zp {f g h : Poly p} (h1 : f ∣ g) (h2 : g ∣ h) : f ∣ h := by
 obtain ⟨a, rfl⟩ := h1;obtain ⟨b, rfl⟩ := h2;exact ⟨a * b, by exact zj [f, a, b] (by rfl)⟩
theorem z4 {f g : Poly p} (h : Poly p) (h1 : f ∣ g) : f ∣ h * g := by
 obtain ⟨a, rfl⟩ := h1;exact ⟨h * a, by exact zj [f, a, h] (by rfl)⟩
theorem xS {f g : Poly p} (h : Poly p) (h1 : f ∣ g) : f ∣ g * h := by
 obtain ⟨a, rfl⟩ := h1;exact ⟨a * h, by exact zj [f, a, h] (by rfl)⟩
theorem dvd_add {f g h : Poly p} (h1 : f ∣ g) (h2 : f ∣ h) : f ∣ g + h := by
 obtain ⟨a, rfl⟩ := h1;obtain ⟨b, rfl⟩ := h2;exact ⟨a + b, by exact zj [f, a, b] (by rfl)⟩
theorem dvd_sub {f g h : Poly p} (h1 : f ∣ g) (h2 : f ∣ h) : f ∣ g - h := by
 obtain ⟨a, rfl⟩ := h1;obtain ⟨b, rfl⟩ := h2;exact ⟨a - b, by exact zj [f, a, b] (by rfl)⟩
theorem kE {g f : Poly p} (hg : g ≠ 0) : g ∣ f ↔ rem f g = 0 := by
 constructor
 ·rintro ⟨q, rfl⟩;exact (zfs (q := q) (r := 0) (by exact zj [g, q] (by rfl)) (by rw [zt]; have : dg g ≠ 0 := λh => hg (zd.1 h); omega)).2
 ·intro h;have := ji f g;rw [h] at this;exact ⟨quo f g, by exact comb (1) this (zj [f, g, quo f g] (by rfl))⟩
theorem zD {g f : Poly p} (h : g ∣ f) (hf : f ≠ 0) : dg g <= dg f := by
 obtain ⟨q, rfl⟩ := h;have hg : g ≠ 0 := λh => hf (by rw [h]; exact zj [q] (by rfl));have hq : q ≠ 0 := λh => hf (by rw [h]; exact zj [g] (by rfl));have h1 := yA hg hq;have : dg q ≠ 0 := λh => hq (zd.1 h);omega
theorem zdl {g f : Poly p} (h : g ∣ f) (hf : f ≠ 0) : g ≠ 0 := by
 rintro rfl;obtain ⟨q, rfl⟩ := h;exact hf (by exact zj [q] (by rfl))
end

end Poly
namespace Poly
variable {p : Int} [Pr p]

def con (p : Int) [Pos p] (c : Int) : Poly p := of p [c]
theorem xi (c : Int) (i : Nat) : cf (con p c).l i = if i = 0 then c % p else 0 := by
 rw [con, ym]; cases i <;> simp [cf]
theorem zdm (c : Int) (f : Poly p) (i : Nat) : cf (con p c * f).l i = c * cf f.l i % p := by
 have e : cf (con p c).l = λi => c * cf [1] i % p := funext λi => by rw [xi]; cases i <;> simp [cf]
 rw [xg, e, kz, zi8, zld]
theorem zft (a b : Int) : con p a * con p b = con p (a * b) := zM λi => by
 rw [zdm, xi, xi]; split <;> simp [Int.mul_emod]
theorem zfu (a b : Int) : con p a + con p b = con p (a + b) := (zlj a b).symm
theorem zcz (a b : Int) : con p a - con p b = con p (a - b) := zM λi => by
 rw [zax, xi, xi, xi]; split
 ·exact (Int.sub_emod _ _ _).symm
 ·simp
theorem zcA (a : Int) : con p (a % p) = con p a := zM λi => by rw [xi, xi]; simp
theorem y4 : con p 0 = 0 := zM λi => by rw [xi, y8]; simp
theorem jS : con p 1 = 1 := rfl
theorem xm {a : Int} : con p a = 0 ↔ a % p = 0 := by
 constructor
 ·intro h;have := xi (p := p) a 0;rw [h, y8] at this
  simpa using this.symm
 ·intro h;rw [<- zcA, h, y4]
theorem jk (a : Int) : dg (con p a) <= 1 := za0 [a]
theorem zfv {a : Int} (h : a % p ≠ 0) : dg (con p a) = 1 := by
 have h1 := jk (p := p) a;have h2 : dg (con p a) ≠ 0 := λh' => h (xm.1 (zd.1 h'));omega
theorem zfw {f : Poly p} (h : dg f <= 1) : f = con p (cf f.l 0) := zM λi => by
 rw [xi];cases i with
 | zero => simp [jh]
 | succ i => rw [yj (by omega)]; simp

theorem jC {u : Poly p} (h : dg u = 1) : ∃ v, u * v = 1 := by
 have h0 := yO (f := u) (n := 0) h;obtain ⟨b, hb⟩ := Pr.inv (p := p) _ (ya h0);refine ⟨con p b, ?_⟩;rw [zfw (f := u) (by omega), zft, <- zcA, hb]; rfl
theorem zgN {u : Poly p} (h : dg u = 1) (f : Poly p) : u ∣ f := by
 obtain ⟨v, hv⟩ := jC h;exact ⟨v * f, by exact comb (-f) hv (zj [f, u, v] (by rfl))⟩
theorem zdn {u f : Poly p} (h : dg u = 1) (hf : f ∣ u) : dg f = 1 := by
 have hu : u ≠ 0 := λe => by rw [e, zt] at h; cases h
 have h1 := zD hf hu;have h2 : dg f ≠ 0 := λe => zdl hf hu (zd.1 e);omega

def lc (f : Poly p) : Int := cf f.l (dg f - 1)
def Mon (f : Poly p) : Prop := f ≠ 0 ∧ lc f = 1
theorem zna {f : Poly p} (h : f ≠ 0) : lc f ≠ 0 := by
 have : dg f ≠ 0 := λe => h (zd.1 e);exact yO (n := dg f - 1) (by omega)
theorem zdo {f g : Poly p} (hf : f ≠ 0) (hg : g ≠ 0) : lc (f * g) = lc f * lc g % p := by
 have h1 : dg f ≠ 0 := λe => hf (zd.1 e);have h2 : dg g ≠ 0 := λe => hg (zd.1 e);have h3 := yA hf hg;have := zgM (f := f) (g := g) (n := dg f - 1) (m := dg g - 1) (by omega) (by omega);unfold lc;rw [show dg (f * g) - 1 = dg f - 1 + (dg g - 1) by omega, this]
theorem zi9 : (1 : Int) % p = 1 := Int.emod_eq_of_lt (by omega) (by have := Pr.two (p := p); omega)
theorem Mon.mul {f g : Poly p} (hf : Mon f) (hg : Mon g) : Mon (f * g) :=
 ⟨mul_ne hf.1 hg.1, by rw [zdo hf.1 hg.1, hf.2, hg.2]; exact zi9⟩
theorem zfx : Mon (1 : Poly p) := ⟨zfr, by
 unfold lc;rw [xh, zh9];exact zi9⟩
theorem Mon.right {f g : Poly p} (hf : Mon f) (h : Mon (f * g)) : Mon g := by
 have hg : g ≠ 0 := λe => h.1 (by rw [e]; exact zj [f] (by rfl));refine ⟨hg, ?_⟩;have := zdo hf.1 hg;rw [h.2, hf.2, Int.one_mul] at this;rw [this]; exact (jh g _).symm
theorem zln {c : Int} (h : c % p ≠ 0) : lc (con p c) = c % p := by
 unfold lc;rw [zfv h, xi]; rfl
theorem zdp {c : Int} (h : c % p ≠ 0) : con p c ≠ 0 := λe => h (xm.1 e)
theorem jT {f : Poly p} (hf : f ≠ 0) : ∃ c : Int, c % p ≠ 0 ∧ Mon (con p c * f) := by
 obtain ⟨b, hb⟩ := Pr.inv (p := p) (lc f) (ya (zna hf))
 have hb' : b % p ≠ 0 := by
  intro h;rw [Int.mul_emod, h, Int.mul_zero, Int.zero_emod] at hb; cases hb
 refine ⟨b, hb', mul_ne (zdp hb') hf, ?_⟩;rw [zdo (zdp hb') hf, zln hb', Int.mul_comm, Int.mul_emod, Int.emod_emod_of_dvd _ (Int.dvd_refl p), <- Int.mul_emod, hb]

theorem zie {f g : Poly p} (hf : Mon f) (hg : Mon g) (h1 : f ∣ g) (h2 : g ∣ f) : f = g := by
 obtain ⟨q, rfl⟩ := h1;have h3 := zD h2 hf.1;have hq : q ≠ 0 := λe => hg.1 (by rw [e]; exact zj [f] (by rfl));have h4 := yA hf.1 hq;have h5 : dg q ≠ 0 := λe => hq (zd.1 e);have h6 : q = con p (cf q.l 0) := zfw (by omega);have h7 := hf.right hg
 have h8 : cf q.l 0 = 1 := by
  have := h7.2;unfold lc at this
  rwa [show dg q - 1 = 0 by omega] at this
 rw [h6, h8, jS]; exact zj [f] (by rfl)

open Classical in
noncomputable def mnc (f : Poly p) : Poly p := if h : f = 0 then 0 else con p (jT h).choose * f
theorem zgO : mnc (0 : Poly p) = 0 := by simp [mnc]
theorem v9 {f : Poly p} (h : f ≠ 0) : Mon (mnc f) := by
 unfold mnc; rw [dif_neg h]; exact (jT h).choose_spec.2
theorem z2 (f : Poly p) : mnc f ∣ f ∧ f ∣ mnc f := by
 unfold mnc
 split
 ·rename_i h; rw [h]; exact ⟨dvd_refl _, dvd_refl _⟩
 ·rename_i h
  obtain ⟨v, hv⟩ := jC (zfv (jT h).choose_spec.1);generalize (jT h).choose = c at hv;exact ⟨⟨v, by exact comb (-f) hv (zj [f, con p c, v] (by rfl))⟩, ⟨con p c, by exact zj [f, con p c] (by rfl)⟩⟩
theorem zns {f : Poly p} {c : Int} (h : Mon (con p c * f)) : mnc f = con p c * f := by
 have hf : f ≠ 0 := λe => h.1 (by rw [e]; exact zj [con p c] (by rfl));have hc : c % p ≠ 0 := λe => h.1 (by rw [xm.2 e]; exact zj [f] (by rfl));obtain ⟨v, hv⟩ := jC (zfv hc);refine zie (v9 hf) h (z4 _ (z2 f).1) ?_;exact zp ⟨v, by exact comb (-f) hv (zj [f, con p c, v] (by rfl))⟩ (z2 f).2

noncomputable def gcd (f g : Poly p) : Poly p :=
 if h : dg g = 0 then mnc f else have : dg (rem f g) < dg g := yB f λe => h (zd.2 e); gcd g (rem f g)
termination_by dg g

theorem zdq (f : Poly p) : gcd f 0 = mnc f := by rw [gcd, dif_pos zt]
theorem zif (f : Poly p) {g : Poly p} (h : g ≠ 0) : gcd f g = gcd g (rem f g) := by rw [gcd, dif_neg λe => h (zd.1 e)]

theorem za1 : ∀ (n : Nat) (f g : Poly p), dg g <= n -> (gcd f g ∣ f ∧ gcd f g ∣ g) ∧ (∃ a b, gcd f g = a * f + b * g) ∧ (f ≠ 0 ∨ g ≠ 0 -> Mon (gcd f g)) := by
 intro n
 induction n with
 | zero =>
  intro f g h;obtain rfl := zd.1 (by omega : dg g = 0);rw [zdq];obtain ⟨h1, c, hc⟩ := z2 f;refine ⟨⟨h1, dvd_zero _⟩, ⟨c, 0, by rw [hc]; exact zj [f, c] (by rfl)⟩, λh => v9 (h.resolve_right λh => h rfl)⟩
 | succ n ih =>
  intro f g h
  by_cases hg : g = 0
  ·subst hg;exact ih f 0 (by rw [zt]; omega)
  ·rw [zif f hg];have h0 := yB f hg;obtain ⟨⟨h1, h2⟩, ⟨a, b, h3⟩, h4⟩ := ih g (rem f g) (by omega);have h5 := ji f g;refine ⟨⟨?_, h1⟩, ⟨b, a - b * quo f g, ?_⟩, λ_ => h4 (.inl hg)⟩
   ·have := dvd_add (z4 (quo f g) h1) h2
    rwa [<- h5] at this
   ·rw [h3]; exact comb (-b) h5 (zj [a, b, f, g, rem f g, quo f g] (by rfl))

theorem xB (f g : Poly p) : gcd f g ∣ f := (za1 _ f g (Nat.le_refl _)).1.1
theorem xn (f g : Poly p) : gcd f g ∣ g := (za1 _ f g (Nat.le_refl _)).1.2
theorem zgP (f g : Poly p) : ∃ a b, gcd f g = a * f + b * g := (za1 _ f g (Nat.le_refl _)).2.1
theorem za2 {f g : Poly p} (h : f ≠ 0 ∨ g ≠ 0) : Mon (gcd f g) := (za1 _ f g (Nat.le_refl _)).2.2 h
theorem zja {h f g : Poly p} (h1 : h ∣ f) (h2 : h ∣ g) : h ∣ gcd f g := by
 obtain ⟨a, b, he⟩ := zgP f g;rw [he];exact dvd_add (z4 _ h1) (z4 _ h2)

def Cop (f g : Poly p) : Prop := ∃ a b, a * f + b * g = 1
theorem Cop.symm {f g : Poly p} (h : Cop f g) : Cop g f := by
 obtain ⟨a, b, h⟩ := h;exact ⟨b, a, by exact comb (1) h (zj [a, b, f, g] (by rfl))⟩
theorem zdr {f g : Poly p} (h : dg (gcd f g) = 1) : Cop f g := by
 obtain ⟨a, b, he⟩ := zgP f g;obtain ⟨v, hv⟩ := jC h;exact ⟨v * a, v * b, by exact comb (1) hv (comb (-v) he (zj [v, a, b, f, g, gcd f g] (by rfl)))⟩
theorem Cop.mul {f g h : Poly p} (h1 : Cop f h) (h2 : Cop g h) : Cop (f * g) h := by
 obtain ⟨a, b, h1⟩ := h1;obtain ⟨c, d, h2⟩ := h2;exact ⟨a * c, a * f * d + b * c * g + b * d * h, by exact comb (c*g+d*h) h1 (comb (1) h2 (zj [a, b, c, d, f, g, h] (by rfl)))⟩
theorem Cop.dvd {f g h : Poly p} (h1 : Cop f g) (h2 : f ∣ g * h) : f ∣ h := by
 obtain ⟨a, b, h1⟩ := h1;obtain ⟨q, h2⟩ := h2;exact ⟨a * h + b * q, by exact comb (-h) h1 (comb (b) h2 (zj [a, b, f, g, h, q] (by rfl)))⟩
theorem Cop.mul_dvd {f g h : Poly p} (h1 : Cop f g) (h2 : f ∣ h) (h3 : g ∣ h) : f * g ∣ h := by
 obtain ⟨a, b, h1⟩ := h1;obtain ⟨q, h2⟩ := h2;obtain ⟨r, h3⟩ := h3;exact ⟨a * r + b * q, by exact comb (-h) h1 (comb (b*g) h2 (comb (a*f) h3 (zj [a, b, f, g, h, q, r] (by rfl))))⟩
theorem zfy (f : Poly p) : Cop 1 f := ⟨1, 0, by exact zj [f] (by rfl)⟩
theorem Cop.pow {f g : Poly p} (h : Cop f g) (n : Nat) : Cop (f ^ n) g := by
 induction n with
 | zero => have : f ^ 0 = 1 := by exact zq f
           rw [this]; exact zfy g
 | succ n ih => have : f ^ (n + 1) = f ^ n * f := by exact zh f n
                rw [this]; exact ih.mul h

def Irr (h : Poly p) : Prop := 2 <= dg h ∧ ∀ a b, h = a * b -> dg a = 1 ∨ dg b = 1

theorem Irr.ne {h : Poly p} (hi : Irr h) : h ≠ 0 := λe => by have := hi.1; rw [e, zt] at this; omega

theorem Irr.cop {h a : Poly p} (hi : Irr h) (hn : ¬ h ∣ a) : Cop h a := by
 obtain ⟨q, hq⟩ := xB h a;rcases hi.2 _ _ hq with h1 | h1
 ·exact zdr h1
 ·exfalso
  obtain ⟨v, hv⟩ := jC h1;exact hn (zp ⟨v, by exact comb (-(gcd h a)) hv (comb (-v) hq (zj [gcd h a, h, q, v] (by rfl)))⟩ (xn h a))
theorem Irr.prime {h a b : Poly p} (hi : Irr h) (hd : h ∣ a * b) : h ∣ a ∨ h ∣ b := by
 by_cases ha : h ∣ a
 ·exact .inl ha
 ·exact .inr ((hi.cop ha).dvd hd)
theorem Irr.not_unit {h u : Poly p} (hi : Irr h) (hu : dg u = 1) : ¬ h ∣ u := λhd => by
 have := zdn hu hd;have := hi.1;omega
theorem Irr.pow {h a : Poly p} (hi : Irr h) {n : Nat} (hd : h ∣ a ^ n) : h ∣ a := by
 induction n with
 | zero =>
  have e : a ^ 0 = 1 := by exact zq a
  rw [e] at hd;exact absurd hd (hi.not_unit xh)
 | succ n ih =>
  have e : a ^ (n + 1) = a ^ n * a := by exact zh a n
  rw [e] at hd;exact (hi.prime hd).elim ih id

theorem kF {g h : Poly p} (hg : Irr g) (hh : Irr h) (mg : Mon g) (mh : Mon h) (hd : g ∣ h) : g = h := by
 refine zie mg mh hd ?_;obtain ⟨q, rfl⟩ := hd;rcases hh.2 _ _ rfl with h1 | h1
 ·exact absurd h1 (by have := hg.1; omega)
 ·obtain ⟨v, hv⟩ := jC h1;exact ⟨v, by exact comb (-g) hv (zj [g, q, v] (by rfl))⟩

theorem jU {h : Poly p} (hi : Irr h) : Irr (mnc h) ∧ Mon (mnc h) := by
 refine ⟨?_, v9 hi.ne⟩;obtain ⟨⟨q, hq⟩, ⟨r, hr⟩⟩ := z2 h;have h1 := zD (z2 h).1 hi.ne;have h2 := zD (z2 h).2 (v9 hi.ne).1;refine ⟨by have := hi.1; omega, λa b hab => ?_⟩
 have hq1 : dg q = 1 := by
  have hm := (v9 hi.ne).1;have hq0 : q ≠ 0 := λe => hi.ne (by rw [hq, e]; exact zj [mnc h] (by rfl));have := yA hm hq0;rw [<- hq] at this;omega
 rcases hi.2 a (b * q) (by exact comb (1) hq (comb (q) hab (zj [h, a, b, q, mnc h] (by rfl)))) with h3 | h3
 ·exact .inl h3
 ·exact .inr (zdn h3 ⟨q, rfl⟩)

theorem vM : ∀ (n : Nat) (f : Poly p), dg f <= n -> 2 <= dg f -> ∃ h, Irr h ∧ Mon h ∧ h ∣ f := by
 intro n
 induction n with
 | zero => intro f h1 h2; omega
 | succ n ih =>
  intro f h1 h2;have hf : f ≠ 0 := λe => by rw [e, zt] at h2; omega
  by_cases hi : Irr f
  ·exact ⟨mnc f, (jU hi).1, (jU hi).2, (z2 f).1⟩
  ·unfold Irr at hi;simp only [not_and, Classical.not_forall, not_or] at hi
   obtain ⟨a, b, rfl, ha, hb⟩ := hi h2;have ha0 : a ≠ 0 := λe => hf (by rw [e]; exact zj [b] (by rfl));have hb0 : b ≠ 0 := λe => hf (by rw [e]; exact zj [a] (by rfl));have h3 := yA ha0 hb0;have h4 : dg a ≠ 0 := λe => ha0 (zd.1 e);have h5 : dg b ≠ 0 := λe => hb0 (zd.1 e);obtain ⟨h, h6, h7, h8⟩ := ih a (by omega) (by omega);exact ⟨h, h6, h7, xS _ h8⟩

def Sqf (f : Poly p) : Prop := ∀ h, Irr h -> ¬ h * h ∣ f

theorem zaA {f g : Poly p} (hf : f ≠ 0) (h : ∀ h, Irr h -> h ∣ f -> h ∣ g -> False) : Cop f g := by
 have hm := za2 (f := f) (g := g) (.inl hf);have h0 : dg (gcd f g) ≠ 0 := λe => hm.1 (zd.1 e)
 by_cases h1 : dg (gcd f g) = 1
 ·exact zdr h1
 ·obtain ⟨q, h2, _, h3⟩ := vM _ (gcd f g) (Nat.le_refl _) (by omega);exact (h q h2 (zp h3 (xB f g)) (zp h3 (xn f g))).elim

theorem Sqf.cop {f a b : Poly p} (hs : Sqf f) (hf : f ≠ 0) (h : a * b ∣ f) : Cop a b := by
 have ha : a ≠ 0 := λe => zdl h hf (by rw [e]; exact zj [b] (by rfl));refine zaA ha λq hq h1 h2 => hs q hq ?_;obtain ⟨x, rfl⟩ := h1;obtain ⟨y, rfl⟩ := h2;exact zp ⟨x * y, by exact zj [q, x, y] (by rfl)⟩ h
theorem Sqf.dvd {f g : Poly p} (hs : Sqf f) (h : g ∣ f) : Sqf g := λq hq hd => hs q hq (zp hd h)

end Poly

def yX : List Int := [2, 3, 5, 7, 11, 13, 17, 19, 23, 29, 31, 37, 41, 43, 47, 53, 59, 61, 67, 71, 73, 79, 83, 89, 97]

def zig (p k : Int) : List Int -> List Int -> List Int
 | x :: l, y :: l' => (x - k * y) % p :: zig p k l l'
 | _, _ => []
def stir (p : Int) : Nat -> List Int
 | 0 => [1]
 | n + 1 => zig p n (0 :: stir p n) (stir p n ++ [0])
def zih (p : Int) : List Int := 0 :: (p - 1) :: (List.replicate (p.toNat - 2) 0 ++ [1])

theorem zgQ : yX.all (λp => stir p p.toNat == zih p) = true := by decide +kernel
theorem zii : yX.all (λp => (List.range p.toNat).all λa => a == 0 || (List.range p.toNat).any λb => (a : Int) * b % p == 1) = true := by decide +kernel
theorem zaB : yX.all (λp => decide (2 <= p ∧ p <= 97)) = true := by decide +kernel

class SP (p : Int) : Prop extends Pr p where
 le : p <= 97
 stir : stir p p.toNat = zih p

theorem zgR {p : Int} (h : p ∈ yX) : SP p := by
 have h1 := List.all_eq_true.1 zgQ p h;have h2 := List.all_eq_true.1 zii p h;have h3 := List.all_eq_true.1 zaB p h;simp only [beq_iff_eq, decide_eq_true_eq] at h1 h3
 refine { pos := by omega, two := h3.1, le := h3.2, stir := h1, inv := λa ha => ?_ };rw [List.all_eq_true] at h2;have h4 := Int.emod_nonneg a (show p ≠ 0 by omega);have h5 := Int.emod_lt_of_pos a (show 0 < p by omega);have h6 := h2 (a % p).toNat (List.mem_range.2 (by omega));simp only [Bool.or_eq_true, beq_iff_eq, List.any_eq_true] at h6
 rcases h6 with h6 | ⟨b, _, h6⟩
 ·omega
 ·refine ⟨b, ?_⟩;rw [show ((a % p).toNat : Int) = a % p by omega, Int.mul_emod, Int.emod_emod_of_dvd _ (Int.dvd_refl p), <- Int.mul_emod] at h6;exact h6

namespace Poly
variable {p : Int} [Pr p]

def hev (a b : Poly p) : List Int -> Nat -> Poly p
 | [], _ => 0
 | c :: l, n => con p c * b ^ n + a * hev a b l (n - 1)

def xV (a b : Poly p) : Nat -> Poly p
 | 0 => 1
 | n + 1 => xV a b n * (a - con p n * b)


theorem zgS (a b : Poly p) : ∀ (l : List Int) (n : Nat), l.length = n + 1 -> hev a b (l ++ [0]) (n + 1) = b * hev a b l n
 | [], n, h => by simp at h
 | [c], n, h => by
  have : n = 0 := by simpa using h.symm
  subst this;simp only [List.cons_append, List.nil_append, hev, y4]
  rw [zh, zq];exact zj [con p c, b, a, b ^ (0 + 1 - 1)] (by rfl)
 | c :: d :: l, n, h => by
  cases n with
  | zero => simp at h
  | succ n =>
   have ih := zgS a b (d :: l) n (by simpa using h);simp only [List.cons_append] at ih ⊢
   have e1 : hev a b (c :: d :: (l ++ [0])) (n + 1 + 1) = con p c * b ^ (n + 1 + 1) + a * hev a b (d :: (l ++ [0])) (n + 1) := rfl;have e2 : hev a b (c :: d :: l) (n + 1) = con p c * b ^ (n + 1) + a * hev a b (d :: l) n := rfl;rw [e1, e2, ih, zh b (n + 1)];exact zj [a, b, con p c, b ^ (n+1), hev a b (d :: l) n] (by rfl)

theorem zgT (a b : Poly p) (k : Int) : ∀ (l l' : List Int) (n : Nat), l.length = l'.length -> hev a b (zig p k l l') n = hev a b l n - con p k * hev a b l' n
 | [], [], n, _ => by simp only [zig, hev]; exact zj [con p k] (by rfl)
 | x :: l, y :: l', n, h => by
  simp only [zig, hev]
  rw [zgT a b k l l' (n - 1) (by simpa using h), zcA, <- zcz, <- zft];exact zj [con p k, con p x, con p y, a, b ^ n, hev a b l (n-1), hev a b l' (n-1)] (by rfl)
 | [], _ :: _, n, h => by simp at h
 | _ :: _, [], n, h => by simp at h

theorem zb9 {p : Int} (k : Int) : ∀ (l l' : List Int), l.length = l'.length -> (zig p k l l').length = l.length
 | [], [], _ => rfl
 | x :: l, y :: l', h => by simp [zig, zb9 k l l' (by simpa using h)]
 | [], _ :: _, h => by simp at h
 | _ :: _, [], h => by simp at h

theorem zgU {p : Int} (n : Nat) : (stir p n).length = n + 1 := by
 induction n with
 | zero => rfl
 | succ n ih => rw [stir, zb9 _ _ _ (by simp)]; simp [ih]

theorem zlo (a b : Poly p) (n : Nat) : hev a b (stir p n) n = xV a b n := by
 induction n with
 | zero => simp only [stir, hev, xV, jS, zq]; exact zj [a] (by rfl)
 | succ n ih =>
  rw [stir, zgT _ _ _ _ _ _ (by simp), zgS _ _ _ _ (zgU n), xV];simp only [hev, y4, Nat.add_sub_cancel, ih]
  exact zj [a, b, xV a b n, con p (n:Int), b ^ (n+1)] (by rfl)

theorem zmK (a b : Poly p) (m : Nat) : hev a b (List.replicate m 0 ++ [1]) m = a ^ m := by
 induction m with
 | zero => simp only [List.replicate_zero, List.nil_append, hev, jS, zq]; exact zj [a] (by rfl)
 | succ m ih =>
  rw [List.replicate_succ, List.cons_append, hev, Nat.add_sub_cancel, ih, y4, zh a m];exact zj [a, a ^ m, b ^ (m+1)] (by rfl)

section
variable {p : Int} [SP p]

theorem zds (a b : Poly p) : xV a b p.toNat = a ^ p.toNat - a * b ^ (p.toNat - 1) := by
 have h2 := Pr.two (p := p);rw [<- zlo, SP.stir (p := p), zih];obtain ⟨m, hm⟩ : ∃ m, p.toNat = m + 2 := ⟨p.toNat - 2, by omega⟩
 rw [hm];simp only [hev, y4, show m + 2 - 1 = m + 1 from rfl, show m + 1 - 1 = m from rfl, show m + 2 - 2 = m from rfl, zmK]
 have h1 : con p (p - 1) = -1 := by
  rw [<- zcz, jS, xm.2 (Int.emod_self)]; exact zj [a] (by rfl)
 rw [h1, zh a (m + 1), zh a m];exact zj [a, b, a ^ m, b ^ (m+1), b ^ (m+2)] (by rfl)

theorem zgV (a b : Poly p) (n : Nat) : xV (a + b) b (n + 1) = (a + b) * xV a b n := by
 induction n with
 | zero =>
  simp only [xV]
  rw [show (((0 : Nat)) : Int) = 0 from rfl, y4]; exact zj [a, b] (by rfl)
 | succ n ih =>
  rw [xV, ih, xV, show (((n + 1 : Nat)) : Int) = (n : Int) + 1 from by omega, <- zfu, jS];exact zj [a, b, xV a b n, con p (n:Int)] (by rfl)

theorem zdt (a b : Poly p) : (a + b) ^ p.toNat = a ^ p.toNat + b ^ p.toNat := by
 have h2 := Pr.two (p := p);obtain ⟨m, hm⟩ : ∃ m, p.toNat = m + 1 := ⟨p.toNat - 1, by omega⟩
 have h1 := zds (a + b) b;have h3 := zds a b;rw [hm] at h1 h3 ⊢;rw [zgV] at h1;rw [xV] at h3;simp only [Nat.add_sub_cancel] at h1 h3
 have h4 : con p (m : Int) = -1 := by
  have : (m : Int) = p - 1 := by omega
  rw [this, <- zcz, jS, xm.2 (Int.emod_self)]; exact zj [a] (by rfl)
 rw [h4] at h3;rw [zh b m];exact comb (-1) h1 (comb (1) h3 (zj [a, b, xV a b m, b^m, a^(m+1), (a+b)^(m+1)] (by rfl)))

theorem zcB (n : Nat) : (1 : Poly p) ^ n = 1 := by
 induction n with
 | zero => exact zq _
 | succ n ih => rw [zh, ih]; exact CR.one_mul 1
theorem zgW {n : Nat} (h : 0 < n) : (0 : Poly p) ^ n = 0 := by
 obtain ⟨m, rfl⟩ : ∃ m, n = m + 1 := ⟨n - 1, by omega⟩
 rw [zh]; exact CR.mul_zero _
theorem zjb (a b : Poly p) (n : Nat) : (a * b) ^ n = a ^ n * b ^ n := by
 induction n with
 | zero => simp only [zq]; exact (CR.one_mul 1).symm
 | succ n ih => rw [zh, ih, zh, zh]; exact zj [a, b, a^n, b^n] (by rfl)
theorem pow_add (a : Poly p) (n m : Nat) : a ^ (n + m) = a ^ n * a ^ m := by
 induction m with
 | zero => rw [Nat.add_zero, zq]; exact (CR.mul_one _).symm
 | succ m ih => rw [<- Nat.add_assoc, zh, ih, zh]; exact CR.mul_assoc _ _ _
theorem zjc (a : Poly p) (n m : Nat) : a ^ (n * m) = (a ^ n) ^ m := by
 induction m with
 | zero => rw [Nat.mul_zero, zq, zq]
 | succ m ih => rw [Nat.mul_succ, pow_add, ih, zh]

theorem za3 : 0 < p.toNat := by have := Pr.two (p := p); omega

theorem zlp (c : Int) : con p c ^ p.toNat = con p c := by
 have hn : ∀ n : Nat, con p (n : Int) ^ p.toNat = con p (n : Int) := by
  intro n
  induction n with
  | zero => rw [show (((0 : Nat)) : Int) = 0 from rfl, y4, zgW za3]
  | succ n ih => rw [show (((n + 1 : Nat)) : Int) = (n : Int) + 1 from by omega, <- zfu, zdt, ih, jS, zcB]
 have h1 := Int.emod_nonneg c (show p ≠ 0 by have := Pr.two (p := p); omega);have := hn (c % p).toNat
 rwa [show (((c % p).toNat : Nat) : Int) = c % p by omega, zcA] at this

theorem zlq (a : Poly p) : xV a 1 p.toNat = a ^ p.toNat - a := by
 rw [zds, zcB]; rw [CR.mul_one]
theorem zgX (a b : Poly p) : (a - b) ^ p.toNat = a ^ p.toNat - b ^ p.toNat := by
 have h := zdt (a - b) b;have : a - b + b = a := by exact zj [a, b] (by rfl)
 rw [this] at h;exact comb (-1) h (zj [(a-b)^p.toNat, a^p.toNat, b^p.toNat] (by rfl))
end

end Poly
namespace Poly
variable {p : Int} [SP p]

def Ber (f v : Poly p) : Prop := f ∣ v ^ p.toNat - v

theorem zeO {h v : Poly p} (hi : Irr h) : ∀ {n : Nat}, h ∣ xV v 1 n -> ∃ s, s < n ∧ h ∣ v - con p (s : Int)
 | 0, hd => absurd hd (hi.not_unit xh)
 | n + 1, hd => by
  rw [xV] at hd;rcases hi.prime hd with h1 | h1
  ·obtain ⟨s, h2, h3⟩ := zeO hi h1;exact ⟨s, by omega, h3⟩
  ·exact ⟨n, by omega, by
    have e : v - con p (n : Int) * 1 = v - con p (n : Int) := by exact zj [v, con p (n:Int)] (by rfl)
    rwa [e] at h1⟩

theorem zmL {h v : Poly p} (hi : Irr h) (hd : Ber h v) : ∃ s : Int, 0 <= s ∧ s < p ∧ h ∣ v - con p s := by
 unfold Ber at hd;rw [<- zlq] at hd;obtain ⟨s, h1, h2⟩ := zeO hi hd;exact ⟨s, by omega, by have := Pr.two (p := p); omega, h2⟩

theorem zij {h v : Poly p} (hi : 2 <= dg h) {s t : Int} (h1 : h ∣ v - con p s) (h2 : h ∣ v - con p t) : s % p = t % p := by
 have h3 : h ∣ con p (s - t) := by
  have := dvd_sub h2 h1;have e : v - con p t - (v - con p s) = con p (s - t) := by rw [<- zcz]; exact zj [v, con p s, con p t] (by rfl)
  rwa [e] at this
 have h4 : con p (s - t) = 0 := by
  refine Classical.byContradiction λhne => ?_;have := zD h3 hne;have := jk (p := p) (s - t);omega
 have h5 := xm.1 h4;exact Int.emod_eq_emod_iff_emod_sub_eq_zero.2 h5

theorem Ber.dvd {f g v : Poly p} (h : Ber f v) (hd : g ∣ f) : Ber g v := zp hd h
theorem Ber.congr {f v w : Poly p} (h : Ber f v) (hd : f ∣ v - w) : Ber f w := by
 unfold Ber at *;obtain ⟨q, hq⟩ := hd
 have h1 : f ∣ (v - w) ^ p.toNat - (v - w) := by
  rw [hq, zjb];obtain ⟨m, hm⟩ : ∃ m, p.toNat = m + 1 := ⟨p.toNat - 1, by have := za3 (p := p); omega⟩
  rw [hm, zh f, zh q];exact ⟨f ^ m * (q ^ m * q) - q, by exact zj [f, q, f^m, q^m] (by rfl)⟩
 rw [zgX] at h1;have := dvd_sub h h1;have e : v ^ p.toNat - v - (v ^ p.toNat - w ^ p.toNat - (v - w)) = w ^ p.toNat - w := by exact zj [v, w, v ^ p.toNat, w ^ p.toNat] (by rfl)
 rwa [e] at this

theorem zgY {f part : Poly p} (hf : f ≠ 0) (hs : Sqf f) (hd : part ∣ f) (h2 : 2 <= dg part) (hc : ∀ w, dg w < dg f -> Ber f w -> ∃ s : Int, part ∣ w - con p s) : Irr part := by
 refine ⟨h2, λa b hab => Classical.byContradiction λhn => ?_⟩;simp only [not_or] at hn
 obtain ⟨c, hfc⟩ := hd;have hpart : part ≠ 0 := λe => by rw [e, zt] at h2; omega
 have ha0 : a ≠ 0 := λe => hpart (by rw [hab, e]; exact zj [b] (by rfl));have hb0 : b ≠ 0 := λe => hpart (by rw [hab, e]; exact zj [a] (by rfl));have hda : dg a ≠ 0 := λe => ha0 (zd.1 e);have hdb : dg b ≠ 0 := λe => hb0 (zd.1 e);have hfa : f = a * (b * c) := by rw [hfc, hab]; exact zj [a, b, c] (by rfl)
 have hcop : Cop a (b * c) := hs.cop hf ⟨1, by rw [<- hfa]; exact zj [f] (by rfl)⟩;obtain ⟨u, v, huv⟩ := hcop
 have hber : Ber f (u * a) := by
  unfold Ber;rw [hfa];have hcop' : Cop a (b * c) := ⟨u, v, huv⟩
  obtain ⟨m, hm⟩ : ∃ m, p.toNat = m + 1 := ⟨p.toNat - 1, by have := za3 (p := p); omega⟩
  refine hcop'.mul_dvd ?_ ?_
  ·rw [hm, zh];exact ⟨((u * a) ^ m - 1) * u, by exact zj [u, a, (u*a)^m] (by rfl)⟩
  ·have e : u * a = 1 - v * (b * c) := by exact comb (1) huv (zj [u, a, v, b, c] (by rfl))
   rw [e, zgX, zcB, hm, zh];exact ⟨v - (v * (b * c)) ^ m * v, by exact zj [v, b, c, (v*(b*c))^m] (by rfl)⟩
 have hrem := ji (u * a) f;have hlt := yB (u * a) hf;have hbr : Ber f (rem (u * a) f) := hber.congr ⟨quo (u * a) f, by exact comb (1) hrem (zj [u, a, f, quo (u*a) f, rem (u*a) f] (by rfl))⟩;obtain ⟨s, hs'⟩ := hc _ hlt hbr
 have h3 : part ∣ u * a - con p s := by
  have h4 : part ∣ f := ⟨c, hfc⟩
  have h5 := dvd_add hs' (z4 (quo (u * a) f) h4);have e : rem (u * a) f - con p s + quo (u * a) f * f = u * a - con p s := by exact comb (-1) hrem (zj [u, a, f, con p s, quo (u*a) f, rem (u*a) f] (by rfl))
  rwa [e] at h5
 have h6 : a ∣ con p s := by
  have h7 : a ∣ part := ⟨b, hab⟩
  have h8 := dvd_sub (z4 u (dvd_refl a)) (zp h7 h3);have e : u * a - (u * a - con p s) = con p s := by exact zj [u, a, con p s] (by rfl)
  rwa [e] at h8
 have h9 : con p s = 0 := by
  refine Classical.byContradiction λhne => ?_;have := zD h6 hne;have := jk (p := p) s;omega
 rw [h9] at h3
 have h10 : b ∣ 1 := by
  have h7 : b ∣ part := ⟨a, by rw [hab]; exact zj [a, b] (by rfl)⟩
  have h8 := zp h7 h3;have h11 : b ∣ v * (b * c) := ⟨v * c, by exact zj [v, b, c] (by rfl)⟩
  have h12 := dvd_add h8 h11;have e : u * a - 0 + v * (b * c) = 1 := by exact comb (1) huv (zj [u, a, v, b, c] (by rfl))
  rwa [e] at h12
 exact hn.2 (zdn xh h10)

end Poly

def dv (f : Nat -> Int) : Nat -> Int := λi => ((i : Int) + 1) * f (i + 1)

theorem znR (f g : Nat -> Int) (k : Nat) : dv (cv f g) k = cv (dv f) g k + cv f (dv g) k := by
 induction k generalizing f with
 | zero => simp [dv, cv]; omega
 | succ k ih =>
  have h1 := ih (λi => f (i + 1));have e1 : dv (cv (λi => f (i + 1)) g) k = ((k : Int) + 1) * cv (λi => f (i + 1)) g (k + 1) := rfl
  have e2 : dv (cv f g) (k + 1) = ((k : Int) + 2) * (f 0 * g (k + 2) + cv (λi => f (i + 1)) g (k + 1)) := by
   unfold dv; rw [cv]; congr 1
  have e3 : cv (dv f) g (k + 1) = f 1 * g (k + 1) + cv (λi => dv f (i + 1)) g k := by
   rw [cv]; simp [dv]
  have e4 : cv f (dv g) (k + 1) = f 0 * (((k : Int) + 2) * g (k + 2)) + cv (λi => f (i + 1)) (dv g) k := by
   rw [cv]; unfold dv; congr 3
  have e5 : (λi => dv f (i + 1)) = λi => dv (λi => f (i + 1)) i + f (i + 1 + 1) := by
   funext i
   unfold dv;rw [show ((i + 1 : Nat) : Int) + 1 = ((i : Int) + 1) + 1 from by omega, Int.add_mul ((i : Int) + 1)]; simp
  have e6 : cv (λi => f (i + 1)) g (k + 1) = f 1 * g (k + 1) + cv (λi => f (i + 1 + 1)) g k := by rw [cv]
  rw [e2, e3, e4, e5, zfp];rw [e1] at h1
  have e7 : ((k : Int) + 2) * cv (λi => f (i + 1)) g (k + 1) = ((k : Int) + 1) * cv (λi => f (i + 1)) g (k + 1) + cv (λi => f (i + 1)) g (k + 1) := by
   rw [show (k : Int) + 2 = ((k : Int) + 1) + 1 from by omega, Int.add_mul]; simp
  have e8 : ((k : Int) + 2) * (f 0 * g (k + 2)) = f 0 * (((k : Int) + 2) * g (k + 2)) := by
   rw [<- Int.mul_assoc, Int.mul_comm _ (f 0), Int.mul_assoc]
  rw [Int.mul_add, e7, e8, h1, e6];have e9 : (λi => dv (λi => f (i + 1)) i) = dv (λi => f (i + 1)) := rfl;omega

namespace Poly
variable {p : Int} [SP p]

def der (f : Poly p) : Poly p := of p (mkL (dg f) (dv (cf f.l)))
theorem zbG (f : Poly p) (i : Nat) : cf (der f).l i = dv (cf f.l) i % p := by
 rw [der, ym, xA]
 split
 ·rfl
 ·rename_i h
  unfold dv;rw [yj (f := f) (by omega)]; simp
theorem znt {p : Int} (f : Nat -> Int) (i : Nat) : dv (λi => f i % p) i % p = dv f i % p := by
 unfold dv;rw [Int.mul_emod, Int.emod_emod_of_dvd _ (Int.dvd_refl p), <- Int.mul_emod]
theorem zfz (f g : Poly p) : der (f * g) = der f * g + f * der g := zM λi => by
 have e1 : cf (der f).l = λi => dv (cf f.l) i % p := funext (zbG f);have e2 : cf (der g).l = λi => dv (cf g.l) i % p := funext (zbG g);rw [zbG, zay, znt, znR, yJ, xg, xg, e1, e2, kz, k0 (cf f.l) (λi => dv (cf g.l) i % p), kz, k0 (cf f.l) (dv (cf g.l)), <- Int.add_emod]
theorem kG {f : Poly p} (h : f ≠ 0) : dg (der f) < dg f := by
 have h0 : dg f ≠ 0 := λe => h (zd.1 e)
 have : dg (der f) <= dg f - 1 := zad λi hi => by
  rw [zbG]; unfold dv; rw [yj (f := f) (by omega)]; simp
 omega

theorem zgZ (h : Poly p) (n : Nat) : h ^ n ∣ der (h ^ (n + 1)) := by
 induction n with
 | zero => rw [zq]; exact zcy _
 | succ n ih =>
  rw [zh h (n + 1), zfz, zh h n];rw [zh h n] at ih;obtain ⟨q, hq⟩ := ih;rw [hq];exact ⟨q + der h, by exact zj [h, q, der h, h^n] (by rfl)⟩

theorem zdu {h f : Poly p} {n : Nat} (hd : h ^ (n + 1) ∣ f) : h ^ n ∣ der f := by
 obtain ⟨u, rfl⟩ := hd;rw [zfz];refine dvd_add (xS _ (zgZ h n)) ?_;rw [zh];exact ⟨h * der u, by exact zj [h, der u, h^n] (by rfl)⟩

theorem kH {h : Poly p} (hi : 2 <= dg h) (n : Nat) : n < dg (h ^ n) := by
 have h0 : h ≠ 0 := λe => by rw [e, zt] at hi; omega
 induction n with
 | zero => rw [zq, xh]; omega
 | succ n ih =>
  have h1 : h ^ n ≠ 0 := λe => by rw [e, zt] at ih; omega
  have := yA h1 h0;rw [zh]; omega

theorem zlr {f q c : Poly p} (hf : f ≠ 0) (he : f = q * c) (hc : ∀ h, h ∣ f -> h ∣ der f -> h ∣ c) : Sqf q := by
 intro h hi hd
 have key : ∀ n : Nat, h ^ n ∣ f := by
  intro n
  induction n with
  | zero => rw [zq]; exact zcy _
  | succ n ih =>
   cases n with
   | zero =>
    rw [zh, zq, he];obtain ⟨r, hr⟩ := hd;exact ⟨h * r * c, by exact comb (c) hr (zj [q, c, h, r] (by rfl))⟩
   | succ n =>
    have h1 : h ^ n ∣ f := zp ⟨h, zh h n⟩ ih;obtain ⟨a, ha⟩ := hc _ h1 (zdu ih);obtain ⟨b, hb⟩ := hd;rw [zh, zh, he, ha, hb];exact ⟨b * a, by exact zj [h, a, b, h^n] (by rfl)⟩
 have h1 := kH hi.1 (dg f);have h2 := zD (key (dg f)) hf;omega

theorem zls {f q c rest s : Poly p} (he : f = q * c) (hs : f = rest * s) (hr : rest ≠ 0) (hc : c ∣ der f) (h1 : Cop rest q) (h2 : Cop rest s) : der rest = 0 := by
 have h3 : rest ∣ c := h1.dvd ⟨s, by rw [<- he, hs]⟩;have h4 := zp h3 hc;rw [hs, zfz] at h4
 have h5 : rest ∣ s * der rest := by
  have := dvd_sub h4 (xS (der s) (dvd_refl rest));have e : der rest * s + rest * der s - rest * der s = s * der rest := by exact zj [der rest, der s, rest, s] (by rfl)
  rwa [e] at this
 have h6 := h2.dvd h5;refine Classical.byContradiction λhne => ?_;have := zD h6 hne;have := kG hr;omega

theorem zlt (a b : Nat) : mono p 1 a * mono p 1 b = mono p 1 (a + b) := zM λi => by
 rw [v8, jQ, jQ]
 by_cases h : a <= i
 ·rw [if_pos h]
  by_cases h' : i = a + b
  ·rw [if_pos (by omega), if_pos h']; simp
  ·rw [if_neg (by omega), if_neg h']; simp
 ·rw [if_neg h, if_neg (by omega)]
theorem zdv (a n : Nat) : mono p 1 a ^ n = mono p 1 (a * n) := by
 induction n with
 | zero => rw [zq]; rfl
 | succ n ih => rw [zh, ih, zlt, Nat.mul_succ]

def ev (a : Poly p) : List Int -> Poly p
 | [] => 0
 | c :: l => con p c + a * ev a l

theorem zjd (a : Poly p) (l : List Int) : ev a l ^ p.toNat = ev (a ^ p.toNat) l := by
 induction l with
 | nil => exact zgW za3
 | cons c l ih => rw [ev, zdt, zlp, zjb, ih, ev]

theorem zdw {m : Nat} (hm : 0 < m) (l : List Int) (k : Nat) : cf (ev (mono p 1 m) l).l k = if k % m = 0 then cf l (k / m) % p else 0 := by
 induction l generalizing k with
 | nil => rw [ev, y8, yW]; simp
 | cons c l ih =>
  rw [ev, yJ, xi, v8]
  by_cases hk : m <= k
  ·rw [if_pos hk, ih, if_neg (by omega)];have e1 : (k - m) % m = k % m := (Nat.mod_eq_sub_mod hk).symm;have e2 : k / m = (k - m) / m + 1 := Nat.div_eq_sub_div hm hk;rw [e1]
   split
   ·rw [e2, zA]; simp
   ·simp
  ·rw [if_neg hk, Int.add_zero]
   by_cases h0 : k = 0
   ·subst h0; simp [cf]
   ·rw [if_neg h0, if_neg (by rw [Nat.mod_eq_of_lt (by omega)]; exact h0)]; simp

theorem znu (f : Poly p) : ev (mono p 1 1) f.l = f := zM λi => by
 rw [zdw (by omega)]; simp [jh, Nat.mod_one]

theorem zlu (f : Poly p) (k : Nat) : cf (f ^ p.toNat).l k = if k % p.toNat = 0 then cf f.l (k / p.toNat) else 0 := by
 have h1 := zjd (mono p 1 1) f.l;rw [znu, zdv, Nat.one_mul] at h1;rw [h1, zdw za3]
 split
 ·exact jh _ _
 ·rfl

theorem zlv {f r : Poly p} (h : der f = 0) (hr : ∀ i, cf r.l i = cf f.l (i * p.toNat)) : r ^ p.toNat = f := by
 refine zM λk => ?_;rw [zlu]
 split
 ·rename_i hk
  rw [hr, Nat.div_mul_cancel (Nat.dvd_of_mod_eq_zero hk)]
 ·rename_i hk
  cases k with
  | zero => simp at hk
  | succ k =>
   have h1 := zbG f k;rw [h, y8] at h1;unfold dv at h1;refine Classical.byContradiction λhne => ?_;refine Pr.mul_ne (p := p) (a := (k : Int) + 1) (b := cf f.l (k + 1)) (λh2 => hk ?_) (ya (Ne.symm hne)) h1.symm
   have h3 : ((k + 1 : Nat) : Int) % ((p.toNat : Nat) : Int) = 0 := by
    have := Pr.two (p := p);rw [show ((p.toNat : Nat) : Int) = p by omega]; exact_mod_cast h2
   exact_mod_cast h3

end Poly

def zy (f : Nat -> Int) : Nat -> Int
 | 0 => 0
 | n + 1 => zy f n + f n

theorem xj {f g : Nat -> Int} {n : Nat} (h : ∀ i, i < n -> f i = g i) : zy f n = zy g n := by
 induction n with
 | zero => rfl
 | succ n ih => rw [zy, zy, ih λi hi => h i (by omega), h n (by omega)]
theorem vN (f g : Nat -> Int) (n : Nat) : zy (λi => f i + g i) n = zy f n + zy g n := by
 induction n with
 | zero => rfl
 | succ n ih => simp only [zy, ih]; omega
theorem vO (a : Int) (f : Nat -> Int) (n : Nat) : zy (λi => a * f i) n = a * zy f n := by
 induction n with
 | zero => simp [zy]
 | succ n ih => simp only [zy, ih, Int.mul_add]
theorem jD {f : Nat -> Int} {n : Nat} (h : ∀ i, i < n -> f i = 0) : zy f n = 0 := by
 induction n with
 | zero => rfl
 | succ n ih => rw [zy, ih λi hi => h i (by omega), h n (by omega)]; rfl
theorem yy (p : Int) {f g : Nat -> Int} {n : Nat} (h : ∀ i, i < n -> f i % p = g i % p) : zy f n % p = zy g n % p := by
 induction n with
 | zero => rfl
 | succ n ih => rw [zy, zy, Int.add_emod, ih λi hi => h i (by omega), h n (by omega), <- Int.add_emod]
theorem xW {f : Nat -> Int} {n k : Nat} (hk : k < n) (h : ∀ i, i < n -> i ≠ k -> f i = 0) : zy f n = f k := by
 induction n with
 | zero => omega
 | succ n ih =>
  rw [zy]
  by_cases he : k = n
  ·subst he; rw [jD λi hi => h i (by omega) (by omega)]; simp
  ·rw [ih (by omega) λi hi hne => h i (by omega) hne, h n (by omega) (by omega)]; simp
theorem zj4 (f : Nat -> Nat -> Int) (n m : Nat) : zy (λi => zy (f i) m) n = zy (λj => zy (λi => f i j) n) m := by
 induction n with
 | zero => simp only [zy]; exact (jD λ_ _ => rfl).symm
 | succ n ih => simp only [zy, ih, <- vN]

def ja (p : Int) (n : Nat) (r c : Nat -> Int) : Prop := zy (λi => r i * c i) n % p = 0
def Sol (p : Int) (n m : Nat) (R : Nat -> Nat -> Int) (c : Nat -> Int) : Prop := ∀ k, k < m -> ja p n (R k) c

theorem xX {p : Int} {n : Nat} {r r' c c' : Nat -> Int} (hr : ∀ i, i < n -> r i % p = r' i % p) (hc : ∀ i, i < n -> c i % p = c' i % p) : ja p n r c ↔ ja p n r' c' := by
 unfold ja;rw [yy p (g := λi => r' i * c' i) λi hi => by rw [Int.mul_emod, hr i hi, hc i hi, <- Int.mul_emod]]
theorem zeP {p : Int} {n : Nat} {r r' c : Nat -> Int} (a : Int) (h : ja p n r c) (h' : ja p n r' c) : ja p n (λi => r i + a * r' i) c := by
 unfold ja at *
 have e : zy (λi => (r i + a * r' i) * c i) n = zy (λi => r i * c i) n + a * zy (λi => r' i * c i) n := by
  rw [<- vO, <- vN];exact xj λi _ => by rw [Int.add_mul, Int.mul_assoc]
 rw [e, Int.add_emod, h, Int.mul_emod, h']; simp
theorem jV {p : Int} {n : Nat} {r c : Nat -> Int} (a : Int) (h : ja p n r c) : ja p n (λi => a * r i) c := by
 unfold ja at *
 have e : zy (λi => a * r i * c i) n = a * zy (λi => r i * c i) n := by
  rw [<- vO];exact xj λi _ => by rw [Int.mul_assoc]
 rw [e, Int.mul_emod, h]; simp

theorem zlw {p : Int} {n m a b : Nat} {R R' : Nat -> Nat -> Int} (ha : a < m) (hb : b < m) (h1 : R' a = R b) (h2 : R' b = R a) (h3 : ∀ k, k < m -> k ≠ a -> k ≠ b -> R' k = R k) (c : Nat -> Int) : Sol p n m R' c ↔ Sol p n m R c := by
 constructor
 ·intro h k hk
  by_cases hka : k = a
  ·subst hka; rw [<- h2]; exact h b hb
  ·by_cases hkb : k = b
   ·subst hkb; rw [<- h1]; exact h a ha
   ·rw [<- h3 k hk hka hkb]; exact h k hk
 ·intro h k hk
  by_cases hka : k = a
  ·subst hka; rw [h1]; exact h b hb
  ·by_cases hkb : k = b
   ·subst hkb; rw [h2]; exact h a ha
   ·rw [h3 k hk hka hkb]; exact h k hk

structure Steps (p : Int) (n : Nat) (col : Nat) (piv : List Nat) (R : Nat -> Nat -> Int) : Prop where
 le : piv.length <= n
 lt : ∀ x ∈ piv, x < col
 nodup : piv.Nodup
 one : ∀ i x, piv[i]? = some x -> R i x % p = 1
 zero : ∀ i x, piv[i]? = some x -> ∀ k, k < n -> k ≠ i -> R k x % p = 0
 rest : ∀ k, piv.length <= k -> k < n -> ∀ x, x < col -> R k x % p = 0

theorem Steps.start (p : Int) (n : Nat) (R : Nat -> Nat -> Int) : Steps p n 0 [] R :=
 ⟨by simp, by simp, by simp, by simp, by simp, λk _ _ x hx => by omega⟩

theorem Steps.skip {p : Int} {n col : Nat} {piv : List Nat} {R : Nat -> Nat -> Int} (h : Steps p n col piv R) (h0 : ∀ k, piv.length <= k -> k < n -> R k col % p = 0) : Steps p n (col + 1) piv R :=
 ⟨h.le, λx hx => by have := h.lt x hx; omega, h.nodup, h.one, h.zero, λk hk hkn x hx => by
  by_cases he : x = col
  ·subst he; exact h0 k hk hkn
  ·exact h.rest k hk hkn x (by omega)⟩

def vP (_p : Int) (piv : List Nat) (R : Nat -> Nat -> Int) (col : Nat) (x : Nat) : Int :=
 if x = col then 1 else match piv.idxOf? x with | some i => -(R i col) | none => 0

theorem zW (p a : Int) : a % p % p = a % p := Int.emod_emod_of_dvd _ (Int.dvd_refl p)
theorem xC {p a a' : Int} (b : Int) (h : a % p = a' % p) : a * b % p = a' * b % p := by rw [Int.mul_emod, h, <- Int.mul_emod]
theorem yz {p a a' : Int} (b : Int) (h : a % p = a' % p) : b * a % p = b * a' % p := by rw [Int.mul_emod, h, <- Int.mul_emod]
theorem z5 {p a : Int} (b : Int) (h : a % p = 0) : b * a % p = 0 := by rw [Int.mul_emod, h]; simp
theorem k7 {p a a' b b' : Int} (h : a % p = a' % p) (k : b % p = b' % p) : (a - b) % p = (a' - b') % p := by rw [Int.sub_emod, h, k, <- Int.sub_emod]

theorem Steps.pivot {p : Int} {n col : Nat} {piv : List Nat} {R R' : Nat -> Nat -> Int} {s : Int} (h : Steps p n col piv R) (hp : (1 : Int) % p = 1) (hc : col < n) (hat : piv.length < n) (hs : s * R piv.length col % p = 1)
  (h1 : ∀ x, x < n -> R' piv.length x % p = (s * R piv.length x) % p)
  (h2 : ∀ i, i < n -> i ≠ piv.length -> ∀ x, x < n -> R' i x % p = (R i x - R i col * (s * R piv.length x)) % p) : Steps p n (col + 1) (piv ++ [col]) R' := by
 have hnew : ∀ i x, (piv ++ [col])[i]? = some x -> (i < piv.length ∧ piv[i]? = some x) ∨ (i = piv.length ∧ x = col) := by
  intro i x hx;rcases Nat.lt_or_ge i piv.length with hlt | hge
  ·rw [List.getElem?_append_left hlt] at hx; exact .inl ⟨hlt, hx⟩
  ·rw [List.getElem?_append_right hge] at hx;cases hi : i - piv.length with
   | zero => rw [hi] at hx; simp at hx; exact .inr ⟨by omega, hx.symm⟩
   | succ j => rw [hi] at hx; simp at hx
 have hzat : ∀ x, x < col -> R piv.length x % p = 0 := λx hx => h.rest _ (Nat.le_refl _) hat x hx
 have hkeep : ∀ i, i < n -> i ≠ piv.length -> ∀ x, x < col -> R' i x % p = R i x % p := λi hi hne x hx => by
  rw [h2 i hi hne x (by omega), <- Int.sub_zero (R i x)];refine (k7 (by rw [Int.sub_zero]) ?_).trans (by rw [Int.sub_zero]);rw [<- Int.mul_assoc, z5 _ (hzat x hx)]; simp
 have hcol : ∀ i, i < n -> i ≠ piv.length -> R' i col % p = 0 := λi hi hne => by
  rw [h2 i hi hne col hc];have : (R i col - R i col * (s * R piv.length col)) % p = (R i col - R i col * 1) % p := k7 rfl (yz _ (by rw [hs, hp]));rw [this]; simp
 refine ⟨by simp; omega, λx hx => ?_, ?_, λi x hx => ?_, λi x hx k hk hne => ?_, λk hk hkn x hx => ?_⟩
 ·rcases List.mem_append.1 hx with hx | hx
  ·have := h.lt x hx; omega
  ·simp at hx; omega
 ·refine List.nodup_append.2 ⟨h.nodup, by simp, λa ha b hb => ?_⟩;simp at hb
  have := h.lt a ha;omega
 ·rcases hnew i x hx with ⟨hi, hx'⟩ | ⟨rfl, rfl⟩
  ·have hxc := h.lt x (List.mem_of_getElem? hx');rw [hkeep i (by have := h.le; omega) (by omega) x hxc]; exact h.one i x hx'
  ·rw [h1 _ hc]; exact hs
 ·rcases hnew i x hx with ⟨hi, hx'⟩ | ⟨rfl, rfl⟩
  ·have hxc := h.lt x (List.mem_of_getElem? hx')
   by_cases hka : k = piv.length
   ·subst hka;rw [h1 x (by omega), z5 _ (hzat x hxc)]
   ·rw [hkeep k hk hka x hxc]; exact h.zero i x hx' k hk hne
  ·exact hcol k hk hne
 ·simp only [List.length_append, List.length_singleton] at hk
  by_cases hxc : x = col
  ·subst hxc; exact hcol k hkn (by omega)
  ·rw [hkeep k hkn (by omega) x (by omega)]; exact h.rest k (by omega) hkn x (by omega)

theorem Steps.swap {p : Int} {n col : Nat} {piv : List Nat} {R R' : Nat -> Nat -> Int} {b : Nat} (h : Steps p n col piv R) (hb : piv.length <= b) (hbn : b < n) (h1 : R' piv.length = R b) (h2 : R' b = R piv.length) (h3 : ∀ k, k < n -> k ≠ piv.length -> k ≠ b -> R' k = R k) : Steps p n col piv R' := by
 have hlow : ∀ i, i < piv.length -> R' i = R i := λi hi => h3 i (by omega) (by omega) (by omega)
 have hrest : ∀ k, piv.length <= k -> k < n -> ∀ x, x < col -> R' k x % p = 0 := λk hk hkn x hx => by
  by_cases hka : k = piv.length
  ·subst hka; rw [h1]; exact h.rest b hb hbn x hx
  ·by_cases hkb : k = b
   ·subst hkb; rw [h2]; exact h.rest _ (Nat.le_refl _) (by omega) x hx
   ·rw [h3 k hkn hka hkb]; exact h.rest k hk hkn x hx
 refine ⟨h.le, h.lt, h.nodup, λi x hx => ?_, λi x hx k hk hne => ?_, hrest⟩
 ·rw [hlow i (List.getElem?_eq_some_iff.1 hx).1]; exact h.one i x hx
 ·rcases Nat.lt_or_ge k piv.length with hlt | hge
  ·rw [hlow k hlt]; exact h.zero i x hx k hk hne
  ·exact hrest k hge hk x (h.lt x (List.mem_of_getElem? hx))

theorem jW {piv : List Nat} (hn : piv.Nodup) {i x : Nat} (h : piv[i]? = some x) : piv.idxOf? x = some i := by
 obtain ⟨hi, he⟩ := List.getElem?_eq_some_iff.1 h;rw [List.idxOf?_eq_some_iff];refine ⟨hi, by simpa using he, λj hj => ?_⟩;have h1 : piv[j]'(by omega) ≠ piv[i] := List.pairwise_iff_getElem.1 hn j i (by omega) hi hj;simp only [ne_eq]
 rw [<- he]; exact h1
theorem za4 {piv : List Nat} {x : Nat} (h : x ∉ piv) : piv.idxOf? x = none := by
 rw [List.idxOf?_eq_none_iff]; exact h

theorem zlx {f : Nat -> Int} {n a b : Nat} (hab : a ≠ b) (ha : a < n) (hb : b < n) (h : ∀ i, i < n -> i ≠ a -> i ≠ b -> f i = 0) : zy f n = f a + f b := by
 have e : zy f n = zy (λi => (if i = a then f i else 0) + (if i = a then 0 else f i)) n := xj λi _ => by split <;> simp
 rw [e, vN, xW ha λi _ hne => by simp [hne], xW (k := b) hb λi hi hne => by
  by_cases hia : i = a
  ·simp [hia]
  ·simp [hia, h i hi hia hne]]
 simp [Ne.symm hab]

theorem Steps.free {p : Int} {n : Nat} {piv : List Nat} {R : Nat -> Nat -> Int} (h : Steps p n n piv R) {col : Nat} (hc : col < n) (hf : col ∉ piv) : Sol p n n R (vP p piv R col) := by
 intro k hk;unfold ja;rcases Nat.lt_or_ge k piv.length with hlt | hge
 ·have hx := List.getElem?_eq_getElem hlt;have hxl := h.lt _ (List.mem_of_getElem? hx);have hne : piv[k] ≠ col := λe => hf (e ▸ List.getElem_mem hlt)
  have e1 : zy (λx => R k x * vP p piv R col x) n % p = zy (λx => if x = piv[k] then -(R k col) else if x = col then R k col else 0) n % p := by
   refine yy p λx hxn => ?_
   by_cases hxc : x = col
   ·subst hxc;simp [vP, Ne.symm hne]
   ·by_cases hxp : x ∈ piv
    ·obtain ⟨i, hi, he⟩ := List.mem_iff_getElem.1 hxp;have hix : piv[i]? = some x := by rw [List.getElem?_eq_getElem hi, he]
     have e2 : vP p piv R col x = -(R i col) := by simp [vP, hxc, jW h.nodup hix]
     rw [e2]
     by_cases hik : i = k
     ·subst hik;have h1 := h.one i x hix;simp only [he, if_true]
      rw [xC (a' := 1) _ (by
       rw [h1];have := zW p (R i x);rw [h1] at this; exact this.symm)]
      simp
     ·have h0 := h.zero i x hix k hk (Ne.symm hik)
      have hne2 : x ≠ piv[k] := λe => hik (by
       have := jW h.nodup hix;rw [e, jW h.nodup hx] at this;exact (Option.some.inj this).symm)
      rw [if_neg hne2, if_neg hxc, Int.mul_comm, z5 _ h0]; simp
    ·have hne2 : x ≠ piv[k] := λe => hxp (e ▸ List.getElem_mem hlt);simp [vP, hxc, za4 hxp, hne2]
  rw [e1, zlx (a := piv[k]) (b := col) hne hxl hc λi _ h1 h2 => by simp [h1, h2]];simp [Ne.symm hne, Int.add_left_neg]
 ·rw [yy p (g := λ_ => 0) λx hx => by rw [Int.mul_comm, z5 _ (h.rest k hge hk x hx)]; simp, jD λ_ _ => rfl]; simp

theorem Steps.all {p : Int} {n : Nat} {piv : List Nat} {R : Nat -> Nat -> Int} (h : Steps p n n piv R) {c : Nat -> Int} (hs : Sol p n n R c) : ∀ x, x < n -> c x % p = zy (λcol => if col ∈ piv then 0 else c col * vP p piv R col x) n % p := by
 intro x hx
 by_cases hxp : x ∈ piv
 ·obtain ⟨i, hi, he⟩ := List.mem_iff_getElem.1 hxp;have hix : piv[i]? = some x := by rw [List.getElem?_eq_getElem hi, he]
  have hin : i < n := by have := h.le; omega
  have h1 := hs i hin;unfold ja at h1
  have e1 : zy (λcol => R i col * c col) n % p = zy (λcol => (if col = x then c x else 0) + (if col ∈ piv then 0 else R i col * c col)) n % p := by
   refine yy p λcol hcn => ?_
   by_cases hcp : col ∈ piv
   ·obtain ⟨j, hj, hje⟩ := List.mem_iff_getElem.1 hcp;have hjc : piv[j]? = some col := by rw [List.getElem?_eq_getElem hj, hje]
    by_cases hij : j = i
    ·subst hij;have hcx : col = x := by rw [hix] at hjc; exact (Option.some.inj hjc).symm
     subst hcx;have h2 := h.one j col hjc;simp only [if_true, hcp, Int.add_zero]
     rw [xC (a' := 1) _ (by
      rw [h2];have := zW p (R j col);rw [h2] at this; exact this.symm)]
     simp
    ·have hcx : col ≠ x := λe => hij (by
      have := jW h.nodup hix;rw [<- e, jW h.nodup hjc] at this;exact Option.some.inj this)
     rw [if_neg hcx, if_pos hcp, Int.mul_comm, z5 _ (h.zero j col hjc i hin (Ne.symm hij))]; simp
   ·have hcx : col ≠ x := λe => hcp (e ▸ hxp);simp [hcx, hcp]
  rw [e1, vN, xW (k := x) hx λi _ hne => by simp [hne]] at h1;simp only [if_true] at h1
  have e2 : zy (λcol => if col ∈ piv then 0 else c col * vP p piv R col x) n = -1 * zy (λcol => if col ∈ piv then 0 else R i col * c col) n := by
   rw [<- vO];refine xj λcol _ => ?_
   by_cases hcp : col ∈ piv
   ·simp [hcp]
   ·have hcx : x ≠ col := λe => hcp (e ▸ hxp);simp only [hcp, if_false]
    simp only [vP, hcx, if_false, jW h.nodup hix]
    rw [Int.mul_comm, Int.neg_mul]; omega
  rw [e2];have h3 : c x = (c x + zy (λcol => if col ∈ piv then 0 else R i col * c col) n) - zy (λcol => if col ∈ piv then 0 else R i col * c col) n := by omega
  rw [h3, Int.sub_emod, h1];rw [show -1 * zy (λcol => if col ∈ piv then 0 else R i col * c col) n = 0 - zy (λcol => if col ∈ piv then 0 else R i col * c col) n from by omega, Int.sub_emod 0];simp [zmH]
 ·rw [xW (k := x) hx λi _ hne => by
   by_cases hip : i ∈ piv
   ·simp [hip]
   ·simp [hip, vP, Ne.symm hne, za4 hxp]]
  simp [hxp, vP]


structure Half (p : Int) (n : Nat) (M : Nat -> Nat -> Int) (col : Nat) (used : Nat -> Prop) (L T : Nat -> Nat -> Int) : Prop where
 comb : ∀ k, k < n -> ∀ x, x < n -> L k x % p = zy (λj => T k j * M j x) n % p
 span : ∀ c : Nat -> Int, ∃ d : Nat -> Int, ∀ j, j < n -> c j % p = zy (λk => d k * T k j) n % p
 piv : ∀ k, k < n -> used k -> ∃ x, x < col ∧ x < n ∧ L k x % p ≠ 0 ∧ ∀ k', k' < n -> k' ≠ k -> L k' x % p = 0
 rest : ∀ k, k < n -> ¬ used k -> ∀ x, x < col -> L k x % p = 0

theorem Half.start (p : Int) (n : Nat) (M T : Nat -> Nat -> Int) (hT : ∀ i, i < n -> ∀ j, j < n -> T i j = if i = j then 1 else 0) : Half p n M 0 (λ_ => False) M T := by
 refine ⟨λk hk x hx => ?_, λc => ⟨c, λj hj => ?_⟩, λk _ h => h.elim, λk _ _ x hx => by omega⟩
 ·rw [xW (k := k) hk λi hi hne => by rw [hT k hk i hi]; simp [Ne.symm hne], hT k hk k hk]; simp
 ·rw [xW (k := j) hj λi hi hne => by rw [hT i hi j hj]; simp [hne], hT j hj j hj]; simp

theorem Half.skip {p : Int} {n : Nat} {M : Nat -> Nat -> Int} {col : Nat} {used : Nat -> Prop} {L T : Nat -> Nat -> Int} (h : Half p n M col used L T) (h0 : ∀ k, k < n -> ¬ used k -> L k col % p = 0) : Half p n M (col + 1) used L T :=
 ⟨h.comb, h.span, λk hk hu => by obtain ⟨x, h1, h2⟩ := h.piv k hk hu; exact ⟨x, by omega, h2⟩, λk hk hu x hx => by
  by_cases he : x = col
  ·subst he; exact h0 k hk hu
  ·exact h.rest k hk hu x (by omega)⟩

theorem Half.pivot {p : Int} {n : Nat} {M : Nat -> Nat -> Int} {col : Nat} {used : Nat -> Prop} {L T L' T' : Nat -> Nat -> Int} {at' : Nat} {q : Nat -> Int} (h : Half p n M col used L T) (hc : col < n) (hat : at' < n) (hu : ¬ used at') (hne : L at' col % p ≠ 0)
  (hq0 : q at' = 0) (hq : ∀ i, i < n -> i ≠ at' -> q i * L at' col % p = L i col % p) (hL : ∀ i, i < n -> ∀ x, x < n -> L' i x % p = (L i x - q i * L at' x) % p) (hT : ∀ i, i < n -> ∀ x, x < n -> T' i x % p = (T i x - q i * T at' x) % p) :
  Half p n M (col + 1) (λk => k = at' ∨ used k) L' T' := by
 have hLat : ∀ x, x < n -> L' at' x % p = L at' x % p := λx hx => by rw [hL _ hat x hx, hq0]; simp
 have hTat : ∀ x, x < n -> T' at' x % p = T at' x % p := λx hx => by rw [hT _ hat x hx, hq0]; simp
 have hzat : ∀ x, x < col -> L at' x % p = 0 := λx hx => h.rest at' hat hu x hx
 have hkeep : ∀ i, i < n -> ∀ x, x < col -> L' i x % p = L i x % p := λi hi x hx => by
  rw [hL i hi x (by omega)];refine (k7 (a' := L i x) (b' := 0) rfl (by rw [z5 _ (hzat x hx)]; simp)).trans (by rw [Int.sub_zero])
 have hcol : ∀ i, i < n -> i ≠ at' -> L' i col % p = 0 := λi hi hne => by
  rw [hL i hi col hc];exact (k7 rfl (hq i hi hne)).trans (by simp)
 refine ⟨λk hk x hx => ?_, λc => ?_, λk hk hu' => ?_, λk hk hu' x hx => ?_⟩
 ·have e1 : zy (λj => T' k j * M j x) n % p = zy (λj => T k j * M j x + -q k * (T at' j * M j x)) n % p := by
   refine yy p λj hj => ?_;rw [xC _ (hT k hk j hj)]
   congr 1
   rw [Int.sub_mul, Int.mul_assoc, Int.neg_mul]; omega
  rw [e1, vN, vO, hL k hk x hx];have e2 : zy (λj => T k j * M j x) n + -q k * zy (λj => T at' j * M j x) n = zy (λj => T k j * M j x) n - q k * zy (λj => T at' j * M j x) n := by rw [Int.neg_mul]; omega
  rw [e2];exact k7 (h.comb k hk x hx) (yz _ (h.comb at' hat x hx))
 ·obtain ⟨d, hd⟩ := h.span c;refine ⟨λk => d k + if k = at' then zy (λi => d i * q i) n else 0, λj hj => ?_⟩;rw [hd j hj]
  have e1 : zy (λk => d k * T k j) n % p = zy (λk => d k * T' k j + T' at' j * (d k * q k)) n % p := by
   refine yy p λk hk => ?_
   have h1 : T k j % p = (T' k j + q k * T' at' j) % p := by
    have h2 := hT k hk j hj;rw [Int.add_emod, h2, Int.mul_emod, hTat j hj, <- Int.mul_emod, <- Int.add_emod]
    congr 1; omega
   rw [yz _ h1]
   congr 1
   rw [Int.mul_add, <- Int.mul_assoc, Int.mul_comm (T' at' j)]
  rw [e1, vN, vO]
  have e2 : zy (λk => (d k + if k = at' then zy (λi => d i * q i) n else 0) * T' k j) n = zy (λk => d k * T' k j + (if k = at' then zy (λi => d i * q i) n * T' k j else 0)) n := by
   refine xj λk _ => ?_;rw [Int.add_mul]; split <;> simp
  rw [e2, vN, xW (k := at') (f := λk => if k = at' then zy (λi => d i * q i) n * T' k j else 0) hat λi _ hne => by simp [hne]];simp [Int.mul_comm]
 ·by_cases hka : k = at'
  ·subst hka;refine ⟨col, by omega, hc, ?_, λk' hk' hne' => hcol k' hk' hne'⟩;rw [hLat col hc]; exact hne
  ·obtain ⟨x, h1, h2, h3, h4⟩ := h.piv k hk (hu'.resolve_left hka);refine ⟨x, by omega, h2, by rw [hkeep k hk x h1]; exact h3, λk' hk' hne' => ?_⟩;rw [hkeep k' hk' x h1]; exact h4 k' hk' hne'
 ·simp only [not_or] at hu'
  by_cases hxc : x = col
  ·subst hxc; exact hcol k hk hu'.1
  ·rw [hkeep k hk x (by omega)]; exact h.rest k hk hu'.2 x (by omega)

theorem Half.free {p : Int} {n : Nat} {M : Nat -> Nat -> Int} {used : Nat -> Prop} {L T : Nat -> Nat -> Int} (h : Half p n M n used L T) {k : Nat} (hk : k < n) (hu : ¬ used k) : ∀ x, x < n -> zy (λj => T k j * M j x) n % p = 0 := λx hx => by
 rw [<- h.comb k hk x hx]; exact h.rest k hk hu x hx

theorem Half.all {p : Int} [Pr p] {n : Nat} {M : Nat -> Nat -> Int} {used : Nat -> Prop} {L T : Nat -> Nat -> Int} (h : Half p n M n used L T) {w : Nat -> Int} (hw : ∀ x, x < n -> zy (λj => w j * M j x) n % p = 0)
  {j : Nat} (hj : j < n) (h0 : ∀ k, k < n -> ¬ used k -> T k j % p = 0) : w j % p = 0 := by
 obtain ⟨d, hd⟩ := h.span w
 have h1 : ∀ x, x < n -> zy (λk => d k * L k x) n % p = 0 := by
  intro x hx
  have e1 : zy (λk => d k * L k x) n % p = zy (λk => zy (λj => d k * (T k j * M j x)) n) n % p := by
   refine yy p λk hk => ?_;rw [vO, yz _ (h.comb k hk x hx)]
  rw [e1, zj4, <- hw x hx];refine yy p λj hj => ?_;rw [xC _ (hd j hj)]
  congr 1
  rw [Int.mul_comm _ (M j x), <- vO];exact xj λk _ => by rw [<- Int.mul_assoc, Int.mul_comm]
 have h2 : ∀ k, k < n -> used k -> d k % p = 0 := by
  intro k hk hu;obtain ⟨x, _, hxn, h3, h4⟩ := h.piv k hk hu;have h5 := h1 x hxn
  rw [yy p (g := λk' => if k' = k then d k * L k x else 0) λk' hk' => by
   by_cases he : k' = k
   ·subst he; simp
   ·rw [z5 _ (h4 k' hk' he)]; simp [he], xW (k := k) hk λi _ hne => by simp [hne]] at h5
  simp only [if_true] at h5
  exact Classical.byContradiction λhne => Pr.mul_ne hne h3 h5
 rw [hd j hj, yy p (g := λ_ => 0) λk hk => by
  by_cases hu : used k
  ·rw [Int.mul_comm, z5 _ (h2 k hk hu)]; simp
  ·rw [z5 _ (h0 k hk hu)]; simp, jD λ_ _ => rfl]
 simp

namespace Poly
variable {p : Int} [SP p]

def z9 (g : Nat -> Poly p) : Nat -> Poly p
 | 0 => 0
 | n + 1 => z9 g n + g n
theorem zik (g : Nat -> Poly p) (n : Nat) : z9 g (n + 1) = g 0 + z9 (λi => g (i + 1)) n := by
 induction n with
 | zero => simp only [z9]; exact zj [g 0] (by rfl)
 | succ n ih => rw [z9, ih, z9]; exact CR.add_assoc _ _ _
theorem zdx {f g : Nat -> Poly p} {n : Nat} (h : ∀ i, i < n -> f i = g i) : z9 f n = z9 g n := by
 induction n with
 | zero => rfl
 | succ n ih => rw [z9, z9, ih λi hi => h i (by omega), h n (by omega)]
theorem zly (a : Poly p) (g : Nat -> Poly p) (n : Nat) : z9 (λi => a * g i) n = a * z9 g n := by
 induction n with
 | zero => simp only [z9]; exact (CR.mul_zero a).symm
 | succ n ih => simp only [z9, ih]; exact (CR.mul_add _ _ _).symm
theorem zg0 (f g : Nat -> Poly p) (n : Nat) : z9 (λi => f i - g i) n = z9 f n - z9 g n := by
 induction n with
 | zero => simp only [z9]; exact (CR.sub_self 0).symm
 | succ n ih => simp only [z9, ih]; exact zj [z9 f n, z9 g n, f n, g n] (by rfl)
theorem zj5 {f : Nat -> Poly p} {n : Nat} (h : ∀ i, i < n -> f i = 0) : z9 f n = 0 := by
 induction n with
 | zero => rfl
 | succ n ih => rw [z9, ih λi hi => h i (by omega), h n (by omega)]; exact CR.add_zero 0
theorem zlz {f : Poly p} {g : Nat -> Poly p} {n : Nat} (h : ∀ i, i < n -> f ∣ g i) : f ∣ z9 g n := by
 induction n with
 | zero => exact dvd_zero _
 | succ n ih => exact dvd_add (ih λi hi => h i (by omega)) (h n (by omega))
theorem zfA (c : Nat -> Int) (g : Nat -> Poly p) (n x : Nat) : cf (z9 (λj => con p (c j) * g j) n).l x = zy (λj => cf (g j).l x * c j) n % p := by
 induction n with
 | zero => rw [z9, y8, zy]; simp
 | succ n ih => rw [z9, yJ, ih, zdm, zy, <- Int.add_emod, Int.mul_comm (c n)]
theorem zmM {g : Nat -> Poly p} {n m : Nat} (h : ∀ i, i < n -> dg (g i) <= m) : dg (z9 g n) <= m := by
 induction n with
 | zero => rw [z9, zt]; omega
 | succ n ih =>
  have h1 := ih λi hi => h i (by omega);have h2 := h n (by omega);have := zll (z9 g n) (g n);rw [z9]; omega

theorem zlA (a : Poly p) (l : List Int) {n : Nat} (h : l.length <= n) : ev a l = z9 (λj => con p (cf l j) * a ^ j) n := by
 induction l generalizing n with
 | nil => exact (zj5 λi _ => by rw [yW, y4]; exact CR.zero_mul _).symm
 | cons c l ih =>
  obtain ⟨m, rfl⟩ : ∃ m, n = m + 1 := ⟨n - 1, by simp at h; omega⟩
  rw [ev, ih (n := m) (by simpa using h), zik, <- zly, yt, zq]
  have : z9 (λi => con p (cf (c :: l) (i + 1)) * a ^ (i + 1)) m = z9 (λi => a * (con p (cf l i) * a ^ i)) m := zdx λi _ => by
   rw [zA, zh]; exact zj [con p (cf l i), a, a^i] (by rfl)
  rw [this]; rw [CR.mul_one]

abbrev X (p : Int) [Pos p] : Poly p := mono p 1 1

noncomputable def kI (f : Poly p) (i : Nat) : Poly p := rem (X p ^ (p.toNat * i)) f - X p ^ i

theorem dg_X (i : Nat) : dg (X p ^ i) <= i + 1 := by
 rw [zdv];exact zad λj hj => by rw [jQ, if_neg (by omega)]

theorem zmN {f : Poly p} {n i : Nat} (hf : dg f = n + 1) (hi : i < n) : dg (kI f i) <= n := by
 have hf0 : f ≠ 0 := λe => by rw [e, zt] at hf; omega
 have h1 := yB (X p ^ (p.toNat * i)) hf0;have h2 := dg_X (p := p) i;have h3 := zdk (rem (X p ^ (p.toNat * i)) f) (X p ^ i);unfold kI; omega

theorem zfB {f w : Poly p} {n : Nat} (hf : dg f = n + 1) (hw : dg w <= n) : Ber f w ↔ ∀ x, x < n -> zy (λj => cf (kI f j).l x * cf w.l j) n % p = 0 := by
 have hf0 : f ≠ 0 := λe => by rw [e, zt] at hf; omega
 have h1 : w ^ p.toNat - w = z9 (λj => con p (cf w.l j) * (X p ^ (p.toNat * j) - X p ^ j)) n := by
  have e1 := zjd (X p) w.l;rw [znu, zlA _ _ hw] at e1;have e2 := znu w;rw [zlA (X p) w.l hw] at e2
  have e3 : z9 (λj => con p (cf w.l j) * (X p ^ p.toNat) ^ j) n - z9 (λj => con p (cf w.l j) * X p ^ j) n = z9 (λj => con p (cf w.l j) * (X p ^ (p.toNat * j) - X p ^ j)) n := by
   rw [<- zg0];exact zdx λj _ => by rw [zjc]; exact zj [con p (cf w.l j), X p ^ j, (X p ^ p.toNat) ^ j] (by rfl)
  rwa [e2, <- e1] at e3
 have h2 : f ∣ (w ^ p.toNat - w) - z9 (λj => con p (cf w.l j) * kI f j) n := by
  rw [h1, <- zg0];refine zlz λj _ => ?_;have := ji (X p ^ (p.toNat * j)) f;unfold kI;exact ⟨con p (cf w.l j) * quo (X p ^ (p.toNat * j)) f, by exact comb (con p (cf w.l j)) this (zj [f, con p (cf w.l j), X p ^ j, X p ^ (p.toNat * j), quo (X p ^ (p.toNat * j)) f, rem (X p ^ (p.toNat * j)) f] (by rfl))⟩
 have h3 : dg (z9 (λj => con p (cf w.l j) * kI f j) n) <= n := zmM λi hi => by
  have h4 := zmN hf hi;have h5 := k6 (con p (cf w.l i)) (kI f i);have h6 := jk (p := p) (cf w.l i);omega
 have h4 : Ber f w ↔ z9 (λj => con p (cf w.l j) * kI f j) n = 0 := by
  unfold Ber
  constructor
  ·intro h;refine Classical.byContradiction λhne => ?_;have h5 := dvd_sub h h2;have e : w ^ p.toNat - w - (w ^ p.toNat - w - z9 (λj => con p (cf w.l j) * kI f j) n) = z9 (λj => con p (cf w.l j) * kI f j) n := by exact zj [w ^ p.toNat, w, z9 (λj => con p (cf w.l j) * kI f j) n] (by rfl)
   rw [e] at h5;have := zD h5 hne;omega
  ·intro h;rw [h] at h2;have e : w ^ p.toNat - w - 0 = w ^ p.toNat - w := by exact zj [w ^ p.toNat, w] (by rfl)
   rwa [e] at h2
 rw [h4]
 constructor
 ·intro h x _;rw [<- zfA, h, y8]
 ·intro h;refine zM λx => ?_;rw [y8];rcases Nat.lt_or_ge x n with hx | hx
  ·rw [zfA]; exact h x hx
  ·exact yj (by omega)

end Poly
namespace Poly
variable {p : Int} [SP p]

def zH (h : Poly p) (e : Nat) (f : Poly p) : Prop := ∃ u, f = h ^ e * u ∧ ¬ h ∣ u

theorem zH.unique {h f : Poly p} (hh : h ≠ 0) {e e' : Nat} (h1 : zH h e f) (h2 : zH h e' f) : e = e' := by
 have key : ∀ {e e' : Nat} {u u' : Poly p}, h ^ e * u = h ^ e' * u' -> ¬ h ∣ u' -> e <= e' := by
  intro e e' u u' he hn;rcases Nat.lt_or_ge e' e with hlt | hge
  ·exfalso
   obtain ⟨k, rfl⟩ : ∃ k, e = e' + k + 1 := ⟨e - e' - 1, by omega⟩
   have hp0 : h ^ e' ≠ 0 := by
    clear he hlt
    induction e' with
    | zero => rw [zq]; exact zfr
    | succ n ih => rw [zh]; exact mul_ne ih hh
   rw [Nat.add_assoc, pow_add] at he;have h3 : h ^ e' * (h ^ (k + 1) * u) = h ^ e' * u' := by exact comb (1) he (zj [u, u', h^e', h^(k+1)] (by rfl))
   have h4 := zaz hp0 h3;exact hn ⟨h ^ k * u, by rw [<- h4, zh]; exact zj [h, u, h^k] (by rfl)⟩
  ·exact hge
 obtain ⟨u, h3, h4⟩ := h1;obtain ⟨u', h5, h6⟩ := h2;exact Nat.le_antisymm (key (h3.symm.trans h5) h6) (key (h5.symm.trans h3) h4)

theorem zH.mul {h f g : Poly p} (hi : Irr h) {e e' : Nat} (h1 : zH h e f) (h2 : zH h e' g) : zH h (e + e') (f * g) := by
 obtain ⟨u, rfl, h4⟩ := h1;obtain ⟨u', rfl, h6⟩ := h2;exact ⟨u * u', by rw [pow_add]; exact zj [u, u', h^e, h^e'] (by rfl), λhd => (hi.prime hd).elim h4 h6⟩
theorem zY {h f : Poly p} : zH h 0 f ↔ ¬ h ∣ f := by
 constructor
 ·rintro ⟨u, rfl, hn⟩;rw [zq];have : 1 * u = u := by exact zj [u] (by rfl)
  rwa [this]
 ·intro hn;exact ⟨f, by rw [zq]; exact zj [f] (by rfl), hn⟩
theorem zH.pow {h f : Poly p} (hi : Irr h) {e : Nat} (h1 : zH h e f) (n : Nat) : zH h (e * n) (f ^ n) := by
 induction n with
 | zero => rw [Nat.mul_zero, zq, zY]; exact hi.not_unit xh
 | succ n ih => rw [Nat.mul_succ, zh]; exact ih.mul hi h1
theorem yK {h : Poly p} (hi : 2 <= dg h) : ∀ (n : Nat) (f : Poly p), f ≠ 0 -> dg f <= n -> ∃ e, zH h e f := by
 intro n
 induction n with
 | zero => intro f hf hn; exact absurd (zd.1 (by omega)) hf
 | succ n ih =>
  intro f hf hn
  by_cases hd : h ∣ f
  ·obtain ⟨q, rfl⟩ := hd;have hh : h ≠ 0 := λe => hf (by rw [e]; exact zj [q] (by rfl));have hq : q ≠ 0 := λe => hf (by rw [e]; exact zj [h] (by rfl));have h1 := yA hh hq;obtain ⟨e, u, h2, h3⟩ := ih q hq (by omega);exact ⟨e + 1, u, by rw [zh, h2]; exact zj [h, u, h^e] (by rfl), h3⟩
  ·exact ⟨0, zY.2 hd⟩
theorem zH.dvd {h f : Poly p} {e : Nat} (h1 : zH h e f) (he : 1 <= e) : h ∣ f := by
 obtain ⟨u, rfl, _⟩ := h1;obtain ⟨n, rfl⟩ : ∃ n, e = n + 1 := ⟨e - 1, by omega⟩
 exact ⟨h ^ n * u, by rw [zh]; exact zj [h, u, h^n] (by rfl)⟩

def ltP (f g : Poly p) : Prop := dg f < dg g ∨ dg f = dg g ∧ ∃ i, cf f.l i < cf g.l i ∧ ∀ j, i < j -> cf f.l j = cf g.l j
theorem zaC {p : Int} (f : Poly p) : ¬ ltP f f := by
 rintro (h | ⟨_, i, h, _⟩) <;> omega
theorem zbH {p : Int} {f g h : Poly p} (h1 : ltP f g) (h2 : ltP g h) : ltP f h := by
 rcases h1 with h1 | ⟨h1, i, hi, hi'⟩ <;> rcases h2 with h2 | ⟨h2, j, hj, hj'⟩
 ·exact .inl (by omega)
 ·exact .inl (by omega)
 ·exact .inl (by omega)
 ·refine .inr ⟨by omega, ?_⟩;rcases Nat.lt_trichotomy i j with h | h | h
  ·exact ⟨j, by rw [hi' j h]; exact hj, λk hk => by rw [hi' k (by omega), hj' k hk]⟩
  ·subst h; exact ⟨i, by omega, λk hk => by rw [hi' k hk, hj' k hk]⟩
  ·exact ⟨i, by rw [<- hj' i h]; exact hi, λk hk => by rw [hi' k hk, hj' k (by omega)]⟩
theorem zeQ {p : Int} {f g : Poly p} (h : f ≠ g) : ltP f g ∨ ltP g f := by
 rcases Nat.lt_trichotomy (dg f) (dg g) with h1 | h1 | h1
 ·exact .inl (.inl h1)
 ·have : ∀ n, n <= dg f -> (∀ j, n <= j -> cf f.l j = cf g.l j) -> ltP f g ∨ ltP g f := by
   intro n
   induction n with
   | zero => intro _ hj; exact absurd (zM λi => hj i (Nat.zero_le _)) h
   | succ n ih =>
    intro hn hj;rcases Int.lt_trichotomy (cf f.l n) (cf g.l n) with h2 | h2 | h2
    ·exact .inl (.inr ⟨h1, n, h2, λj hj' => hj j hj'⟩)
    ·exact ih (by omega) λj hj' => by
      rcases Nat.eq_or_lt_of_le hj' with rfl | h3
      ·exact h2
      ·exact hj j h3
    ·exact .inr (.inr ⟨h1.symm, n, h2, λj hj' => (hj j hj').symm⟩)
  exact this (dg f) (Nat.le_refl _) λj hj => by rw [yj hj, yj (by omega)]
 ·exact .inr (.inl h1)

theorem zeR {α : Type} {lt : α -> α -> Prop} (irr : ∀ a, ¬ lt a a) (tr : ∀ a b c, lt a b -> lt b c -> lt a c) : ∀ {l l' : List α}, l.Pairwise lt -> l'.Pairwise lt -> (∀ x, x ∈ l ↔ x ∈ l') -> l = l'
 | [], [], _, _, _ => rfl
 | [], b :: l', _, _, h => absurd ((h b).2 (by simp)) (by simp)
 | a :: l, [], _, _, h => absurd ((h a).1 (by simp)) (by simp)
 | a :: l, b :: l', h1, h2, h => by
  rw [List.pairwise_cons] at h1 h2
  have hab : a = b := by
   rcases List.mem_cons.1 ((h a).1 (by simp)) with h3 | h3
   ·exact h3
   ·rcases List.mem_cons.1 ((h b).2 (by simp)) with h4 | h4
    ·exact h4.symm
    ·exact absurd (tr _ _ _ (h2.1 a h3) (h1.1 b h4)) (irr b)
  subst hab;rw [zeR irr tr h1.2 h2.2 λx => ?_]
  constructor
  ·intro hx;rcases List.mem_cons.1 ((h x).1 (by simp [hx])) with h3 | h3
   ·subst h3; exact absurd (h1.1 x hx) (irr x)
   ·exact h3
  ·intro hx;rcases List.mem_cons.1 ((h x).2 (by simp [hx])) with h3 | h3
   ·subst h3; exact absurd (h2.1 x hx) (irr x)
   ·exact h3

def kJ (f : Poly p) (x : Poly p × Nat) : Prop := Irr x.1 ∧ Mon x.1 ∧ 1 <= x.2 ∧ zH x.1 x.2 f
def FacOf (f : Poly p) (F : List (Poly p × Nat)) : Prop := F.Pairwise (λx y => ltP x.1 y.1) ∧ ∀ x, x ∈ F ↔ kJ f x
theorem FacOf.unique {f : Poly p} {F F' : List (Poly p × Nat)} (h : FacOf f F) (h' : FacOf f F') : F = F' :=
 zeR (lt := λx y : Poly p × Nat => ltP x.1 y.1) (λx => zaC x.1) (λ_ _ _ h1 h2 => zbH h1 h2) h.1 h'.1 λx => (h.2 x).trans (h'.2 x).symm

def zaD (f : Poly p) (L : List (Poly p)) : Prop := L.Nodup ∧ ∀ h, h ∈ L ↔ (Irr h ∧ Mon h ∧ h ∣ f)

structure Parts (f : Poly p) (L : List (Poly p)) : Prop where
 each : ∀ a ∈ L, Mon a ∧ 2 <= dg a ∧ a ∣ f
 all : ∀ h, Irr h -> h ∣ f -> ∃ a ∈ L, h ∣ a
 apart : L.Pairwise λa b => ∀ h, Irr h -> h ∣ a -> h ∣ b -> False

theorem Parts.start {f : Poly p} (hm : Mon f) (h2 : 2 <= dg f) : Parts f [f] :=
 ⟨by simp [hm, h2, dvd_refl], λh hi hd => ⟨f, by simp, hd⟩, by simp⟩

theorem Parts.irrs {f : Poly p} {L : List (Poly p)} (h : Parts f L) (hi : ∀ a ∈ L, Irr a) : zaD f L := by
 refine ⟨?_, λg => ⟨λhg => ⟨hi g hg, (h.each g hg).1, (h.each g hg).2.2⟩, λ⟨h1, h2, h3⟩ => ?_⟩⟩
 ·have : L.Pairwise λa b => a ∈ L -> a ≠ b := h.apart.imp λ{a b} hab ha (he : a = b) => hab a (hi a ha) (dvd_refl a) (by rw [<- he]; exact dvd_refl a);exact List.pairwise_iff_getElem.2 λi j hi' hj' hij => (List.pairwise_iff_getElem.1 this i j hi' hj' hij) (List.getElem_mem _)
 ·obtain ⟨a, ha, hd⟩ := h.all g h1 h3;rw [kF h1 (hi a ha) h2 (h.each a ha).1 hd]; exact ha

noncomputable def zef (v a : Poly p) (s : Nat) : List (Poly p) := if 2 <= dg (gcd a (v - con p (s : Int))) then [gcd a (v - con p (s : Int))] else []
noncomputable def yP (v a : Poly p) (n : Nat) : List (Poly p) := (List.range n).flatMap (zef v a)
noncomputable def zE (v : Poly p) (L : List (Poly p)) : List (Poly p) := L.flatMap λa => yP v a p.toNat

theorem za5 {v a g : Poly p} {n : Nat} : g ∈ yP v a n ↔ ∃ s, s < n ∧ 2 <= dg (gcd a (v - con p (s : Int))) ∧ g = gcd a (v - con p (s : Int)) := by
 simp only [yP, List.mem_flatMap, List.mem_range, zef]
 constructor
 ·rintro ⟨s, h1, h2⟩
  split at h2
  ·rename_i h3; simp at h2; exact ⟨s, h1, h3, h2⟩
  ·cases h2
 ·rintro ⟨s, h1, h2, h3⟩;exact ⟨s, h1, by rw [if_pos h2]; simp [h3]⟩

theorem zlB {h v : Poly p} (hi : Irr h) {s t : Nat} (hs : (s : Int) < p) (ht : (t : Int) < p) (h1 : h ∣ v - con p (s : Int)) (h2 : h ∣ v - con p (t : Int)) : s = t := by
 have := zij hi.1 h1 h2;rw [Int.emod_eq_of_lt (by omega) hs, Int.emod_eq_of_lt (by omega) ht] at this;omega

theorem zeS {v a : Poly p} {n : Nat} (hn : (n : Int) <= p) : (yP v a n).Pairwise λx y => ∀ h, Irr h -> h ∣ x -> h ∣ y -> False := by
 induction n with
 | zero => simp [yP]
 | succ n ih =>
  have e : yP v a (n + 1) = yP v a n ++ zef v a n := by simp [yP, List.range_succ]
  rw [e, List.pairwise_append];refine ⟨ih (by omega), ?_, λx hx y hy h hi h1 h2 => ?_⟩
  ·unfold zef; split <;> simp
  ·obtain ⟨s, hs, _, rfl⟩ := za5.1 hx;unfold zef at hy
   split at hy
   ·simp at hy; subst hy
    have := zlB (p := p) hi (s := s) (t := n) (by omega) (by omega) (zp h1 (xn _ _)) (zp h2 (xn _ _));omega
   ·cases hy

theorem zmO {v a h : Poly p} (hv : Ber h v) (hi : Irr h) (hd : h ∣ a) (ha : a ≠ 0) : ∃ g ∈ yP v a p.toNat, h ∣ g := by
 obtain ⟨s, h1, h2, h3⟩ := zmL hi hv;have h4 := zja hd h3;have hm := za2 (f := a) (g := v - con p s) (.inl ha);have h5 := zD h4 hm.1;have h6 := hi.1;have e : ((s.toNat : Nat) : Int) = s := by omega
 refine ⟨_, za5.2 ⟨s.toNat, by omega, ?_, rfl⟩, ?_⟩
 ·rw [e]; omega
 ·rw [e]; exact h4

theorem Parts.cut {f v : Poly p} {L : List (Poly p)} (h : Parts f L) (hv : Ber f v) : Parts f (zE v L) ∧ ∀ a' ∈ zE v L, (∃ s : Int, a' ∣ v - con p s) ∧ ∃ a ∈ L, a' ∣ a := by
 have hmem : ∀ a' ∈ zE v L, ∃ a ∈ L, ∃ s : Nat, 2 <= dg a' ∧ a' = gcd a (v - con p (s : Int)) := by
  intro a' ha';obtain ⟨a, ha, hg⟩ := List.mem_flatMap.1 ha';obtain ⟨s, _, h2, rfl⟩ := za5.1 hg;exact ⟨a, ha, s, h2, rfl⟩
 refine ⟨⟨λa' ha' => ?_, λq hq hd => ?_, ?_⟩, λa' ha' => ?_⟩
 ·obtain ⟨a, ha, s, h2, rfl⟩ := hmem a' ha';exact ⟨za2 (.inl (h.each a ha).1.1), h2, zp (xB _ _) (h.each a ha).2.2⟩
 ·obtain ⟨a, ha, hqa⟩ := h.all q hq hd;obtain ⟨g, hg, hqg⟩ := zmO (hv.dvd hd) hq hqa (h.each a ha).1.1;exact ⟨g, List.mem_flatMap.2 ⟨a, ha, hg⟩, hqg⟩
 ·unfold zE;rw [List.pairwise_flatMap];refine ⟨λa _ => zeS (by have := Pr.two (p := p); omega), h.apart.imp λ{a b} hab x hx y hy q hq h1 h2 => ?_⟩;obtain ⟨s, _, _, rfl⟩ := za5.1 hx;obtain ⟨t, _, _, rfl⟩ := za5.1 hy;exact hab q hq (zp h1 (xB _ _)) (zp h2 (xB _ _))
 ·obtain ⟨a, ha, s, h2, rfl⟩ := hmem a' ha';exact ⟨⟨s, xn _ _⟩, a, ha, xB _ _⟩

end Poly

theorem zg1 (n m : Int) (hm : 0 < m) : (n.tmod m + m).tmod m = n % m := by
 have h1 := Int.lt_tmod_of_pos n hm;rw [Int.tmod_eq_emod_of_nonneg (by omega), Int.add_emod_right];rw [Int.tmod_eq_emod]
 split
 ·simp
 ·rw [show (m.natAbs : Int) = m by omega, Int.sub_emod, Int.emod_self]; simp

abbrev isP (p : Int) : Bool := decide (p ∈ yX)

theorem zil : (List.range 98).all (λn => decide ((n : Int) ∈ yX) == (decide (2 <= n) && (List.range 10).all λd => !(decide (2 <= d ∧ d * d <= n ∧ n % d = 0)))) = true := by decide +kernel
theorem jX {n : Int} (h : n <= 97) : n ∈ yX ↔ 2 <= n ∧ ∀ d : Int, 2 <= d -> d * d <= n -> n % d ≠ 0 := by
 rcases Int.lt_or_le n 2 with h2 | h2
 ·constructor
  ·intro hm;have := List.all_eq_true.1 zaB n hm;simp only [decide_eq_true_eq] at this
   omega
  ·intro h3; omega
 ·obtain ⟨k, rfl⟩ : ∃ k : Nat, n = k := ⟨n.toNat, by omega⟩
  have h3 := List.all_eq_true.1 zil k (List.mem_range.2 (by omega));simp only [beq_iff_eq] at h3
  have h4 : ((k : Int) ∈ yX) ↔ decide ((k : Int) ∈ yX) = true := by simp
  rw [h4, h3];simp only [Bool.and_eq_true, decide_eq_true_eq, List.all_eq_true, List.mem_range, Bool.not_eq_true', decide_eq_false_iff_not, not_and]
  constructor
  ·rintro ⟨h5, h6⟩;refine ⟨h2, λd hd hdd hr => ?_⟩
   have h9 : d < 10 := by
    rcases Int.lt_or_le d 10 with h | h
    ·exact h
    ·have : 10 * 10 <= d * d := Int.mul_le_mul h h (by omega) (by omega);omega
   obtain ⟨m, rfl⟩ : ∃ m : Nat, d = m := ⟨d.toNat, by omega⟩
   refine h6 m (by omega) (by omega) (by exact_mod_cast hdd) ?_;omega
  ·rintro ⟨_, h6⟩;refine ⟨by omega, λd hd h7 h8 h9 => h6 d (by omega) (by exact_mod_cast h8) (by omega)⟩
theorem jE {n : Int} (h : n ∈ yX) : 2 <= n ∧ n <= 97 := by
 have := List.all_eq_true.1 zaB n h
 simpa using this

structure Bz (a b r x y s u v : Int) : Prop where
 r0 : 0 <= r
 s0 : 0 <= s
 e1 : a * x + b * y = r
 e2 : a * u + b * v = s
 g : ∀ d : Int, (d ∣ a ∧ d ∣ b) ↔ (d ∣ r ∧ d ∣ s)
 bd : ∃ ε X U Y V : Int, (ε = 1 ∨ ε = -1) ∧ 0 <= X ∧ 0 <= U ∧ 0 <= Y ∧ 0 <= V ∧ x = ε * X ∧ u = -(ε * U) ∧ y = -(ε * Y) ∧ v = ε * V ∧ U * r + X * s = b ∧ V * r + Y * s = a

theorem Bz.start {a b : Int} (ha : 0 <= a) (hb : 0 <= b) : Bz a b a 1 0 b 0 1 :=
 ⟨ha, hb, by omega, by omega, λ_ => Iff.rfl, 1, 1, 0, 0, 1, .inl rfl, by omega, by omega, by omega, by omega, by omega, by omega, by omega, by omega, by omega, by omega⟩

theorem jF {q s r : Int} (hs : 1 <= s) (hq : 0 <= q) (h : q * s <= r) : q <= r := by
 have : q * 1 <= q * s := Int.mul_le_mul_of_nonneg_left hs hq;omega

structure BzB (a b r x y s u v q : Int) : Prop where
 q0 : 0 <= q
 qr : q <= r
 qs : 0 <= q * s ∧ q * s <= r
 qu : -b <= q * u ∧ q * u <= b
 qv : -a <= q * v ∧ q * v <= a
 bx : -b <= x ∧ x <= b
 by' : -a <= y ∧ y <= a
 nx : -b <= x - q * u ∧ x - q * u <= b
 ny : -a <= y - q * v ∧ y - q * v <= a

theorem k8 {ε z B : Int} (he : ε = 1 ∨ ε = -1) (h0 : 0 <= z) (h : z <= B) : -B <= ε * z ∧ ε * z <= B := by
 rcases he with rfl | rfl <;> omega
theorem Bz.step {a b r x y s u v : Int} (h : Bz a b r x y s u v) (hs : s ≠ 0) : BzB a b r x y s u v (r / s) ∧ Bz a b s u v (r - r / s * s) (x - r / s * u) (y - r / s * v) := by
 obtain ⟨h1, h2, h3, h4, h5, ε, X, U, Y, V, he, hX, hU, hY, hV, rfl, rfl, rfl, rfl, h6, h7⟩ := h;have hs1 : 1 <= s := by omega
 have hm := Int.emod_nonneg r hs;have hm2 := Int.emod_lt_of_pos r (show 0 < s by omega);have hd : r = r / s * s + r % s := by have := Int.mul_ediv_add_emod r s; rw [Int.mul_comm] at this; omega
 have hq : 0 <= r / s := Int.ediv_nonneg h1 h2;generalize hqq : r / s = q at *;generalize hrr : r % s = r' at *;have hqs0 : 0 <= q * s := Int.mul_nonneg hq h2;have hqs : q * s <= r := by omega
 have hUr : 0 <= U * r := Int.mul_nonneg hU h1;have hVr : 0 <= V * r := Int.mul_nonneg hV h1;have hXs : 0 <= X * s := Int.mul_nonneg hX h2;have hYs : 0 <= Y * s := Int.mul_nonneg hY h2;have hXb : X <= b := jF (s := s) hs1 hX (by omega);have hYa : Y <= a := jF (s := s) hs1 hY (by omega);have hqU : 0 <= q * U := Int.mul_nonneg hq hU;have hqV : 0 <= q * V := Int.mul_nonneg hq hV
 have k1 : q * U * s <= U * r := by
  have : U * (q * s) <= U * r := Int.mul_le_mul_of_nonneg_left hqs hU;have e : q * U * s = U * (q * s) := by rw [Int.mul_comm q U, Int.mul_assoc]
  omega
 have k2 : q * V * s <= V * r := by
  have : V * (q * s) <= V * r := Int.mul_le_mul_of_nonneg_left hqs hV;have e : q * V * s = V * (q * s) := by rw [Int.mul_comm q V, Int.mul_assoc]
  omega
 have hXU : X + q * U <= b := jF (s := s) hs1 (by omega) (by rw [Int.add_mul]; omega);have hYV : Y + q * V <= a := jF (s := s) hs1 (by omega) (by rw [Int.add_mul]; omega);have e1 : q * -(ε * U) = -(ε * (q * U)) := by rw [Int.mul_neg, <- Int.mul_assoc, Int.mul_comm q ε, Int.mul_assoc]
 have e2 : q * (ε * V) = ε * (q * V) := by rw [<- Int.mul_assoc, Int.mul_comm q ε, Int.mul_assoc]
 have e3 : ε * X - q * -(ε * U) = ε * (X + q * U) := by rw [e1, Int.mul_add]; omega
 have e4 : -(ε * Y) - q * (ε * V) = -(ε * (Y + q * V)) := by rw [e2, Int.mul_add]; omega
 refine ⟨⟨hq, jF hs1 hq hqs, ⟨hqs0, hqs⟩, ?_, ?_, k8 he hX hXb, ?_, ?_, ?_⟩, h2, by omega, h4, ?_, λd => ?_, -ε, U, X + q * U, V, Y + q * V, by omega, hU, by omega, hV, by omega, ?_, ?_, ?_, ?_, ?_, ?_⟩
 ·rw [e1]; have := k8 he hqU (show q * U <= b by omega); omega
 ·rw [e2]; exact k8 he hqV (show q * V <= a by omega)
 ·have := k8 he hY hYa; omega
 ·rw [e3]; exact k8 he (by omega) hXU
 ·rw [e4]; have := k8 he (by omega) hYV; omega
 ·rw [Int.mul_sub, Int.mul_sub];have i1 : a * (q * -(ε * U)) = q * (a * -(ε * U)) := by rw [<- Int.mul_assoc, Int.mul_comm a q, Int.mul_assoc]
  have i2 : b * (q * (ε * V)) = q * (b * (ε * V)) := by rw [<- Int.mul_assoc, Int.mul_comm b q, Int.mul_assoc]
  have i3 : q * (a * -(ε * U)) + q * (b * (ε * V)) = q * s := by rw [<- Int.mul_add, h4]
  omega
 ·rw [h5 d]
  constructor
  ·rintro ⟨h8, h9⟩; exact ⟨h9, Int.dvd_sub h8 (Int.dvd_mul_of_dvd_right h9)⟩
  ·rintro ⟨h8, h9⟩;refine ⟨?_, h8⟩;have := Int.dvd_add h9 (Int.dvd_mul_of_dvd_right h8 (b := q))
   rwa [show r - q * s + q * s = r by omega] at this
 ·rw [Int.neg_mul]
 ·rw [Int.neg_mul, e3]; omega
 ·rw [Int.neg_mul]; omega
 ·rw [Int.neg_mul, e4]
 ·rw [Int.add_mul, Int.mul_sub];have : U * (q * s) = q * U * s := by rw [Int.mul_comm q U, Int.mul_assoc]
  omega
 ·rw [Int.add_mul, Int.mul_sub];have : V * (q * s) = q * V * s := by rw [Int.mul_comm q V, Int.mul_assoc]
  omega
theorem Bz.fin {a b r x y u v : Int} (h : Bz a b r x y 0 u v) : a * x + b * y = r ∧ 0 <= r ∧ r ∣ a ∧ r ∣ b := by
 have := (h.g r).2 ⟨Int.dvd_refl r, Int.dvd_zero r⟩;exact ⟨h.e1, h.r0, this.1, this.2⟩

def xk (m a : Int) : Int := (((List.range m.toNat).find? λb : Nat => a * (b : Int) % m == 1 % m).getD 0 : Nat)
theorem zfC {m a x : Int} (hm : 0 < m) (h : a * x % m = 1 % m) : xk m a = x % m := by
 unfold xk;have h0 := Int.emod_nonneg x (show m ≠ 0 by omega);have h1 := Int.emod_lt_of_pos x hm;cases hf : (List.range m.toNat).find? λb : Nat => a * (b : Int) % m == 1 % m with
 | none =>
  exfalso
  rw [List.find?_eq_none] at hf;have h2 := hf (x % m).toNat (List.mem_range.2 (by omega));simp only [beq_iff_eq] at h2
  rw [show ((x % m).toNat : Int) = x % m by omega, Int.mul_emod, Int.emod_emod_of_dvd _ (Int.dvd_refl m), <- Int.mul_emod] at h2;exact h2 h
 | some b =>
  have h2 := List.find?_some hf;have h3 := List.mem_range.1 (List.mem_of_find?_eq_some hf);simp only [beq_iff_eq] at h2
  simp only [Option.getD_some]
  -- both are inverses
  have h4 : a * b * x % m = (b : Int) % m := by
   rw [Int.mul_assoc, Int.mul_comm (b : Int) x, <- Int.mul_assoc, Int.mul_emod, h, <- Int.mul_emod, Int.one_mul]
  have h5 : a * b * x % m = x % m := by
   rw [Int.mul_emod, h2, <- Int.mul_emod, Int.one_mul]
  rw [<- h5, h4, Int.emod_eq_of_lt (by omega) (by omega)]
theorem xN {p a : Int} [Pr p] (h : a % p ≠ 0) : 0 <= xk p a ∧ xk p a < p ∧ a * xk p a % p = 1 := by
 have hp := Pr.two (p := p);obtain ⟨b, hb⟩ := Pr.inv (p := p) a h;have h1 : (1 : Int) % p = 1 := Int.emod_eq_of_lt (by omega) (by omega);rw [zfC (m := p) (x := b) (by omega) (by rw [hb, h1])];refine ⟨Int.emod_nonneg _ (by omega), Int.emod_lt_of_pos _ (by omega), ?_⟩;rw [Int.mul_emod, Int.emod_emod_of_dvd _ (Int.dvd_refl p), <- Int.mul_emod, hb]
theorem zlC {p a : Int} [Pr p] (h : a % p ≠ 0) : xk p (a % p) = xk p a := by
 have hp := Pr.two (p := p);obtain ⟨h1, h2, h3⟩ := xN h;rw [zfC (m := p) (x := xk p a) (by omega), Int.emod_eq_of_lt h1 h2];rw [Int.mul_emod, Int.emod_emod_of_dvd _ (Int.dvd_refl p), <- Int.mul_emod, h3, Int.emod_eq_of_lt (by omega) (by omega)]

theorem zeg {p a r : Int} [Pr p] (ha : a % p ≠ 0) (h0 : 0 <= r) (h1 : r ∣ a) (h2 : r ∣ p) : r = 1 := by
 obtain ⟨c, rfl⟩ := h1;obtain ⟨d, hd⟩ := h2;have hp := Pr.two (p := p)
 -- r is a unit by p, so p divides d, so r = 1
 by_cases hr : r % p = 0
 ·exact absurd (by rw [Int.mul_emod, hr]; simp) ha
 ·obtain ⟨b, hb⟩ := Pr.inv (p := p) r hr
  have h3 : d % p = 0 := by
   have h4 : r * b * d % p = d % p := by rw [Int.mul_emod, hb, Int.one_mul, Int.emod_emod_of_dvd _ (Int.dvd_refl p)]
   rw [<- h4, show r * b * d = p * b by rw [Int.mul_assoc, Int.mul_comm b d, <- Int.mul_assoc, <- hd]];exact Int.mul_emod_right p b
  obtain ⟨k, hk⟩ := Int.dvd_of_emod_eq_zero h3;rw [hk, <- Int.mul_assoc, Int.mul_comm r p, Int.mul_assoc] at hd
  have h5 : r * k = 1 := by
   have : p * (r * k) = p * 1 := by omega
   exact Int.eq_of_mul_eq_mul_left (by omega) this
  have hr1 : r ≠ 0 := λh => by rw [h, Int.zero_mul] at h5; omega
  have hk1 : 1 <= k := by
   rcases Int.lt_or_le k 1 with h | h
   ·have : r * k <= r * 0 := Int.mul_le_mul_of_nonneg_left (by omega) h0;omega
   ·exact h
  have : r * 1 <= r * k := Int.mul_le_mul_of_nonneg_left hk1 h0;omega
theorem Bz.inv {p a r x y u v : Int} [Pr p] (ha : a % p ≠ 0) (h : Bz a p r x y 0 u v) : x % p = xk p a := by
 have hp := Pr.two (p := p);obtain ⟨h1, h2, h3, h4⟩ := h.fin;have hr := zeg ha h2 h3 h4;subst hr;refine (zfC (m := p) (by omega) ?_).symm;have : a * x = 1 + p * -y := by rw [Int.mul_neg]; omega
 rw [this, Int.add_mul_emod_self_left]


theorem yu {l : List Int} {i : Nat} (h : i < l.length) (x : Int) (j : Nat) : cf (l.set i x) j = if j = i then x else cf l j := by
 unfold cf;simp only [List.getD_eq_getElem?_getD, List.getElem?_set]
 by_cases hj : i = j
 ·subst hj; simp [h]
 ·simp [hj, Ne.symm hj]
theorem zI (n : Nat) (j : Nat) : cf (List.replicate n 0) j = 0 := by
 unfold cf;simp only [List.getD_eq_getElem?_getD, List.getElem?_replicate]
 split <;> rfl
theorem zje (l : List Int) (n j : Nat) : cf (l.take n) j = if j < n then cf l j else 0 := by
 unfold cf;simp only [List.getD_eq_getElem?_getD, List.getElem?_take]
 split <;> rfl
theorem zmP (l : List Int) (n j : Nat) : cf (l.drop n) j = cf l (n + j) := by
 unfold cf;simp only [List.getD_eq_getElem?_getD, List.getElem?_drop]
theorem zdy {l m : List Int} (h : l.length = m.length) (he : ∀ j, j < l.length -> cf l j = cf m j) : l = m := by
 apply List.ext_getElem h;intro j h1 h2;have := he j h1
 rwa [v6 h1, v6 h2] at this
theorem zlD {l : List Int} {j : Nat} (h : j < l.length) : cf l j ∈ l := by rw [v6 h]; exact List.getElem_mem h

theorem kK {l m : List Int} (h : ∀ j, cf l j = cf m j) : zx l = zx m :=
 yx (xf l) (xf m) λj => by rw [xz, xz, h]
theorem zcC {l : List Int} {n : Nat} (hn : n <= l.length) (h0 : ∀ j, n <= j -> cf l j = 0) (h : n = 0 ∨ cf l (n - 1) ≠ 0) : l.take n = zx l := by
 refine yx ?_ (xf l) λj => ?_
 ·intro m hm;rw [List.length_take, Nat.min_eq_left hn] at hm;subst hm;rw [zje, if_pos (by omega)];rcases h with h | h
  ·omega
  ·exact h
 ·rw [zje, xz]
  split
  ·rfl
  ·exact (h0 j (by omega)).symm
theorem zj6 : zx [] = [] := rfl

def Bd (M : Int) (l : List Int) : Prop := ∀ j, -M <= cf l j ∧ cf l j <= M
theorem Bd.trim {M : Int} {l : List Int} (h : Bd M l) : Bd M (zx l) := λj => by rw [xz]; exact h j
namespace Poly
variable {p : Int} [SP p]
theorem kL (f : Poly p) (j : Nat) : 0 <= cf f.l j ∧ cf f.l j < p := by
 have hp := Pr.two (p := p)
 by_cases hj : j < f.l.length
 ·exact f.ok.1 _ (zlD hj)
 ·rw [z1 (by omega)]; omega
theorem kM (f : Poly p) : Bd 97 f.l := λj => by
 have h := kL f j; have := SP.le (p := p); omega
end Poly

theorem znb {A B : Int} (hA : 0 <= A) (hB : 0 <= B) {n : Nat} (f g : Nat -> Int) (hf : ∀ j, -A <= f j ∧ f j <= A) (hf0 : ∀ j, n <= j -> f j = 0) (hg : ∀ j, -B <= g j ∧ g j <= B) :
  ∀ k, -((n : Int) * (A * B)) <= cv f g k ∧ cv f g k <= (n : Int) * (A * B) := by
 have hAB : 0 <= A * B := Int.mul_nonneg hA hB
 have hm : ∀ i j, -(A * B) <= f i * g j ∧ f i * g j <= A * B := by
  intro i j;have h1 := hf i;have h2 := hg j
  have e1 : (f i * g j).natAbs <= (A * B).natAbs := by
   rw [Int.natAbs_mul, Int.natAbs_mul];exact Nat.mul_le_mul (by omega) (by omega)
  omega
 intro k
 induction n generalizing f k with
 | zero =>
  have : cv f g k = 0 := ye λi _ => hf0 i (Nat.zero_le _);rw [this]; simp
 | succ n ih =>
  have e : ((n + 1 : Nat) : Int) * (A * B) = (n : Int) * (A * B) + A * B := by rw [Int.natCast_add, Int.add_mul]; simp
  rw [e];have hn : 0 <= (n : Int) * (A * B) := Int.mul_nonneg (by omega) hAB;cases k with
  | zero =>
   have := hm 0 0;simp only [cv]; omega
  | succ k =>
   have h1 := ih (λi => f (i + 1)) (λj => hf (j + 1)) (λj hj => hf0 (j + 1) (by omega)) (λi j => hm (i + 1) j) k;have h2 := hm 0 (k + 1);have h3 : cv f g (k + 1) = f 0 * g (k + 1) + cv (λi => f (i + 1)) g k := rfl;rw [h3]; omega

def part (f g : Nat -> Int) (i k j : Nat) : Int := cv (λx => if x < i then f x else 0) g j + (if i <= j ∧ j < i + k then f i * g (j - i) else 0)
theorem zj7 (c : Int) (i : Nat) (g : Nat -> Int) (j : Nat) : cv (λx => if x = i then c else 0) g j = if i <= j then c * g (j - i) else 0 := Poly.cv_mono c i g j
theorem zg2 {f g : Nat -> Int} {m : Nat} (hg : ∀ j, m <= j -> g j = 0) (i j : Nat) : part f g i m j = part f g (i + 1) 0 j := by
 unfold part;rw [if_neg (show ¬ (i + 1 <= j ∧ j < i + 1 + 0) by omega), Int.add_zero]
 have e : (λx => if x < i + 1 then f x else 0) = λx => (if x < i then f x else 0) + (if x = i then f i else 0) := by
  funext x
  by_cases h : x < i
  ·rw [if_pos h, if_pos (by omega), if_neg (by omega)]; omega
  ·by_cases h2 : x = i
   ·subst h2; rw [if_pos (by omega), if_neg h, if_pos rfl]; omega
   ·rw [if_neg (by omega), if_neg h, if_neg h2]; rfl
 rw [e, zfp, zj7]
 congr 1
 by_cases h : i <= j
 ·rw [if_pos h]
  by_cases h2 : j < i + m
  ·rw [if_pos ⟨h, h2⟩]
  ·rw [if_neg (by omega), hg _ (by omega), Int.mul_zero]
 ·rw [if_neg (by omega), if_neg h]
theorem zdz (f g : Nat -> Int) (j : Nat) : part f g 0 0 j = 0 := by
 unfold part;rw [if_neg (by omega), ye λi _ => by simp]; rfl
theorem zbI (f g : Nat -> Int) (i k j : Nat) : part f g i (k + 1) j = if j = i + k then part f g i k j + f i * g k else part f g i k j := by
 unfold part
 by_cases h : j = i + k
 ·subst h;rw [if_pos rfl, if_pos ⟨by omega, by omega⟩, if_neg (by omega), show i + k - i = k by omega]; omega
 ·rw [if_neg h]
  congr 1
  by_cases h2 : i <= j ∧ j < i + k
  ·rw [if_pos h2, if_pos ⟨h2.1, by omega⟩]
  ·rw [if_neg h2, if_neg (by omega)]
theorem zg3 {f g : Nat -> Int} {n : Nat} (hf : ∀ j, n <= j -> f j = 0) (j : Nat) : part f g n 0 j = cv f g j := by
 unfold part;rw [if_neg (by omega), Int.add_zero]
 congr 1
 funext x
 split
 ·rfl
 ·exact (hf x (by omega)).symm
theorem zjf {A B : Int} (hA : 0 <= A) (hB : 0 <= B) {f g : Nat -> Int} (hf : ∀ j, -A <= f j ∧ f j <= A) (hg : ∀ j, -B <= g j ∧ g j <= B) (i k j : Nat) :
  -(((i : Int) + 1) * (A * B)) <= part f g i k j ∧ part f g i k j <= ((i : Int) + 1) * (A * B) := by
 have h1 := znb hA hB (n := i) (λx => if x < i then f x else 0) g (λj => by split; exact hf j; omega) (λj hj => if_neg (by omega)) hg j;have hAB : 0 <= A * B := Int.mul_nonneg hA hB
 have h2 : -(A * B) <= f i * g (j - i) ∧ f i * g (j - i) <= A * B := by
  have h1 := hf i;have h2 := hg (j - i)
  have e1 : (f i * g (j - i)).natAbs <= (A * B).natAbs := by
   rw [Int.natAbs_mul, Int.natAbs_mul];exact Nat.mul_le_mul (by omega) (by omega)
  omega
 unfold part;rw [Int.add_mul, Int.one_mul]
 split <;> omega

theorem zae (f : Int -> Int) {xs : List Int} {i : Nat} (h : i < xs.length) : (xs.take (i + 1)).map f = (xs.take i).map f ++ [f (xs.getD i 0)] := by
 rw [List.take_add_one, List.map_append, List.getElem?_eq_getElem h, List.getD_eq_getElem?_getD, List.getElem?_eq_getElem h]; rfl

theorem za6 (n : Nat) (f : Nat -> Int) : mkL (n + 1) f = mkL n f ++ [f n] := by simp [mkL, List.range_succ]
theorem zg4 {out f g : List Int} (h : ∀ j, cf out j = cf f j + cf g j) : zx out = zx (kC f g) := kK λj => by rw [h, v7]
theorem zg5 {out f g : List Int} (h : ∀ j, cf out j = cv (cf f) (cf g) j) : zx out = zx (jP f g) := kK λj => by rw [h, zcx]
theorem za7 {f g : List Int} (h : f = [] ∨ g = []) : zx (jP f g) = [] := by
 rw [<- zj6];refine kK λj => ?_;rw [zcx, yW];rcases h with rfl | rfl
 ·exact ye λi _ => yW i
 ·rw [k0]; exact ye λi _ => yW i
theorem zdA (p : Int) (l : List Int) : nrm p (zx l) = nrm p l := yx (jB _ _) (jB _ _) λj => by rw [zbF, zbF, xz]

theorem zfD {p : Int} {l : List Int} (h : ∀ j, 0 <= cf l j ∧ cf l j < p) : nrm p l = zx l :=
 yx (jB p l) (xf l) λj => by rw [zbF, xz, Int.emod_eq_of_lt (h j).1 (h j).2]

namespace Poly
variable {p : Int} [SP p]

structure DivI (p : Int) [SP p] (F G : Poly p) (nq k : Nat) (r q : List Int) : Prop where
 rl : r.length = dg F
 ql : q.length = nq
 eq : F = of p q * G + of p r
 z : ∀ j, k + dg G <= j + 1 -> cf r j = 0
 rr : ∀ j, 0 <= cf r j ∧ cf r j < p
 qr : ∀ j, 0 <= cf q j ∧ cf q j < p
 qz : ∀ j, j < k -> cf q j = 0

theorem DivI.start (F G : Poly p) {nq : Nat} (h : dg F + 1 <= nq + dg G) : DivI p F G nq nq F.l (List.replicate nq 0) := by
 have hp := Pr.two (p := p);refine ⟨rfl, by simp, ?_, λj hj => yj (by omega), λj => kL F j, λj => by rw [zI]; omega, λj _ => zI _ _⟩;have h0 : of p (List.replicate nq 0) = (0 : Poly p) := zM λi => by rw [ym, zI, y8]; simp
 rw [h0, of_l];exact zj [F, G] (by rfl)

theorem DivI.step {F G : Poly p} {nq k : Nat} {r q r' : List Int} (h : DivI p F G nq (k + 1) r q) (hG : G ≠ 0) (hk : k < nq) (c : Int) (hc : c = cf r (k + dg G - 1) * xk p (cf G.l (dg G - 1)) % p)
  (hl : r'.length = r.length) (hr : ∀ j, cf r' j = if k <= j ∧ j < k + dg G then (cf r j - c * cf G.l (j - k)) % p else cf r j) : DivI p F G nq k r' (q.set k c) := by
 have hp := Pr.two (p := p);have hm : dg G ≠ 0 := λe => hG (zd.1 e);have hcr : 0 <= c ∧ c < p := by rw [hc]; exact ⟨Int.emod_nonneg _ (by omega), Int.emod_lt_of_pos _ (by omega)⟩
 have hql := h.ql;have hlead : cf G.l (dg G - 1) % p ≠ 0 := ya (yO (by omega));have hinv := (xN (p := p) hlead).2.2
 have e1 : of p (q.set k c) = of p q + mono p c k := zM λi => by
  rw [ym, yJ, ym, jQ, yu (by omega)]
  by_cases hi : i = k
  ·subst hi; rw [if_pos rfl, if_pos rfl, h.qz i (by omega)]; simp
  ·rw [if_neg hi, if_neg hi]; simp
 have e2 : of p r' = of p r - mono p c k * G := zM λi => by
  rw [ym, zax, ym, v8, hr]
  by_cases hi : k <= i
  ·rw [if_pos hi]
   by_cases hi2 : i < k + dg G
   ·rw [if_pos ⟨hi, hi2⟩];rw [Int.emod_emod_of_dvd _ (Int.dvd_refl p), <- Int.sub_emod]
   ·rw [if_neg (by omega), yj (f := G) (by omega)]; simp
  ·rw [if_neg (by omega), if_neg hi]; simp
 refine ⟨by rw [hl, h.rl], by simpa using hql, ?_, λj hj => ?_, λj => ?_, λj => ?_, λj hj => ?_⟩
 ·rw [e1, e2];exact comb 1 h.eq (zj [F, G, of p q, of p r, mono p c k] (by rfl))
 ·rw [hr]
  by_cases hj2 : j < k + dg G
  ·obtain rfl : j = k + dg G - 1 := by omega
   rw [if_pos (by omega), show k + dg G - 1 - k = dg G - 1 by omega, hc];generalize cf r (k + dg G - 1) = a;generalize xk p (cf G.l (dg G - 1)) = v at hinv;generalize cf G.l (dg G - 1) = l at hinv;rw [Int.sub_emod, Int.mul_emod (a * v % p), Int.emod_emod_of_dvd _ (Int.dvd_refl p), <- Int.mul_emod, show a * v * l = a * (l * v) by rw [Int.mul_assoc, Int.mul_comm v l], Int.mul_emod a, hinv, Int.mul_one, Int.emod_emod_of_dvd _ (Int.dvd_refl p)];simp
  ·rw [if_neg (by omega)]; exact h.z j (by omega)
 ·rw [hr]
  split
  ·exact ⟨Int.emod_nonneg _ (by omega), Int.emod_lt_of_pos _ (by omega)⟩
  ·exact h.rr j
 ·rw [yu (by omega)]
  split
  ·exact hcr
  ·exact h.qr j
 ·rw [yu (by omega), if_neg (by omega)];exact h.qz j (by omega)

theorem DivI.fin {F G : Poly p} {nq : Nat} {r q : List Int} (h : DivI p F G nq 0 r q) (hG : G ≠ 0) : zx q = (quo F G).l ∧ zx r = (rem F G).l := by
 have hm : dg G ≠ 0 := λe => hG (zd.1 e)
 have h1 := zfs (q := of p q) (r := of p r) h.eq (by
  have : dg (of p r) <= dg G - 1 := zad λj hj => by rw [ym, h.z j (by omega)]; simp
  omega)
 rw [h1.1, h1.2];exact ⟨(zfD h.qr).symm, (zfD h.rr).symm⟩

theorem zg6 {p : Int} {c : Int} {g : Nat -> Int} {r o : List Int} {k i n : Nat} (hn : o.length = n) (hi : k + i < n) (h : ∀ j, cf o j = if k <= j ∧ j < k + i then (cf r j - c * g (j - k)) % p else cf r j) :
  cf o (k + i) = cf r (k + i) ∧ ∀ j, cf (o.set (k + i) ((cf o (k + i) - c * g i) % p)) j = if k <= j ∧ j < k + (i + 1) then (cf r j - c * g (j - k)) % p else cf r j := by
 have h0 : cf o (k + i) = cf r (k + i) := by rw [h, if_neg (by omega)]
 refine ⟨h0, λj => ?_⟩;rw [yu (by omega), h0, h]
 by_cases hj : j = k + i
 ·subst hj; rw [if_pos rfl, if_pos (by omega), show k + i - k = i by omega]
 ·rw [if_neg hj]
  by_cases h2 : k <= j ∧ j < k + i
  ·rw [if_pos h2, if_pos (by omega)]
  ·rw [if_neg h2, if_neg (by omega)]

end Poly
namespace Poly
variable {p : Int} [SP p]

theorem zeh {f a b : Poly p} (hf : f ≠ 0) (h : f ∣ a - b) : rem a f = rem b f := by
 obtain ⟨q, hq⟩ := h;have h1 := ji b f;have h2 := yB b hf;exact (zfs (q := q + quo b f) (comb 1 hq (comb 1 h1 (zj [a, b, f, q, quo b f, rem b f] (by rfl)))) h2).2
theorem zg7 (a f : Poly p) : f ∣ a - rem a f := ⟨quo a f, comb 1 (ji a f) (zj [a, f, quo a f, rem a f] (by rfl))⟩
theorem yQ {a b f : Poly p} (hf : f ≠ 0) : rem (rem a f * b) f = rem (a * b) f := by
 refine (zeh hf ?_).symm;obtain ⟨q, hq⟩ := zg7 a f;exact ⟨q * b, comb b hq (zj [a, b, f, q, rem a f] (by rfl))⟩
theorem jl {a b f : Poly p} (hf : f ≠ 0) : rem (a * rem b f) f = rem (a * b) f := by
 have e : a * rem b f = rem b f * a := zj [a, rem b f] (by rfl);have e2 : b * a = a * b := zj [a, b] (by rfl);rw [e, yQ hf, e2]
theorem zeT {a f : Poly p} (h : dg a < dg f) : rem a f = a := (zfs (q := 0) (f := a) (g := f) (zj [a, f] (by rfl)) h).2
theorem zfE {a f : Poly p} (hf : f ≠ 0) (n : Nat) : rem (rem a f ^ n) f = rem (a ^ n) f := by
 induction n with
 | zero => rfl
 | succ n ih => rw [zh, zh, jl hf, <- yQ hf, ih, yQ hf]
theorem zfF (a : Poly p) (n : Nat) : a ^ n = (a * a) ^ (n / 2) * a ^ (n % 2) := by
 have h1 : (a * a) ^ (n / 2) = a ^ (2 * (n / 2)) := by
  rw [zjc]
  congr 1
  show a * a = 1 * a * a
  rw [CR.one_mul]
 rw [h1, <- pow_add]
 congr 1; omega
theorem zg8 {o b f g : Poly p} (hf : f ≠ 0) {n : Nat} (h : rem (o * b ^ n) f = g) :
  rem ((if n % 2 = 1 then rem (o * b) f else o) * rem (b * b) f ^ (n / 2)) f = g := by
 rw [<- jl hf, zfE hf, jl hf, <- h, zfF b n]
 split
 ·rename_i hn
  have e1 : b ^ (n % 2) = b := by rw [hn]; exact CR.one_mul b
  have e2 : o * b * (b * b) ^ (n / 2) = o * ((b * b) ^ (n / 2) * b) := zj [o, b, (b * b) ^ (n / 2)] (by rfl);rw [yQ hf, e1, e2]
 ·rename_i hn
  have e1 : b ^ (n % 2) = 1 := by rw [show n % 2 = 0 by omega]; rfl
  rw [e1, CR.mul_one]

theorem zlE {c : Int} (h0 : 0 < c) (h1 : c < p) : (con p c).l = [c] := by
 refine yx (con p c).ok.2 ?_ λi => ?_
 ·intro n hn;have : n = 0 := by simpa using hn.symm
  subst this;show c ≠ 0
  omega
 ·rw [xi, Int.emod_eq_of_lt (by omega) h1];cases i <;> simp [cf]
theorem znc : (1 : Poly p).l = [1] := by
 have hp := Pr.two (p := p);exact zlE (c := 1) (by omega) (by omega)
theorem zlF {F : Poly p} (hF : F ≠ 0) : 0 < xk p (cf F.l (dg F - 1)) ∧ xk p (cf F.l (dg F - 1)) < p ∧ F * con p (xk p (cf F.l (dg F - 1))) = mnc F := by
 have hp := Pr.two (p := p);have hd : dg F ≠ 0 := λe => hF (zd.1 e);have hl : cf F.l (dg F - 1) % p ≠ 0 := ya (yO (by omega));obtain ⟨h1, h2, h3⟩ := xN hl;generalize xk p (cf F.l (dg F - 1)) = c at h1 h2 h3;have hc0 : c ≠ 0 := λe => by rw [e, Int.mul_zero, Int.zero_emod] at h3; omega
 have hcm : c % p ≠ 0 := by rw [Int.emod_eq_of_lt h1 h2]; exact hc0
 refine ⟨by omega, h2, ?_⟩
 have hm : Mon (con p c * F) := by
  refine ⟨mul_ne (zdp hcm) hF, ?_⟩;rw [zdo (zdp hcm) hF, zln hcm, Int.emod_eq_of_lt h1 h2, Int.mul_comm];exact h3
 rw [zns hm];exact zj [F, con p c] (by rfl)
theorem zj8 (F G : Poly p) (hF : F ≠ 0) : dg (gcd F G) <= dg F := zD (xB F G) hF
end Poly

theorem zj9 {p : Int} {n m a0 : Nat} {R R' : Nat -> Nat -> Int} {s b : Int} (hab : s * b % p = 1) (ha : a0 < m) (h1 : ∀ x, x < n -> R' a0 x % p = (s * R a0 x) % p)
  (h2 : ∀ i, i < m -> i ≠ a0 -> ∃ t : Int, ∀ x, x < n -> R' i x % p = (R i x - t * (s * R a0 x)) % p) (c : Nat -> Int) : Sol p n m R' c ↔ Sol p n m R c := by
 constructor
 ·intro h
  have hat : ja p n (R a0) c := by
   have h3 := jV b (h a0 ha);refine (xX (λx hx => ?_) (λ_ _ => rfl)).1 h3;rw [yz b (h1 x hx), <- Int.mul_assoc, Int.mul_comm b s, Int.mul_emod, hab, Int.one_mul, zW]
  intro k hk
  by_cases he : k = a0
  ·subst he; exact hat
  ·obtain ⟨t, ht⟩ := h2 k hk he;have h3 := zeP t (h k hk) (jV s hat);refine (xX (λx hx => ?_) (λ_ _ => rfl)).1 h3;rw [Int.add_emod, ht x hx, <- Int.add_emod]
   congr 1; omega
 ·intro h k hk
  by_cases he : k = a0
  ·subst he;exact (xX (λx hx => h1 x hx) (λ_ _ => rfl)).2 (jV s (h k hk))
  ·obtain ⟨t, ht⟩ := h2 k hk he;have h3 := zeP (-t) (h k hk) (jV s (h a0 ha));refine (xX (λx hx => ?_) (λ_ _ => rfl)).2 h3;rw [ht x hx]
   congr 1; rw [Int.neg_mul]; omega

namespace Poly
variable {p : Int} [SP p]

def zdB (L : List (Poly p)) (w : Poly p) : Prop := ∀ C : Poly p -> Prop, C 0 -> (∀ a b, C a -> C b -> C (a + b)) -> (∀ (c : Int) a, C a -> C (con p c * a)) -> (∀ a ∈ L, C a) -> C w

theorem zlG {L : List (Poly p)} {g : Nat -> Poly p} {n : Nat} (h : ∀ i, i < n -> zdB L (g i)) : zdB L (z9 g n) := by
 intro C h0 ha hc hL
 induction n with
 | zero => exact h0
 | succ n ih => exact ha _ _ (ih λi hi => h i (by omega)) (h n (by omega) C h0 ha hc hL)

def zca (p : Int) [SP p] (n : Nat) (piv : List Nat) (R : Nat -> Nat -> Int) (col : Nat) : Poly p := of p (mkL n (vP p piv R col))
theorem za8 (n : Nat) (piv : List Nat) (R : Nat -> Nat -> Int) (col x : Nat) : cf (zca p n piv R col).l x = if x < n then vP p piv R col x % p else 0 := by
 rw [zca, ym, xA]; split <;> simp

def xE (p : Int) [SP p] (n : Nat) (piv : List Nat) (R : Nat -> Nat -> Int) (m : Nat) : List (Poly p) := ((List.range m).filter λc => !piv.contains c).map (zca p n piv R)
theorem zdC (n : Nat) (piv : List Nat) (R : Nat -> Nat -> Int) (m : Nat) : xE p n piv R (m + 1) = if m ∈ piv then xE p n piv R m else xE p n piv R m ++ [zca p n piv R m] := by
 unfold xE;rw [List.range_succ, List.filter_append]
 by_cases h : m ∈ piv
 ·simp [h]
 ·simp [h]

structure Basis (p : Int) [SP p] (n : Nat) (R : Nat -> Nat -> Int) (L : List (Poly p)) : Prop where
 few : L.length <= n
 sol : ∀ w ∈ L, dg w <= n ∧ Sol p n n R (cf w.l)
 span : ∀ w : Poly p, dg w <= n -> Sol p n n R (cf w.l) -> zdB L w

theorem Steps.basis {n : Nat} {piv : List Nat} {R R0 : Nat -> Nat -> Int} (h : Steps p n n piv R) (he : ∀ c, Sol p n n R c ↔ Sol p n n R0 c) : Basis p n R0 (xE p n piv R n) := by
 refine ⟨?_, ?_, ?_⟩
 ·unfold xE;rw [List.length_map];exact Nat.le_trans (List.length_filter_le _ _) (by simp)
 ·intro w hw;obtain ⟨col, hc, rfl⟩ := List.mem_map.1 hw;simp only [List.mem_filter, List.mem_range, Bool.not_eq_true', List.contains_eq_mem, decide_eq_false_iff_not] at hc
  refine ⟨zad λi hi => by rw [za8, if_neg (by omega)], (he _).1 λk hk => ?_⟩;refine (xX (λ_ _ => rfl) (λi hi => ?_)).1 (h.free hc.1 hc.2 k hk);rw [za8, if_pos hi, zW]
 ·intro w hw hs;have h1 := h.all ((he _).2 hs)
  have e : w = z9 (λcol => con p (if col ∈ piv then 0 else cf w.l col) * zca p n piv R col) n := zM λx => by
   rw [zfA (λcol => if col ∈ piv then 0 else cf w.l col)]
   by_cases hx : x < n
   ·rw [<- jh w x, h1 x hx];refine yy p λcol hcol => ?_;rw [za8, if_pos hx]
    split
    ·simp
    ·rw [Int.mul_comm, xC _ (zW p _)]
   ·rw [yj (by omega)];rw [jD λi _ => by rw [za8, if_neg hx, Int.zero_mul]]; simp
  rw [e];refine zlG λcol hcol => ?_;intro C h0 ha hc hL
  by_cases hp : col ∈ piv
  ·rw [if_pos hp, y4, CR.zero_mul]; exact h0
  ·rw [if_neg hp];refine hc _ _ (hL _ (List.mem_map.2 ⟨col, ?_, rfl⟩));simp [hcol, hp]

structure Ker (f : Poly p) (L : List (Poly p)) : Prop where
 few : L.length <= dg f
 ber : ∀ w ∈ L, Ber f w ∧ dg w < dg f
 span : ∀ w : Poly p, dg w < dg f -> Ber f w -> zdB L w
noncomputable def zbJ (f : Poly p) (k i : Nat) : Int := cf (kI f i).l k
theorem Basis.ker {f : Poly p} {n : Nat} {L : List (Poly p)} (hf : dg f = n + 1) (h : Basis p n (zbJ f) L) : Ker f L := by
 have hb : ∀ w : Poly p, dg w <= n -> (Ber f w ↔ Sol p n n (zbJ f) (cf w.l)) := λw hw => zfB hf hw;exact ⟨by have := h.few; omega, λw hw => ⟨(hb w (h.sol w hw).1).2 (h.sol w hw).2, by have := (h.sol w hw).1; omega⟩, λw hw hB => h.span w (by omega) ((hb w (by omega)).1 hB)⟩

theorem zlH {L : List (Poly p)} {a : Poly p} (h : ∀ w ∈ L, ∃ s : Int, a ∣ w - con p s) {w : Poly p} (hw : zdB L w) : ∃ s : Int, a ∣ w - con p s := by
 refine hw (λw => ∃ s : Int, a ∣ w - con p s) ⟨0, ?_⟩ ?_ ?_ h
 ·rw [y4, CR.sub_self]; exact dvd_zero _
 ·rintro x y ⟨s, q, hq⟩ ⟨t, r, hr⟩;refine ⟨s + t, q + r, ?_⟩;rw [<- zfu];exact comb 1 hq (comb 1 hr (zj [x, y, a, q, r, con p s, con p t] (by rfl)))
 ·rintro c x ⟨s, q, hq⟩;refine ⟨c * s, con p c * q, ?_⟩;rw [<- zft];exact comb (con p c) hq (zj [x, a, q, con p c, con p s] (by rfl))

theorem Parts.done {f : Poly p} {P L : List (Poly p)} (hf : f ≠ 0) (hs : Sqf f) (hk : Ker f L) (hp : Parts f P) (hc : ∀ a ∈ P, ∀ w ∈ L, ∃ s : Int, a ∣ w - con p s) : zaD f P :=
 hp.irrs λa ha => zgY hf hs (hp.each a ha).2.2 (hp.each a ha).2.1 λw hw hb => zlH (hc a ha) (hk.span w hw hb)

structure Cut (f : Poly p) (B P : List (Poly p)) : Prop where
 parts : Parts f P
 con : ∀ a ∈ P, ∀ w ∈ B, ∃ s : Int, a ∣ w - Poly.con p s
theorem Cut.start {f : Poly p} (hm : Mon f) (h2 : 2 <= dg f) : Cut f [] [f] := ⟨Parts.start hm h2, by simp⟩
theorem Cut.next {f v : Poly p} {B P : List (Poly p)} (h : Cut f B P) (hv : Ber f v) : Cut f (B ++ [v]) (zE v P) := by
 obtain ⟨h1, h2⟩ := h.parts.cut hv;refine ⟨h1, λa ha w hw => ?_⟩;obtain ⟨h3, a0, ha0, h4⟩ := h2 a ha;rcases List.mem_append.1 hw with hw | hw
 ·obtain ⟨s, hs⟩ := h.con a0 ha0 w hw;exact ⟨s, zp h4 hs⟩
 ·simp at hw; subst hw; exact h3
theorem Cut.done {f : Poly p} {L P : List (Poly p)} (hf : f ≠ 0) (hs : Sqf f) (hk : Ker f L) (h : Cut f L P) : zaD f P := Parts.done hf hs hk h.parts h.con

theorem X_l : (X p).l = [0, 1] := by
 have hp := Pr.two (p := p);refine yx (X p).ok.2 ?_ λi => ?_
 ·intro n hn;have : n = 1 := by simpa using hn.symm
  subst this;show (1 : Int) ≠ 0
  omega
 ·rw [jQ, Int.emod_eq_of_lt (by omega) (by omega)]
  match i with
  | 0 => rfl
  | 1 => rfl
  | i + 2 => rw [if_neg (by omega), z1 (by simp)]
theorem zmQ (i a : Nat) : cf (X p ^ i).l a = if a = i then 1 else 0 := by
 have hp := Pr.two (p := p);rw [zdv, Nat.one_mul, jQ, Int.emod_eq_of_lt (by omega) (by omega)]
theorem zfG (f : Poly p) (a i : Nat) : zbJ f a i = (cf (rem (X p ^ (p.toNat * i)) f).l a - if a = i then 1 else 0) % p := by
 unfold zbJ kI;rw [zax, zmQ]

end Poly
namespace Poly
variable {p : Int} [SP p]

def zdD : List (Poly p) -> Poly p
 | [] => 1
 | a :: l => a * zdD l
theorem zg9 {a : Poly p} : ∀ {l : List (Poly p)}, (∀ b ∈ l, Cop a b) -> Cop a (zdD l)
 | [], _ => (zfy a).symm
 | b :: l, h => by
  have h1 := h b (by simp);have h2 := zg9 (l := l) λc hc => h c (by simp [hc]);exact (h1.symm.mul h2.symm).symm
theorem zdE {f : Poly p} (hf : f ≠ 0) : ∀ {l : List (Poly p)}, (∀ a ∈ l, a ∣ f) -> l.Pairwise (λa b => ∀ h, Irr h -> h ∣ a -> h ∣ b -> False) -> zdD l ∣ f
 | [], _, _ => zcy f
 | a :: l, h, hp => by
  rw [List.pairwise_cons] at hp;have h1 := zdE hf (l := l) (λb hb => h b (by simp [hb])) hp.2;have ha := h a (by simp);exact (zg9 λb hb => zaA (zdl ha hf) (hp.1 b hb)).mul_dvd ha h1
theorem zfH : ∀ {l : List (Poly p)}, (∀ a ∈ l, 2 <= dg a) -> l.length + 1 <= dg (zdD l)
 | [], _ => by rw [zdD, xh]; simp
 | a :: l, h => by
  have h1 := zfH (l := l) λb hb => h b (by simp [hb]);have h2 := h a (by simp);have ha : a ≠ 0 := λe => by rw [e, zt] at h2; omega
  have hl : zdD l ≠ 0 := λe => by rw [e, zt] at h1; omega
  have := yA ha hl;rw [zdD, List.length_cons]; omega
theorem Parts.few {f : Poly p} {P : List (Poly p)} (h : Parts f P) (hf : f ≠ 0) : P.length + 1 <= dg f :=
 Nat.le_trans (zfH λa ha => (h.each a ha).2.1) (zD (zdE hf (λa ha => (h.each a ha).2.2) h.apart) hf)
theorem zaD.few {f : Poly p} {P : List (Poly p)} (h : zaD f P) (hf : f ≠ 0) : P.length + 1 <= dg f := by
 refine Nat.le_trans (zfH (l := P) λa ha => ((h.2 a).1 ha).1.1) (zD (zdE hf (λa ha => ((h.2 a).1 ha).2.2) ?_) hf);refine List.pairwise_iff_getElem.2 λi j hi hj hij q hq h1 h2 => ?_;have ha := (h.2 _).1 (List.getElem_mem hi);have hb := (h.2 _).1 (List.getElem_mem hj);have e1 := kF (jU hq).1 ha.1 (jU hq).2 ha.2.1 (zp (z2 q).1 h1);have e2 := kF (jU hq).1 hb.1 (jU hq).2 hb.2.1 (zp (z2 q).1 h2);exact List.pairwise_iff_getElem.1 h.1 i j hi hj hij (e1.symm.trans e2)

theorem jG (v a : Poly p) (n : Nat) : yP v a (n + 1) = yP v a n ++ zef v a n := by simp [yP, List.range_succ]
theorem zlI (v a : Poly p) {n m : Nat} (h : n <= m) : (yP v a n).length <= (yP v a m).length := by
 induction m with
 | zero => obtain rfl : n = 0 := by omega
           exact Nat.le_refl _
 | succ m ih =>
   rcases Nat.eq_or_lt_of_le h with rfl | h'
   · exact Nat.le_refl _
   · have := ih (by omega)
     rw [jG, List.length_append]; omega
theorem zcb (v : Poly p) {P : List (Poly p)} {j : Nat} (h : j < P.length) : zE v (P.take (j + 1)) = zE v (P.take j) ++ yP v (P.getD j 0) p.toNat := by
 unfold zE;rw [List.take_add_one, List.flatMap_append, List.getElem?_eq_getElem h, List.getD_eq_getElem?_getD, List.getElem?_eq_getElem h];simp
theorem zim (v : Poly p) (P : List (Poly p)) (j : Nat) : (zE v (P.take j)).length <= (zE v P).length := by
 conv => rhs; rw [<- List.take_append_drop j P]
 unfold zE;rw [List.flatMap_append, List.length_append]; omega
theorem zmR (v : Poly p) {P : List (Poly p)} {j a : Nat} (h : j < P.length) (ha : a <= p.toNat) : (zE v (P.take j) ++ yP v (P.getD j 0) a).length <= (zE v P).length := by
 have h1 := zim v P (j + 1);rw [zcb v h, List.length_append] at h1;have h2 := zlI v (P.getD j 0) ha;rw [List.length_append]; omega

theorem zeU (v : Poly p) (a : Int) : nrm p (zx (kC v.l [-a])) = (v - con p a).l := by
 rw [zdA];show (of p (kC v.l [-a])).l = _
 congr 1
 refine zM λi => ?_;rw [ym, v7, zax, xi];cases i with
 | zero => rw [if_pos rfl, yt]; rw [Int.sub_emod, Int.emod_emod_of_dvd _ (Int.dvd_refl p), <- Int.sub_emod]; congr 1
 | succ i => rw [if_neg (by omega), zA, yW]; simp
theorem zha {L : List (Poly p)} {j : Nat} (h : j < L.length) : L.getD j 0 ∈ L := by
 rw [List.getD_eq_getElem?_getD, List.getElem?_eq_getElem h]; exact List.getElem_mem h
theorem zka {L : List (Poly p)} {j : Nat} (h : j < L.length) : L.take (j + 1) = L.take j ++ [L.getD j 0] := by
 rw [List.take_add_one, List.getD_eq_getElem?_getD, List.getElem?_eq_getElem h]; rfl

end Poly
namespace Poly
variable {p : Int} [SP p]

theorem zjg {h : Poly p} (hm : Mon h) (n : Nat) : Mon (h ^ n) := by
 induction n with
 | zero => rw [zq]; exact zfx
 | succ n ih => rw [zh]; exact ih.mul hm
theorem Mon.left {f g : Poly p} (hf : Mon g) (h : Mon (f * g)) : Mon f := by
 rw [vr] at h; exact hf.right h

structure Peel (f : Poly p) (P : List (Poly p)) (k : Nat) (r : Poly p) (L : List (Poly p × Nat)) : Prop where
 mon : Mon r
 len : L.length = k
 le : k <= P.length
 cut : ∃ s, f = r * s ∧ ∀ h, Irr h -> Mon h -> h ∣ s -> ∃ j, j < k ∧ h = P.getD j 0
 fac : ∀ j, j < k -> (L.getD j (0, 0)).1 = P.getD j 0 ∧ 1 <= (L.getD j (0, 0)).2 ∧ zH (P.getD j 0) (L.getD j (0, 0)).2 f
 out : ∀ j, j < k -> ¬ P.getD j 0 ∣ r
 rest : ∀ h e, Irr h -> Mon h -> (∀ j, j < k -> h ≠ P.getD j 0) -> (zH h e f ↔ zH h e r)

theorem Peel.start {f : Poly p} (hm : Mon f) (P : List (Poly p)) : Peel f P 0 f [] :=
 ⟨hm, rfl, Nat.zero_le _, ⟨1, by exact zj [f] (by rfl), λh hi _ hd => (hi.not_unit xh hd).elim⟩, λj hj => absurd hj (by omega), λj hj => absurd hj (by omega), λ_ _ _ _ _ => Iff.rfl⟩

theorem zaE {P : List (Poly p)} (h : P.Nodup) {i j : Nat} (hi : i < P.length) (hj : j < P.length) (e : P.getD i 0 = P.getD j 0) : i = j := by
 rw [List.getD_eq_getElem?_getD, List.getD_eq_getElem?_getD, List.getElem?_eq_getElem hi, List.getElem?_eq_getElem hj] at e;exact (List.getElem_inj h).1 (by simpa using e)

theorem zbK {α : Type} {d x : α} {L : List α} {j : Nat} : (L ++ [x]).getD j d = if j < L.length then L.getD j d else if j = L.length then x else d := by
 simp only [List.getD_eq_getElem?_getD, List.getElem?_append]
 by_cases h : j < L.length
 ·simp [h]
 ·by_cases h2 : j = L.length
  ·simp [h2]
  ·rw [if_neg h, if_neg h, if_neg h2, List.getElem?_eq_none (by simp; omega)]; rfl

theorem Peel.step {f r r' : Poly p} {P : List (Poly p)} {k n : Nat} {L : List (Poly p × Nat)} (h : Peel f P k r L) (hP : P.Nodup) (hk : k < P.length) (hi : Irr (P.getD k 0)) (hm : Mon (P.getD k 0)) (hd : P.getD k 0 ∣ f)
  (he : r = P.getD k 0 ^ n * r') (hn : ¬ P.getD k 0 ∣ r') : Peel f P (k + 1) r' (L ++ [(P.getD k 0, n)]) := by
 have hr' : r' ∣ r := ⟨P.getD k 0 ^ n, by rw [he]; exact vr _ _⟩
 have hmult : zH (P.getD k 0) n r := ⟨r', he, hn⟩
 have hmf : zH (P.getD k 0) n f := (h.rest _ _ hi hm λj hj e => by have := zaE hP hk (by have := h.le; omega) e; omega).2 hmult
 have hn1 : 1 <= n := by
  rcases Nat.eq_zero_or_pos n with h0 | h0
  ·subst h0; exact absurd hd (zY.1 hmf)
  ·exact h0
 refine ⟨(zjg hm n).right (he ▸ h.mon), by simp [h.len], hk, ?_, λj hj => ?_, λj hj => ?_, λq e hq hqm hqn => ?_⟩
 ·obtain ⟨s, h1, h2⟩ := h.cut;refine ⟨P.getD k 0 ^ n * s, by rw [h1, he]; exact zj [P.getD k 0 ^ n, r', s] (by rfl), λq hq hqm hqd => ?_⟩;rcases hq.prime hqd with h3 | h3
  ·exact ⟨k, by omega, kF hq hi hqm hm (hq.pow h3)⟩
  ·obtain ⟨j, hj, e⟩ := h2 q hq hqm h3;exact ⟨j, by omega, e⟩
 ·rw [zbK]
  by_cases hjk : j = k
  ·subst hjk;rw [if_neg (by have := h.len; omega), if_pos h.len.symm];exact ⟨rfl, hn1, hmf⟩
  ·rw [if_pos (by have := h.len; omega)];exact h.fac j (by omega)
 ·by_cases hjk : j = k
  ·subst hjk; exact hn
  ·exact λhdj => h.out j (by omega) (zp hdj hr')
 ·rw [h.rest q e hq hqm λj hj => hqn j (by omega)];have hne : ¬ q ∣ P.getD k 0 := λhd' => hqn k (by omega) (kF hq hi hqm hm hd');have h0 : zH q 0 (P.getD k 0 ^ n) := zY.2 λhd' => hne (hq.pow hd');have r0 : r' ≠ 0 := λe0 => h.mon.1 (by rw [he, e0]; exact zj [P.getD k 0 ^ n] (by rfl))
  have up : ∀ e', zH q e' r' -> zH q e' r := λe' h1 => by
   have := h0.mul hq h1;rw [Nat.zero_add] at this;rw [he]; exact this
  refine ⟨λh1 => ?_, up e⟩;obtain ⟨e', h2⟩ := yK hq.1 _ r' r0 (Nat.le_refl _);rw [h1.unique hq.ne (up e' h2)]; exact h2

theorem zjh {f g : Poly p} (hf : f ≠ 0) (h : ∀ h, Irr h -> Mon h -> h ∣ f -> h ∣ g -> False) : Cop f g :=
 zaA hf λq hq h1 h2 => by
  obtain ⟨hi, hm⟩ := jU hq;exact h _ hi hm (zp (z2 q).1 h1) (zp (z2 q).1 h2)

theorem Peel.fin {f r : Poly p} {P : List (Poly p)} {L : List (Poly p × Nat)} (h : Peel f P P.length r L) (_hf : Mon f) {q c : Poly p} (hq : zaD q P) (he : f = q * c) (hc : c ∣ der f) :
  der r = 0 ∧ ∀ x, kJ f x ↔ x ∈ L ∨ kJ r x := by
 have hr0 := h.mon.1
 have hidx : ∀ {g : Poly p}, g ∈ P -> ∃ j, j < P.length ∧ g = P.getD j 0 := λ{g} hg => by
  obtain ⟨j, hj, e⟩ := List.getElem_of_mem hg;exact ⟨j, hj, by rw [List.getD_eq_getElem?_getD, List.getElem?_eq_getElem hj]; exact e.symm⟩
 constructor
 ·obtain ⟨s, h1, h2⟩ := h.cut;refine zls he h1 hr0 hc (zjh hr0 λg hg hgm h3 h4 => ?_) (zjh hr0 λg hg hgm h3 h4 => ?_)
  ·obtain ⟨j, hj, rfl⟩ := hidx ((hq.2 g).2 ⟨hg, hgm, h4⟩);exact h.out j hj h3
  ·obtain ⟨j, hj, rfl⟩ := h2 g hg hgm h4;exact h.out j hj h3
 ·have hL : ∀ x, x ∈ L ↔ ∃ j, j < P.length ∧ x = L.getD j (0, 0) := λx => by
   constructor
   ·intro hx;obtain ⟨j, hj, e⟩ := List.getElem_of_mem hx;exact ⟨j, by have := h.len; omega, by rw [List.getD_eq_getElem?_getD, List.getElem?_eq_getElem hj]; exact e.symm⟩
   ·rintro ⟨j, hj, rfl⟩;have hj' : j < L.length := by have := h.len; omega
    rw [List.getD_eq_getElem?_getD, List.getElem?_eq_getElem hj'];exact List.getElem_mem hj'
  rintro ⟨g, e⟩;rw [hL]
  constructor
  ·rintro ⟨h1, h2, h3, h4⟩
   by_cases hg : ∃ j, j < P.length ∧ g = P.getD j 0
   ·obtain ⟨j, hj, rfl⟩ := hg;obtain ⟨h5, h6, h7⟩ := h.fac j hj;refine .inl ⟨j, hj, ?_⟩;have : e = (L.getD j (0, 0)).2 := h4.unique h1.ne h7;exact Prod.ext h5.symm this
   ·exact .inr ⟨h1, h2, h3, (h.rest g e h1 h2 λj hj e' => hg ⟨j, hj, e'⟩).1 h4⟩
  ·rintro (⟨j, hj, hx⟩ | ⟨h1, h2, h3, h4⟩)
   ·obtain ⟨h5, h6, h7⟩ := h.fac j hj;rw [hx]
    have hmem : P.getD j 0 ∈ P := by
     rw [List.getD_eq_getElem?_getD, List.getElem?_eq_getElem hj]; exact List.getElem_mem hj
    obtain ⟨h8, h9, _⟩ := (hq.2 _).1 hmem;exact ⟨by rw [h5]; exact h8, by rw [h5]; exact h9, h6, by rw [h5]; exact h7⟩
   ·refine ⟨h1, h2, h3, (h.rest g e h1 h2 λj hj e' => ?_).2 h4⟩;have hd : g ∣ r := h4.dvd h3;exact h.out j hj (e' ▸ hd)

theorem za9 {f g : Poly p} (h : f ∣ g) (h' : g ∣ f) (hf : f ≠ 0) {q : Poly p} (hq : Irr q) (e : Nat) (h1 : zH q e f) : zH q e g := by
 obtain ⟨u, rfl⟩ := h;obtain ⟨v, hv⟩ := h'
 have huv : u * v = 1 := by
  have h3 : f * (u * v) = f * 1 := by
   have : f * (u * v) = f * u * v := by exact zj [f, u, v] (by rfl)
   rw [this, <- hv]; exact zj [f] (by rfl)
  exact zaz hf h3
 have hu : ¬ q ∣ u := λhd => by
  have h4 : q ∣ u * v := by obtain ⟨w, hw⟩ := hd; exact ⟨w * v, by rw [hw]; exact zj [q, w, v] (by rfl)⟩
  rw [huv] at h4;exact hq.not_unit xh h4
 have := h1.mul hq (zY.2 hu)
 rwa [Nat.add_zero] at this
theorem zeV {f : Poly p} (hf : f ≠ 0) (x : Poly p × Nat) : kJ (mnc f) x ↔ kJ f x := by
 obtain ⟨h1, h2⟩ := z2 f;exact ⟨λ⟨a, b, c, d⟩ => ⟨a, b, c, za9 h1 h2 (v9 hf).1 a _ d⟩, λ⟨a, b, c, d⟩ => ⟨a, b, c, za9 h2 h1 hf a _ d⟩⟩

theorem zaF {f : Poly p} (h : dg f = 1) (x : Poly p × Nat) : ¬ kJ f x := λ⟨a, _, c, d⟩ => a.not_unit h (d.dvd c)

theorem zbL {g f : Poly p} (hg : g ≠ 0) {n : Nat} (hn : 1 <= n) (he : g ^ n = f) (x : Poly p × Nat) : kJ f x ↔ ∃ e, kJ g (x.1, e) ∧ x.2 = n * e := by
 subst he
 constructor
 ·rintro ⟨a, b, c, d⟩;obtain ⟨e, h1⟩ := yK a.1 _ g hg (Nat.le_refl _);have h2 := h1.pow a n;have h3 := d.unique a.ne h2;refine ⟨e, ⟨a, b, ?_, h1⟩, by rw [h3, Nat.mul_comm]⟩;rcases Nat.eq_zero_or_pos e with h4 | h4
  ·subst h4; omega
  ·exact h4
 ·rintro ⟨e, ⟨a, b, c, d⟩, h⟩;refine ⟨a, b, ?_, ?_⟩
  ·rw [h]; exact Nat.mul_pos hn c
  ·rw [h, Nat.mul_comm]; exact d.pow a n

theorem zeW {f : Poly p} (hm : Mon f) (hd : der f = 0) {l : List Int} {n : Nat} (hl : l.length = n) (hc : ∀ i, i < n -> cf l i = cf f.l (i * p.toNat)) (h1 : dg f <= n * p.toNat) (h2 : n * p.toNat < dg f + p.toNat) :
  ∃ g : Poly p, g.l = l ∧ Mon g ∧ g ^ p.toNat = f ∧ dg g <= dg f ∧ (2 <= dg f -> dg g < dg f) := by
 have hp := Pr.two (p := p);have hp2 : 2 <= p.toNat := by omega
 have hcf : ∀ i, cf l i = cf f.l (i * p.toNat) := λi => by
  by_cases hi : i < n
  ·exact hc i hi
  ·rw [z1 (by omega), yj];have : n * p.toNat <= i * p.toNat := Nat.mul_le_mul_right _ (by omega);omega
 have hof : ∀ i, cf (of p l).l i = cf f.l (i * p.toNat) := λi => by
  rw [ym, hcf, f.ok.cf_mod]
 have hpow := zlv hd hof;have hf0 := hm.1
 have hd1 : 1 <= dg f := by
  rcases Nat.eq_zero_or_pos (dg f) with h | h
  ·exact absurd (zd.1 h) hf0
  ·exact h
 have hn1 : 1 <= n := by
  rcases Nat.eq_zero_or_pos n with h | h
  ·subst h; omega
  ·exact h
 -- its last coefficient
 obtain ⟨m, rfl⟩ : ∃ m, n = m + 1 := ⟨n - 1, by omega⟩
 have hlast : dg f = m * p.toNat + 1 := by
  have hne : cf f.l (dg f - 1) ≠ 0 := by have := yO (f := f) (n := dg f - 1) (by omega); exact this
  have hk : (dg f - 1) % p.toNat = 0 := by
   refine Classical.byContradiction λhk => hne ?_;have e := zlu (of p l) (dg f - 1)
   rwa [hpow, if_neg hk] at e
  have h3 : dg f - 1 = (dg f - 1) / p.toNat * p.toNat := (Nat.div_mul_cancel (Nat.dvd_of_mod_eq_zero hk)).symm;generalize (dg f - 1) / p.toNat = t at h3
  have h4 : t = m := by
   have e1 : (m + 1) * p.toNat = m * p.toNat + p.toNat := Nat.succ_mul _ _;rcases Nat.lt_trichotomy t m with h | h | h
   ·have : (t + 1) * p.toNat <= m * p.toNat := Nat.mul_le_mul_right _ h;have e2 : (t + 1) * p.toNat = t * p.toNat + p.toNat := Nat.succ_mul _ _;omega
   ·exact h
   ·have : (m + 1) * p.toNat <= t * p.toNat := Nat.mul_le_mul_right _ h;omega
  subst h4; omega
 have hone : cf (of p l).l m = 1 := by
  rw [hof];have := hm.2;unfold lc at this;rw [hlast] at this
  simpa using this
 have hdg : dg (of p l) = m + 1 := by
  have h5 := zm9 (f := of p l) (n := m) (by rw [hone]; decide);have h6 := za0 (p := p) l;omega
 refine ⟨of p l, zdy (by show dg (of p l) = _; omega) λj hj => ?_, ⟨λe => ?_, ?_⟩, hpow, ?_, λh => ?_⟩
 ·rw [hof, hcf]
 ·rw [e, zt] at hdg; omega
 ·unfold lc; rw [hdg]; exact hone
 ·have : m * 2 <= m * p.toNat := Nat.mul_le_mul_left _ hp2;omega
 ·have : m * 2 <= m * p.toNat := Nat.mul_le_mul_left _ hp2
  have : 1 <= m := by
   rcases Nat.eq_zero_or_pos m with h0 | h0
   ·subst h0; simp at hlast; omega
   ·exact h0
  omega

end Poly
namespace Poly
variable {p : Int} [SP p]

def jm (f : Poly p) (G : List (Poly p × Nat)) : Prop := (G.map Prod.fst).Nodup ∧ ∀ x, x ∈ G ↔ kJ f x

theorem jm.few {f : Poly p} {G : List (Poly p × Nat)} (h : jm f G) (hf : f ≠ 0) : G.length + 1 <= dg f := by
 have : zaD f (G.map Prod.fst) := ⟨h.1, λg => ?_⟩
 ·have := this.few hf
  simpa using this
 ·rw [List.mem_map]
  constructor
  ·rintro ⟨x, hx, rfl⟩;obtain ⟨a, b, c, d⟩ := (h.2 x).1 hx;exact ⟨a, b, d.dvd c⟩
  ·rintro ⟨a, b, c⟩;obtain ⟨e, he⟩ := yK a.1 _ f hf (Nat.le_refl _);refine ⟨(g, e), (h.2 _).2 ⟨a, b, ?_, he⟩, rfl⟩;rcases Nat.eq_zero_or_pos e with h0 | h0
   ·subst h0; exact absurd c (zY.1 he)
   ·exact h0
theorem FacOf.facs {f : Poly p} {F : List (Poly p × Nat)} (h : FacOf f F) : jm f F :=
 ⟨by
  refine List.Pairwise.map _ (R := λx y : Poly p × Nat => ltP x.1 y.1) (λx y hxy e => zaC y.1 (by rw [e] at hxy; exact hxy)) h.1, h.2⟩

theorem jm.unit {r : Poly p} (h : dg r = 1) : jm r [] := ⟨List.nodup_nil, λx => ⟨λhx => by simp at hx, λhx => (zaF h x hx).elim⟩⟩

def up (n : Nat) (F : List (Poly p × Nat)) : List (Poly p × Nat) := F.map λx => (x.1, n * x.2)
theorem jm.up {g f : Poly p} (hg : g ≠ 0) {n : Nat} (hn : 1 <= n) (he : g ^ n = f) {F : List (Poly p × Nat)} (h : jm g F) : jm f (up n F) := by
 refine ⟨?_, λx => ?_⟩
 ·have : (Poly.up n F).map Prod.fst = F.map Prod.fst := by unfold Poly.up; rw [List.map_map]; rfl
  rw [this]; exact h.1
 ·rw [zbL hg hn he];unfold Poly.up;rw [List.mem_map]
  constructor
  ·rintro ⟨y, hy, rfl⟩;exact ⟨y.2, (h.2 _).1 hy, rfl⟩
  ·rintro ⟨e, h1, h2⟩;exact ⟨(x.1, e), (h.2 _).2 h1, Prod.ext rfl h2.symm⟩

theorem Peel.fstL {f r : Poly p} {P : List (Poly p)} {L : List (Poly p × Nat)} (h : Peel f P P.length r L) : L.map Prod.fst = P := by
 refine List.ext_getElem (by simpa using h.len) λi h1 h2 => ?_;have h3 := (h.fac i h2).1;have h1' : i < L.length := by simpa using h1
 rw [List.getD_eq_getElem?_getD, List.getD_eq_getElem?_getD, List.getElem?_eq_getElem h1', List.getElem?_eq_getElem h2] at h3
 simpa using h3

theorem Peel.facs {f r : Poly p} {P : List (Poly p)} {L F : List (Poly p × Nat)} (h : Peel f P P.length r L) (hf : Mon f) {q c : Poly p} (hq : zaD q P) (he : f = q * c) (hc : c ∣ der f) (hF : jm r F) : jm f (L ++ F) := by
 obtain ⟨_, h2⟩ := h.fin hf hq he hc;refine ⟨?_, λx => by rw [h2, List.mem_append, hF.2]⟩;rw [List.map_append, h.fstL];refine List.nodup_append.2 ⟨hq.1, hF.1, λa ha b hb e => ?_⟩;subst e;obtain ⟨x, hx, rfl⟩ := List.mem_map.1 hb;obtain ⟨a1, a2, a3, a4⟩ := (hF.2 x).1 hx;obtain ⟨j, hj, hje⟩ := List.getElem_of_mem ha;refine h.out j hj ?_;rw [List.getD_eq_getElem?_getD, List.getElem?_eq_getElem hj];show P[j] ∣ r
 rw [hje]; exact a4.dvd a3

theorem jm.mnc {f : Poly p} (hf : f ≠ 0) {G : List (Poly p × Nat)} (h : jm (mnc f) G) : jm f G := ⟨h.1, λx => by rw [h.2, zeV hf]⟩

theorem zlJ (f : Poly p) : nrm p (mkL (f.l.length - 1) (dv (cf f.l))) = (der f).l := by
 refine yx (jB _ _) (der f).ok.2 λj => ?_;rw [zbF, zbG, xA]
 by_cases h : j < f.l.length - 1
 ·rw [if_pos h]
 ·rw [if_neg h];unfold dv;rw [z1 (by omega)]; simp

theorem zji {f : Poly p} (hm : Mon f) (hd : der f ≠ 0) : f = quo f (gcd f (der f)) * gcd f (der f) ∧ Mon (quo f (gcd f (der f))) ∧ Sqf (quo f (gcd f (der f))) ∧ 2 <= dg (quo f (gcd f (der f))) ∧ dg (quo f (gcd f (der f))) <= dg f ∧ gcd f (der f) ∣ der f ∧ gcd f (der f) ≠ 0 := by
 have hg := za2 (f := f) (g := der f) (.inl hm.1)
 have h1 : f = quo f (gcd f (der f)) * gcd f (der f) := by
  have h2 := ji f (gcd f (der f));rw [(kE hg.1).1 (xB f (der f))] at h2;have e : ∀ a : Poly p, a + 0 = a := λa => by exact zj [a] (by rfl)
  rw [e] at h2; exact h2
 have hq0 : quo f (gcd f (der f)) ≠ 0 := λe => hm.1 (by rw [h1, e]; exact zj [gcd f (der f)] (by rfl));have hmq : Mon (quo f (gcd f (der f))) := hg.left (h1 ▸ hm);refine ⟨h1, hmq, zlr hm.1 h1 (λh a b => zja a b), ?_, ?_, xn _ _, hg.1⟩
 ·refine Classical.byContradiction λh2 => ?_;have h3 := yA hq0 hg.1;rw [<- h1] at h3;have h4 := zD (xn f (der f)) hd;have h5 := kG hm.1;have h6 : dg (quo f (gcd f (der f))) ≠ 0 := λe => hq0 (zd.1 e);omega
 ·exact zD ⟨gcd f (der f), h1⟩ hm.1

end Poly
namespace Poly
variable {p : Int} [SP p]

def zba (f v : Poly p) (s : Nat) (O : List (Poly p)) : Prop := O.Nodup ∧ ∀ h, h ∈ O ↔ Irr h ∧ Mon h ∧ ∃ a ∈ yP v f s, h ∣ a

theorem zba.start (f v : Poly p) : zba f v 0 [] := ⟨List.nodup_nil, λh => ⟨λhh => by simp at hh, λ⟨_, _, a, ha, _⟩ => by simp [yP] at ha⟩⟩
theorem zba.skip {f v : Poly p} {s : Nat} {O : List (Poly p)} (h : zba f v s O) (hd : ¬ 2 <= dg (gcd f (v - con p (s : Int)))) : zba f v (s + 1) O := by
 have e : yP v f (s + 1) = yP v f s := by rw [jG, zef, if_neg hd, List.append_nil]
 unfold zba at *;rw [e]; exact h
theorem zba.step {f v : Poly p} {s : Nat} {O P : List (Poly p)} (h : zba f v s O) (hs : (s : Int) < p) (hd : 2 <= dg (gcd f (v - con p (s : Int)))) (hP : zaD (gcd f (v - con p (s : Int))) P) : zba f v (s + 1) (O ++ P) := by
 have e : yP v f (s + 1) = yP v f s ++ [gcd f (v - con p (s : Int))] := by rw [jG, zef, if_pos hd]
 have hap := zeS (v := v) (a := f) (n := s + 1) (by omega);rw [e] at hap;refine ⟨List.nodup_append.2 ⟨h.1, hP.1, λa ha b hb hab => ?_⟩, λq => ?_⟩
 ·subst hab;obtain ⟨a1, a2, c, hc, h3⟩ := (h.2 a).1 ha;obtain ⟨_, _, h4⟩ := (hP.2 a).1 hb;exact (List.pairwise_append.1 hap).2.2 c hc _ (by simp) a a1 h3 h4
 ·rw [e, List.mem_append, h.2, hP.2]
  constructor
  ·rintro (⟨a1, a2, c, hc, h3⟩ | ⟨a1, a2, h3⟩)
   ·exact ⟨a1, a2, c, by simp [hc], h3⟩
   ·exact ⟨a1, a2, _, by simp, h3⟩
  ·rintro ⟨a1, a2, c, hc, h3⟩;rcases List.mem_append.1 hc with hc | hc
   ·exact .inl ⟨a1, a2, c, hc, h3⟩
   ·simp at hc; subst hc; exact .inr ⟨a1, a2, h3⟩
theorem zba.fin {f v : Poly p} {O : List (Poly p)} (h : zba f v p.toNat O) (hm : Mon f) (hd : 2 <= dg f) (hv : Ber f v) : zaD f O := by
 have hc := (Parts.start hm hd).cut hv;have e : zE v [f] = yP v f p.toNat := by simp [zE]
 rw [e] at hc;refine ⟨h.1, λq => ?_⟩;rw [h.2]
 constructor
 ·rintro ⟨a1, a2, c, h1, h2⟩;exact ⟨a1, a2, zp h2 (hc.1.each c h1).2.2⟩
 ·rintro ⟨a1, a2, h1⟩;obtain ⟨c, h2, h3⟩ := hc.1.all q a1 h1;exact ⟨a1, a2, c, h2, h3⟩
theorem zlK {f v : Poly p} {n : Nat} (_hf : dg f = n + 1) (h2 : 2 <= dg v) (hv : dg v <= n) (s : Int) : dg (gcd f (v - con p s)) <= n := by
 have h1 : v - con p s ≠ 0 := λe => by
  have h3 := zll (v - con p s) (con p s);have e2 : v - con p s + con p s = v := by exact zj [v, con p s] (by rfl)
  rw [e2, e, zt] at h3;have := jk (p := p) s;omega
 have h3 := zD (xn f (v - con p s)) h1;have h4 := zdk v (con p s);have := jk (p := p) s;omega

end Poly

def zP {α : Type} (G : List α) (k : Nat) (x : α) : List α := G.take k ++ [x] ++ G.drop k
theorem zdF {α : Type} {G : List α} {k j : Nat} {x d : α} (hk : k <= G.length) (h : j < k) : (zP G k x).getD j d = G.getD j d := by
 rw [zP, List.append_assoc, List.getD_eq_getElem?_getD, List.getD_eq_getElem?_getD, List.getElem?_append_left (by simp; omega), List.getElem?_take_of_lt h]
theorem zdG {α : Type} {G : List α} {k : Nat} {x d : α} (hk : k <= G.length) : (zP G k x).getD k d = x := by
 simp [zP, List.getD_eq_getElem?_getD, Nat.min_eq_left hk]
theorem zdH {α : Type} {G : List α} {k j : Nat} {x d : α} (hk : k <= G.length) : (zP G k x).getD (k + 1 + j) d = G.getD (k + j) d := by
 rw [zP, List.getD_eq_getElem?_getD, List.getD_eq_getElem?_getD, List.getElem?_append_right (by simp [Nat.min_eq_left hk]), List.getElem?_drop];simp [Nat.min_eq_left hk]
theorem zbM {α : Type} {G : List α} {k : Nat} {x y : α} : y ∈ zP G k x ↔ y = x ∨ y ∈ G := by
 have : y ∈ G ↔ y ∈ G.take k ++ G.drop k := by rw [List.take_append_drop]
 rw [this, zP];simp only [List.mem_append, List.mem_singleton]
 constructor
 ·rintro ((h | h) | h)
  ·exact .inr (.inl h)
  ·exact .inl h
  ·exact .inr (.inr h)
 ·rintro (h | h | h)
  ·exact .inl (.inr h)
  ·exact .inl (.inl h)
  ·exact .inr h
theorem zbb {α : Type} {G : List α} {k : Nat} {x : α} (hk : k <= G.length) : (zP G k x).length = G.length + 1 := by
 simp [zP]; omega

namespace Poly
variable {p : Int} [SP p]

abbrev Srt (G : List (Poly p × Nat)) : Prop := G.Pairwise λx y => ltP x.1 y.1

theorem yR {α : Type} {d : α} {G : List α} {j : Nat} (h : j < G.length) : G.getD j d = G[j] := by
 rw [List.getD_eq_getElem?_getD, List.getElem?_eq_getElem h]; rfl

theorem Srt.put {G : List (Poly p × Nat)} (h : Srt G) {k : Nat} {x : Poly p × Nat} (hk : k <= G.length) (h1 : ∀ j, j < k -> ltP (G.getD j (0, 0)).1 x.1) (h2 : k = G.length ∨ ¬ ltP (G.getD k (0, 0)).1 x.1) (hn : ∀ y ∈ G, y.1 ≠ x.1) : Srt (zP G k x) := by
 have hG := h;rw [<- List.take_append_drop k G] at hG;obtain ⟨a1, a2, a3⟩ := List.pairwise_append.1 hG
 have ht : ∀ a ∈ G.take k, ltP a.1 x.1 := λa ha => by
  obtain ⟨j, hj, e⟩ := List.getElem_of_mem ha;have hj' : j < k ∧ j < G.length := by simp at hj; omega
  have := h1 j hj'.1;rw [yR hj'.2] at this;rw [List.getElem_take] at e;rw [<- e]; exact this
 have hd : ∀ a ∈ G.drop k, ltP x.1 a.1 := λa ha => by
  obtain ⟨j, hj, e⟩ := List.getElem_of_mem ha;have hj' : k + j < G.length := by simp at hj; omega
  rw [List.getElem_drop] at e;have hk' : k < G.length := by omega
  have hx := h2.resolve_left (by omega);rw [yR hk'] at hx;have hlt : ltP x.1 G[k].1 := (zeQ (hn G[k] (List.getElem_mem hk'))).resolve_left hx;rcases Nat.eq_zero_or_pos j with h0 | h0
  ·subst h0; rw [<- e]; exact hlt
  ·rw [<- e];exact zbH hlt (List.pairwise_iff_getElem.1 h k (k + j) hk' hj' (by omega))
 refine List.pairwise_append.2 ⟨List.pairwise_append.2 ⟨a1, List.pairwise_singleton _ _, λa ha b hb => ?_⟩, a2, λa ha b hb => ?_⟩
 ·rw [List.mem_singleton.1 hb]; exact ht a ha
 ·rcases List.mem_append.1 ha with h' | h'
  ·exact a3 a h' b hb
  ·rw [List.mem_singleton.1 h']; exact hd b hb

structure PutOf (f : Poly p) (t : Nat) (G G' : List (Poly p × Nat)) : Prop where
 srt : Srt G'
 mem : ∀ x, x ∈ G' ↔ x ∈ G ∨ ∃ e, kJ f (x.1, e) ∧ x.2 = t * e

theorem PutOf.unit {f : Poly p} (h : dg f = 1) {t : Nat} {G : List (Poly p × Nat)} (hG : Srt G) : PutOf f t G G :=
 ⟨hG, λ_x => ⟨.inl, λhx => hx.elim id λ⟨_e, he, _⟩ => (zaF h _ he).elim⟩⟩
theorem PutOf.root {g f : Poly p} (hg : g ≠ 0) {n t : Nat} (hn : 1 <= n) (he : g ^ n = f) {G G' : List (Poly p × Nat)} (h : PutOf g (n * t) G G') : PutOf f t G G' :=
 ⟨h.srt, λx => by
  rw [h.mem];refine or_congr Iff.rfl ⟨λ⟨e, h1, h2⟩ => ⟨n * e, (zbL hg hn he _).2 ⟨e, h1, rfl⟩, by rw [h2, Nat.mul_comm n t, Nat.mul_assoc]⟩, λ⟨e, h1, h2⟩ => ?_⟩;obtain ⟨e', h3, h4⟩ := (zbL hg hn he _).1 h1;have h4 : e = n * e' := h4;exact ⟨e', h3, by rw [h2, h4, Nat.mul_comm n t, Nat.mul_assoc]⟩⟩
theorem PutOf.fac {f : Poly p} {F : List (Poly p × Nat)} (h : PutOf f 1 [] F) : FacOf f F :=
 ⟨h.srt, λx => by
  rw [h.mem];refine ⟨λhx => hx.elim (λh => by simp at h) λ⟨e, h1, h2⟩ => ?_, λhx => .inr ⟨x.2, hx, by omega⟩⟩;obtain rfl : e = x.2 := by omega
  exact h1⟩

structure Putting (f : Poly p) (P : List (Poly p)) (t : Nat) (G : List (Poly p × Nat)) (k : Nat) (r : Poly p) (L H : List (Poly p × Nat)) : Prop where
 peel : Peel f P k r L
 srt : Srt H
 mem : ∀ x, x ∈ H ↔ x ∈ G ∨ x ∈ up t L
 len : H.length = G.length + k

theorem Putting.start {f : Poly p} (hm : Mon f) (P : List (Poly p)) (t : Nat) {G : List (Poly p × Nat)} (hG : Srt G) : Putting f P t G 0 f [] G :=
 ⟨Peel.start hm P, hG, λx => by simp [up], rfl⟩

theorem zin {p : Int} {t : Nat} {L : List (Poly p × Nat)} {x : Poly p × Nat} (h : x ∈ up t L) : ∃ y ∈ L, x = (y.1, t * y.2) := by
 obtain ⟨y, hy, e⟩ := List.mem_map.1 h;exact ⟨y, hy, e.symm⟩

theorem Peel.mem_fst {f r : Poly p} {P : List (Poly p)} {k : Nat} {L : List (Poly p × Nat)} (h : Peel f P k r L) {y : Poly p × Nat} (hy : y ∈ L) : ∃ j, j < k ∧ y.1 = P.getD j 0 := by
 obtain ⟨j, hj, e⟩ := List.getElem_of_mem hy;have hjk : j < k := by rw [<- h.len]; exact hj
 have := (h.fac j hjk).1;rw [yR hj, e] at this;exact ⟨j, hjk, this⟩

theorem Putting.step {f r r' : Poly p} {P : List (Poly p)} {t k n i : Nat} {G L H : List (Poly p × Nat)} (h : Putting f P t G k r L H) (hG : ∀ x ∈ G, ¬ x.1 ∣ f) (hP : P.Nodup) (hk : k < P.length) (hi : Irr (P.getD k 0)) (hm : Mon (P.getD k 0)) (hd : P.getD k 0 ∣ f)
  (he : r = P.getD k 0 ^ n * r') (hn : ¬ P.getD k 0 ∣ r') (hil : i <= H.length) (h1 : ∀ j, j < i -> ltP (H.getD j (0, 0)).1 (P.getD k 0)) (h2 : i = H.length ∨ ¬ ltP (H.getD i (0, 0)).1 (P.getD k 0)) :
  Putting f P t G (k + 1) r' (L ++ [(P.getD k 0, n)]) (zP H i (P.getD k 0, n * t)) := by
 refine ⟨h.peel.step hP hk hi hm hd he hn, h.srt.put hil h1 h2 λy hy e => ?_, λx => ?_, by rw [zbb hil, h.len]; omega⟩
 ·have e : y.1 = P.getD k 0 := e;rcases (h.mem y).1 hy with hy | hy
  ·exact hG y hy (e ▸ hd)
  ·obtain ⟨z, hz, rfl⟩ := zin hy;obtain ⟨j, hj, e'⟩ := h.peel.mem_fst hz;have := zaE hP hk (by omega) (e.symm.trans e');omega
 ·rw [zbM, h.mem];have : up t (L ++ [(P.getD k 0, n)]) = up t L ++ [(P.getD k 0, n * t)] := by simp [up, Nat.mul_comm]
  rw [this, List.mem_append, List.mem_singleton]
  constructor
  ·rintro (h | h | h)
   ·exact .inr (.inr h)
   ·exact .inl h
   ·exact .inr (.inl h)
  ·rintro (h | h | h)
   ·exact .inr (.inl h)
   ·exact .inr (.inr h)
   ·exact .inl h

theorem Putting.apart {f r : Poly p} {P : List (Poly p)} {t : Nat} {G L H : List (Poly p × Nat)} (h : Putting f P t G P.length r L H) (hG : ∀ x ∈ G, ¬ x.1 ∣ f) : ∀ x ∈ H, ¬ x.1 ∣ r := by
 intro x hx hd;rcases (h.mem x).1 hx with hx | hx
 ·obtain ⟨s, hs, _⟩ := h.peel.cut;exact hG x hx (zp hd ⟨s, hs⟩)
 ·obtain ⟨z, hz, rfl⟩ := zin hx;obtain ⟨j, hj, e'⟩ := h.peel.mem_fst hz;exact h.peel.out j hj (by rw [<- e']; exact hd)

theorem Putting.fin {f r : Poly p} {P : List (Poly p)} {t : Nat} {G L H G' : List (Poly p × Nat)} (h : Putting f P t G P.length r L H) (hf : Mon f) {q c : Poly p} (hq : zaD q P) (he : f = q * c) (hc : c ∣ der f) (hG' : PutOf r t H G') : PutOf f t G G' := by
 obtain ⟨_, h2⟩ := h.peel.fin hf hq he hc;refine ⟨hG'.srt, λx => ?_⟩;rw [hG'.mem, h.mem]
 constructor
 ·rintro ((h3 | h3) | ⟨e, h3, h4⟩)
  ·exact .inl h3
  ·obtain ⟨z, hz, rfl⟩ := zin h3;exact .inr ⟨z.2, (h2 _).2 (.inl hz), rfl⟩
  ·exact .inr ⟨e, (h2 _).2 (.inr h3), h4⟩
 ·rintro (h3 | ⟨e, h3, h4⟩)
  ·exact .inl (.inl h3)
  ·rcases (h2 _).1 h3 with h5 | h5
   ·refine .inl (.inr (List.mem_map.2 ⟨_, h5, Prod.ext rfl h4.symm⟩))
   ·exact .inr ⟨e, h5, h4⟩

theorem Peel.less {f r : Poly p} {P : List (Poly p)} {L : List (Poly p × Nat)} (h : Peel f P P.length r L) (hf : Mon f) {q c : Poly p} (hq : zaD q P) (he : f = q * c) (hq2 : 2 <= dg q) : dg r < dg f := by
 obtain ⟨g, g1, g2, g3⟩ := vM _ q (Nat.le_refl _) hq2;obtain ⟨j, hj, e⟩ := List.getElem_of_mem ((hq.2 g).2 ⟨g1, g2, g3⟩);have hg : g = P.getD j 0 := by rw [yR hj, e]
 obtain ⟨s, hs, _⟩ := h.cut;have hr0 := h.mon.1;have hs0 : s ≠ 0 := λe => hf.1 (by rw [hs, e]; exact zj [r] (by rfl));have h1 := yA hr0 hs0;rw [<- hs] at h1
 have hgs : g ∣ s := by
  have : g ∣ r * s := by rw [<- hs, he]; exact zp g3 ⟨c, rfl⟩
  rcases g1.prime this with h2 | h2
  ·exact absurd (hg ▸ h2) (h.out j hj)
  ·exact h2
 have h2 := zD hgs hs0;have h3 := g1.1;omega

theorem zhb {a : Poly p} {n : Nat} (h : 1 <= n) : a ∣ a ^ n := by
 obtain ⟨m, rfl⟩ : ∃ m, n = m + 1 := ⟨n - 1, by omega⟩
 exact ⟨a ^ m, by rw [zh]; exact vr _ _⟩

theorem zlL {g f : Poly p} (hg : Mon g) (he : g ^ p.toNat = f) (h2 : 2 <= dg f) : p.toNat < dg f := by
 have : 2 <= dg g := by
  refine Classical.byContradiction λh => ?_
  have h1 : dg g = 1 := by
   have : dg g ≠ 0 := λe => hg.1 (zd.1 e);omega
  have h3 : g = 1 := zie hg zfx (zgN h1 _) (zcy g);rw [h3, zcB] at he;rw [<- he, xh] at h2;omega
 have := kH this p.toNat;rw [he] at this;exact this

theorem zio {G : List (Poly p × Nat)} (f : Poly p) : ∃ k, k <= G.length ∧ (∀ j, j < k -> ltP (G.getD j (0, 0)).1 f) ∧ (k = G.length ∨ ¬ ltP (G.getD k (0, 0)).1 f) := by
 have go : ∀ n, n <= G.length -> (∀ j, j < n -> ltP (G.getD j (0, 0)).1 f) ∨ ∃ k, k <= G.length ∧ (∀ j, j < k -> ltP (G.getD j (0, 0)).1 f) ∧ (k = G.length ∨ ¬ ltP (G.getD k (0, 0)).1 f) := by
  intro n
  induction n with
  | zero => intro _; exact .inl λj hj => by omega
  | succ n ih =>
   intro hn;rcases ih (by omega) with h | h
   ·by_cases hl : ltP (G.getD n (0, 0)).1 f
    ·exact .inl λj hj => by
      by_cases hj2 : j = n
      ·subst hj2; exact hl
      ·exact h j (by omega)
    ·exact .inr ⟨n, by omega, h, .inr hl⟩
   ·exact .inr h
 rcases go G.length (Nat.le_refl _) with h | h
 ·exact ⟨G.length, Nat.le_refl _, h, .inl rfl⟩
 ·exact h

theorem zcc : ∀ (n : Nat) (f : Poly p), dg f <= n -> f ≠ 0 -> ∃ F, FacOf f F
 | 0, f, hd, hf => absurd (zd.1 (by omega)) hf
 | n + 1, f, hd, hf => by
  by_cases h1 : dg f = 1
  ·exact ⟨[], List.Pairwise.nil, λx => ⟨λhx => by simp at hx, λhx => (zaF h1 _ hx).elim⟩⟩
  have h2 : dg f ≠ 0 := λe => hf (zd.1 e);obtain ⟨h, hi, hm, hdv⟩ := vM _ f (Nat.le_refl _) (by omega);obtain ⟨e, he⟩ := yK hi.1 _ f hf (Nat.le_refl _)
  have he1 : 1 <= e := by
   rcases Nat.eq_zero_or_pos e with h0 | h0
   ·subst h0; exact absurd hdv (zY.1 he)
   ·exact h0
  obtain ⟨u, hu1, hu2⟩ := id he;have hu0 : u ≠ 0 := λe0 => hf (by rw [hu1, e0]; exact zj [h ^ e] (by rfl));have hp0 : h ^ e ≠ 0 := λe0 => hf (by rw [hu1, e0]; exact zj [u] (by rfl));have hdg := yA hp0 hu0;rw [<- hu1] at hdg;have hpd := kH hi.1 e;obtain ⟨F, hF⟩ := zcc n u (by omega) hu0;obtain ⟨k, hk, hk1, hk2⟩ := zio (G := F) h;have hnot : ∀ g : Poly p, Irr g -> Mon g -> g ≠ h -> ¬ g ∣ h ^ e := λg gi gm hne hd => hne (kF gi hi gm hm (gi.pow hd));refine ⟨zP F k (h, e), Srt.put hF.1 hk hk1 hk2 (λy hy e0 => ?_), λx => ?_⟩
  ·obtain ⟨_, _, a3, a4⟩ := (hF.2 y).1 hy;have e0 : y.1 = h := e0;exact hu2 (by rw [<- e0]; exact a4.dvd a3)
  ·rw [zbM, hF.2]
   constructor
   ·rintro (rfl | ⟨a1, a2, a3, a4⟩)
    ·exact ⟨hi, hm, he1, he⟩
    ·refine ⟨a1, a2, a3, ?_⟩;have hne : x.1 ≠ h := λe0 => hu2 (by rw [<- e0]; exact a4.dvd a3);have := zH.mul a1 (zY.2 (hnot _ a1 a2 hne)) a4;rw [Nat.zero_add, <- hu1] at this;exact this
   ·rintro ⟨a1, a2, a3, a4⟩
    by_cases hx : x.1 = h
    ·left
     have : x.2 = e := zH.unique hi.ne (by rw [<- hx]; exact a4) he;exact Prod.ext hx this
    ·right
     obtain ⟨e', he'⟩ := yK a1.1 _ u hu0 (Nat.le_refl _);have h5 := zH.mul a1 (zY.2 (hnot _ a1 a2 hx)) he';rw [Nat.zero_add, <- hu1] at h5;rw [zH.unique a1.ne h5 a4] at he';exact ⟨a1, a2, a3, he'⟩
theorem ziq {f : Poly p} (hf : f ≠ 0) : ∃ F, FacOf f F := zcc _ f (Nat.le_refl _) hf

end Poly
namespace Poly

def Digs (p : Nat) (l : List Int) : Prop := ∀ x ∈ l, 0 <= x ∧ x < p
structure Top (p d : Nat) (l : List Int) : Prop where
 len : l.length = d + 1
 one : cf l d = 1
 digs : Digs p l
end Poly
namespace Poly
variable {p : Int} [SP p]

def One (f x : Poly p) (e : Nat) : Prop := f ∣ x ^ e - 1
/- powers that are 1 -/
end Poly
namespace Poly
variable {p : Int} [SP p]

def PrN (l : Nat) : Prop := 2 <= l ∧ ∀ d, d ∣ l -> d = 1 ∨ d = l
def zlM : List (Nat × Nat) -> Nat
 | [] => 1
 | x :: l => x.1 ^ x.2 * zlM l
structure FacN (n : Nat) (L : List (Nat × Nat)) : Prop where
 prod : zlM L = n
 pr : ∀ x ∈ L, PrN x.1 ∧ 1 <= x.2
 one : L.Pairwise λx y => x.1 ≠ y.1
end Poly
namespace Poly

structure FacS (n : Nat) (L : List (Nat × Nat)) : Prop where
 prod : zlM L = n
 pr : ∀ x ∈ L, PrN x.1 ∧ 1 <= x.2
 sort : L.Pairwise λx y => x.1 < y.1
/- a search for factors that goes up -/
/- orders, by steps down -/
structure OrdI {p : Int} [SP p] (f x : Poly p) (n : Nat) (L : List (Nat × Nat)) (i e : Nat) : Prop where
 pos : 0 < e
 dvd : e ∣ n
 one : One f x e
 todo : ∀ y ∈ L.drop i, y.1 ^ y.2 ∣ e
 done : ∀ y ∈ L.take i, y.1 ∣ e -> ¬ One f x (e / y.1)
structure OrdJ {p : Int} [SP p] (f x : Poly p) (n : Nat) (L : List (Nat × Nat)) (i : Nat) (l k j e : Nat) : Prop where
 pos : 0 < e
 dvd : e ∣ n
 one : One f x e
 todo : ∀ y ∈ L.drop (i + 1), y.1 ^ y.2 ∣ e
 done : ∀ y ∈ L.take i, y.1 ∣ e -> ¬ One f x (e / y.1)
 at_ : (∃ m, e = l ^ (k - j) * m ∧ ¬ l ∣ m ∧ j <= k) ∨ ¬ One f x (e / l)
end Poly
namespace Poly

end Poly
namespace Poly
variable {p : Int} [SP p]

structure CofI (f h a b u v : Poly p) : Prop where
 a0 : a ≠ 0
 lt : dg b < dg a
 cop : Cop a b
 ua : f ∣ u * h - a
 vb : f ∣ v * h - b
 dv : dg v + dg a <= dg f + 1
 du : dg u + dg a <= dg f
end Poly
namespace Poly
variable {p : Int} [SP p]

noncomputable def frN (f X : Poly p) : Nat -> Poly p
 | 0 => X
 | k + 1 => rem (frN f X k ^ p.toNat) f
structure Per (f X : Poly p) (m : Nat) : Prop where
 pos : 0 < m
 back : frN f X m = X
 first : ∀ k, 0 < k -> k < m -> frN f X k ≠ X
end Poly
namespace Hull

def crs (X Y : Nat -> Int) (a b j : Nat) : Int := (Y j - Y a) * (X b - X a) - (Y b - Y a) * (X j - X a)

theorem zir {a b : Int} (ha : 0 < a) (h : 0 < a * b) : 0 < b := by
 rcases Int.lt_trichotomy b 0 with h1 | h1 | h1
 ·have := Int.mul_neg_of_pos_of_neg ha h1; omega
 ·subst h1; simp at h
 ·exact h1
theorem jn {a b : Int} (ha : 0 < a) (h : 0 <= a * b) : 0 <= b := by
 rcases Int.lt_or_le b 0 with h1 | h1
 ·have := Int.mul_neg_of_pos_of_neg ha h1; omega
 ·exact h1

section
variable {X Y : Nat -> Int} {n : Nat}

theorem zdI (a b : Nat) : crs X Y a b b = 0 := by unfold crs; rw [Int.mul_comm]; omega
theorem zhc (a b j : Nat) : crs X Y a j b = -crs X Y a b j := by
 unfold crs; omega

theorem zkb (u1 v1 u2 v2 u3 v3 : Int) : u2 * (v3 * u1 - v1 * u3) = u1 * (v3 * u2 - v2 * u3) + u3 * (v2 * u1 - v1 * u2) := by grind
theorem zjj (u1 v1 u v s t : Int) : u1 * (t * u - v * s) = u * (t * u1 - v1 * s) + s * (v1 * u - v * u1) := by grind
theorem zlN (u1 v1 u v s t : Int) : (u - u1) * (t * u - v * s) = u * ((t - v1) * (u - u1) - (v - v1) * (s - u1)) + (u - s) * (v1 * u - v * u1) := by grind

structure Good (X Y : Nat -> Int) (n a b : Nat) : Prop where
 lt : a < b
 le : b <= n
 up : ∀ j, a < j -> j <= b -> 0 <= crs X Y a b j
 past : ∀ j, b < j -> j <= n -> 0 < crs X Y a b j

theorem Good.unique {a b b' : Nat} (h : Good X Y n a b) (h' : Good X Y n a b') : b = b' := by
 rcases Nat.lt_trichotomy b b' with h1 | h1 | h1
 ·have h2 := h.past b' h1 h'.le;have h3 := h'.up b h.lt (by omega);rw [zhc] at h3; omega
 ·exact h1
 ·have h2 := h'.past b h1 h.le;have h3 := h.up b' h'.lt (by omega);rw [zhc] at h3; omega

theorem zis (hX : ∀ i j, i < j -> j <= n -> X i < X j) {a b d c : Nat} (h1 : a < b) (h2 : b < d) (h3 : d < c) (hc : c <= n) (k1 : 0 < crs X Y a b d) (k2 : 0 < crs X Y b d c) : 0 < crs X Y a b c := by
 have x1 := hX a b h1 (by omega);have x2 := hX b d h2 (by omega);have x3 := hX d c h3 hc;have e1 : crs X Y a b d = (Y d - Y b) * (X b - X a) - (Y b - Y a) * (X d - X b) := by unfold crs; grind
 have e2 : crs X Y b d c = (Y c - Y b) * (X d - X b) - (Y d - Y b) * (X c - X b) := rfl;have e3 : crs X Y a b c = (Y c - Y b) * (X b - X a) - (Y b - Y a) * (X c - X b) := by unfold crs; grind
 rw [e1] at k1;rw [e2] at k2;rw [e3];refine zir (a := X d - X b) (by omega) ?_;rw [zkb];have p1 := Int.mul_pos (a := X b - X a) (by omega) k2;have p2 := Int.mul_pos (a := X c - X b) (by omega) k1;exact Int.add_pos p1 p2

theorem zlO (hX : ∀ i j, i < j -> j <= n -> X i < X j) {a b k : Nat} (hk : k + 1 <= n) (hg : Good X Y k a b) (hp : crs X Y a b (k + 1) <= 0) (hb : ∀ j, b < j -> j <= k -> 0 <= crs X Y b (k + 1) j) :
  ∀ j, a < j -> j <= k -> 0 <= crs X Y a (k + 1) j := by
 intro j h1 h2;have hab := hg.lt;have hbk := hg.le;have x1 := hX a b hab (by omega);have x2 := hX a j h1 (by omega);have x3 := hX j (k + 1) (by omega) hk;have x4 := hX b (k + 1) (by omega) hk;have e1 : crs X Y a b (k + 1) = (Y (k + 1) - Y a) * (X b - X a) - (Y b - Y a) * (X (k + 1) - X a) := rfl;have e2 : crs X Y a (k + 1) j = (Y j - Y a) * (X (k + 1) - X a) - (Y (k + 1) - Y a) * (X j - X a) := rfl;rw [e1] at hp;rw [e2];rcases Nat.lt_or_ge b j with h3 | h3
 ·have k1 := hb j h3 h2;have e3 : crs X Y b (k + 1) j = ((Y j - Y a) - (Y b - Y a)) * ((X (k + 1) - X a) - (X b - X a)) - ((Y (k + 1) - Y a) - (Y b - Y a)) * ((X j - X a) - (X b - X a)) := by unfold crs; grind
  rw [e3] at k1;refine jn (a := (X (k + 1) - X a) - (X b - X a)) (by omega) ?_;rw [zlN];have p1 := Int.mul_nonneg (a := X (k + 1) - X a) (by omega) k1;have p2 := Int.mul_nonneg (a := (X (k + 1) - X a) - (X j - X a)) (b := (Y b - Y a) * (X (k + 1) - X a) - (Y (k + 1) - Y a) * (X b - X a)) (by omega) (by omega);exact Int.add_nonneg p1 p2
 ·have k1 := hg.up j h1 h3;have e3 : crs X Y a b j = (Y j - Y a) * (X b - X a) - (Y b - Y a) * (X j - X a) := rfl;rw [e3] at k1;refine jn (a := X b - X a) (by omega) ?_;rw [zjj];have p1 := Int.mul_nonneg (a := X (k + 1) - X a) (by omega) k1;have p2 := Int.mul_nonneg (a := X j - X a) (b := (Y b - Y a) * (X (k + 1) - X a) - (Y (k + 1) - Y a) * (X b - X a)) (by omega) (by omega);exact Int.add_nonneg p1 p2

abbrev at' (C : List Nat) (i : Nat) : Nat := C.getD i 0
structure Hul (X Y : Nat -> Int) (n : Nat) (C : List Nat) : Prop where
 pos : 0 < C.length
 first : at' C 0 = 0
 next : ∀ i, i + 1 < C.length -> Good X Y n (at' C i) (at' C (i + 1))

theorem Hul.unique {C C' : List Nat} (h : Hul X Y n C) (h' : Hul X Y n C') (hl : at' C (C.length - 1) = n) (hl' : at' C' (C'.length - 1) = n) : C = C' := by
 have key : ∀ i, i < C.length -> i < C'.length -> at' C i = at' C' i := by
  intro i
  induction i with
  | zero => intro _ _; rw [h.first, h'.first]
  | succ i ih =>
   intro h1 h2;have h3 := h.next i h1;have h4 := h'.next i h2;rw [ih (by omega) (by omega)] at h3;exact h3.unique h4
 have hp := h.pos;have hp' := h'.pos
 have hlen : C.length = C'.length := by
  rcases Nat.lt_trichotomy C.length C'.length with h1 | h1 | h1
  ·have h2 := h'.next (C.length - 1) (by omega);have h3 := key (C.length - 1) (by omega) (by omega);rw [hl] at h3;rw [<- h3] at h2;have := h2.lt;have := h2.le;omega
  ·exact h1
  ·have h2 := h.next (C'.length - 1) (by omega);have h3 := key (C'.length - 1) (by omega) (by omega);rw [hl'] at h3;rw [h3] at h2;have := h2.lt;have := h2.le;omega
 refine List.ext_getElem hlen λi h1 h2 => ?_;have h3 := key i h1 h2
 simpa [at', List.getD_eq_getElem?_getD, h1, h2] using h3

theorem xO {C : List Nat} {x i : Nat} : at' (C ++ [x]) i = if i < C.length then at' C i else if i = C.length then x else 0 := by
 unfold at';rw [List.getD_eq_getElem?_getD, List.getD_eq_getElem?_getD]
 by_cases h1 : i < C.length
 ·rw [if_pos h1, List.getElem?_append_left h1]
 ·rw [if_neg h1]
  by_cases h2 : i = C.length
  ·subst h2; simp
  ·rw [if_neg h2, List.getElem?_eq_none (by simp; omega)]; rfl
theorem zcD {C : List Nat} {i q : Nat} (h : i < q) : at' (C.take q) i = at' C i := by
 unfold at';rw [List.getD_eq_getElem?_getD, List.getD_eq_getElem?_getD, List.getElem?_take, if_pos h]

structure Pop (X Y : Nat -> Int) (k : Nat) (C : List Nat) (q : Nat) : Prop where
 hul : Hul X Y k C
 pos : 1 <= q
 le : q <= C.length
 last : at' C (q - 1) <= k
 up : ∀ j, at' C (q - 1) < j -> j <= k -> 0 <= crs X Y (at' C (q - 1)) (k + 1) j
theorem Pop.start {k : Nat} {C : List Nat} (h : Hul X Y k C) (hl : at' C (C.length - 1) = k) : Pop X Y k C C.length := by
 have hp := h.pos;exact ⟨h, hp, Nat.le_refl _, by omega, λj h1 h2 => by omega⟩
theorem Pop.step {k q : Nat} {C : List Nat} (hX : ∀ i j, i < j -> j <= n -> X i < X j) (hk : k + 1 <= n) (h : Pop X Y k C (q + 2)) (hc : crs X Y (at' C q) (at' C (q + 1)) (k + 1) <= 0) : Pop X Y k C (q + 1) := by
 have hle := h.le;have h1 := h.hul.next q (by omega);have h2 := h1.lt;have h3 := h1.le;exact ⟨h.hul, by omega, by omega, by show at' C q <= k; omega, zlO hX hk h1 hc h.up⟩
theorem Pop.fin {k q : Nat} {C : List Nat} (hX : ∀ i j, i < j -> j <= n -> X i < X j) (hk : k + 1 <= n) (h : Pop X Y k C q) (hc : q = 1 ∨ ∃ r, q = r + 2 ∧ 0 < crs X Y (at' C r) (at' C (r + 1)) (k + 1)) : Hul X Y (k + 1) (C.take q ++ [k + 1]) := by
 have hle := h.le;have hpos := h.pos;have htl : (C.take q).length = q := by simp; omega
 -- all pairs lie below the new point
 have hpast : ∀ d i, i + 1 + d + 1 = q -> 0 < crs X Y (at' C i) (at' C (i + 1)) (k + 1) := by
  intro d
  induction d with
  | zero =>
   intro i hi;rcases hc with hc | ⟨r, hr, hc⟩
   ·omega
   ·obtain rfl : i = r := by omega
    exact hc
  | succ d ih =>
   intro i hi;have h1 := h.hul.next i (by omega);have h2 := h.hul.next (i + 1) (by omega);have h3 := ih (i + 1) (by omega);have h4 := h2.lt;have h5 := h2.le;exact zis hX h1.lt h2.lt (by omega) hk (h1.past _ h4 h5) h3
 refine ⟨by simp, ?_, λi hi => ?_⟩
 ·rw [xO, htl, if_pos (by omega), zcD (by omega)]; exact h.hul.first
 ·rw [List.length_append, htl] at hi;simp only [List.length_cons, List.length_nil] at hi
  rw [xO, xO, htl, if_pos (by omega), zcD (by omega)]
  by_cases h1 : i + 1 < q
  ·rw [if_pos h1, zcD h1];have h2 := h.hul.next i (by omega);have h3 := h2.le;refine ⟨h2.lt, by omega, h2.up, λj h4 h5 => ?_⟩;rcases Nat.lt_or_ge k j with h6 | h6
   ·obtain rfl : j = k + 1 := by omega
    exact hpast (q - i - 2) i (by omega)
   ·exact h2.past j h4 h6
  ·obtain rfl : i + 1 = q := by omega
   rw [if_neg (by omega), if_pos rfl];have h2 := h.last;have h3 := h.up;simp only [Nat.add_sub_cancel] at h2 h3
   refine ⟨by omega, Nat.le_refl _, λj h4 h5 => ?_, λj h4 h5 => by omega⟩;rcases Nat.lt_or_ge k j with h6 | h6
   ·obtain rfl : j = k + 1 := by omega
    rw [zdI]; exact Int.le_refl _
   ·exact h3 j h4 h6

structure Best (X Y : Nat -> Int) (a k b : Nat) : Prop where
 lt : a < b
 le : b <= k
 up : ∀ j, a < j -> j <= b -> 0 <= crs X Y a b j
 past : ∀ j, b < j -> j <= k -> 0 < crs X Y a b j
theorem Best.start (a : Nat) : Best X Y a (a + 1) (a + 1) := ⟨by omega, Nat.le_refl _, λj h1 h2 => by obtain rfl : j = a + 1 := (by omega); rw [zdI]; exact Int.le_refl _, λj h1 h2 => by omega⟩
theorem Best.keep {a k b : Nat} (h : Best X Y a k b) (hc : 0 < crs X Y a b (k + 1)) : Best X Y a (k + 1) b := by
 have hle := h.le;refine ⟨h.lt, by omega, h.up, λj h1 h2 => ?_⟩;rcases Nat.lt_or_ge k j with h3 | h3
 ·obtain rfl : j = k + 1 := by omega
  exact hc
 ·exact h.past j h1 h3
theorem Best.turn (hX : ∀ i j, i < j -> j <= n -> X i < X j) {a k b : Nat} (hk : k + 1 <= n) (h : Best X Y a k b) (hc : crs X Y a b (k + 1) <= 0) : Best X Y a (k + 1) (k + 1) := by
 have h1 := h.lt;have h2 := h.le;have hg : Good X Y k a b := ⟨h.lt, h.le, h.up, h.past⟩
 refine ⟨by omega, Nat.le_refl _, λj h3 h4 => ?_, λj h3 h4 => by omega⟩;rcases Nat.lt_or_ge k j with h5 | h5
 ·obtain rfl : j = k + 1 := by omega
  rw [zdI]; exact Int.le_refl _
 -- b lies below all, and the new point not above b
 have x1 := hX a b h1 (by omega);have x2 := hX a j h3 (by omega);have x3 := hX a (k + 1) (by omega) hk
 have hj : 0 <= crs X Y a b j := by
  rcases Nat.lt_or_ge b j with h6 | h6
  ·exact Int.le_of_lt (h.past j h6 h5)
  ·exact h.up j h3 h6
 have e1 : crs X Y a b (k + 1) = (Y (k + 1) - Y a) * (X b - X a) - (Y b - Y a) * (X (k + 1) - X a) := rfl;have e2 : crs X Y a (k + 1) j = (Y j - Y a) * (X (k + 1) - X a) - (Y (k + 1) - Y a) * (X j - X a) := rfl;have e3 : crs X Y a b j = (Y j - Y a) * (X b - X a) - (Y b - Y a) * (X j - X a) := rfl;rw [e1] at hc;rw [e3] at hj;rw [e2];refine jn (a := X b - X a) (by omega) ?_;rw [zjj];have p1 := Int.mul_nonneg (a := X (k + 1) - X a) (by omega) hj;have p2 := Int.mul_nonneg (a := X j - X a) (b := (Y b - Y a) * (X (k + 1) - X a) - (Y (k + 1) - Y a) * (X b - X a)) (by omega) (by omega);exact Int.add_nonneg p1 p2
theorem Best.good {a b : Nat} (h : Best X Y a n b) : Good X Y n a b := ⟨h.lt, h.le, h.up, h.past⟩
theorem Hul.snoc {C : List Nat} {b : Nat} (h : Hul X Y n C) (hb : Good X Y n (at' C (C.length - 1)) b) : Hul X Y n (C ++ [b]) := by
 have hp := h.pos;refine ⟨by simp, by rw [xO, if_pos hp]; exact h.first, λi hi => ?_⟩;rw [List.length_append] at hi;simp only [List.length_cons, List.length_nil] at hi
 rw [xO, xO, if_pos (by omega)]
 by_cases h1 : i + 1 < C.length
 ·rw [if_pos h1]; exact h.next i h1
 ·obtain e : i + 1 = C.length := by omega
  rw [if_neg h1, if_pos e]
  rwa [show C.length - 1 = i by omega] at hb
theorem Hul.one : Hul X Y n [0] := ⟨by simp, rfl, λi hi => by simp at hi⟩
end
end Hull
namespace Hull

def zit (p c : Int) (v : Nat) : Prop := ∃ u, c = p ^ v * u ∧ ¬ p ∣ u
theorem zit.unique {p c : Int} (hp : 2 <= p) {v v' : Nat} (h : zit p c v) (h' : zit p c v') : v = v' := by
 have key : ∀ {a b : Nat} {u u' : Int}, p ^ a * u = p ^ b * u' -> ¬ p ∣ u' -> a <= b := by
  intro a b u u' he hn;rcases Nat.lt_or_ge b a with h1 | h1
  ·exfalso
   obtain ⟨d, rfl⟩ : ∃ d, a = b + (d + 1) := ⟨a - b - 1, by omega⟩
   have hpos : 0 < p ^ b := Int.pow_pos (by omega);rw [Int.pow_add, Int.mul_assoc] at he;have h2 := Int.eq_of_mul_eq_mul_left (by omega) he;exact hn ⟨p ^ d * u, by rw [<- h2, Int.pow_succ]; grind⟩
  ·exact h1
 obtain ⟨u, h1, h2⟩ := h;obtain ⟨u', h3, h4⟩ := h';exact Nat.le_antisymm (key (h1.symm.trans h3) h4) (key (h3.symm.trans h1) h2)
theorem zkc {p : Int} (hp : 2 <= p) : ∀ (n : Nat) (c : Int), c ≠ 0 -> c.natAbs <= n -> ∃ v, zit p c v := by
 intro n
 induction n with
 | zero => intro c hc hn; omega
 | succ n ih =>
  intro c hc hn
  by_cases hd : p ∣ c
  ·obtain ⟨u, rfl⟩ := hd;have hu : u ≠ 0 := λe => hc (by rw [e, Int.mul_zero])
   have hlt : u.natAbs < (p * u).natAbs := by
    rw [Int.natAbs_mul];have h1 : 2 <= p.natAbs := by omega
    have h2 : 1 <= u.natAbs := by omega
    have := Nat.mul_le_mul_right u.natAbs h1;omega
   obtain ⟨v, w, h1, h2⟩ := ih u hu (by omega);refine ⟨v + 1, w, ?_, h2⟩;rw [Int.pow_succ, h1]; grind
  ·exact ⟨0, c, by simp, hd⟩
noncomputable def vl (p c : Int) : Nat := @dite _ (∃ v, zit p c v) (Classical.propDecidable _) (λh => h.choose) λ_ => 0
theorem k9 {p c : Int} (hp : 2 <= p) (hc : c ≠ 0) : zit p c (vl p c) := by
 have h := zkc hp _ c hc (Nat.le_refl _);unfold vl;rw [dif_pos h];exact h.choose_spec
theorem zlP {p c : Int} (hp : 2 <= p) (hc : c ≠ 0) {v : Nat} (h : zit p c v) : vl p c = v := (k9 hp hc).unique hp h
theorem zdJ {p c : Int} (hp : 2 <= p) (hc : c ≠ 0) {k : Nat} (hb : c.natAbs < 2 ^ k) : vl p c < k := by
 obtain ⟨u, h1, h2⟩ := k9 hp hc;have hu : u ≠ 0 := λe => h2 (by rw [e]; exact ⟨0, by simp⟩);refine Nat.lt_of_not_le λhk => ?_
 have e1 : c.natAbs = p.natAbs ^ vl p c * u.natAbs := by
  have := congrArg Int.natAbs h1;rw [Int.natAbs_mul, Int.natAbs_pow] at this; exact this
 have e2 : 2 ^ k <= p.natAbs ^ vl p c := Nat.le_trans (Nat.pow_le_pow_right (by omega) hk) (Nat.pow_le_pow_left (by omega) _);have e3 : p.natAbs ^ vl p c * 1 <= p.natAbs ^ vl p c * u.natAbs := Nat.mul_le_mul_left _ (by omega);omega

noncomputable def yi (p : Int) (l : List Int) : Nat -> List (Int × Int)
 | 0 => []
 | k + 1 => yi p l k ++ if cf l k = 0 then [] else [(((k : Nat) : Int), ((vl p (cf l k) : Nat) : Int))]
theorem jH (p : Int) (l : List Int) : ∀ k, (yi p l k).length <= k
 | 0 => Nat.le_refl _
 | k + 1 => by
  have := jH p l k;rw [yi, List.length_append]
  split <;> simp <;> omega
theorem zbc {p : Int} {l : List Int} : ∀ {k : Nat} {x : Int × Int}, x ∈ yi p l k -> ∃ i : Nat, i < k ∧ cf l i ≠ 0 ∧ x = (((i : Nat) : Int), ((vl p (cf l i) : Nat) : Int))
 | 0, x, h => by cases h
 | k + 1, x, h => by
  rw [yi, List.mem_append] at h;rcases h with h | h
  ·obtain ⟨i, h1, h2, h3⟩ := zbc h;exact ⟨i, by omega, h2, h3⟩
  ·split at h
   ·cases h
   ·rename_i hc
    simp at h
    exact ⟨k, by omega, hc, h⟩
theorem zcd (p : Int) (l : List Int) : ∀ k, (yi p l k).Pairwise λx y => x.1 < y.1
 | 0 => List.Pairwise.nil
 | k + 1 => by
  rw [yi, List.pairwise_append];refine ⟨zcd p l k, by split <;> simp, λx hx y hy => ?_⟩;obtain ⟨i, h1, _, rfl⟩ := zbc hx
  split at hy
  ·cases hy
  ·simp at hy
   subst hy;show (i : Int) < k
   omega
section
variable {X Y : Nat -> Int} {n : Nat}
theorem zhd (hX : ∀ i j, i < j -> j <= n -> X i < X j) {a : Nat} : ∀ k, a + 1 <= k -> k <= n -> ∃ b, Best X Y a k b := by
 intro k
 induction k with
 | zero => intro h; omega
 | succ k ih =>
  intro h1 h2
  by_cases h3 : k = a
  ·subst h3; exact ⟨k + 1, Best.start k⟩
  ·obtain ⟨b, hb⟩ := ih (by omega) (by omega)
   by_cases hc : 0 < crs X Y a b (k + 1)
   ·exact ⟨b, hb.keep hc⟩
   ·exact ⟨k + 1, Best.turn hX h2 hb (by omega)⟩
theorem ziu (hX : ∀ i j, i < j -> j <= n -> X i < X j) : ∀ (d : Nat) (E : List Nat), Hul X Y n E -> at' E (E.length - 1) <= n -> n - at' E (E.length - 1) <= d -> ∃ C, Hul X Y n C ∧ at' C (C.length - 1) = n := by
 intro d
 induction d with
 | zero => intro E h1 h2 h3; exact ⟨E, h1, by omega⟩
 | succ d ih =>
  intro E h1 h2 h3
  by_cases h4 : at' E (E.length - 1) = n
  ·exact ⟨E, h1, h4⟩
  ·obtain ⟨b, hb⟩ := zhd (Y := Y) hX (a := at' E (E.length - 1)) n (by omega) (Nat.le_refl _);have hg := Best.good hb;have e : at' (E ++ [b]) ((E ++ [b]).length - 1) = b := by rw [List.length_append, xO]; simp
   have h5 := hg.lt;have h6 := hg.le;exact ih (E ++ [b]) (h1.snoc hg) (by rw [e]; exact hg.le) (by rw [e]; omega)
theorem zdK (hX : ∀ i j, i < j -> j <= n -> X i < X j) : ∃ C, Hul X Y n C ∧ at' C (C.length - 1) = n :=
 ziu hX n [0] Hul.one (Nat.zero_le _) (by show n - 0 <= n; omega)
end
theorem zmS (p : Int) (l : List Int) (k : Nat) {i j : Nat} (hij : i < j) (hj : j < (yi p l k).length) : ((yi p l k).getD i (0, 0)).1 < ((yi p l k).getD j (0, 0)).1 := by
 have h := List.pairwise_iff_getElem.1 (zcd p l k) i j (by omega) hj hij;rw [List.getD_eq_getElem?_getD, List.getD_eq_getElem?_getD, List.getElem?_eq_getElem hj, List.getElem?_eq_getElem (by omega)];exact h
theorem zmT {p : Int} (hp : 2 <= p) {l : List Int} (hb : ∀ j, -1000000 <= cf l j ∧ cf l j <= 1000000) {k : Nat} (hk : k <= 100) (i : Nat) : (0 <= ((yi p l k).getD i (0, 0)).1 ∧ ((yi p l k).getD i (0, 0)).1 <= 100) ∧ 0 <= ((yi p l k).getD i (0, 0)).2 ∧ ((yi p l k).getD i (0, 0)).2 <= 100 := by
 by_cases hi : i < (yi p l k).length
 ·rw [List.getD_eq_getElem?_getD, List.getElem?_eq_getElem hi];obtain ⟨q, h1, h2, h3⟩ := zbc (List.getElem_mem hi);have h4 := hb q;have h5 := zdJ hp h2 (k := 20) (by have : (2 : Nat) ^ 20 = 1048576 := rfl; omega);show (0 <= ((yi p l k)[i]).1 ∧ ((yi p l k)[i]).1 <= 100) ∧ 0 <= ((yi p l k)[i]).2 ∧ ((yi p l k)[i]).2 <= 100
  rw [h3];dsimp only
  omega
 ·rw [List.getD_eq_getElem?_getD, List.getElem?_eq_none (by omega)];exact ⟨⟨by decide, by decide⟩, by decide, by decide⟩
end Hull
namespace Hull
open Poly

def Cor (p : Int) (l : List Int) (a : Int × Int) : Prop := ∃ i : Nat, i < l.length ∧ cf l i ≠ 0 ∧ a = (((i : Nat) : Int), ((vl p (cf l i) : Nat) : Int))

noncomputable def jY (p a : Int) (y : Nat) : Int := if a ≠ 0 ∧ vl p a = y then (a.tdiv (p ^ y)) % p else 0
theorem zmU {p a : Int} (hp : 2 <= p) {y : Nat} (h : a.tmod (p ^ y) ≠ 0) : jY p a y = 0 := by
 unfold jY;rw [if_neg];rintro ⟨h1, rfl⟩;obtain ⟨u, h2, _⟩ := k9 hp h1;exact h (Int.tmod_eq_zero_of_dvd ⟨u, h2⟩)
theorem zlQ {p a : Int} (hp : 2 <= p) {y : Nat} (h : a.tmod (p ^ y) = 0) : jY p a y = a.tdiv (p ^ y) % p := by
 unfold jY
 split
 ·rfl
 ·rename_i hn
  obtain ⟨w, hw⟩ := Int.dvd_of_tmod_eq_zero h;have hpos : 0 < p ^ y := Int.pow_pos (by omega);have e1 : a.tdiv (p ^ y) = w := by rw [hw]; exact Int.mul_tdiv_cancel_left w (by omega)
  rw [e1]
  by_cases hd : p ∣ w
  ·exact (Int.emod_eq_zero_of_dvd hd).symm
  ·exfalso
   refine hn ⟨λe => ?_, ?_⟩
   ·rw [e] at hw;rcases Int.mul_eq_zero.1 hw.symm with h1 | h1
    ·omega
    ·exact hd (by rw [h1]; exact Int.dvd_zero p)
   ·have hc : a ≠ 0 := λe => by
     rw [e] at hw;rcases Int.mul_eq_zero.1 hw.symm with h1 | h1
     ·omega
     ·exact hd (by rw [h1]; exact Int.dvd_zero p)
    exact zlP hp hc ⟨w, hw, hd⟩
theorem zmV {p : Int} (hp : 2 <= p) (a : Int) (y : Nat) : 0 <= jY p a y ∧ jY p a y < p := by
 unfold jY
 split
 ·exact ⟨Int.emod_nonneg _ (by omega), Int.emod_lt_of_pos _ (by omega)⟩
 ·omega
theorem zhe {p a : Int} (hp : 2 <= p) (ha : a ≠ 0) : jY p a (vl p a) ≠ 0 := by
 unfold jY;rw [if_pos ⟨ha, rfl⟩];obtain ⟨u, h2, h3⟩ := k9 hp ha;have hpos : 0 < p ^ vl p a := Int.pow_pos (by omega)
 have e1 : a.tdiv (p ^ vl p a) = u := by
  have := Int.mul_tdiv_cancel_left u (a := p ^ vl p a) (by omega);rw [<- h2] at this; exact this
 rw [e1];exact λe => h3 (Int.dvd_of_emod_eq_zero e)
theorem zlR {p a : Int} (hp : 2 <= p) {y : Nat} (h : a ≠ 0 ∧ vl p a = y) {i : Nat} (hi : i < y) : (a.tdiv (p ^ i)).tdiv p = a.tdiv (p ^ (i + 1)) := by
 obtain ⟨u, h2, _⟩ := k9 hp h.1;rw [h.2] at h2;obtain ⟨d, rfl⟩ : ∃ d, y = i + 1 + d := ⟨y - i - 1, by omega⟩
 have e1 : a = p ^ i * (p * (p ^ d * u)) := by rw [h2, Int.pow_add, Int.pow_succ, Int.mul_assoc, Int.mul_assoc]
 have e2 : a = p ^ (i + 1) * (p ^ d * u) := by rw [h2, Int.pow_add, Int.mul_assoc]
 have p1 : 0 < p ^ i := Int.pow_pos (by omega);have p2 : 0 < p ^ (i + 1) := Int.pow_pos (by omega);have t1 := Int.mul_tdiv_cancel_left (p * (p ^ d * u)) (a := p ^ i) (by omega);have t2 := Int.mul_tdiv_cancel_left (p ^ d * u) (a := p ^ (i + 1)) (by omega);rw [<- e1] at t1;rw [<- e2] at t2;rw [t1, t2];exact Int.mul_tdiv_cancel_left _ (by omega)
theorem zfI {p a : Int} (i : Nat) (hb : -1000000 <= a ∧ a <= 1000000) : -1000000 <= a.tdiv (p ^ i) ∧ a.tdiv (p ^ i) <= 1000000 := by
 have h : (a.tdiv (p ^ i)).natAbs <= a.natAbs := by rw [Int.natAbs_tdiv]; exact Nat.div_le_self _ _
 omega

structure Ln (a b : Int × Int) (g : Nat) (run rise : Int) : Prop where
 run1 : 1 <= run
 g1 : 1 <= g
 ex : run * g = b.1 - a.1
 ey : rise * g = b.2 - a.2
theorem Ln.mul {a b : Int × Int} {g : Nat} {run rise : Int} (h : Ln a b g run rise) {k : Nat} (hk : k <= g) : (k : Int) * run <= b.1 - a.1 := by
 have h1 := h.run1;rw [<- h.ex, Int.mul_comm run];exact Int.mul_le_mul_of_nonneg_right (by omega) (by omega)
theorem Ln.x {a b : Int × Int} {g : Nat} {run rise : Int} (h : Ln a b g run rise) {k : Nat} (hk : k <= g) : a.1 <= a.1 + (k : Int) * run ∧ a.1 + (k : Int) * run <= b.1 := by
 have h1 := h.run1;have h2 := h.mul hk;have h3 : 0 <= (k : Int) * run := Int.mul_nonneg (by omega) (by omega);omega
theorem Ln.y {a b : Int × Int} {g : Nat} {run rise : Int} (h : Ln a b g run rise) {k : Nat} (hk : k <= g) : (a.2 <= a.2 + (k : Int) * rise ∧ a.2 + (k : Int) * rise <= b.2) ∨ (b.2 <= a.2 + (k : Int) * rise ∧ a.2 + (k : Int) * rise <= a.2) := by
 have h1 := h.ey;have hkg : (k : Int) <= g := by omega
 rcases Int.le_total 0 rise with h2 | h2
 ·have h3 := Int.mul_le_mul_of_nonneg_right hkg h2;have h4 : 0 <= (k : Int) * rise := Int.mul_nonneg (by omega) h2;rw [Int.mul_comm] at h1
  left; omega
 ·have h3 := Int.mul_le_mul_of_nonneg_right hkg (show 0 <= -rise by omega);have h4 : 0 <= (k : Int) * -rise := Int.mul_nonneg (by omega) (by omega);rw [Int.mul_neg] at h4 h3;rw [Int.mul_neg] at h3;rw [Int.mul_comm] at h1
  right; omega
theorem Ln.iff {a b : Int × Int} {g : Nat} {run rise : Int} (h : Ln a b g run rise) {k : Nat} : (k : Int) * run <= b.1 - a.1 ↔ k <= g := by
 refine ⟨λh1 => ?_, h.mul⟩;rw [<- h.ex, Int.mul_comm run] at h1;have := Int.le_of_mul_le_mul_right h1 (by have := h.run1; omega);omega
theorem Ln.quot {a b : Int × Int} {g : Nat} {run rise : Int} (h : Ln a b g run rise) : (b.1 - a.1).tdiv run = g := by
 rw [<- h.ex];exact Int.mul_tdiv_cancel_left _ (by have := h.run1; omega)
theorem znS {a b : Int × Int} (h : a.1 < b.1) : Ln a b (Int.gcd (b.1 - a.1) (b.2 - a.2)) ((b.1 - a.1).tdiv (Int.gcd (b.1 - a.1) (b.2 - a.2) : Nat)) ((b.2 - a.2).tdiv (Int.gcd (b.1 - a.1) (b.2 - a.2) : Nat)) := by
 have hg : Int.gcd (b.1 - a.1) (b.2 - a.2) ≠ 0 := λe => by rw [Int.gcd_eq_zero_iff] at e; omega
 have ex : (b.1 - a.1).tdiv (Int.gcd (b.1 - a.1) (b.2 - a.2) : Nat) * (Int.gcd (b.1 - a.1) (b.2 - a.2) : Nat) = b.1 - a.1 := Int.tdiv_mul_cancel (Int.gcd_dvd_left ..);have ey : (b.2 - a.2).tdiv (Int.gcd (b.1 - a.1) (b.2 - a.2) : Nat) * (Int.gcd (b.1 - a.1) (b.2 - a.2) : Nat) = b.2 - a.2 := Int.tdiv_mul_cancel (Int.gcd_dvd_right ..);refine ⟨?_, by omega, ex, ey⟩;refine Classical.byContradiction λhn => ?_;have h0 := Int.mul_nonneg (show 0 <= -((b.1 - a.1).tdiv (Int.gcd (b.1 - a.1) (b.2 - a.2) : Nat)) by omega) (show (0 : Int) <= (Int.gcd (b.1 - a.1) (b.2 - a.2) : Nat) by omega);rw [Int.neg_mul] at h0;omega

noncomputable def xp (p : Int) (l : List Int) (a : Int × Int) (run rise : Int) : Nat -> List Int
 | 0 => []
 | k + 1 => xp p l a run rise k ++ [jY p (cf l (a.1 + (k : Int) * run).toNat) (a.2 + (k : Int) * rise).toNat]
theorem y5 (p : Int) (l : List Int) (a : Int × Int) (run rise : Int) : ∀ k, (xp p l a run rise k).length = k
 | 0 => rfl
 | k + 1 => by rw [xp, List.length_append, y5]; rfl
theorem zjk {p : Int} (hp : 2 <= p) {l : List Int} {a : Int × Int} {run rise : Int} : ∀ (k : Nat) (x : Int), x ∈ xp p l a run rise k -> 0 <= x ∧ x < p
 | 0, x, h => by cases h
 | k + 1, x, h => by
  rw [xp, List.mem_append] at h;rcases h with h | h
  ·exact zjk hp k x h
  ·simp at h
   subst h;exact zmV hp _ _
theorem zkd {p : Int} (hp : 2 <= p) {l : List Int} {a b : Int × Int} {g : Nat} {run rise : Int} (h : Ln a b g run rise) (hb : Cor p l b) : cf (xp p l a run rise (g + 1)) g ≠ 0 := by
 obtain ⟨i, h1, h2, rfl⟩ := hb;have ex := h.ex;have ey := h.ey;have e1 : (a.1 + (g : Int) * run).toNat = i := by rw [Int.mul_comm]; dsimp only at ex; omega
 have e2 : (a.2 + (g : Int) * rise).toNat = vl p (cf l i) := by rw [Int.mul_comm]; dsimp only at ey; omega
 rw [xp, e1, e2];unfold cf;rw [List.getD_eq_getElem?_getD, List.getElem?_append_right (by rw [y5]; exact Nat.le_refl _), y5, Nat.sub_self];exact zhe hp h2
theorem zhf {p : Int} (hp : 2 <= p) {l : List Int} {a b : Int × Int} {g : Nat} {run rise : Int} (h : Ln a b g run rise) (hb : Cor p l b) : Nrm p (xp p l a run rise (g + 1)) :=
 ⟨zjk hp (g + 1), λn hn => by
  rw [y5] at hn;obtain rfl : n = g := by omega
  exact zkd hp h hb⟩

theorem zdL {p : Int} (hp : 2 <= p) {l : List Int} {a : Int × Int} {run rise : Int} (ha : Cor p l a) : ∀ k, cf (xp p l a run rise (k + 1)) 0 ≠ 0
 | 0 => by
  obtain ⟨i, h1, h2, rfl⟩ := ha;have e1 : (((i : Nat) : Int) + ((0 : Nat) : Int) * run).toNat = i := by simp
  have e2 : (((vl p (cf l i) : Nat) : Int) + ((0 : Nat) : Int) * rise).toNat = vl p (cf l i) := by simp
  rw [xp, xp];dsimp only
  rw [e1, e2];exact zhe hp h2
 | k + 1 => by
  rw [xp];unfold cf;rw [List.getD_eq_getElem?_getD, List.getElem?_append_left (by rw [y5]; omega), <- List.getD_eq_getElem?_getD];exact zdL hp ha k

theorem zlS {p : Int} {l : List Int} {j : Nat} (hj : j < (yi p l l.length).length) : Cor p l ((yi p l l.length).getD j (0, 0)) := by
 rw [List.getD_eq_getElem?_getD, List.getElem?_eq_getElem hj];obtain ⟨i, h1, h2, h3⟩ := zbc (List.getElem_mem hj);exact ⟨i, h1, h2, h3⟩

end Hull
namespace Spl

abbrev Sp := Int × Int × Int
abbrev z0 : Sp := (0, 0, 0)
def lt (a b : Sp) : Prop := a.1 < b.1 ∨ a.1 = b.1 ∧ a.2.1 < b.2.1
instance (a b : Sp) : Decidable (lt a b) := by unfold lt; infer_instance
def cmp (a b : Sp) : Int := if lt a b then -1 else if lt b a then 1 else 0
theorem cmp_lt {a b : Sp} : cmp a b < 0 ↔ lt a b := by
 unfold cmp; split
 ·rename_i h; exact ⟨λ_ => h, λ_ => by decide⟩
 ·rename_i h; split <;> exact ⟨λh' => absurd h' (by decide), λh' => absurd h' h⟩
theorem lt_trans {a b c : Sp} (h : lt a b) (h' : lt b c) : lt a c := by unfold lt at *; omega
theorem znv {a b : Sp} : cmp a b = 0 ↔ a.1 = b.1 ∧ a.2.1 = b.2.1 := by
 unfold cmp
 split
 ·rename_i h1; unfold lt at h1; constructor <;> intro h <;> omega
 ·rename_i h1
  split
  ·rename_i h2; unfold lt at h2; constructor <;> intro h <;> omega
  ·rename_i h2; unfold lt at h1 h2; constructor <;> intro h <;> omega
theorem cmp_not {a b : Sp} (h : ¬ lt a b) : cmp a b = 0 ↔ ¬ lt b a := by
 rw [znv]; unfold lt at *; omega

def Srt (L : List Sp) : Prop := ∀ i j, i < j -> j < L.length -> lt (L.getD i z0) (L.getD j z0)

structure At (L : List Sp) (x : Sp) (n : Nat) : Prop where
 le : n <= L.length
 lo : ∀ j, j < n -> lt (L.getD j z0) x
 hi : n < L.length -> ¬ lt (L.getD n z0) x
theorem At.unique {L : List Sp} {x : Sp} {n m : Nat} (h : At L x n) (h' : At L x m) : n = m := by
 rcases Nat.lt_trichotomy n m with h1 | h1 | h1
 ·exact absurd (h'.lo n h1) (h.hi (by have := h'.le; omega))
 ·exact h1
 ·exact absurd (h.lo m h1) (h'.hi (by have := h.le; omega))
theorem At.exists (x : Sp) : ∀ L : List Sp, ∃ n, At L x n
 | [] => ⟨0, Nat.le_refl _, λj hj => absurd hj (Nat.not_lt_zero j), λh => absurd h (Nat.lt_irrefl 0)⟩
 | y :: r => by
  by_cases h : lt y x
  ·obtain ⟨n, h1⟩ := At.exists x r;refine ⟨n + 1, by have := h1.le; simp; omega, λj hj => ?_, λhn => ?_⟩
   ·cases j with
    | zero => exact h
    | succ j => exact h1.lo j (by omega)
   ·exact h1.hi (by simpa using hn)
  ·exact ⟨0, Nat.zero_le _, λj hj => absurd hj (Nat.not_lt_zero j), λ_ => h⟩
noncomputable def pos (L : List Sp) (x : Sp) : Nat := (At.exists x L).choose
theorem pos_at (L : List Sp) (x : Sp) : At L x (pos L x) := (At.exists x L).choose_spec
theorem pos_eq {L : List Sp} {x : Sp} {n : Nat} (h : At L x n) : pos L x = n := (pos_at L x).unique h

def there (L : List Sp) (x : Sp) (n : Nat) : Prop := n < L.length ∧ ¬ lt x (L.getD n z0)
def more (y : Sp) (t : Int) : Sp := (y.1, y.2.1, y.2.2 + t)
noncomputable def put (L : List Sp) (x : Sp) : List Sp :=
 @ite _ (there L x (pos L x)) (Classical.propDecidable _) (L.set (pos L x) (more (L.getD (pos L x) z0) x.2.2)) (L.take (pos L x) ++ x :: L.drop (pos L x))
theorem put_there {L : List Sp} {x : Sp} (h : there L x (pos L x)) : put L x = L.set (pos L x) (more (L.getD (pos L x) z0) x.2.2) := by unfold put; rw [if_pos h]
theorem put_not {L : List Sp} {x : Sp} (h : ¬ there L x (pos L x)) : put L x = L.take (pos L x) ++ x :: L.drop (pos L x) := by unfold put; rw [if_neg h]

theorem set_getD {L : List Sp} {n j : Nat} {y : Sp} (h : n < L.length) : (L.set n y).getD j z0 = if j = n then y else L.getD j z0 := by
 rw [List.getD_eq_getElem?_getD, List.getD_eq_getElem?_getD, List.getElem?_set]
 by_cases hj : j = n
 ·subst hj; rw [if_pos rfl, if_pos rfl, if_pos h]; rfl
 ·rw [if_neg hj, if_neg λe => hj e.symm]
theorem ins_getD {L : List Sp} {n j : Nat} {y : Sp} (h : n <= L.length) : (L.take n ++ y :: L.drop n).getD j z0 = if j < n then L.getD j z0 else if j = n then y else L.getD (j - 1) z0 := by
 have htl : (L.take n).length = n := by rw [List.length_take]; omega
 rw [List.getD_eq_getElem?_getD]
 split
 ·rename_i h1
  rw [List.getElem?_append_left (by omega), List.getElem?_take_of_lt h1, List.getD_eq_getElem?_getD]
 ·rw [List.getElem?_append_right (by omega), htl]
  split
  ·rename_i h1 h2; subst h2; rw [Nat.sub_self]; rfl
  ·rename_i h1 h2
   obtain ⟨k, rfl⟩ : ∃ k, j = n + 1 + k := ⟨j - n - 1, by omega⟩
   rw [show n + 1 + k - n = k + 1 by omega, List.getElem?_cons_succ, List.getElem?_drop, List.getD_eq_getElem?_getD, show n + 1 + k - 1 = n + k by omega]
theorem ins_len {L : List Sp} {n : Nat} {y : Sp} (h : n <= L.length) : (L.take n ++ y :: L.drop n).length = L.length + 1 := by
 simp; omega

structure Ok (c : Nat) (L : List Sp) : Prop where
 srt : Srt L
 few : L.length <= c
 bd : ∀ j, j < L.length -> (1 <= (L.getD j z0).1 ∧ (L.getD j z0).1 <= 1000) ∧ (1 <= (L.getD j z0).2.1 ∧ (L.getD j z0).2.1 <= 1000) ∧ 1 <= (L.getD j z0).2.2 ∧ (L.getD j z0).2.2 <= c
theorem Ok.nil : Ok 0 [] := ⟨λ_ j _ h => absurd h (Nat.not_lt_zero j), Nat.le_refl _, λj h => absurd h (Nat.not_lt_zero j)⟩
theorem Ok.put {c : Nat} {L : List Sp} (h : Ok c L) {x : Sp} (h1 : 1 <= x.1 ∧ x.1 <= 1000) (h2 : 1 <= x.2.1 ∧ x.2.1 <= 1000) (h3 : x.2.2 = 1) : Ok (c + 1) (put L x) := by
 have ha := pos_at L x;generalize hn : pos L x = n at ha;have hle := ha.le;have hfew := h.few
 by_cases hc : there L x (pos L x)
 ·rw [put_there hc, hn];rw [hn] at hc;obtain ⟨hlt, hnl⟩ := hc;have hm : (more (L.getD n z0) x.2.2).1 = (L.getD n z0).1 ∧ (more (L.getD n z0) x.2.2).2.1 = (L.getD n z0).2.1 := ⟨rfl, rfl⟩
  refine ⟨λi j hij hj => ?_, by rw [List.length_set]; omega, λj hj => ?_⟩
  ·rw [List.length_set] at hj;rw [set_getD hlt, set_getD hlt];have := h.srt i j hij hj;unfold lt at *
   split <;> split <;> first | (subst_vars; rw [hm.1, hm.2]; assumption) | assumption | omega
  ·rw [List.length_set] at hj;rw [set_getD hlt];have hb := h.bd j hj
   split
   ·rename_i hj'; subst hj'
    refine ⟨hb.1, hb.2.1, ?_⟩;show 1 <= (L.getD j z0).2.2 + x.2.2 ∧ (L.getD j z0).2.2 + x.2.2 <= _
    omega
   ·exact ⟨hb.1, hb.2.1, by omega⟩
 ·rw [put_not hc, hn];rw [hn] at hc
  have hup : ∀ j, n <= j -> j < L.length -> lt x (L.getD j z0) := λj hj1 hj2 => by
   have h5 : lt x (L.getD n z0) := Classical.byContradiction λh' => hc ⟨by omega, h'⟩;rcases Nat.lt_or_ge n j with h6 | h6
   ·exact lt_trans h5 (h.srt n j h6 hj2)
   ·obtain rfl : j = n := by omega
    exact h5
  refine ⟨λi j hij hj => ?_, by rw [ins_len hle]; omega, λj hj => ?_⟩
  ·rw [ins_len hle] at hj;rw [ins_getD hle, ins_getD hle]
   by_cases h4 : j < n
   ·rw [if_pos h4, if_pos (by omega)]; exact h.srt i j hij (by omega)
   ·by_cases h5 : j = n
    ·rw [if_neg h4, if_pos h5, if_pos (by omega)]; exact ha.lo i (by omega)
    ·rw [if_neg h4, if_neg h5]
     by_cases h6 : i < n
     ·rw [if_pos h6]; exact h.srt i (j - 1) (by omega) (by omega)
     ·by_cases h7 : i = n
      ·rw [if_neg h6, if_pos h7]; exact hup (j - 1) (by omega) (by omega)
      ·rw [if_neg h6, if_neg h7]; exact h.srt (i - 1) (j - 1) (by omega) (by omega)
  ·rw [ins_len hle] at hj;rw [ins_getD hle]
   split
   ·have hb := h.bd j (by omega);exact ⟨hb.1, hb.2.1, by omega⟩
   split
   ·exact ⟨h1, h2, by omega⟩
   ·have hb := h.bd (j - 1) (by omega);exact ⟨hb.1, hb.2.1, by omega⟩
theorem znw {L : List Sp} {x : Sp} : put L x ≠ [] := by
 by_cases hc : there L x (pos L x)
 ·rw [put_there hc];intro e;have h1 := congrArg List.length e;rw [List.length_set] at h1;have h2 := hc.1;rw [h1] at h2;exact absurd h2 (Nat.not_lt_zero _)
 ·rw [put_not hc]; simp

noncomputable def putI (run : Int) (ds : List Int) (S : List Sp) : Nat -> List Sp
 | 0 => S
 | q + 1 => put (putI run ds S q) (run, ds.getD q 0, 1)
noncomputable def putO (run : Nat -> Int) (ds : Nat -> List Int) : Nat -> List Sp
 | 0 => []
 | k + 1 => putI (run k) (ds k) (putO run ds k) (ds k).length
theorem putI_ok {c : Nat} {run : Int} {ds : List Int} {S : List Sp} (h : Ok c S) (h1 : 1 <= run ∧ run <= 1000) (h2 : ∀ q, q < ds.length -> 1 <= ds.getD q 0 ∧ ds.getD q 0 <= 1000) : ∀ q, q <= ds.length -> Ok (c + q) (putI run ds S q)
 | 0, _ => h
 | q + 1, hq => (putI_ok h h1 h2 q (by omega)).put h1 (h2 q (by omega)) rfl
theorem Ok.le {c c' : Nat} {L : List Sp} (h : Ok c L) (hc : c <= c') : Ok c' L := ⟨h.srt, by have := h.few; omega, λj hj => by have := h.bd j hj; omega⟩
theorem putO_ok {run : Nat -> Int} {ds : Nat -> List Int} {n m : Nat} (h1 : ∀ k, k < n -> 1 <= run k ∧ run k <= 1000) (h2 : ∀ k, k < n -> (ds k).length <= m ∧ ∀ q, q < (ds k).length -> 1 <= (ds k).getD q 0 ∧ (ds k).getD q 0 <= 1000) : ∀ k, k <= n -> Ok (k * m) (putO run ds k)
 | 0, _ => by rw [Nat.zero_mul]; exact Ok.nil
 | k + 1, hk => by
  have h3 := putI_ok (putO_ok h1 h2 k (by omega)) (h1 k (by omega)) (h2 k (by omega)).2 (ds k).length (Nat.le_refl _);refine h3.le ?_;rw [Nat.add_mul, Nat.one_mul];have := (h2 k (by omega)).1;omega
theorem putI_ne {run : Int} {ds : List Int} {S : List Sp} : ∀ q, 1 <= q -> putI run ds S q ≠ []
 | _ + 1, _ => znw

def one (x : Sp) : Bool := decide (x.1 * x.2.1 = 1)
def wgt (x : Sp) : Int := x.1 * x.2.1 * x.2.2
def tot (L : List Sp) : Nat -> Int
 | 0 => 0
 | k + 1 => tot L k + (L.getD k z0).1 * (L.getD k z0).2.1 * (L.getD k z0).2.2
theorem zhg {L : List Sp} : ∀ k, k <= L.length -> tot L k = ((L.take k).map wgt).sum
 | 0, _ => by simp [tot]
 | k + 1, hk => by
  have e : L.getD k z0 = L[k] := by rw [List.getD_eq_getElem?_getD, List.getElem?_eq_getElem hk]; rfl
  rw [tot, zhg k (by omega), List.take_succ_eq_append_getElem (by omega), List.map_append, List.sum_append, e];show _ = _ + (wgt L[k] + 0)
  unfold wgt; omega
theorem tot_eq (L : List Sp) : tot L L.length = (L.map wgt).sum := by rw [zhg _ (Nat.le_refl _), List.take_length]
theorem zmW (L : List Sp) (x : Sp) : ((put L x).map wgt).sum = (L.map wgt).sum + wgt x := by
 have ha := pos_at L x;generalize hn : pos L x = n at ha
 have hsp : ∀ h : n < L.length, (L.map wgt).sum = ((L.take n).map wgt).sum + (wgt L[n] + ((L.drop (n + 1)).map wgt).sum) := λh => by
  have e : L = L.take n ++ L[n] :: L.drop (n + 1) := by
   have := List.set_eq_take_append_cons_drop (l := L) (i := n) (a := L[n]);rw [if_pos h, List.set_getElem_self] at this;exact this
  conv => lhs; rw [e]
  rw [List.map_append, List.sum_append, List.map_cons, List.sum_cons]
 by_cases hc : there L x (pos L x)
 ·rw [put_there hc, hn];rw [hn] at hc;obtain ⟨hlt, hnl⟩ := hc;have e1 : L.getD n z0 = L[n] := by rw [List.getD_eq_getElem?_getD, List.getElem?_eq_getElem hlt]; rfl
  have h1 := ha.hi hlt;rw [e1] at h1 hnl ⊢;have h2 : L[n].1 = x.1 ∧ L[n].2.1 = x.2.1 := by unfold lt at h1 hnl; omega
  rw [List.set_eq_take_append_cons_drop, if_pos hlt, hsp hlt, List.map_append, List.sum_append, List.map_cons, List.sum_cons]
  have e2 : wgt (more L[n] x.2.2) = wgt L[n] + wgt x := by
   unfold wgt more;dsimp only
   rw [<- h2.1, <- h2.2, Int.mul_add]
  omega
 ·rw [put_not hc, hn];have e : (L.map wgt).sum = ((L.take n).map wgt).sum + ((L.drop n).map wgt).sum := by rw [<- List.sum_append, <- List.map_append, List.take_append_drop]
  rw [e, List.map_append, List.sum_append, List.map_cons, List.sum_cons];omega
def sumO (run : Nat -> Int) (ds : Nat -> List Int) : Nat -> Int
 | 0 => 0
 | k + 1 => sumO run ds k + run k * (ds k).sum
theorem zhh {run : Int} {ds : List Int} {S : List Sp} : ∀ q, q <= ds.length -> ((putI run ds S q).map wgt).sum = (S.map wgt).sum + run * (ds.take q).sum
 | 0, _ => by simp [putI]
 | q + 1, hq => by
  have e : ds.getD q 0 = ds[q] := by rw [List.getD_eq_getElem?_getD, List.getElem?_eq_getElem hq]; rfl
  rw [putI, zmW, zhh q (by omega), List.take_succ_eq_append_getElem (by omega), List.sum_append, Int.mul_add, e];show _ + _ + run * ds[q] * 1 = _ + (_ + run * (ds[q] + 0))
  rw [Int.mul_one, Int.add_zero]; omega
theorem tot_putO (run : Nat -> Int) (ds : Nat -> List Int) : ∀ k, ((putO run ds k).map wgt).sum = sumO run ds k
 | 0 => rfl
 | k + 1 => by rw [putO, zhh _ (Nat.le_refl _), tot_putO run ds k, List.take_length, sumO]
end Spl
end Go.Proofs.YtffhmebkkbfaeaaGreat
