/- Plain mathematics of polynomials by a prime. No conditions. -/
import Derived.Test.YtffhmebkkbfaeaaPc
namespace Go.Proofs.Ytffhmebkkbfaeaa

class CR (α : Type) [Add α] [Mul α] [Neg α] [Sub α] [OfNat α 0] [OfNat α 1] : Prop where
 add_comm : ∀ a b : α, a + b = b + a
 add_assoc : ∀ a b c : α, a + b + c = a + (b + c)
 add_zero : ∀ a : α, a + 0 = a
 add_neg : ∀ a : α, a + -a = 0
 sub_def : ∀ a b : α, a - b = a + -b
 mul_comm : ∀ a b : α, a * b = b * a
 mul_assoc : ∀ a b c : α, a * b * c = a * (b * c)
 one_mul : ∀ a : α, 1 * a = a
 add_mul : ∀ a b c : α, (a + b) * c = a * c + b * c

inductive RE where
 | at (n : Nat)
 | zero
 | one
 | add (a b : RE)
 | sub (a b : RE)
 | mul (a b : RE)
 | neg (a : RE)

abbrev RM := List (Bool × List Nat)

def zkg (a : Nat) : List Nat -> List Nat
 | [] => [a]
 | b :: l => bif Nat.ble a b then a :: b :: l else b :: zkg a l
def zh7 : List Nat -> List Nat -> List Nat
 | [], m => m
 | a :: l, m => zkg a (zh7 l m)
def zcg : RM -> RM
 | [] => []
 | (s, m) :: r => (!s, m) :: zcg r
def zi8 (s : Bool) (m : List Nat) : RM -> RM
 | [] => []
 | (t, k) :: r => (s == t, zh7 m k) :: zi8 s m r
def zi9 : RM -> RM -> RM
 | [], _ => []
 | (s, m) :: r, k => zi8 s m k ++ zi9 r k
def RE.ex : RE -> RM
 | .at n => [(true, [n])]
 | .zero => []
 | .one => [(true, [])]
 | .add a b => a.ex ++ b.ex
 | .sub a b => a.ex ++ zcg b.ex
 | .mul a b => zi9 a.ex b.ex
 | .neg a => zcg a.ex
def zgn (s : Bool) (m : List Nat) : RM -> Option RM
 | [] => none
 | (t, k) :: r => bif t == s && k == m then some r else match zgn s m r with
  | some r' => some ((t, k) :: r')
  | none => none
def zfh : Nat -> RM -> Bool
 | _, [] => true
 | 0, _ => false
 | n + 1, (s, m) :: r => match zgn (!s) m r with
  | some r' => zfh n r'
  | none => false
def RE.chk (a b : RE) : Bool := zfh 1000 (a.ex ++ zcg b.ex)

section
variable {α : Type} [Add α] [Mul α] [Neg α] [Sub α] [OfNat α 0] [OfNat α 1]

def atM (ctx : List α) (n : Nat) : α := match ctx, n with
 | [], _ => 0
 | a :: _, 0 => a
 | _ :: r, n + 1 => atM r n
def RE.ev (ctx : List α) : RE -> α
 | .at n => atM ctx n
 | .zero => 0
 | .one => 1
 | .add a b => a.ev ctx + b.ev ctx
 | .sub a b => a.ev ctx - b.ev ctx
 | .mul a b => a.ev ctx * b.ev ctx
 | .neg a => -a.ev ctx
def evN (ctx : List α) : List Nat -> α
 | [] => 1
 | a :: l => atM ctx a * evN ctx l
def ev1 (ctx : List α) (s : Bool) (m : List Nat) : α := bif s then evN ctx m else -evN ctx m
def evM (ctx : List α) : RM -> α
 | [] => 0
 | (s, m) :: r => ev1 ctx s m + evM ctx r

variable [CR α]
namespace CR
theorem zero_add (a : α) : 0 + a = a := by rw [CR.add_comm, CR.add_zero]
theorem left_cancel {a b c : α} (h : a + b = a + c) : b = c := by
 have h1 : -a + (a + b) = -a + (a + c) := by rw [h]
 rw [<- CR.add_assoc, <- CR.add_assoc, CR.add_comm (-a) a, CR.add_neg, zero_add, zero_add] at h1;exact h1
theorem left_comm (a b c : α) : a + (b + c) = b + (a + c) := by rw [<- CR.add_assoc, CR.add_comm a b, CR.add_assoc]
theorem mul_left_comm (a b c : α) : a * (b * c) = b * (a * c) := by rw [<- CR.mul_assoc, CR.mul_comm a b, CR.mul_assoc]
theorem zero_mul (a : α) : 0 * a = 0 := by
 have h : 0 * a + 0 * a = 0 * a + 0 := by rw [<- CR.add_mul, CR.add_zero, CR.add_zero]
 exact left_cancel h
theorem x3 {a b : α} (h : a + b = 0) : b = -a := left_cancel (by rw [h, CR.add_neg])
theorem neg_zero : -(0 : α) = 0 := (x3 (CR.add_zero 0)).symm
theorem neg_neg (a : α) : -(-a) = a := (x3 (by rw [CR.add_comm, CR.add_neg])).symm
theorem neg_add (a b : α) : -(a + b) = -a + -b := (x3 (by
 rw [CR.add_assoc, left_comm b, <- CR.add_assoc, CR.add_neg, CR.add_neg, CR.add_zero])).symm
theorem neg_mul (a b : α) : -a * b = -(a * b) := x3 (by rw [<- CR.add_mul, CR.add_neg, zero_mul])
theorem mul_zero (a : α) : a * 0 = 0 := by rw [CR.mul_comm, zero_mul]
theorem mul_neg (a b : α) : a * -b = -(a * b) := by rw [CR.mul_comm, neg_mul, CR.mul_comm]
theorem mul_add (a b c : α) : a * (b + c) = a * b + a * c := by rw [CR.mul_comm, CR.add_mul, CR.mul_comm b, CR.mul_comm c]
theorem mul_one (a : α) : a * 1 = a := by rw [CR.mul_comm, CR.one_mul]
theorem sub_self (a : α) : a - a = 0 := by rw [CR.sub_def, CR.add_neg]
theorem eq_of_sub {a b : α} (h : a - b = 0) : a = b := by
 rw [CR.sub_def] at h;have := x3 (a := -b) (b := a) (by rw [CR.add_comm, h]);rw [this, neg_neg]
end CR

theorem zha (ctx : List α) (a : Nat) : ∀ l, evN ctx (zkg a l) = atM ctx a * evN ctx l
 | [] => rfl
 | b :: l => by
  unfold zkg;cases Nat.ble a b
  ·simp only [cond_false, evN, zha ctx a l, CR.mul_left_comm]
  ·rfl
theorem zhb (ctx : List α) : ∀ l m, evN ctx (zh7 l m) = evN ctx l * evN ctx m
 | [], m => by simp only [zh7, evN, CR.one_mul]
 | a :: l, m => by simp only [zh7, evN, zha, zhb ctx l m, CR.mul_assoc]
theorem kV (ctx : List α) : ∀ a b, evM ctx (a ++ b) = evM ctx a + evM ctx b
 | [], b => by simp only [List.nil_append, evM, CR.zero_add]
 | (s, m) :: a, b => by simp only [List.cons_append, evM, kV ctx a b, CR.add_assoc]
theorem zhc (ctx : List α) (s : Bool) (m : List Nat) : ev1 ctx (!s) m = -ev1 ctx s m := by
 cases s <;> simp [ev1, CR.neg_neg]
theorem kW (ctx : List α) : ∀ a, evM ctx (zcg a) = -evM ctx a
 | [] => by simp only [zcg, evM, CR.neg_zero]
 | (s, m) :: a => by simp only [zcg, evM, kW ctx a, zhc, CR.neg_add]
theorem zkh (ctx : List α) (s t : Bool) (m k : List Nat) : ev1 ctx (s == t) (zh7 m k) = ev1 ctx s m * ev1 ctx t k := by
 cases s <;> cases t <;> simp [ev1, zhb, CR.neg_mul, CR.mul_neg, CR.neg_neg]
theorem zfi (ctx : List α) (s : Bool) (m : List Nat) : ∀ b, evM ctx (zi8 s m b) = ev1 ctx s m * evM ctx b
 | [] => by simp only [zi8, evM, CR.mul_zero]
 | (t, k) :: b => by simp only [zi8, evM, zfi ctx s m b, zkh, CR.mul_add]
theorem zhd (ctx : List α) : ∀ a b, evM ctx (zi9 a b) = evM ctx a * evM ctx b
 | [], b => by simp only [zi9, evM, CR.zero_mul]
 | (s, m) :: a, b => by simp only [zi9, evM, kV, zfi, zhd ctx a b, CR.add_mul]
theorem kX (ctx : List α) : ∀ e : RE, evM ctx e.ex = e.ev ctx
 | .at n => by simp only [RE.ex, evM, ev1, cond_true, evN, RE.ev, CR.mul_one, CR.add_zero]
 | .zero => rfl
 | .one => by simp only [RE.ex, evM, ev1, cond_true, evN, RE.ev, CR.add_zero]
 | .add a b => by simp only [RE.ex, RE.ev, kV, kX ctx a, kX ctx b]
 | .sub a b => by simp only [RE.ex, RE.ev, kV, kW, kX ctx a, kX ctx b, CR.sub_def]
 | .mul a b => by simp only [RE.ex, RE.ev, zhd, kX ctx a, kX ctx b]
 | .neg a => by simp only [RE.ex, RE.ev, kW, kX ctx a]
theorem zhe (ctx : List α) (s : Bool) (m : List Nat) : ∀ (r r' : RM), zgn s m r = some r' -> evM ctx r = ev1 ctx s m + evM ctx r'
 | [], _, h => by simp [zgn] at h
 | (t, k) :: r, r', h => by
  unfold zgn at h;cases hc : (t == s && k == m)
  ·rw [hc] at h;simp only [cond_false] at h
   cases hr : zgn s m r with
   | none => rw [hr] at h; simp at h
   | some r2 =>
    rw [hr] at h;simp only [Option.some.injEq] at h
    subst h;simp only [evM, zhe ctx s m r r2 hr, CR.left_comm]
  ·rw [hc] at h;simp only [cond_true, Option.some.injEq] at h
   subst h;simp only [Bool.and_eq_true, beq_iff_eq] at hc
   obtain ⟨rfl, rfl⟩ := hc
   rfl
theorem zch (ctx : List α) : ∀ n (r : RM), zfh n r = true -> evM ctx r = 0
 | _, [], _ => rfl
 | 0, _ :: _, h => by simp [zfh] at h
 | n + 1, (s, m) :: r, h => by
  unfold zfh at h;cases hr : zgn (!s) m r with
  | none => rw [hr] at h; simp at h
  | some r' =>
   rw [hr] at h;simp only [evM, zhe ctx (!s) m r r' hr, zhc, zch ctx n r' h]
   rw [CR.add_zero, CR.add_neg]

class Rf (ctx : List α) (x : α) (e : outParam RE) : Prop where
 eq : e.ev ctx = x

omit [CR α]
instance (priority := high) rfAdd (ctx : List α) (x y : α) (a b : RE) [h : Rf ctx x a] [k : Rf ctx y b] : Rf ctx (x + y) (.add a b) := ⟨by rw [RE.ev, h.eq, k.eq]⟩
instance (priority := high) rfSub (ctx : List α) (x y : α) (a b : RE) [h : Rf ctx x a] [k : Rf ctx y b] : Rf ctx (x - y) (.sub a b) := ⟨by rw [RE.ev, h.eq, k.eq]⟩
instance (priority := high) rfMul (ctx : List α) (x y : α) (a b : RE) [h : Rf ctx x a] [k : Rf ctx y b] : Rf ctx (x * y) (.mul a b) := ⟨by rw [RE.ev, h.eq, k.eq]⟩
instance (priority := high) rfNeg (ctx : List α) (x : α) (a : RE) [h : Rf ctx x a] : Rf ctx (-x) (.neg a) := ⟨by rw [RE.ev, h.eq]⟩
instance (priority := high) rfZero (ctx : List α) : Rf ctx (0 : α) .zero := ⟨rfl⟩
instance (priority := high) rfOne (ctx : List α) : Rf ctx (1 : α) .one := ⟨rfl⟩
instance (priority := low) rfAt0 (x : α) (l : List α) : Rf (x :: l) x (.at 0) := ⟨rfl⟩
instance (priority := low) rfAt1 (x a : α) (l : List α) : Rf (a :: x :: l) x (.at 1) := ⟨rfl⟩
instance (priority := low) rfAt2 (x a b : α) (l : List α) : Rf (a :: b :: x :: l) x (.at 2) := ⟨rfl⟩
instance (priority := low) rfAt3 (x a b c : α) (l : List α) : Rf (a :: b :: c :: x :: l) x (.at 3) := ⟨rfl⟩
instance (priority := low) rfAt4 (x a b c d : α) (l : List α) : Rf (a :: b :: c :: d :: x :: l) x (.at 4) := ⟨rfl⟩
instance (priority := low) rfAt5 (x a b c d e : α) (l : List α) : Rf (a :: b :: c :: d :: e :: x :: l) x (.at 5) := ⟨rfl⟩
instance (priority := low) rfAt6 (x a b c d e f : α) (l : List α) : Rf (a :: b :: c :: d :: e :: f :: x :: l) x (.at 6) := ⟨rfl⟩
instance (priority := low) rfAt7 (x a b c d e f g : α) (l : List α) : Rf (a :: b :: c :: d :: e :: f :: g :: x :: l) x (.at 7) := ⟨rfl⟩
instance (priority := low) rfAt8 (x a b c d e f g h : α) (l : List α) : Rf (a :: b :: c :: d :: e :: f :: g :: h :: x :: l) x (.at 8) := ⟨rfl⟩

theorem zg [CR α] (ctx : List α) {x y : α} {a b : RE} [h : Rf ctx x a] [k : Rf ctx y b] (hc : RE.chk a b = true) : x = y := by
 have h1 := zch ctx _ _ hc;rw [kV, kW, kX, kX, h.eq, k.eq, <- CR.sub_def] at h1;exact CR.eq_of_sub h1

theorem comb [CR α] (c : α) {a b x y : α} (h : a = b) (e : x - c * a = y - c * b) : x = y := by
 subst h;rw [CR.sub_def, CR.sub_def, CR.add_comm, CR.add_comm y] at e;exact CR.left_cancel e
end

example {α : Type} [Add α] [Mul α] [Neg α] [Sub α] [OfNat α 0] [OfNat α 1] [CR α] (a b c : α) : (a + b) * (a - b) + c * (1 + 1) = a * a - b * b + c + c := zg [a, b, c] (by rfl)
example {α : Type} [Add α] [Mul α] [Neg α] [Sub α] [OfNat α 0] [OfNat α 1] [CR α] (a b c d : α) (h : a = b * c) : a * d + 0 = c * (b * d) := comb d h (zg [a, b, c, d] (by rfl))

def cf (l : List Int) (i : Nat) : Int := l.getD i 0

theorem yG (i : Nat) : cf [] i = 0 := by simp [cf]
theorem yg (a : Int) (l : List Int) : cf (a :: l) 0 = a := rfl
theorem zy (a : Int) (l : List Int) (i : Nat) : cf (a :: l) (i + 1) = cf l i := by simp [cf]
theorem zV {l : List Int} {i : Nat} (h : l.length <= i) : cf l i = 0 := by
 simp [cf, List.getD_eq_getElem?_getD, List.getElem?_eq_none h]
theorem vj {l : List Int} {i : Nat} (h : i < l.length) : cf l i = l[i] := by
 simp [cf, List.getD_eq_getElem?_getD, List.getElem?_eq_getElem h]

def zw : List Int -> List Int
 | [] => []
 | a :: l => match zw l with
  | [] => if a = 0 then [] else [a]
  | b :: r => a :: b :: r

theorem xu (l : List Int) (i : Nat) : cf (zw l) i = cf l i := by
 induction l generalizing i with
 | nil => rfl
 | cons a l ih =>
  unfold zw
  split
  ·rename_i h
   have h0 : ∀ i, cf l i = 0 := λi => by rw [<- ih, h, yG]
   split
   ·rename_i ha
    cases i with
    | zero => rw [yG, yg, ha]
    | succ i => rw [yG, zy, h0]
   ·cases i with
    | zero => rfl
    | succ i => rw [zy, zy, yG, h0]
  ·rename_i b r h
   cases i with
   | zero => rfl
   | succ i => rw [zy, zy, <- ih, h]

theorem zh8 {l : List Int} {x : Int} (h : x ∈ zw l) : x ∈ l := by
 induction l with
 | nil => exact h
 | cons a l ih =>
  unfold zw at h
  split at h
  ·split at h
   ·cases h
   ·simp at h; simp [h]
  ·rename_i b r hb
   rcases List.mem_cons.1 h with h | h
   ·simp [h]
   ·exact List.mem_cons_of_mem _ (ih (hb ▸ h))

theorem xF (l : List Int) : (zw l).length <= l.length := by
 induction l with
 | nil => simp [zw]
 | cons a l ih =>
  unfold zw
  split
  ·split <;> simp
  ·rename_i b r hb
   rw [hb] at ih; simpa using ih

def kw (l : List Int) : Prop := ∀ n, l.length = n + 1 -> cf l n ≠ 0

theorem xl (l : List Int) : kw (zw l) := by
 induction l with
 | nil => intro n h; simp [zw] at h
 | cons a l ih =>
  intro n;unfold zw
  split
  ·split
   ·intro h; simp at h
   ·rename_i ha
    intro h;have : n = 0 := by simpa using h.symm
    subst this; exact ha
  ·rename_i b r hb
   intro h;have hn : n = r.length + 1 := by simpa using h.symm
   subst hn;rw [zy];rw [hb] at ih;exact ih r.length (by simp)

theorem yu {l l' : List Int} (h : kw l) (h' : kw l') (he : ∀ i, cf l i = cf l' i) : l = l' := by
 have hlen : ∀ {l l' : List Int}, kw l -> kw l' -> (∀ i, cf l i = cf l' i) -> l.length <= l'.length := by
  intro l l' h h' he;rcases Nat.lt_or_ge l'.length l.length with hlt | hge
  ·exfalso
   have h1 := h (l.length - 1) (by omega);rw [he, zV (by omega)] at h1;exact h1 rfl
  ·exact hge
 have hl : l.length = l'.length := Nat.le_antisymm (hlen h h' he) (hlen h' h λi => (he i).symm);refine List.ext_getElem hl λi h1 h2 => ?_;rw [<- vj h1, <- vj h2, he]

def cv (f g : Nat -> Int) : Nat -> Int
 | 0 => f 0 * g 0
 | k + 1 => f 0 * g (k + 1) + cv (λi => f (i + 1)) g k

theorem zja (f g : Nat -> Int) (k : Nat) : cv f g (k + 1) = f (k + 1) * g 0 + cv f (λi => g (i + 1)) k := by
 induction k generalizing f with
 | zero => simp only [cv]; omega
 | succ k ih =>
  rw [cv, ih, cv]; omega

theorem jX (f g : Nat -> Int) (k : Nat) : cv f g k = cv g f k := by
 induction k generalizing f g with
 | zero => simp only [cv]; exact Int.mul_comm _ _
 | succ k ih => rw [zja, cv, ih, Int.mul_comm]

theorem zd1 (f f' g : Nat -> Int) (k : Nat) : cv (λi => f i + f' i) g k = cv f g k + cv f' g k := by
 induction k generalizing f f' with
 | zero => simp only [cv]; exact Int.add_mul _ _ _
 | succ k ih => simp only [cv, ih, Int.add_mul]; omega

theorem zhf (a : Int) (f g : Nat -> Int) (k : Nat) : cv (λi => a * f i) g k = a * cv f g k := by
 induction k generalizing f with
 | zero => simp only [cv]; exact Int.mul_assoc _ _ _
 | succ k ih => simp only [cv, ih, Int.mul_add, Int.mul_assoc]

theorem zjb (f g h : Nat -> Int) (k : Nat) : cv (cv f g) h k = cv f (cv g h) k := by
 induction k generalizing f with
 | zero => simp only [cv]; exact Int.mul_assoc _ _ _
 | succ k ih =>
  have e : (λi => cv f g (i + 1)) = λi => f 0 * g (i + 1) + cv (λi => f (i + 1)) g i := rfl;rw [cv, e, zd1, zhf, ih];simp only [cv]
  rw [Int.mul_add, Int.mul_assoc]; omega

theorem z6 {f g : Nat -> Int} {k : Nat} (hf : ∀ i, i <= k -> f i = 0) : cv f g k = 0 := by
 induction k generalizing f with
 | zero => simp [cv, hf 0 (Nat.le_refl _)]
 | succ k ih => simp only [cv, hf 0 (Nat.zero_le _), ih (f := λi => f (i + 1)) (λi hi => hf _ (by omega))]; simp

theorem zkL {f g : Nat -> Int} {n m : Nat} (hf : ∀ i, n <= i -> f i = 0) (hg : ∀ i, m <= i -> g i = 0) {k : Nat} (hk : n + m <= k + 1) : cv f g k = 0 := by
 induction n generalizing f k with
 | zero => exact z6 λi _ => hf i (Nat.zero_le _)
 | succ n ih =>
  cases k with
  | zero => simp only [cv, hg 0 (by omega), Int.mul_zero]
  | succ k => simp only [cv, hg (k + 1) (by omega), ih (f := λi => f (i + 1)) (λi hi => hf _ (by omega)) (k := k) (by omega)]; simp

theorem zkY {f g : Nat -> Int} {n m : Nat} (hf : ∀ i, n < i -> f i = 0) (hg : ∀ i, m < i -> g i = 0) : cv f g (n + m) = f n * g m := by
 induction n generalizing f with
 | zero =>
  cases m with
  | zero => rfl
  | succ m =>
   rw [show 0 + (m + 1) = m + 1 from by omega, cv, z6 (f := λi => f (i + 1)) (λi _ => hf _ (by omega))]; simp
 | succ n ih =>
  rw [show n + 1 + m = n + m + 1 from by omega, cv, hg (n + m + 1) (by omega), ih (f := λi => f (i + 1)) (λi hi => hf _ (by omega))]; simp

theorem zjc (g : Nat -> Int) (k : Nat) : cv (cf [1]) g k = g k := by
 cases k with
 | zero => simp [cv, cf]
 | succ k =>
  rw [cv, z6 (f := λi => cf [1] (i + 1)) (λi _ => by simp [cf])];simp [cf]

theorem jI (p : Int) (f g : Nat -> Int) (k : Nat) : cv (λi => f i % p) g k % p = cv f g k % p := by
 induction k generalizing f with
 | zero => simp only [cv]; rw [Int.mul_emod, Int.emod_emod_of_dvd _ (Int.dvd_refl p), <- Int.mul_emod]
 | succ k ih =>
  simp only [cv]
  rw [Int.add_emod, ih (λi => f (i + 1)), Int.mul_emod, Int.emod_emod_of_dvd _ (Int.dvd_refl p), <- Int.mul_emod, <- Int.add_emod]

theorem zki (p a : Int) : (-(a % p)) % p = (-a) % p := by
 rw [show -(a % p) = -1 * (a % p) from by omega, show -a = -1 * a from by omega, Int.mul_emod, Int.emod_emod_of_dvd _ (Int.dvd_refl p), <- Int.mul_emod]

def mkL (n : Nat) (f : Nat -> Int) : List Int := (List.range n).map f
theorem y8 (n : Nat) (f : Nat -> Int) (i : Nat) : cf (mkL n f) i = if i < n then f i else 0 := by
 split
 ·rename_i h
  rw [vj (by simpa [mkL] using h)]; simp [mkL]
 ·rename_i h
  exact zV (by simpa [mkL] using h)
theorem zT (n : Nat) (f : Nat -> Int) : (mkL n f).length = n := by simp [mkL]

def jJ (a b : List Int) : List Int := mkL (max a.length b.length) λi => cf a i + cf b i
def v8 (a b : List Int) : List Int := mkL (a.length + b.length - 1) (cv (cf a) (cf b))
def jK (c : Int) (a : List Int) : List Int := a.map (c * ·)

theorem vm (a b : List Int) (i : Nat) : cf (jJ a b) i = cf a i + cf b i := by
 rw [jJ, y8]
 split
 ·rfl
 ·rename_i h
  rw [zV (by omega), zV (by omega)]; rfl
theorem zbu (a b : List Int) (i : Nat) : cf (v8 a b) i = cv (cf a) (cf b) i := by
 rw [v8, y8]
 split
 ·rfl
 ·rename_i h
  exact (zkL (n := a.length) (m := b.length) (λi hi => zV hi) (λi hi => zV hi) (by omega)).symm
theorem zci (c : Int) (a : List Int) (i : Nat) : cf (jK c a) i = c * cf a i := by
 by_cases h : i < a.length
 ·rw [vj (by simpa [jK] using h), vj h]; simp [jK]
 ·rw [zV (by simpa [jK] using h), zV (by omega)]; simp
theorem zh9 (p : Int) (a : List Int) (i : Nat) : cf (a.map (· % p)) i = cf a i % p := by
 by_cases h : i < a.length
 ·rw [vj (by simpa using h), vj h]; simp
 ·rw [zV (by simpa using h), zV (by omega)]; simp

def nrm (p : Int) (a : List Int) : List Int := zw (a.map (· % p))
theorem zaE (p : Int) (a : List Int) (i : Nat) : cf (nrm p a) i = cf a i % p := by rw [nrm, xu, zh9]
theorem vQ (p : Int) (a : List Int) : kw (nrm p a) := xl _

class Pos (p : Int) : Prop where
 pos : 0 < p

def Nrm (p : Int) (l : List Int) : Prop := (∀ x ∈ l, 0 <= x ∧ x < p) ∧ kw l

theorem zkZ {p : Int} [h : Pos p] (a : List Int) : Nrm p (nrm p a) := by
 refine ⟨λx hx => ?_, vQ p a⟩;have := zh8 hx;rw [List.mem_map] at this;obtain ⟨y, _, rfl⟩ := this;exact ⟨Int.emod_nonneg _ (by have := h.pos; omega), Int.emod_lt_of_pos _ h.pos⟩

theorem Nrm.cf_mod {p : Int} {l : List Int} (h : Nrm p l) (i : Nat) : cf l i % p = cf l i := by
 by_cases hi : i < l.length
 ·rw [vj hi];have := h.1 _ (List.getElem_mem hi);exact Int.emod_eq_of_lt this.1 this.2
 ·rw [zV (by omega)]; simp
theorem zk0 {p : Int} {l : List Int} (h : Nrm p l) : nrm p l = l := yu (vQ _ _) h.2 λi => by rw [zaE, h.cf_mod]

structure Poly (p : Int) where
 l : List Int
 ok : Nrm p l

namespace Poly
variable {p : Int}

theorem zjd {f g : Poly p} (h : f.l = g.l) : f = g := by
 cases f; cases g; cases h; rfl
theorem zI {f g : Poly p} (h : ∀ i, cf f.l i = cf g.l i) : f = g := zjd (yu f.ok.2 g.ok.2 h)

instance : DecidableEq (Poly p) := λf g => if h : f.l = g.l then isTrue (zjd h) else isFalse λe => h (e ▸ rfl)

variable [Pos p]
def of (p : Int) [Pos p] (a : List Int) : Poly p := ⟨nrm p a, zkZ a⟩
theorem ya (a : List Int) (i : Nat) : cf (of p a).l i = cf a i % p := zaE p a i
theorem of_l (f : Poly p) : of p f.l = f := zjd (zk0 f.ok)
theorem zkM {a b : List Int} (h : ∀ i, cf a i % p = cf b i % p) : of p a = of p b := zI λi => by rw [ya, ya, h]
instance : Add (Poly p) := ⟨λf g => of p (jJ f.l g.l)⟩
instance : Mul (Poly p) := ⟨λf g => of p (v8 f.l g.l)⟩
instance : Neg (Poly p) := ⟨λf => of p (jK (-1) f.l)⟩
instance : Sub (Poly p) := ⟨λf g => of p (jJ f.l (jK (-1) g.l))⟩
instance : NatCast (Poly p) := ⟨λn => of p [(n : Int)]⟩
instance : IntCast (Poly p) := ⟨λn => of p [n]⟩
instance (n : Nat) : OfNat (Poly p) n := ⟨of p [(n : Int)]⟩
instance : SMul Nat (Poly p) := ⟨λn f => of p [(n : Int)] * f⟩
instance : SMul Int (Poly p) := ⟨λn f => of p [n] * f⟩
def npow (f : Poly p) : Nat -> Poly p
 | 0 => 1
 | n + 1 => npow f n * f
instance : HPow (Poly p) Nat (Poly p) := ⟨npow⟩

theorem yv (f g : Poly p) (i : Nat) : cf (f + g).l i = (cf f.l i + cf g.l i) % p := by
 show cf (of p _).l i = _
 rw [ya, vm]
theorem yV (f g : Poly p) (i : Nat) : cf (f * g).l i = cv (cf f.l) (cf g.l) i % p := by
 show cf (of p _).l i = _
 rw [ya, zbu]
theorem zje (f : Poly p) (i : Nat) : cf (-f).l i = (-cf f.l i) % p := by
 show cf (of p _).l i = _
 rw [ya, zci]; congr 1; omega
theorem kz (f g : Poly p) (i : Nat) : cf (f - g).l i = (cf f.l i - cf g.l i) % p := by
 show cf (of p _).l i = _
 rw [ya, vm, zci]; congr 1; omega
theorem zcj : (0 : Poly p).l = [] := by
 refine yu (0 : Poly p).ok.2 (λn h => by simp at h) λi => ?_;show cf (of p [((0 : Nat) : Int)]).l i = _
 rw [ya, yG];cases i with
 | zero => simp [cf]
 | succ i => rw [zy, yG]; simp
theorem yO (i : Nat) : cf (0 : Poly p).l i = 0 := by rw [zcj, yG]
theorem zgo (i : Nat) : cf (1 : Poly p).l i = cf [1] i % p := ya _ _

theorem zk1 (a b : List Int) : of p (jJ a b) = of p a + of p b := zI λi => by
 rw [ya, vm, yv, ya, ya]; exact Int.add_emod _ _ _
theorem vw {p : Int} (f : Poly p) (i : Nat) : cf f.l i % p = cf f.l i := f.ok.cf_mod i

theorem zdu (f g : Poly p) : f + g = g + f := zI λi => by rw [yv, yv, Int.add_comm]
theorem zia (f : Poly p) : f + 0 = f := zI λi => by rw [yv, yO, Int.add_zero, vw]
theorem zgp (f g h : Poly p) : f + g + h = f + (g + h) := zI λi => by
 rw [yv, yv, yv, yv, Int.emod_add_emod, Int.add_emod_emod, Int.add_assoc]
theorem xM (f g : Poly p) : f * g = g * f := zI λi => by rw [yV, yV, jX]
theorem kA (f g : Poly p) : cf (f * g).l = λi => cv (cf f.l) (cf g.l) i % p := funext λi => yV f g i
theorem zgq (f g h : Poly p) : f * g * h = f * (g * h) := zI λi => by
 rw [yV, kA, jI, yV, kA, jX (cf f.l), jI, zjb, jX (cf f.l)]
theorem zjf (f : Poly p) : 1 * f = f := zI λi => by
 have e : cf (1 : Poly p).l = λi => cf [1] i % p := funext zgo;rw [yV, e, jI, zjc, vw]
theorem zgr (f g : Poly p) : cf (f + g).l = λi => (cf f.l i + cf g.l i) % p := funext λi => yv f g i
theorem zjg (f g h : Poly p) : (f + g) * h = f * h + g * h := zI λi => by
 rw [yV, zgr, jI, zd1, yv, yV, yV, <- Int.add_emod]
theorem zbk (f : Poly p) : -f + f = 0 := zI λi => by
 rw [yv, zje, yO, Int.emod_add_emod]; simp [Int.add_left_neg]
theorem zkj (f g : Poly p) : f - g = f + -g := zI λi => by
 rw [kz, yv, zje, Int.add_emod_emod, Int.sub_eq_add_neg]
theorem zjh (a b : Int) : of p [a + b] = of p [a] + of p [b] := by
 rw [<- zk1]; exact zkM λi => by rw [vm]; cases i <;> simp [cf]

theorem zji (f : Poly p) : f + -f = 0 := by rw [zdu, zbk]
instance : CR (Poly p) where
 add_comm := zdu
 add_assoc := zgp
 add_zero := zia
 add_neg := zji
 sub_def := zkj
 mul_comm := xM
 mul_assoc := zgq
 one_mul := zjf
 add_mul := zjg
theorem ze (b : Poly p) (n : Nat) : b ^ (n + 1) = b ^ n * b := rfl
theorem zt (b : Poly p) : b ^ 0 = 1 := rfl

example (f g h : Poly p) : (f + g) * (f - g) + h * (1 + 1) = f * f - g * g + h + h := zg [f, g, h] (by rfl)

end Poly

class Pr (p : Int) : Prop extends Pos p where
 two : 2 <= p
 inv : ∀ a : Int, a % p ≠ 0 -> ∃ b : Int, a * b % p = 1

theorem Pr.mul_ne {p : Int} [h : Pr p] {a b : Int} (ha : a % p ≠ 0) (hb : b % p ≠ 0) : a * b % p ≠ 0 := by
 intro he;obtain ⟨c, hc⟩ := h.inv a ha;have h1 : a * c * b % p = b % p := by rw [Int.mul_emod, hc, Int.one_mul, Int.emod_emod_of_dvd _ (Int.dvd_refl p)]
 have h2 : a * c * b % p = 0 := by
  rw [show a * c * b = c * (a * b) from by rw [Int.mul_comm a c, Int.mul_assoc], Int.mul_emod, he, Int.mul_zero, Int.zero_emod]
 exact hb (h1.symm.trans h2)

namespace Poly
variable {p : Int}

def dg (f : Poly p) : Nat := f.l.length

theorem z9 {f : Poly p} {i : Nat} (h : dg f <= i) : cf f.l i = 0 := zV h
theorem yA {f : Poly p} {n : Nat} (h : dg f = n + 1) : cf f.l n ≠ 0 := f.ok.2 n h
theorem j8 {f : Poly p} {n : Nat} (h : ∀ i, n <= i -> cf f.l i = 0) : dg f <= n := by
 rcases Nat.lt_or_ge n (dg f) with hlt | hge
 ·exfalso
  exact yA (f := f) (n := dg f - 1) (by omega) (h _ (by omega))
 ·exact hge
theorem zkN {f : Poly p} {n : Nat} (h : cf f.l n ≠ 0) : n < dg f := by
 rcases Nat.lt_or_ge n (dg f) with hlt | hge
 ·exact hlt
 ·exact absurd (z9 hge) h

theorem kY [Pos p] (a : List Int) : dg (of p a) <= a.length := j8 λi hi => by rw [ya, zV hi]; simp

theorem zc [Pos p] {f : Poly p} : dg f = 0 ↔ f = 0 := by
 constructor
 ·intro h;refine zI λi => ?_;rw [yO, z9 (by omega)]
 ·rintro rfl;show (0 : Poly p).l.length = 0
  rw [zcj]; rfl

theorem zu [Pos p] : dg (0 : Poly p) = 0 := zc.2 rfl

theorem zjj [Pos p] (f g : Poly p) : dg (f + g) <= max (dg f) (dg g) := j8 λi hi => by
 rw [yv, z9 (by omega), z9 (by omega)]; simp
theorem zck [Pos p] (f g : Poly p) : dg (f - g) <= max (dg f) (dg g) := j8 λi hi => by
 rw [kz, z9 (by omega), z9 (by omega)]; simp
theorem jY [Pos p] (f g : Poly p) : dg (f * g) <= dg f + dg g - 1 := j8 λi hi => by
 rw [yV, zkL (n := dg f) (m := dg g) (λi hi => z9 hi) (λi hi => z9 hi) (by omega)]; simp

theorem z1 {f : Poly p} {i : Nat} (h : cf f.l i ≠ 0) : cf f.l i % p ≠ 0 := by rw [f.ok.cf_mod]; exact h

section
variable [Pr p]

theorem zfj {f g : Poly p} {n m : Nat} (hf : dg f = n + 1) (hg : dg g = m + 1) : cf (f * g).l (n + m) = cf f.l n * cf g.l m % p := by
 rw [yV, zkY (λi hi => z9 (by omega)) (λi hi => z9 (by omega))]

theorem yW {f g : Poly p} (hf : f ≠ 0) (hg : g ≠ 0) : dg (f * g) + 1 = dg f + dg g := by
 have h1 : dg f ≠ 0 := λh => hf (zc.1 h);have h2 : dg g ≠ 0 := λh => hg (zc.1 h);obtain ⟨n, hn⟩ := Nat.exists_eq_succ_of_ne_zero h1;obtain ⟨m, hm⟩ := Nat.exists_eq_succ_of_ne_zero h2
 have h3 : cf (f * g).l (n + m) ≠ 0 := by
  rw [zfj hn hm];exact Pr.mul_ne (z1 (yA hn)) (z1 (yA hm))
 have h4 := zkN h3;have h5 := jY f g;omega

theorem mul_ne {f g : Poly p} (hf : f ≠ 0) (hg : g ≠ 0) : f * g ≠ 0 := by
 intro h;have h1 := yW hf hg;have h2 : dg f ≠ 0 := λh => hf (zc.1 h);have h3 : dg g ≠ 0 := λh => hg (zc.1 h);rw [h, zu] at h1;omega
theorem mul_eq_zero {f g : Poly p} (h : f * g = 0) : f = 0 ∨ g = 0 := by
 by_cases hf : f = 0
 ·exact .inl hf
 ·by_cases hg : g = 0
  ·exact .inr hg
  ·exact absurd h (mul_ne hf hg)
theorem zcl {f g h : Poly p} (hf : f ≠ 0) (he : f * g = f * h) : g = h := by
 have : f * (g - h) = 0 := by exact comb (1) he (zg [f, g, h] (by rfl))
 rcases mul_eq_zero this with h1 | h1
 ·exact absurd h1 hf
 ·exact comb (1) h1 (zg [g, h] (by rfl))

theorem zd2 : (1 : Poly p) ≠ 0 := by
 intro h;have h1 := zgo (p := p) 0;rw [h, yO, yg, Int.emod_eq_of_lt (by omega) (by have := Pr.two (p := p); omega)] at h1;cases h1
theorem xm : dg (1 : Poly p) = 1 := by
 have h1 : dg (1 : Poly p) <= 1 := kY [((1 : Nat) : Int)];have h2 : dg (1 : Poly p) ≠ 0 := λh => zd2 (zc.1 h);omega
end

def mono (p : Int) [Pos p] (c : Int) (k : Nat) : Poly p := of p (List.replicate k 0 ++ [c])
theorem zjk (c : Int) (k i : Nat) : cf (List.replicate k 0 ++ [c]) i = if i = k then c else 0 := by
 induction k generalizing i with
 | zero => cases i with
  | zero => rfl
  | succ i => simp [cf]
 | succ k ih =>
  cases i with
  | zero => simp [cf, List.replicate_succ]
  | succ i =>
   rw [List.replicate_succ, List.cons_append, zy, ih];simp
theorem cv_mono (c : Int) (k : Nat) (g : Nat -> Int) (i : Nat) : cv (λj => if j = k then c else 0) g i = if k <= i then c * g (i - k) else 0 := by
 induction k generalizing i with
 | zero =>
  cases i with
  | zero => simp [cv]
  | succ i =>
   rw [cv, z6 (f := λj => if j + 1 = 0 then c else 0) (λi _ => by simp)];simp
 | succ k ih =>
  cases i with
  | zero => simp [cv]
  | succ i =>
   rw [cv];have : (λj => if j + 1 = k + 1 then c else 0) = λj => if j = k then c else 0 := by funext j; simp
   rw [this, ih];simp
theorem v9 [Pos p] (c : Int) (k i : Nat) : cf (mono p c k).l i = if i = k then c % p else 0 := by
 rw [mono, ya, zjk]; split <;> simp
theorem vn [Pos p] (c : Int) (k : Nat) (g : Poly p) (i : Nat) : cf (mono p c k * g).l i = if k <= i then c * cf g.l (i - k) % p else 0 := by
 have e : cf (mono p c k).l = λi => (if i = k then c else 0) % p := funext λi => by rw [v9]; split <;> simp
 rw [yV, e, jI, cv_mono]; split <;> simp

section
variable [Pr p]

theorem ja (g : Poly p) (hg : g ≠ 0) : ∀ (n : Nat) (f : Poly p), dg f <= n -> ∃ q r : Poly p, f = q * g + r ∧ dg r < dg g := by
 have hg0 : dg g ≠ 0 := λh => hg (zc.1 h);intro n
 induction n with
 | zero =>
  intro f hf;exact ⟨0, f, by exact zg [f, g] (by rfl), by omega⟩
 | succ n ih =>
  intro f hf
  by_cases hlt : dg f < dg g
  ·exact ⟨0, f, by exact zg [f, g] (by rfl), hlt⟩
  ·by_cases hle : dg f <= n
   ·exact ih f hle
   ·obtain ⟨m, hm⟩ := Nat.exists_eq_succ_of_ne_zero hg0;obtain ⟨b, hb⟩ := Pr.inv (p := p) _ (z1 (yA hm))
    obtain ⟨q, r, h1, h2⟩ := ih (f - mono p (cf f.l n * b) (n - m) * g) (by
     refine j8 λi hi => ?_;rw [kz, vn, if_pos (by omega)];rcases Nat.eq_or_lt_of_le hi with rfl | hlt'
     ·rw [show n - (n - m) = m by omega];rw [Int.sub_emod, Int.emod_emod_of_dvd _ (Int.dvd_refl p), <- Int.sub_emod]
      have : cf f.l n - cf f.l n * b * cf g.l m = cf f.l n * (1 - cf g.l m * b) := by
       rw [Int.mul_sub, Int.mul_one, Int.mul_assoc, Int.mul_comm b]
      rw [this, Int.mul_emod, Int.sub_emod, hb];have h1 : (1 : Int) % p = 1 := Int.emod_eq_of_lt (by omega) (by have := Pr.two (p := p); omega);rw [h1]; simp
     ·rw [z9 (f := f) (by omega), z9 (f := g) (by omega)]; simp)
    exact ⟨q + mono p (cf f.l n * b) (n - m), r, by exact comb (1) h1 (zg [f, q, mono p (cf f.l n * b) (n - m), g, r] (by rfl)), h2⟩

theorem zgs {f g q r q' r' : Poly p} (h : f = q * g + r) (hr : dg r < dg g) (h' : f = q' * g + r') (hr' : dg r' < dg g) : q = q' ∧ r = r' := by
 have h1 : (q - q') * g = r' - r := by exact comb (1) h' (comb (-1) h (zg [f, q, g, r, q', r'] (by rfl)))
 by_cases hq : q - q' = 0
 ·refine ⟨by exact comb (1) hq (zg [q, q'] (by rfl)), ?_⟩;rw [hq] at h1;exact comb (1) h1 (zg [r, r', g] (by rfl))
 ·exfalso
  have hg : g ≠ 0 := λh => by rw [h, zu] at hr; omega
  have h2 := yW hq hg;rw [h1] at h2;have h3 := zck r' r;have h4 : dg (q - q') ≠ 0 := λh => hq (zc.1 h);omega

open Classical in
noncomputable def zkk (f g : Poly p) : Poly p × Poly p := if hg : g = 0 then (0, f) else ⟨(ja g hg _ f (Nat.le_refl _)).choose, (ja g hg _ f (Nat.le_refl _)).choose_spec.choose⟩
noncomputable def quo (f g : Poly p) : Poly p := (zkk f g).1
noncomputable def rem (f g : Poly p) : Poly p := (zkk f g).2

theorem vz (f g : Poly p) : f = quo f g * g + rem f g := by
 unfold quo rem zkk
 split
 ·show f = 0 * g + f; exact zg [f, g] (by rfl)
 ·rename_i hg
  exact (ja g hg _ f (Nat.le_refl _)).choose_spec.choose_spec.1
theorem yl (f : Poly p) {g : Poly p} (hg : g ≠ 0) : dg (rem f g) < dg g := by
 unfold rem zkk;rw [dif_neg hg];exact (ja g hg _ f (Nat.le_refl _)).choose_spec.choose_spec.2
theorem zd3 {f g q r : Poly p} (h : f = q * g + r) (hr : dg r < dg g) : quo f g = q ∧ rem f g = r := by
 have hg : g ≠ 0 := λh => by rw [h, zu] at hr; omega
 exact zgs (vz f g) (yl f hg) h hr

def Dvd' (g f : Poly p) : Prop := ∃ q, f = g * q
instance : Dvd (Poly p) := ⟨Dvd'⟩
theorem dvd_refl (f : Poly p) : f ∣ f := ⟨1, by exact zg [f] (by rfl)⟩
theorem dvd_zero (f : Poly p) : f ∣ 0 := ⟨0, by exact zg [f] (by rfl)⟩
theorem zbv (f : Poly p) : 1 ∣ f := ⟨f, by exact zg [f] (by rfl)⟩
theorem zo {f g h : Poly p} (h1 : f ∣ g) (h2 : g ∣ h) : f ∣ h := by
 obtain ⟨a, rfl⟩ := h1;obtain ⟨b, rfl⟩ := h2;exact ⟨a * b, by exact zg [f, a, b] (by rfl)⟩
theorem yB {f g : Poly p} (h : Poly p) (h1 : f ∣ g) : f ∣ h * g := by
 obtain ⟨a, rfl⟩ := h1;exact ⟨h * a, by exact zg [f, a, h] (by rfl)⟩
theorem vA {f g : Poly p} (h : Poly p) (h1 : f ∣ g) : f ∣ g * h := by
 obtain ⟨a, rfl⟩ := h1;exact ⟨a * h, by exact zg [f, a, h] (by rfl)⟩
theorem dvd_add {f g h : Poly p} (h1 : f ∣ g) (h2 : f ∣ h) : f ∣ g + h := by
 obtain ⟨a, rfl⟩ := h1;obtain ⟨b, rfl⟩ := h2;exact ⟨a + b, by exact zg [f, a, b] (by rfl)⟩
theorem dvd_sub {f g h : Poly p} (h1 : f ∣ g) (h2 : f ∣ h) : f ∣ g - h := by
 obtain ⟨a, rfl⟩ := h1;obtain ⟨b, rfl⟩ := h2;exact ⟨a - b, by exact zg [f, a, b] (by rfl)⟩
theorem jL {g f : Poly p} (hg : g ≠ 0) : g ∣ f ↔ rem f g = 0 := by
 constructor
 ·rintro ⟨q, rfl⟩;exact (zd3 (q := q) (r := 0) (by exact zg [g, q] (by rfl)) (by rw [zu]; have : dg g ≠ 0 := λh => hg (zc.1 h); omega)).2
 ·intro h;have := vz f g;rw [h] at this;exact ⟨quo f g, by exact comb (1) this (zg [f, g, quo f g] (by rfl))⟩
theorem zC {g f : Poly p} (h : g ∣ f) (hf : f ≠ 0) : dg g <= dg f := by
 obtain ⟨q, rfl⟩ := h;have hg : g ≠ 0 := λh => hf (by rw [h]; exact zg [q] (by rfl));have hq : q ≠ 0 := λh => hf (by rw [h]; exact zg [g] (by rfl));have h1 := yW hg hq;have : dg q ≠ 0 := λh => hq (zc.1 h);omega
theorem zcm {g f : Poly p} (h : g ∣ f) (hf : f ≠ 0) : g ≠ 0 := by
 rintro rfl;obtain ⟨q, rfl⟩ := h;exact hf (by exact zg [q] (by rfl))
end

end Poly
namespace Poly
variable {p : Int} [Pr p]

def con (p : Int) [Pos p] (c : Int) : Poly p := of p [c]
theorem yX (c : Int) (i : Nat) : cf (con p c).l i = if i = 0 then c % p else 0 := by
 rw [con, ya]; cases i <;> simp [cf]
theorem zcn (c : Int) (f : Poly p) (i : Nat) : cf (con p c * f).l i = c * cf f.l i % p := by
 have e : cf (con p c).l = λi => c * cf [1] i % p := funext λi => by rw [yX]; cases i <;> simp [cf]
 rw [yV, e, jI, zhf, zjc]
theorem zd4 (a b : Int) : con p a * con p b = con p (a * b) := zI λi => by
 rw [zcn, yX, yX]; split <;> simp [Int.mul_emod]
theorem zd5 (a b : Int) : con p a + con p b = con p (a + b) := (zjh a b).symm
theorem zbw (a b : Int) : con p a - con p b = con p (a - b) := zI λi => by
 rw [kz, yX, yX, yX]; split
 ·exact (Int.sub_emod _ _ _).symm
 ·simp
theorem zbx (a : Int) : con p (a % p) = con p a := zI λi => by rw [yX, yX]; simp
theorem yK : con p 0 = 0 := zI λi => by rw [yX, yO]; simp
theorem jb : con p 1 = 1 := rfl
theorem y0 {a : Int} : con p a = 0 ↔ a % p = 0 := by
 constructor
 ·intro h;have := yX (p := p) a 0;rw [h, yO] at this
  simpa using this.symm
 ·intro h;rw [<- zbx, h, yK]
theorem vB (a : Int) : dg (con p a) <= 1 := kY [a]
theorem zgt {a : Int} (h : a % p ≠ 0) : dg (con p a) = 1 := by
 have h1 := vB (p := p) a;have h2 : dg (con p a) ≠ 0 := λh' => h (y0.1 (zc.1 h'));omega
theorem zgu {f : Poly p} (h : dg f <= 1) : f = con p (cf f.l 0) := zI λi => by
 rw [yX];cases i with
 | zero => simp [vw]
 | succ i => rw [z9 (by omega)]; simp

theorem vR {u : Poly p} (h : dg u = 1) : ∃ v, u * v = 1 := by
 have h0 := yA (f := u) (n := 0) h;obtain ⟨b, hb⟩ := Pr.inv (p := p) _ (z1 h0);refine ⟨con p b, ?_⟩;rw [zgu (f := u) (by omega), zd4, <- zbx, hb]; rfl
theorem zjl {u : Poly p} (h : dg u = 1) (f : Poly p) : u ∣ f := by
 obtain ⟨v, hv⟩ := vR h;exact ⟨v * f, by exact comb (-f) hv (zg [f, u, v] (by rfl))⟩
theorem zco {u f : Poly p} (h : dg u = 1) (hf : f ∣ u) : dg f = 1 := by
 have hu : u ≠ 0 := λe => by rw [e, zu] at h; cases h
 have h1 := zC hf hu;have h2 : dg f ≠ 0 := λe => zcm hf hu (zc.1 e);omega

def lc (f : Poly p) : Int := cf f.l (dg f - 1)
def Mon (f : Poly p) : Prop := f ≠ 0 ∧ lc f = 1
theorem zll {f : Poly p} (h : f ≠ 0) : lc f ≠ 0 := by
 have : dg f ≠ 0 := λe => h (zc.1 e);exact yA (n := dg f - 1) (by omega)
theorem zd6 {f g : Poly p} (hf : f ≠ 0) (hg : g ≠ 0) : lc (f * g) = lc f * lc g % p := by
 have h1 : dg f ≠ 0 := λe => hf (zc.1 e);have h2 : dg g ≠ 0 := λe => hg (zc.1 e);have h3 := yW hf hg;have := zfj (f := f) (g := g) (n := dg f - 1) (m := dg g - 1) (by omega) (by omega);unfold lc;rw [show dg (f * g) - 1 = dg f - 1 + (dg g - 1) by omega, this]
theorem zhg : (1 : Int) % p = 1 := Int.emod_eq_of_lt (by omega) (by have := Pr.two (p := p); omega)
theorem Mon.mul {f g : Poly p} (hf : Mon f) (hg : Mon g) : Mon (f * g) :=
 ⟨mul_ne hf.1 hg.1, by rw [zd6 hf.1 hg.1, hf.2, hg.2]; exact zhg⟩
theorem zhh : Mon (1 : Poly p) := ⟨zd2, by
 unfold lc;rw [xm, zgo];exact zhg⟩
theorem Mon.right {f g : Poly p} (hf : Mon f) (h : Mon (f * g)) : Mon g := by
 have hg : g ≠ 0 := λe => h.1 (by rw [e]; exact zg [f] (by rfl));refine ⟨hg, ?_⟩;have := zd6 hf.1 hg;rw [h.2, hf.2, Int.one_mul] at this;rw [this]; exact (vw g _).symm
theorem zjm {c : Int} (h : c % p ≠ 0) : lc (con p c) = c % p := by
 unfold lc;rw [zgt h, yX]; rfl
theorem zd7 {c : Int} (h : c % p ≠ 0) : con p c ≠ 0 := λe => h (y0.1 e)
theorem jc {f : Poly p} (hf : f ≠ 0) : ∃ c : Int, c % p ≠ 0 ∧ Mon (con p c * f) := by
 obtain ⟨b, hb⟩ := Pr.inv (p := p) (lc f) (z1 (zll hf))
 have hb' : b % p ≠ 0 := by
  intro h;rw [Int.mul_emod, h, Int.mul_zero, Int.zero_emod] at hb; cases hb
 refine ⟨b, hb', mul_ne (zd7 hb') hf, ?_⟩;rw [zd6 (zd7 hb') hf, zjm hb', Int.mul_comm, Int.mul_emod, Int.emod_emod_of_dvd _ (Int.dvd_refl p), <- Int.mul_emod, hb]

theorem zgv {f g : Poly p} (hf : Mon f) (hg : Mon g) (h1 : f ∣ g) (h2 : g ∣ f) : f = g := by
 obtain ⟨q, rfl⟩ := h1;have h3 := zC h2 hf.1;have hq : q ≠ 0 := λe => hg.1 (by rw [e]; exact zg [f] (by rfl));have h4 := yW hf.1 hq;have h5 : dg q ≠ 0 := λe => hq (zc.1 e);have h6 : q = con p (cf q.l 0) := zgu (by omega);have h7 := hf.right hg
 have h8 : cf q.l 0 = 1 := by
  have := h7.2;unfold lc at this
  rwa [show dg q - 1 = 0 by omega] at this
 rw [h6, h8, jb]; exact zg [f] (by rfl)

open Classical in
noncomputable def mnc (f : Poly p) : Poly p := if h : f = 0 then 0 else con p (jc h).choose * f
theorem zfk : mnc (0 : Poly p) = 0 := by simp [mnc]
theorem vo {f : Poly p} (h : f ≠ 0) : Mon (mnc f) := by
 unfold mnc; rw [dif_neg h]; exact (jc h).choose_spec.2
theorem zS (f : Poly p) : mnc f ∣ f ∧ f ∣ mnc f := by
 unfold mnc
 split
 ·rename_i h; rw [h]; exact ⟨dvd_refl _, dvd_refl _⟩
 ·rename_i h
  obtain ⟨v, hv⟩ := vR (zgt (jc h).choose_spec.1);generalize (jc h).choose = c at hv;exact ⟨⟨v, by exact comb (-f) hv (zg [f, con p c, v] (by rfl))⟩, ⟨con p c, by exact zg [f, con p c] (by rfl)⟩⟩
theorem zk2 {f : Poly p} {c : Int} (h : Mon (con p c * f)) : mnc f = con p c * f := by
 have hf : f ≠ 0 := λe => h.1 (by rw [e]; exact zg [con p c] (by rfl));have hc : c % p ≠ 0 := λe => h.1 (by rw [y0.2 e]; exact zg [f] (by rfl));obtain ⟨v, hv⟩ := vR (zgt hc);refine zgv (vo hf) h (yB _ (zS f).1) ?_;exact zo ⟨v, by exact comb (-f) hv (zg [f, con p c, v] (by rfl))⟩ (zS f).2

noncomputable def gcd (f g : Poly p) : Poly p :=
 if h : dg g = 0 then mnc f else have : dg (rem f g) < dg g := yl f λe => h (zc.2 e); gcd g (rem f g)
termination_by dg g

theorem zcp (f : Poly p) : gcd f 0 = mnc f := by rw [gcd, dif_pos zu]
theorem zgw (f : Poly p) {g : Poly p} (h : g ≠ 0) : gcd f g = gcd g (rem f g) := by rw [gcd, dif_neg λe => h (zc.1 e)]

theorem kZ : ∀ (n : Nat) (f g : Poly p), dg g <= n -> (gcd f g ∣ f ∧ gcd f g ∣ g) ∧ (∃ a b, gcd f g = a * f + b * g) ∧ (f ≠ 0 ∨ g ≠ 0 -> Mon (gcd f g)) := by
 intro n
 induction n with
 | zero =>
  intro f g h;obtain rfl := zc.1 (by omega : dg g = 0);rw [zcp];obtain ⟨h1, c, hc⟩ := zS f;refine ⟨⟨h1, dvd_zero _⟩, ⟨c, 0, by rw [hc]; exact zg [f, c] (by rfl)⟩, λh => vo (h.resolve_right λh => h rfl)⟩
 | succ n ih =>
  intro f g h
  by_cases hg : g = 0
  ·subst hg;exact ih f 0 (by rw [zu]; omega)
  ·rw [zgw f hg];have h0 := yl f hg;obtain ⟨⟨h1, h2⟩, ⟨a, b, h3⟩, h4⟩ := ih g (rem f g) (by omega);have h5 := vz f g;refine ⟨⟨?_, h1⟩, ⟨b, a - b * quo f g, ?_⟩, λ_ => h4 (.inl hg)⟩
   ·have := dvd_add (yB (quo f g) h1) h2
    rwa [<- h5] at this
   ·rw [h3]; exact comb (-b) h5 (zg [a, b, f, g, rem f g, quo f g] (by rfl))

theorem y9 (f g : Poly p) : gcd f g ∣ f := (kZ _ f g (Nat.le_refl _)).1.1
theorem y1 (f g : Poly p) : gcd f g ∣ g := (kZ _ f g (Nat.le_refl _)).1.2
theorem zfl (f g : Poly p) : ∃ a b, gcd f g = a * f + b * g := (kZ _ f g (Nat.le_refl _)).2.1
theorem k0 {f g : Poly p} (h : f ≠ 0 ∨ g ≠ 0) : Mon (gcd f g) := (kZ _ f g (Nat.le_refl _)).2.2 h
theorem zhi {h f g : Poly p} (h1 : h ∣ f) (h2 : h ∣ g) : h ∣ gcd f g := by
 obtain ⟨a, b, he⟩ := zfl f g;rw [he];exact dvd_add (yB _ h1) (yB _ h2)

def Cop (f g : Poly p) : Prop := ∃ a b, a * f + b * g = 1
theorem Cop.symm {f g : Poly p} (h : Cop f g) : Cop g f := by
 obtain ⟨a, b, h⟩ := h;exact ⟨b, a, by exact comb (1) h (zg [a, b, f, g] (by rfl))⟩
theorem zcq {f g : Poly p} (h : dg (gcd f g) = 1) : Cop f g := by
 obtain ⟨a, b, he⟩ := zfl f g;obtain ⟨v, hv⟩ := vR h;exact ⟨v * a, v * b, by exact comb (1) hv (comb (-v) he (zg [v, a, b, f, g, gcd f g] (by rfl)))⟩
theorem Cop.mul {f g h : Poly p} (h1 : Cop f h) (h2 : Cop g h) : Cop (f * g) h := by
 obtain ⟨a, b, h1⟩ := h1;obtain ⟨c, d, h2⟩ := h2;exact ⟨a * c, a * f * d + b * c * g + b * d * h, by exact comb (c*g+d*h) h1 (comb (1) h2 (zg [a, b, c, d, f, g, h] (by rfl)))⟩
theorem Cop.dvd {f g h : Poly p} (h1 : Cop f g) (h2 : f ∣ g * h) : f ∣ h := by
 obtain ⟨a, b, h1⟩ := h1;obtain ⟨q, h2⟩ := h2;exact ⟨a * h + b * q, by exact comb (-h) h1 (comb (b) h2 (zg [a, b, f, g, h, q] (by rfl)))⟩
theorem Cop.mul_dvd {f g h : Poly p} (h1 : Cop f g) (h2 : f ∣ h) (h3 : g ∣ h) : f * g ∣ h := by
 obtain ⟨a, b, h1⟩ := h1;obtain ⟨q, h2⟩ := h2;obtain ⟨r, h3⟩ := h3;exact ⟨a * r + b * q, by exact comb (-h) h1 (comb (b*g) h2 (comb (a*f) h3 (zg [a, b, f, g, h, q, r] (by rfl))))⟩
theorem zkl (f : Poly p) : Cop 1 f := ⟨1, 0, by exact zg [f] (by rfl)⟩
def Irr (h : Poly p) : Prop := 2 <= dg h ∧ ∀ a b, h = a * b -> dg a = 1 ∨ dg b = 1

theorem Irr.ne {h : Poly p} (hi : Irr h) : h ≠ 0 := λe => by have := hi.1; rw [e, zu] at this; omega

theorem Irr.cop {h a : Poly p} (hi : Irr h) (hn : ¬ h ∣ a) : Cop h a := by
 obtain ⟨q, hq⟩ := y9 h a;rcases hi.2 _ _ hq with h1 | h1
 ·exact zcq h1
 ·exfalso
  obtain ⟨v, hv⟩ := vR h1;exact hn (zo ⟨v, by exact comb (-(gcd h a)) hv (comb (-v) hq (zg [gcd h a, h, q, v] (by rfl)))⟩ (y1 h a))
theorem Irr.prime {h a b : Poly p} (hi : Irr h) (hd : h ∣ a * b) : h ∣ a ∨ h ∣ b := by
 by_cases ha : h ∣ a
 ·exact .inl ha
 ·exact .inr ((hi.cop ha).dvd hd)
theorem Irr.not_unit {h u : Poly p} (hi : Irr h) (hu : dg u = 1) : ¬ h ∣ u := λhd => by
 have := zco hu hd;have := hi.1;omega
theorem Irr.pow {h a : Poly p} (hi : Irr h) {n : Nat} (hd : h ∣ a ^ n) : h ∣ a := by
 induction n with
 | zero =>
  have e : a ^ 0 = 1 := by exact zt a
  rw [e] at hd;exact absurd hd (hi.not_unit xm)
 | succ n ih =>
  have e : a ^ (n + 1) = a ^ n * a := by exact ze a n
  rw [e] at hd;exact (hi.prime hd).elim ih id

theorem kB {g h : Poly p} (hg : Irr g) (hh : Irr h) (mg : Mon g) (mh : Mon h) (hd : g ∣ h) : g = h := by
 refine zgv mg mh hd ?_;obtain ⟨q, rfl⟩ := hd;rcases hh.2 _ _ rfl with h1 | h1
 ·exact absurd h1 (by have := hg.1; omega)
 ·obtain ⟨v, hv⟩ := vR h1;exact ⟨v, by exact comb (-g) hv (zg [g, q, v] (by rfl))⟩

theorem jd {h : Poly p} (hi : Irr h) : Irr (mnc h) ∧ Mon (mnc h) := by
 refine ⟨?_, vo hi.ne⟩;obtain ⟨⟨q, hq⟩, ⟨r, hr⟩⟩ := zS h;have h1 := zC (zS h).1 hi.ne;have h2 := zC (zS h).2 (vo hi.ne).1;refine ⟨by have := hi.1; omega, λa b hab => ?_⟩
 have hq1 : dg q = 1 := by
  have hm := (vo hi.ne).1;have hq0 : q ≠ 0 := λe => hi.ne (by rw [hq, e]; exact zg [mnc h] (by rfl));have := yW hm hq0;rw [<- hq] at this;omega
 rcases hi.2 a (b * q) (by exact comb (1) hq (comb (q) hab (zg [h, a, b, q, mnc h] (by rfl)))) with h3 | h3
 ·exact .inl h3
 ·exact .inr (zco h3 ⟨q, rfl⟩)

theorem kC : ∀ (n : Nat) (f : Poly p), dg f <= n -> 2 <= dg f -> ∃ h, Irr h ∧ Mon h ∧ h ∣ f := by
 intro n
 induction n with
 | zero => intro f h1 h2; omega
 | succ n ih =>
  intro f h1 h2;have hf : f ≠ 0 := λe => by rw [e, zu] at h2; omega
  by_cases hi : Irr f
  ·exact ⟨mnc f, (jd hi).1, (jd hi).2, (zS f).1⟩
  ·unfold Irr at hi;simp only [not_and, Classical.not_forall, not_or] at hi
   obtain ⟨a, b, rfl, ha, hb⟩ := hi h2;have ha0 : a ≠ 0 := λe => hf (by rw [e]; exact zg [b] (by rfl));have hb0 : b ≠ 0 := λe => hf (by rw [e]; exact zg [a] (by rfl));have h3 := yW ha0 hb0;have h4 : dg a ≠ 0 := λe => ha0 (zc.1 e);have h5 : dg b ≠ 0 := λe => hb0 (zc.1 e);obtain ⟨h, h6, h7, h8⟩ := ih a (by omega) (by omega);exact ⟨h, h6, h7, vA _ h8⟩

def Sqf (f : Poly p) : Prop := ∀ h, Irr h -> ¬ h * h ∣ f

theorem kD {f g : Poly p} (hf : f ≠ 0) (h : ∀ h, Irr h -> h ∣ f -> h ∣ g -> False) : Cop f g := by
 have hm := k0 (f := f) (g := g) (.inl hf);have h0 : dg (gcd f g) ≠ 0 := λe => hm.1 (zc.1 e)
 by_cases h1 : dg (gcd f g) = 1
 ·exact zcq h1
 ·obtain ⟨q, h2, _, h3⟩ := kC _ (gcd f g) (Nat.le_refl _) (by omega);exact (h q h2 (zo h3 (y9 f g)) (zo h3 (y1 f g))).elim

theorem Sqf.cop {f a b : Poly p} (hs : Sqf f) (hf : f ≠ 0) (h : a * b ∣ f) : Cop a b := by
 have ha : a ≠ 0 := λe => zcm h hf (by rw [e]; exact zg [b] (by rfl));refine kD ha λq hq h1 h2 => hs q hq ?_;obtain ⟨x, rfl⟩ := h1;obtain ⟨y, rfl⟩ := h2;exact zo ⟨x * y, by exact zg [q, x, y] (by rfl)⟩ h
theorem Sqf.dvd {f g : Poly p} (hs : Sqf f) (h : g ∣ f) : Sqf g := λq hq hd => hs q hq (zo hd h)

end Poly

def xa : List Int := [2, 3, 5, 7, 11, 13, 17, 19, 23, 29, 31, 37, 41, 43, 47, 53, 59, 61, 67, 71, 73, 79, 83, 89, 97]

def zgx (p k : Int) : List Int -> List Int -> List Int
 | x :: l, y :: l' => (x - k * y) % p :: zgx p k l l'
 | _, _ => []
def stir (p : Int) : Nat -> List Int
 | 0 => [1]
 | n + 1 => zgx p n (0 :: stir p n) (stir p n ++ [0])
def zgy (p : Int) : List Int := 0 :: (p - 1) :: (List.replicate (p.toNat - 2) 0 ++ [1])

theorem zfm : xa.all (λp => stir p p.toNat == zgy p) = true := by decide +kernel
theorem zgz : xa.all (λp => (List.range p.toNat).all λa => a == 0 || (List.range p.toNat).any λb => (a : Int) * b % p == 1) = true := by decide +kernel
theorem kE : xa.all (λp => decide (2 <= p ∧ p <= 97)) = true := by decide +kernel

class SP (p : Int) : Prop extends Pr p where
 le : p <= 97
 stir : stir p p.toNat = zgy p

theorem zjn {p : Int} (h : p ∈ xa) : SP p := by
 have h1 := List.all_eq_true.1 zfm p h;have h2 := List.all_eq_true.1 zgz p h;have h3 := List.all_eq_true.1 kE p h;simp only [beq_iff_eq, decide_eq_true_eq] at h1 h3
 refine { pos := by omega, two := h3.1, le := h3.2, stir := h1, inv := λa ha => ?_ };rw [List.all_eq_true] at h2;have h4 := Int.emod_nonneg a (show p ≠ 0 by omega);have h5 := Int.emod_lt_of_pos a (show 0 < p by omega);have h6 := h2 (a % p).toNat (List.mem_range.2 (by omega));simp only [Bool.or_eq_true, beq_iff_eq, List.any_eq_true] at h6
 rcases h6 with h6 | ⟨b, _, h6⟩
 ·omega
 ·refine ⟨b, ?_⟩;rw [show ((a % p).toNat : Int) = a % p by omega, Int.mul_emod, Int.emod_emod_of_dvd _ (Int.dvd_refl p), <- Int.mul_emod] at h6;exact h6

namespace Poly
variable {p : Int} [Pr p]

def hev (a b : Poly p) : List Int -> Nat -> Poly p
 | [], _ => 0
 | c :: l, n => con p c * b ^ n + a * hev a b l (n - 1)

def xv (a b : Poly p) : Nat -> Poly p
 | 0 => 1
 | n + 1 => xv a b n * (a - con p n * b)


theorem zfn (a b : Poly p) : ∀ (l : List Int) (n : Nat), l.length = n + 1 -> hev a b (l ++ [0]) (n + 1) = b * hev a b l n
 | [], n, h => by simp at h
 | [c], n, h => by
  have : n = 0 := by simpa using h.symm
  subst this;simp only [List.cons_append, List.nil_append, hev, yK]
  rw [ze, zt];exact zg [con p c, b, a, b ^ (0 + 1 - 1)] (by rfl)
 | c :: d :: l, n, h => by
  cases n with
  | zero => simp at h
  | succ n =>
   have ih := zfn a b (d :: l) n (by simpa using h);simp only [List.cons_append] at ih ⊢
   have e1 : hev a b (c :: d :: (l ++ [0])) (n + 1 + 1) = con p c * b ^ (n + 1 + 1) + a * hev a b (d :: (l ++ [0])) (n + 1) := rfl;have e2 : hev a b (c :: d :: l) (n + 1) = con p c * b ^ (n + 1) + a * hev a b (d :: l) n := rfl;rw [e1, e2, ih, ze b (n + 1)];exact zg [a, b, con p c, b ^ (n+1), hev a b (d :: l) n] (by rfl)

theorem zfo (a b : Poly p) (k : Int) : ∀ (l l' : List Int) (n : Nat), l.length = l'.length -> hev a b (zgx p k l l') n = hev a b l n - con p k * hev a b l' n
 | [], [], n, _ => by simp only [zgx, hev]; exact zg [con p k] (by rfl)
 | x :: l, y :: l', n, h => by
  simp only [zgx, hev]
  rw [zfo a b k l l' (n - 1) (by simpa using h), zbx, <- zbw, <- zd4];exact zg [con p k, con p x, con p y, a, b ^ n, hev a b l (n-1), hev a b l' (n-1)] (by rfl)
 | [], _ :: _, n, h => by simp at h
 | _ :: _, [], n, h => by simp at h

theorem za6 {p : Int} (k : Int) : ∀ (l l' : List Int), l.length = l'.length -> (zgx p k l l').length = l.length
 | [], [], _ => rfl
 | x :: l, y :: l', h => by simp [zgx, za6 k l l' (by simpa using h)]
 | [], _ :: _, h => by simp at h
 | _ :: _, [], h => by simp at h

theorem zfp {p : Int} (n : Nat) : (stir p n).length = n + 1 := by
 induction n with
 | zero => rfl
 | succ n ih => rw [stir, za6 _ _ _ (by simp)]; simp [ih]

theorem zjo (a b : Poly p) (n : Nat) : hev a b (stir p n) n = xv a b n := by
 induction n with
 | zero => simp only [stir, hev, xv, jb, zt]; exact zg [a] (by rfl)
 | succ n ih =>
  rw [stir, zfo _ _ _ _ _ _ (by simp), zfn _ _ _ _ (zfp n), xv];simp only [hev, yK, Nat.add_sub_cancel, ih]
  exact zg [a, b, xv a b n, con p (n:Int), b ^ (n+1)] (by rfl)

theorem zkm (a b : Poly p) (m : Nat) : hev a b (List.replicate m 0 ++ [1]) m = a ^ m := by
 induction m with
 | zero => simp only [List.replicate_zero, List.nil_append, hev, jb, zt]; exact zg [a] (by rfl)
 | succ m ih =>
  rw [List.replicate_succ, List.cons_append, hev, Nat.add_sub_cancel, ih, yK, ze a m];exact zg [a, a ^ m, b ^ (m+1)] (by rfl)

section
variable {p : Int} [SP p]

theorem zcr (a b : Poly p) : xv a b p.toNat = a ^ p.toNat - a * b ^ (p.toNat - 1) := by
 have h2 := Pr.two (p := p);rw [<- zjo, SP.stir (p := p), zgy];obtain ⟨m, hm⟩ : ∃ m, p.toNat = m + 2 := ⟨p.toNat - 2, by omega⟩
 rw [hm];simp only [hev, yK, show m + 2 - 1 = m + 1 from rfl, show m + 1 - 1 = m from rfl, show m + 2 - 2 = m from rfl, zkm]
 have h1 : con p (p - 1) = -1 := by
  rw [<- zbw, jb, y0.2 (Int.emod_self)]; exact zg [a] (by rfl)
 rw [h1, ze a (m + 1), ze a m];exact zg [a, b, a ^ m, b ^ (m+1), b ^ (m+2)] (by rfl)

theorem zfq (a b : Poly p) (n : Nat) : xv (a + b) b (n + 1) = (a + b) * xv a b n := by
 induction n with
 | zero =>
  simp only [xv]
  rw [show (((0 : Nat)) : Int) = 0 from rfl, yK]; exact zg [a, b] (by rfl)
 | succ n ih =>
  rw [xv, ih, xv, show (((n + 1 : Nat)) : Int) = (n : Int) + 1 from by omega, <- zd5, jb];exact zg [a, b, xv a b n, con p (n:Int)] (by rfl)

theorem zcs (a b : Poly p) : (a + b) ^ p.toNat = a ^ p.toNat + b ^ p.toNat := by
 have h2 := Pr.two (p := p);obtain ⟨m, hm⟩ : ∃ m, p.toNat = m + 1 := ⟨p.toNat - 1, by omega⟩
 have h1 := zcr (a + b) b;have h3 := zcr a b;rw [hm] at h1 h3 ⊢;rw [zfq] at h1;rw [xv] at h3;simp only [Nat.add_sub_cancel] at h1 h3
 have h4 : con p (m : Int) = -1 := by
  have : (m : Int) = p - 1 := by omega
  rw [this, <- zbw, jb, y0.2 (Int.emod_self)]; exact zg [a] (by rfl)
 rw [h4] at h3;rw [ze b m];exact comb (-1) h1 (comb (1) h3 (zg [a, b, xv a b m, b^m, a^(m+1), (a+b)^(m+1)] (by rfl)))

theorem k6 (n : Nat) : (1 : Poly p) ^ n = 1 := by
 induction n with
 | zero => exact zt _
 | succ n ih => rw [ze, ih]; exact CR.one_mul 1
theorem zfr {n : Nat} (h : 0 < n) : (0 : Poly p) ^ n = 0 := by
 obtain ⟨m, rfl⟩ : ∃ m, n = m + 1 := ⟨n - 1, by omega⟩
 rw [ze]; exact CR.mul_zero _
theorem zhj (a b : Poly p) (n : Nat) : (a * b) ^ n = a ^ n * b ^ n := by
 induction n with
 | zero => simp only [zt]; exact (CR.one_mul 1).symm
 | succ n ih => rw [ze, ih, ze, ze]; exact zg [a, b, a^n, b^n] (by rfl)
theorem zby (a : Poly p) (n m : Nat) : a ^ (n + m) = a ^ n * a ^ m := by
 induction m with
 | zero => rw [Nat.add_zero, zt]; exact (CR.mul_one _).symm
 | succ m ih => rw [<- Nat.add_assoc, ze, ih, ze]; exact CR.mul_assoc _ _ _
theorem zhk (a : Poly p) (n m : Nat) : a ^ (n * m) = (a ^ n) ^ m := by
 induction m with
 | zero => rw [Nat.mul_zero, zt, zt]
 | succ m ih => rw [Nat.mul_succ, zby, ih, ze]

theorem k7 : 0 < p.toNat := by have := Pr.two (p := p); omega

theorem zjp (c : Int) : con p c ^ p.toNat = con p c := by
 have hn : ∀ n : Nat, con p (n : Int) ^ p.toNat = con p (n : Int) := by
  intro n
  induction n with
  | zero => rw [show (((0 : Nat)) : Int) = 0 from rfl, yK, zfr k7]
  | succ n ih => rw [show (((n + 1 : Nat)) : Int) = (n : Int) + 1 from by omega, <- zd5, zcs, ih, jb, k6]
 have h1 := Int.emod_nonneg c (show p ≠ 0 by have := Pr.two (p := p); omega);have := hn (c % p).toNat
 rwa [show (((c % p).toNat : Nat) : Int) = c % p by omega, zbx] at this

theorem zjq (a : Poly p) : xv a 1 p.toNat = a ^ p.toNat - a := by
 rw [zcr, k6]; rw [CR.mul_one]
theorem zfs (a b : Poly p) : (a - b) ^ p.toNat = a ^ p.toNat - b ^ p.toNat := by
 have h := zcs (a - b) b;have : a - b + b = a := by exact zg [a, b] (by rfl)
 rw [this] at h;exact comb (-1) h (zg [(a-b)^p.toNat, a^p.toNat, b^p.toNat] (by rfl))
end

end Poly
namespace Poly
variable {p : Int} [SP p]

def Ber (f v : Poly p) : Prop := f ∣ v ^ p.toNat - v

theorem zdv {h v : Poly p} (hi : Irr h) : ∀ {n : Nat}, h ∣ xv v 1 n -> ∃ s, s < n ∧ h ∣ v - con p (s : Int)
 | 0, hd => absurd hd (hi.not_unit xm)
 | n + 1, hd => by
  rw [xv] at hd;rcases hi.prime hd with h1 | h1
  ·obtain ⟨s, h2, h3⟩ := zdv hi h1;exact ⟨s, by omega, h3⟩
  ·exact ⟨n, by omega, by
    have e : v - con p (n : Int) * 1 = v - con p (n : Int) := by exact zg [v, con p (n:Int)] (by rfl)
    rwa [e] at h1⟩

theorem zkn {h v : Poly p} (hi : Irr h) (hd : Ber h v) : ∃ s : Int, 0 <= s ∧ s < p ∧ h ∣ v - con p s := by
 unfold Ber at hd;rw [<- zjq] at hd;obtain ⟨s, h1, h2⟩ := zdv hi hd;exact ⟨s, by omega, by have := Pr.two (p := p); omega, h2⟩

theorem zgA {h v : Poly p} (hi : 2 <= dg h) {s t : Int} (h1 : h ∣ v - con p s) (h2 : h ∣ v - con p t) : s % p = t % p := by
 have h3 : h ∣ con p (s - t) := by
  have := dvd_sub h2 h1;have e : v - con p t - (v - con p s) = con p (s - t) := by rw [<- zbw]; exact zg [v, con p s, con p t] (by rfl)
  rwa [e] at this
 have h4 : con p (s - t) = 0 := by
  refine Classical.byContradiction λhne => ?_;have := zC h3 hne;have := vB (p := p) (s - t);omega
 have h5 := y0.1 h4;exact Int.emod_eq_emod_iff_emod_sub_eq_zero.2 h5

theorem Ber.dvd {f g v : Poly p} (h : Ber f v) (hd : g ∣ f) : Ber g v := zo hd h
theorem Ber.congr {f v w : Poly p} (h : Ber f v) (hd : f ∣ v - w) : Ber f w := by
 unfold Ber at *;obtain ⟨q, hq⟩ := hd
 have h1 : f ∣ (v - w) ^ p.toNat - (v - w) := by
  rw [hq, zhj];obtain ⟨m, hm⟩ : ∃ m, p.toNat = m + 1 := ⟨p.toNat - 1, by have := k7 (p := p); omega⟩
  rw [hm, ze f, ze q];exact ⟨f ^ m * (q ^ m * q) - q, by exact zg [f, q, f^m, q^m] (by rfl)⟩
 rw [zfs] at h1;have := dvd_sub h h1;have e : v ^ p.toNat - v - (v ^ p.toNat - w ^ p.toNat - (v - w)) = w ^ p.toNat - w := by exact zg [v, w, v ^ p.toNat, w ^ p.toNat] (by rfl)
 rwa [e] at this

theorem zft {f part : Poly p} (hf : f ≠ 0) (hs : Sqf f) (hd : part ∣ f) (h2 : 2 <= dg part) (hc : ∀ w, dg w < dg f -> Ber f w -> ∃ s : Int, part ∣ w - con p s) : Irr part := by
 refine ⟨h2, λa b hab => Classical.byContradiction λhn => ?_⟩;simp only [not_or] at hn
 obtain ⟨c, hfc⟩ := hd;have hpart : part ≠ 0 := λe => by rw [e, zu] at h2; omega
 have ha0 : a ≠ 0 := λe => hpart (by rw [hab, e]; exact zg [b] (by rfl));have hb0 : b ≠ 0 := λe => hpart (by rw [hab, e]; exact zg [a] (by rfl));have hda : dg a ≠ 0 := λe => ha0 (zc.1 e);have hdb : dg b ≠ 0 := λe => hb0 (zc.1 e);have hfa : f = a * (b * c) := by rw [hfc, hab]; exact zg [a, b, c] (by rfl)
 have hcop : Cop a (b * c) := hs.cop hf ⟨1, by rw [<- hfa]; exact zg [f] (by rfl)⟩;obtain ⟨u, v, huv⟩ := hcop
 have hber : Ber f (u * a) := by
  unfold Ber;rw [hfa];have hcop' : Cop a (b * c) := ⟨u, v, huv⟩
  obtain ⟨m, hm⟩ : ∃ m, p.toNat = m + 1 := ⟨p.toNat - 1, by have := k7 (p := p); omega⟩
  refine hcop'.mul_dvd ?_ ?_
  ·rw [hm, ze];exact ⟨((u * a) ^ m - 1) * u, by exact zg [u, a, (u*a)^m] (by rfl)⟩
  ·have e : u * a = 1 - v * (b * c) := by exact comb (1) huv (zg [u, a, v, b, c] (by rfl))
   rw [e, zfs, k6, hm, ze];exact ⟨v - (v * (b * c)) ^ m * v, by exact zg [v, b, c, (v*(b*c))^m] (by rfl)⟩
 have hrem := vz (u * a) f;have hlt := yl (u * a) hf;have hbr : Ber f (rem (u * a) f) := hber.congr ⟨quo (u * a) f, by exact comb (1) hrem (zg [u, a, f, quo (u*a) f, rem (u*a) f] (by rfl))⟩;obtain ⟨s, hs'⟩ := hc _ hlt hbr
 have h3 : part ∣ u * a - con p s := by
  have h4 : part ∣ f := ⟨c, hfc⟩
  have h5 := dvd_add hs' (yB (quo (u * a) f) h4);have e : rem (u * a) f - con p s + quo (u * a) f * f = u * a - con p s := by exact comb (-1) hrem (zg [u, a, f, con p s, quo (u*a) f, rem (u*a) f] (by rfl))
  rwa [e] at h5
 have h6 : a ∣ con p s := by
  have h7 : a ∣ part := ⟨b, hab⟩
  have h8 := dvd_sub (yB u (dvd_refl a)) (zo h7 h3);have e : u * a - (u * a - con p s) = con p s := by exact zg [u, a, con p s] (by rfl)
  rwa [e] at h8
 have h9 : con p s = 0 := by
  refine Classical.byContradiction λhne => ?_;have := zC h6 hne;have := vB (p := p) s;omega
 rw [h9] at h3
 have h10 : b ∣ 1 := by
  have h7 : b ∣ part := ⟨a, by rw [hab]; exact zg [a, b] (by rfl)⟩
  have h8 := zo h7 h3;have h11 : b ∣ v * (b * c) := ⟨v * c, by exact zg [v, b, c] (by rfl)⟩
  have h12 := dvd_add h8 h11;have e : u * a - 0 + v * (b * c) = 1 := by exact comb (1) huv (zg [u, a, v, b, c] (by rfl))
  rwa [e] at h12
 exact hn.2 (zco xm h10)

end Poly

def dv (f : Nat -> Int) : Nat -> Int := λi => ((i : Int) + 1) * f (i + 1)

theorem zlm (f g : Nat -> Int) (k : Nat) : dv (cv f g) k = cv (dv f) g k + cv f (dv g) k := by
 induction k generalizing f with
 | zero => simp [dv, cv]; omega
 | succ k ih =>
  have h1 := ih (λi => f (i + 1));have e1 : dv (cv (λi => f (i + 1)) g) k = ((k : Int) + 1) * cv (λi => f (i + 1)) g (k + 1) := rfl
  have e2 : dv (cv f g) (k + 1) = ((k : Int) + 2) * (f 0 * g (k + 2) + cv (λi => f (i + 1)) g (k + 1)) := by
   unfold dv; rw [cv]; congr 1
  have e3 : cv (dv f) g (k + 1) = f 1 * g (k + 1) + cv (λi => dv f (i + 1)) g k := by
   rw [cv]; simp [dv]
  have e4 : cv f (dv g) (k + 1) = f 0 * (((k : Int) + 2) * g (k + 2)) + cv (λi => f (i + 1)) (dv g) k := by
   rw [cv]; unfold dv; congr 3
  have e5 : (λi => dv f (i + 1)) = λi => dv (λi => f (i + 1)) i + f (i + 1 + 1) := by
   funext i
   unfold dv;rw [show ((i + 1 : Nat) : Int) + 1 = ((i : Int) + 1) + 1 from by omega, Int.add_mul ((i : Int) + 1)]; simp
  have e6 : cv (λi => f (i + 1)) g (k + 1) = f 1 * g (k + 1) + cv (λi => f (i + 1 + 1)) g k := by rw [cv]
  rw [e2, e3, e4, e5, zd1];rw [e1] at h1
  have e7 : ((k : Int) + 2) * cv (λi => f (i + 1)) g (k + 1) = ((k : Int) + 1) * cv (λi => f (i + 1)) g (k + 1) + cv (λi => f (i + 1)) g (k + 1) := by
   rw [show (k : Int) + 2 = ((k : Int) + 1) + 1 from by omega, Int.add_mul]; simp
  have e8 : ((k : Int) + 2) * (f 0 * g (k + 2)) = f 0 * (((k : Int) + 2) * g (k + 2)) := by
   rw [<- Int.mul_assoc, Int.mul_comm _ (f 0), Int.mul_assoc]
  rw [Int.mul_add, e7, e8, h1, e6];have e9 : (λi => dv (λi => f (i + 1)) i) = dv (λi => f (i + 1)) := rfl;omega

namespace Poly
variable {p : Int} [SP p]

def der (f : Poly p) : Poly p := of p (mkL (dg f) (dv (cf f.l)))
theorem zaF (f : Poly p) (i : Nat) : cf (der f).l i = dv (cf f.l) i % p := by
 rw [der, ya, y8]
 split
 ·rfl
 ·rename_i h
  unfold dv;rw [z9 (f := f) (by omega)]; simp
theorem zk3 {p : Int} (f : Nat -> Int) (i : Nat) : dv (λi => f i % p) i % p = dv f i % p := by
 unfold dv;rw [Int.mul_emod, Int.emod_emod_of_dvd _ (Int.dvd_refl p), <- Int.mul_emod]
theorem zd8 (f g : Poly p) : der (f * g) = der f * g + f * der g := zI λi => by
 have e1 : cf (der f).l = λi => dv (cf f.l) i % p := funext (zaF f);have e2 : cf (der g).l = λi => dv (cf g.l) i % p := funext (zaF g);rw [zaF, kA, zk3, zlm, yv, yV, yV, e1, e2, jI, jX (cf f.l) (λi => dv (cf g.l) i % p), jI, jX (cf f.l) (dv (cf g.l)), <- Int.add_emod]
theorem zaG {f : Poly p} (h : f ≠ 0) : dg (der f) < dg f := by
 have h0 : dg f ≠ 0 := λe => h (zc.1 e)
 have : dg (der f) <= dg f - 1 := j8 λi hi => by
  rw [zaF]; unfold dv; rw [z9 (f := f) (by omega)]; simp
 omega

theorem zfu (h : Poly p) (n : Nat) : h ^ n ∣ der (h ^ (n + 1)) := by
 induction n with
 | zero => rw [zt]; exact zbv _
 | succ n ih =>
  rw [ze h (n + 1), zd8, ze h n];rw [ze h n] at ih;obtain ⟨q, hq⟩ := ih;rw [hq];exact ⟨q + der h, by exact zg [h, q, der h, h^n] (by rfl)⟩

theorem zct {h f : Poly p} {n : Nat} (hd : h ^ (n + 1) ∣ f) : h ^ n ∣ der f := by
 obtain ⟨u, rfl⟩ := hd;rw [zd8];refine dvd_add (vA _ (zfu h n)) ?_;rw [ze];exact ⟨h * der u, by exact zg [h, der u, h^n] (by rfl)⟩

theorem zaH {h : Poly p} (hi : 2 <= dg h) (n : Nat) : n < dg (h ^ n) := by
 have h0 : h ≠ 0 := λe => by rw [e, zu] at hi; omega
 induction n with
 | zero => rw [zt, xm]; omega
 | succ n ih =>
  have h1 : h ^ n ≠ 0 := λe => by rw [e, zu] at ih; omega
  have := yW h1 h0;rw [ze]; omega

theorem zjr {f q c : Poly p} (hf : f ≠ 0) (he : f = q * c) (hc : ∀ h, h ∣ f -> h ∣ der f -> h ∣ c) : Sqf q := by
 intro h hi hd
 have key : ∀ n : Nat, h ^ n ∣ f := by
  intro n
  induction n with
  | zero => rw [zt]; exact zbv _
  | succ n ih =>
   cases n with
   | zero =>
    rw [ze, zt, he];obtain ⟨r, hr⟩ := hd;exact ⟨h * r * c, by exact comb (c) hr (zg [q, c, h, r] (by rfl))⟩
   | succ n =>
    have h1 : h ^ n ∣ f := zo ⟨h, ze h n⟩ ih;obtain ⟨a, ha⟩ := hc _ h1 (zct ih);obtain ⟨b, hb⟩ := hd;rw [ze, ze, he, ha, hb];exact ⟨b * a, by exact zg [h, a, b, h^n] (by rfl)⟩
 have h1 := zaH hi.1 (dg f);have h2 := zC (key (dg f)) hf;omega

theorem zjs {f q c rest s : Poly p} (he : f = q * c) (hs : f = rest * s) (hr : rest ≠ 0) (hc : c ∣ der f) (h1 : Cop rest q) (h2 : Cop rest s) : der rest = 0 := by
 have h3 : rest ∣ c := h1.dvd ⟨s, by rw [<- he, hs]⟩;have h4 := zo h3 hc;rw [hs, zd8] at h4
 have h5 : rest ∣ s * der rest := by
  have := dvd_sub h4 (vA (der s) (dvd_refl rest));have e : der rest * s + rest * der s - rest * der s = s * der rest := by exact zg [der rest, der s, rest, s] (by rfl)
  rwa [e] at this
 have h6 := h2.dvd h5;refine Classical.byContradiction λhne => ?_;have := zC h6 hne;have := zaG hr;omega

theorem zjt (a b : Nat) : mono p 1 a * mono p 1 b = mono p 1 (a + b) := zI λi => by
 rw [vn, v9, v9]
 by_cases h : a <= i
 ·rw [if_pos h]
  by_cases h' : i = a + b
  ·rw [if_pos (by omega), if_pos h']; simp
  ·rw [if_neg (by omega), if_neg h']; simp
 ·rw [if_neg h, if_neg (by omega)]
theorem zcu (a n : Nat) : mono p 1 a ^ n = mono p 1 (a * n) := by
 induction n with
 | zero => rw [zt]; rfl
 | succ n ih => rw [ze, ih, zjt, Nat.mul_succ]

def ev (a : Poly p) : List Int -> Poly p
 | [] => 0
 | c :: l => con p c + a * ev a l

theorem zhl (a : Poly p) (l : List Int) : ev a l ^ p.toNat = ev (a ^ p.toNat) l := by
 induction l with
 | nil => exact zfr k7
 | cons c l ih => rw [ev, zcs, zjp, zhj, ih, ev]

theorem zcv {m : Nat} (hm : 0 < m) (l : List Int) (k : Nat) : cf (ev (mono p 1 m) l).l k = if k % m = 0 then cf l (k / m) % p else 0 := by
 induction l generalizing k with
 | nil => rw [ev, yO, yG]; simp
 | cons c l ih =>
  rw [ev, yv, yX, vn]
  by_cases hk : m <= k
  ·rw [if_pos hk, ih, if_neg (by omega)];have e1 : (k - m) % m = k % m := (Nat.mod_eq_sub_mod hk).symm;have e2 : k / m = (k - m) / m + 1 := Nat.div_eq_sub_div hm hk;rw [e1]
   split
   ·rw [e2, zy]; simp
   ·simp
  ·rw [if_neg hk, Int.add_zero]
   by_cases h0 : k = 0
   ·subst h0; simp [cf]
   ·rw [if_neg h0, if_neg (by rw [Nat.mod_eq_of_lt (by omega)]; exact h0)]; simp

theorem zk4 (f : Poly p) : ev (mono p 1 1) f.l = f := zI λi => by
 rw [zcv (by omega)]; simp [vw, Nat.mod_one]

theorem zju (f : Poly p) (k : Nat) : cf (f ^ p.toNat).l k = if k % p.toNat = 0 then cf f.l (k / p.toNat) else 0 := by
 have h1 := zhl (mono p 1 1) f.l;rw [zk4, zcu, Nat.one_mul] at h1;rw [h1, zcv k7]
 split
 ·exact vw _ _
 ·rfl

theorem zjv {f r : Poly p} (h : der f = 0) (hr : ∀ i, cf r.l i = cf f.l (i * p.toNat)) : r ^ p.toNat = f := by
 refine zI λk => ?_;rw [zju]
 split
 ·rename_i hk
  rw [hr, Nat.div_mul_cancel (Nat.dvd_of_mod_eq_zero hk)]
 ·rename_i hk
  cases k with
  | zero => simp at hk
  | succ k =>
   have h1 := zaF f k;rw [h, yO] at h1;unfold dv at h1;refine Classical.byContradiction λhne => ?_;refine Pr.mul_ne (p := p) (a := (k : Int) + 1) (b := cf f.l (k + 1)) (λh2 => hk ?_) (z1 (Ne.symm hne)) h1.symm
   have h3 : ((k + 1 : Nat) : Int) % ((p.toNat : Nat) : Int) = 0 := by
    have := Pr.two (p := p);rw [show ((p.toNat : Nat) : Int) = p by omega]; exact_mod_cast h2
   exact_mod_cast h3

end Poly

def zx (f : Nat -> Int) : Nat -> Int
 | 0 => 0
 | n + 1 => zx f n + f n

theorem yY {f g : Nat -> Int} {n : Nat} (h : ∀ i, i < n -> f i = g i) : zx f n = zx g n := by
 induction n with
 | zero => rfl
 | succ n ih => rw [zx, zx, ih λi hi => h i (by omega), h n (by omega)]
theorem x4 (f g : Nat -> Int) (n : Nat) : zx (λi => f i + g i) n = zx f n + zx g n := by
 induction n with
 | zero => rfl
 | succ n ih => simp only [zx, ih]; omega
theorem x5 (a : Int) (f : Nat -> Int) (n : Nat) : zx (λi => a * f i) n = a * zx f n := by
 induction n with
 | zero => simp [zx]
 | succ n ih => simp only [zx, ih, Int.mul_add]
theorem vS {f : Nat -> Int} {n : Nat} (h : ∀ i, i < n -> f i = 0) : zx f n = 0 := by
 induction n with
 | zero => rfl
 | succ n ih => rw [zx, ih λi hi => h i (by omega), h n (by omega)]; rfl
theorem yh (p : Int) {f g : Nat -> Int} {n : Nat} (h : ∀ i, i < n -> f i % p = g i % p) : zx f n % p = zx g n % p := by
 induction n with
 | zero => rfl
 | succ n ih => rw [zx, zx, Int.add_emod, ih λi hi => h i (by omega), h n (by omega), <- Int.add_emod]
theorem xw {f : Nat -> Int} {n k : Nat} (hk : k < n) (h : ∀ i, i < n -> i ≠ k -> f i = 0) : zx f n = f k := by
 induction n with
 | zero => omega
 | succ n ih =>
  rw [zx]
  by_cases he : k = n
  ·subst he; rw [vS λi hi => h i (by omega) (by omega)]; simp
  ·rw [ih (by omega) λi hi hne => h i (by omega) hne, h n (by omega) (by omega)]; simp
theorem zib (f : Nat -> Nat -> Int) (n m : Nat) : zx (λi => zx (f i) m) n = zx (λj => zx (λi => f i j) n) m := by
 induction n with
 | zero => simp only [zx]; exact (vS λ_ _ => rfl).symm
 | succ n ih => simp only [zx, ih, <- x4]

def vp (p : Int) (n : Nat) (r c : Nat -> Int) : Prop := zx (λi => r i * c i) n % p = 0
def Sol (p : Int) (n m : Nat) (R : Nat -> Nat -> Int) (c : Nat -> Int) : Prop := ∀ k, k < m -> vp p n (R k) c

theorem xy {p : Int} {n : Nat} {r r' c c' : Nat -> Int} (hr : ∀ i, i < n -> r i % p = r' i % p) (hc : ∀ i, i < n -> c i % p = c' i % p) : vp p n r c ↔ vp p n r' c' := by
 unfold vp;rw [yh p (g := λi => r' i * c' i) λi hi => by rw [Int.mul_emod, hr i hi, hc i hi, <- Int.mul_emod]]
theorem zdw {p : Int} {n : Nat} {r r' c : Nat -> Int} (a : Int) (h : vp p n r c) (h' : vp p n r' c) : vp p n (λi => r i + a * r' i) c := by
 unfold vp at *
 have e : zx (λi => (r i + a * r' i) * c i) n = zx (λi => r i * c i) n + a * zx (λi => r' i * c i) n := by
  rw [<- x5, <- x4];exact yY λi _ => by rw [Int.add_mul, Int.mul_assoc]
 rw [e, Int.add_emod, h, Int.mul_emod, h']; simp
theorem je {p : Int} {n : Nat} {r c : Nat -> Int} (a : Int) (h : vp p n r c) : vp p n (λi => a * r i) c := by
 unfold vp at *
 have e : zx (λi => a * r i * c i) n = a * zx (λi => r i * c i) n := by
  rw [<- x5];exact yY λi _ => by rw [Int.mul_assoc]
 rw [e, Int.mul_emod, h]; simp

theorem zjw {p : Int} {n m a b : Nat} {R R' : Nat -> Nat -> Int} (ha : a < m) (hb : b < m) (h1 : R' a = R b) (h2 : R' b = R a) (h3 : ∀ k, k < m -> k ≠ a -> k ≠ b -> R' k = R k) (c : Nat -> Int) : Sol p n m R' c ↔ Sol p n m R c := by
 constructor
 ·intro h k hk
  by_cases hka : k = a
  ·subst hka; rw [<- h2]; exact h b hb
  ·by_cases hkb : k = b
   ·subst hkb; rw [<- h1]; exact h a ha
   ·rw [<- h3 k hk hka hkb]; exact h k hk
 ·intro h k hk
  by_cases hka : k = a
  ·subst hka; rw [h1]; exact h b hb
  ·by_cases hkb : k = b
   ·subst hkb; rw [h2]; exact h a ha
   ·rw [h3 k hk hka hkb]; exact h k hk

structure Steps (p : Int) (n : Nat) (col : Nat) (piv : List Nat) (R : Nat -> Nat -> Int) : Prop where
 le : piv.length <= n
 lt : ∀ x ∈ piv, x < col
 nodup : piv.Nodup
 one : ∀ i x, piv[i]? = some x -> R i x % p = 1
 zero : ∀ i x, piv[i]? = some x -> ∀ k, k < n -> k ≠ i -> R k x % p = 0
 rest : ∀ k, piv.length <= k -> k < n -> ∀ x, x < col -> R k x % p = 0

theorem Steps.start (p : Int) (n : Nat) (R : Nat -> Nat -> Int) : Steps p n 0 [] R :=
 ⟨by simp, by simp, by simp, by simp, by simp, λk _ _ x hx => by omega⟩

theorem Steps.skip {p : Int} {n col : Nat} {piv : List Nat} {R : Nat -> Nat -> Int} (h : Steps p n col piv R) (h0 : ∀ k, piv.length <= k -> k < n -> R k col % p = 0) : Steps p n (col + 1) piv R :=
 ⟨h.le, λx hx => by have := h.lt x hx; omega, h.nodup, h.one, h.zero, λk hk hkn x hx => by
  by_cases he : x = col
  ·subst he; exact h0 k hk hkn
  ·exact h.rest k hk hkn x (by omega)⟩

def x6 (_p : Int) (piv : List Nat) (R : Nat -> Nat -> Int) (col : Nat) (x : Nat) : Int :=
 if x = col then 1 else match piv.idxOf? x with | some i => -(R i col) | none => 0

theorem zO (p a : Int) : a % p % p = a % p := Int.emod_emod_of_dvd _ (Int.dvd_refl p)
theorem xb {p a a' : Int} (b : Int) (h : a % p = a' % p) : a * b % p = a' * b % p := by rw [Int.mul_emod, h, <- Int.mul_emod]
theorem yj {p a a' : Int} (b : Int) (h : a % p = a' % p) : b * a % p = b * a' % p := by rw [Int.mul_emod, h, <- Int.mul_emod]
theorem zX {p a : Int} (b : Int) (h : a % p = 0) : b * a % p = 0 := by rw [Int.mul_emod, h]; simp
theorem jZ {p a a' b b' : Int} (h : a % p = a' % p) (k : b % p = b' % p) : (a - b) % p = (a' - b') % p := by rw [Int.sub_emod, h, k, <- Int.sub_emod]

theorem Steps.pivot {p : Int} {n col : Nat} {piv : List Nat} {R R' : Nat -> Nat -> Int} {s : Int} (h : Steps p n col piv R) (hp : (1 : Int) % p = 1) (hc : col < n) (hat : piv.length < n) (hs : s * R piv.length col % p = 1)
  (h1 : ∀ x, x < n -> R' piv.length x % p = (s * R piv.length x) % p)
  (h2 : ∀ i, i < n -> i ≠ piv.length -> ∀ x, x < n -> R' i x % p = (R i x - R i col * (s * R piv.length x)) % p) : Steps p n (col + 1) (piv ++ [col]) R' := by
 have hnew : ∀ i x, (piv ++ [col])[i]? = some x -> (i < piv.length ∧ piv[i]? = some x) ∨ (i = piv.length ∧ x = col) := by
  intro i x hx;rcases Nat.lt_or_ge i piv.length with hlt | hge
  ·rw [List.getElem?_append_left hlt] at hx; exact .inl ⟨hlt, hx⟩
  ·rw [List.getElem?_append_right hge] at hx;cases hi : i - piv.length with
   | zero => rw [hi] at hx; simp at hx; exact .inr ⟨by omega, hx.symm⟩
   | succ j => rw [hi] at hx; simp at hx
 have hzat : ∀ x, x < col -> R piv.length x % p = 0 := λx hx => h.rest _ (Nat.le_refl _) hat x hx
 have hkeep : ∀ i, i < n -> i ≠ piv.length -> ∀ x, x < col -> R' i x % p = R i x % p := λi hi hne x hx => by
  rw [h2 i hi hne x (by omega), <- Int.sub_zero (R i x)];refine (jZ (by rw [Int.sub_zero]) ?_).trans (by rw [Int.sub_zero]);rw [<- Int.mul_assoc, zX _ (hzat x hx)]; simp
 have hcol : ∀ i, i < n -> i ≠ piv.length -> R' i col % p = 0 := λi hi hne => by
  rw [h2 i hi hne col hc];have : (R i col - R i col * (s * R piv.length col)) % p = (R i col - R i col * 1) % p := jZ rfl (yj _ (by rw [hs, hp]));rw [this]; simp
 refine ⟨by simp; omega, λx hx => ?_, ?_, λi x hx => ?_, λi x hx k hk hne => ?_, λk hk hkn x hx => ?_⟩
 ·rcases List.mem_append.1 hx with hx | hx
  ·have := h.lt x hx; omega
  ·simp at hx; omega
 ·refine List.nodup_append.2 ⟨h.nodup, by simp, λa ha b hb => ?_⟩;simp at hb
  have := h.lt a ha;omega
 ·rcases hnew i x hx with ⟨hi, hx'⟩ | ⟨rfl, rfl⟩
  ·have hxc := h.lt x (List.mem_of_getElem? hx');rw [hkeep i (by have := h.le; omega) (by omega) x hxc]; exact h.one i x hx'
  ·rw [h1 _ hc]; exact hs
 ·rcases hnew i x hx with ⟨hi, hx'⟩ | ⟨rfl, rfl⟩
  ·have hxc := h.lt x (List.mem_of_getElem? hx')
   by_cases hka : k = piv.length
   ·subst hka;rw [h1 x (by omega), zX _ (hzat x hxc)]
   ·rw [hkeep k hk hka x hxc]; exact h.zero i x hx' k hk hne
  ·exact hcol k hk hne
 ·simp only [List.length_append, List.length_singleton] at hk
  by_cases hxc : x = col
  ·subst hxc; exact hcol k hkn (by omega)
  ·rw [hkeep k hkn (by omega) x (by omega)]; exact h.rest k (by omega) hkn x (by omega)

theorem Steps.swap {p : Int} {n col : Nat} {piv : List Nat} {R R' : Nat -> Nat -> Int} {b : Nat} (h : Steps p n col piv R) (hb : piv.length <= b) (hbn : b < n) (h1 : R' piv.length = R b) (h2 : R' b = R piv.length) (h3 : ∀ k, k < n -> k ≠ piv.length -> k ≠ b -> R' k = R k) : Steps p n col piv R' := by
 have hlow : ∀ i, i < piv.length -> R' i = R i := λi hi => h3 i (by omega) (by omega) (by omega)
 have hrest : ∀ k, piv.length <= k -> k < n -> ∀ x, x < col -> R' k x % p = 0 := λk hk hkn x hx => by
  by_cases hka : k = piv.length
  ·subst hka; rw [h1]; exact h.rest b hb hbn x hx
  ·by_cases hkb : k = b
   ·subst hkb; rw [h2]; exact h.rest _ (Nat.le_refl _) (by omega) x hx
   ·rw [h3 k hkn hka hkb]; exact h.rest k hk hkn x hx
 refine ⟨h.le, h.lt, h.nodup, λi x hx => ?_, λi x hx k hk hne => ?_, hrest⟩
 ·rw [hlow i (List.getElem?_eq_some_iff.1 hx).1]; exact h.one i x hx
 ·rcases Nat.lt_or_ge k piv.length with hlt | hge
  ·rw [hlow k hlt]; exact h.zero i x hx k hk hne
  ·exact hrest k hge hk x (h.lt x (List.mem_of_getElem? hx))

theorem jf {piv : List Nat} (hn : piv.Nodup) {i x : Nat} (h : piv[i]? = some x) : piv.idxOf? x = some i := by
 obtain ⟨hi, he⟩ := List.getElem?_eq_some_iff.1 h;rw [List.idxOf?_eq_some_iff];refine ⟨hi, by simpa using he, λj hj => ?_⟩;have h1 : piv[j]'(by omega) ≠ piv[i] := List.pairwise_iff_getElem.1 hn j i (by omega) hi hj;simp only [ne_eq]
 rw [<- he]; exact h1
theorem k8 {piv : List Nat} {x : Nat} (h : x ∉ piv) : piv.idxOf? x = none := by
 rw [List.idxOf?_eq_none_iff]; exact h

theorem zjx {f : Nat -> Int} {n a b : Nat} (hab : a ≠ b) (ha : a < n) (hb : b < n) (h : ∀ i, i < n -> i ≠ a -> i ≠ b -> f i = 0) : zx f n = f a + f b := by
 have e : zx f n = zx (λi => (if i = a then f i else 0) + (if i = a then 0 else f i)) n := yY λi _ => by split <;> simp
 rw [e, x4, xw ha λi _ hne => by simp [hne], xw (k := b) hb λi hi hne => by
  by_cases hia : i = a
  ·simp [hia]
  ·simp [hia, h i hi hia hne]]
 simp [Ne.symm hab]

theorem Steps.free {p : Int} {n : Nat} {piv : List Nat} {R : Nat -> Nat -> Int} (h : Steps p n n piv R) {col : Nat} (hc : col < n) (hf : col ∉ piv) : Sol p n n R (x6 p piv R col) := by
 intro k hk;unfold vp;rcases Nat.lt_or_ge k piv.length with hlt | hge
 ·have hx := List.getElem?_eq_getElem hlt;have hxl := h.lt _ (List.mem_of_getElem? hx);have hne : piv[k] ≠ col := λe => hf (e ▸ List.getElem_mem hlt)
  have e1 : zx (λx => R k x * x6 p piv R col x) n % p = zx (λx => if x = piv[k] then -(R k col) else if x = col then R k col else 0) n % p := by
   refine yh p λx hxn => ?_
   by_cases hxc : x = col
   ·subst hxc;simp [x6, Ne.symm hne]
   ·by_cases hxp : x ∈ piv
    ·obtain ⟨i, hi, he⟩ := List.mem_iff_getElem.1 hxp;have hix : piv[i]? = some x := by rw [List.getElem?_eq_getElem hi, he]
     have e2 : x6 p piv R col x = -(R i col) := by simp [x6, hxc, jf h.nodup hix]
     rw [e2]
     by_cases hik : i = k
     ·subst hik;have h1 := h.one i x hix;simp only [he, if_true]
      rw [xb (a' := 1) _ (by
       rw [h1];have := zO p (R i x);rw [h1] at this; exact this.symm)]
      simp
     ·have h0 := h.zero i x hix k hk (Ne.symm hik)
      have hne2 : x ≠ piv[k] := λe => hik (by
       have := jf h.nodup hix;rw [e, jf h.nodup hx] at this;exact (Option.some.inj this).symm)
      rw [if_neg hne2, if_neg hxc, Int.mul_comm, zX _ h0]; simp
    ·have hne2 : x ≠ piv[k] := λe => hxp (e ▸ List.getElem_mem hlt);simp [x6, hxc, k8 hxp, hne2]
  rw [e1, zjx (a := piv[k]) (b := col) hne hxl hc λi _ h1 h2 => by simp [h1, h2]];simp [Ne.symm hne, Int.add_left_neg]
 ·rw [yh p (g := λ_ => 0) λx hx => by rw [Int.mul_comm, zX _ (h.rest k hge hk x hx)]; simp, vS λ_ _ => rfl]; simp

theorem Steps.all {p : Int} {n : Nat} {piv : List Nat} {R : Nat -> Nat -> Int} (h : Steps p n n piv R) {c : Nat -> Int} (hs : Sol p n n R c) : ∀ x, x < n -> c x % p = zx (λcol => if col ∈ piv then 0 else c col * x6 p piv R col x) n % p := by
 intro x hx
 by_cases hxp : x ∈ piv
 ·obtain ⟨i, hi, he⟩ := List.mem_iff_getElem.1 hxp;have hix : piv[i]? = some x := by rw [List.getElem?_eq_getElem hi, he]
  have hin : i < n := by have := h.le; omega
  have h1 := hs i hin;unfold vp at h1
  have e1 : zx (λcol => R i col * c col) n % p = zx (λcol => (if col = x then c x else 0) + (if col ∈ piv then 0 else R i col * c col)) n % p := by
   refine yh p λcol hcn => ?_
   by_cases hcp : col ∈ piv
   ·obtain ⟨j, hj, hje⟩ := List.mem_iff_getElem.1 hcp;have hjc : piv[j]? = some col := by rw [List.getElem?_eq_getElem hj, hje]
    by_cases hij : j = i
    ·subst hij;have hcx : col = x := by rw [hix] at hjc; exact (Option.some.inj hjc).symm
     subst hcx;have h2 := h.one j col hjc;simp only [if_true, hcp, Int.add_zero]
     rw [xb (a' := 1) _ (by
      rw [h2];have := zO p (R j col);rw [h2] at this; exact this.symm)]
     simp
    ·have hcx : col ≠ x := λe => hij (by
      have := jf h.nodup hix;rw [<- e, jf h.nodup hjc] at this;exact Option.some.inj this)
     rw [if_neg hcx, if_pos hcp, Int.mul_comm, zX _ (h.zero j col hjc i hin (Ne.symm hij))]; simp
   ·have hcx : col ≠ x := λe => hcp (e ▸ hxp);simp [hcx, hcp]
  rw [e1, x4, xw (k := x) hx λi _ hne => by simp [hne]] at h1;simp only [if_true] at h1
  have e2 : zx (λcol => if col ∈ piv then 0 else c col * x6 p piv R col x) n = -1 * zx (λcol => if col ∈ piv then 0 else R i col * c col) n := by
   rw [<- x5];refine yY λcol _ => ?_
   by_cases hcp : col ∈ piv
   ·simp [hcp]
   ·have hcx : x ≠ col := λe => hcp (e ▸ hxp);simp only [hcp, if_false]
    simp only [x6, hcx, if_false, jf h.nodup hix]
    rw [Int.mul_comm, Int.neg_mul]; omega
  rw [e2];have h3 : c x = (c x + zx (λcol => if col ∈ piv then 0 else R i col * c col) n) - zx (λcol => if col ∈ piv then 0 else R i col * c col) n := by omega
  rw [h3, Int.sub_emod, h1];rw [show -1 * zx (λcol => if col ∈ piv then 0 else R i col * c col) n = 0 - zx (λcol => if col ∈ piv then 0 else R i col * c col) n from by omega, Int.sub_emod 0];simp [zki]
 ·rw [xw (k := x) hx λi _ hne => by
   by_cases hip : i ∈ piv
   ·simp [hip]
   ·simp [hip, x6, Ne.symm hne, k8 hxp]]
  simp [hxp, x6]


structure Half (p : Int) (n : Nat) (M : Nat -> Nat -> Int) (col : Nat) (used : Nat -> Prop) (L T : Nat -> Nat -> Int) : Prop where
 comb : ∀ k, k < n -> ∀ x, x < n -> L k x % p = zx (λj => T k j * M j x) n % p
 span : ∀ c : Nat -> Int, ∃ d : Nat -> Int, ∀ j, j < n -> c j % p = zx (λk => d k * T k j) n % p
 piv : ∀ k, k < n -> used k -> ∃ x, x < col ∧ x < n ∧ L k x % p ≠ 0 ∧ ∀ k', k' < n -> k' ≠ k -> L k' x % p = 0
 rest : ∀ k, k < n -> ¬ used k -> ∀ x, x < col -> L k x % p = 0

theorem Half.start (p : Int) (n : Nat) (M T : Nat -> Nat -> Int) (hT : ∀ i, i < n -> ∀ j, j < n -> T i j = if i = j then 1 else 0) : Half p n M 0 (λ_ => False) M T := by
 refine ⟨λk hk x hx => ?_, λc => ⟨c, λj hj => ?_⟩, λk _ h => h.elim, λk _ _ x hx => by omega⟩
 ·rw [xw (k := k) hk λi hi hne => by rw [hT k hk i hi]; simp [Ne.symm hne], hT k hk k hk]; simp
 ·rw [xw (k := j) hj λi hi hne => by rw [hT i hi j hj]; simp [hne], hT j hj j hj]; simp

theorem Half.skip {p : Int} {n : Nat} {M : Nat -> Nat -> Int} {col : Nat} {used : Nat -> Prop} {L T : Nat -> Nat -> Int} (h : Half p n M col used L T) (h0 : ∀ k, k < n -> ¬ used k -> L k col % p = 0) : Half p n M (col + 1) used L T :=
 ⟨h.comb, h.span, λk hk hu => by obtain ⟨x, h1, h2⟩ := h.piv k hk hu; exact ⟨x, by omega, h2⟩, λk hk hu x hx => by
  by_cases he : x = col
  ·subst he; exact h0 k hk hu
  ·exact h.rest k hk hu x (by omega)⟩

theorem Half.pivot {p : Int} {n : Nat} {M : Nat -> Nat -> Int} {col : Nat} {used : Nat -> Prop} {L T L' T' : Nat -> Nat -> Int} {at' : Nat} {q : Nat -> Int} (h : Half p n M col used L T) (hc : col < n) (hat : at' < n) (hu : ¬ used at') (hne : L at' col % p ≠ 0)
  (hq0 : q at' = 0) (hq : ∀ i, i < n -> i ≠ at' -> q i * L at' col % p = L i col % p) (hL : ∀ i, i < n -> ∀ x, x < n -> L' i x % p = (L i x - q i * L at' x) % p) (hT : ∀ i, i < n -> ∀ x, x < n -> T' i x % p = (T i x - q i * T at' x) % p) :
  Half p n M (col + 1) (λk => k = at' ∨ used k) L' T' := by
 have hLat : ∀ x, x < n -> L' at' x % p = L at' x % p := λx hx => by rw [hL _ hat x hx, hq0]; simp
 have hTat : ∀ x, x < n -> T' at' x % p = T at' x % p := λx hx => by rw [hT _ hat x hx, hq0]; simp
 have hzat : ∀ x, x < col -> L at' x % p = 0 := λx hx => h.rest at' hat hu x hx
 have hkeep : ∀ i, i < n -> ∀ x, x < col -> L' i x % p = L i x % p := λi hi x hx => by
  rw [hL i hi x (by omega)];refine (jZ (a' := L i x) (b' := 0) rfl (by rw [zX _ (hzat x hx)]; simp)).trans (by rw [Int.sub_zero])
 have hcol : ∀ i, i < n -> i ≠ at' -> L' i col % p = 0 := λi hi hne => by
  rw [hL i hi col hc];exact (jZ rfl (hq i hi hne)).trans (by simp)
 refine ⟨λk hk x hx => ?_, λc => ?_, λk hk hu' => ?_, λk hk hu' x hx => ?_⟩
 ·have e1 : zx (λj => T' k j * M j x) n % p = zx (λj => T k j * M j x + -q k * (T at' j * M j x)) n % p := by
   refine yh p λj hj => ?_;rw [xb _ (hT k hk j hj)]
   congr 1
   rw [Int.sub_mul, Int.mul_assoc, Int.neg_mul]; omega
  rw [e1, x4, x5, hL k hk x hx];have e2 : zx (λj => T k j * M j x) n + -q k * zx (λj => T at' j * M j x) n = zx (λj => T k j * M j x) n - q k * zx (λj => T at' j * M j x) n := by rw [Int.neg_mul]; omega
  rw [e2];exact jZ (h.comb k hk x hx) (yj _ (h.comb at' hat x hx))
 ·obtain ⟨d, hd⟩ := h.span c;refine ⟨λk => d k + if k = at' then zx (λi => d i * q i) n else 0, λj hj => ?_⟩;rw [hd j hj]
  have e1 : zx (λk => d k * T k j) n % p = zx (λk => d k * T' k j + T' at' j * (d k * q k)) n % p := by
   refine yh p λk hk => ?_
   have h1 : T k j % p = (T' k j + q k * T' at' j) % p := by
    have h2 := hT k hk j hj;rw [Int.add_emod, h2, Int.mul_emod, hTat j hj, <- Int.mul_emod, <- Int.add_emod]
    congr 1; omega
   rw [yj _ h1]
   congr 1
   rw [Int.mul_add, <- Int.mul_assoc, Int.mul_comm (T' at' j)]
  rw [e1, x4, x5]
  have e2 : zx (λk => (d k + if k = at' then zx (λi => d i * q i) n else 0) * T' k j) n = zx (λk => d k * T' k j + (if k = at' then zx (λi => d i * q i) n * T' k j else 0)) n := by
   refine yY λk _ => ?_;rw [Int.add_mul]; split <;> simp
  rw [e2, x4, xw (k := at') (f := λk => if k = at' then zx (λi => d i * q i) n * T' k j else 0) hat λi _ hne => by simp [hne]];simp [Int.mul_comm]
 ·by_cases hka : k = at'
  ·subst hka;refine ⟨col, by omega, hc, ?_, λk' hk' hne' => hcol k' hk' hne'⟩;rw [hLat col hc]; exact hne
  ·obtain ⟨x, h1, h2, h3, h4⟩ := h.piv k hk (hu'.resolve_left hka);refine ⟨x, by omega, h2, by rw [hkeep k hk x h1]; exact h3, λk' hk' hne' => ?_⟩;rw [hkeep k' hk' x h1]; exact h4 k' hk' hne'
 ·simp only [not_or] at hu'
  by_cases hxc : x = col
  ·subst hxc; exact hcol k hk hu'.1
  ·rw [hkeep k hk x (by omega)]; exact h.rest k hk hu'.2 x (by omega)

theorem Half.free {p : Int} {n : Nat} {M : Nat -> Nat -> Int} {used : Nat -> Prop} {L T : Nat -> Nat -> Int} (h : Half p n M n used L T) {k : Nat} (hk : k < n) (hu : ¬ used k) : ∀ x, x < n -> zx (λj => T k j * M j x) n % p = 0 := λx hx => by
 rw [<- h.comb k hk x hx]; exact h.rest k hk hu x hx

theorem Half.all {p : Int} [Pr p] {n : Nat} {M : Nat -> Nat -> Int} {used : Nat -> Prop} {L T : Nat -> Nat -> Int} (h : Half p n M n used L T) {w : Nat -> Int} (hw : ∀ x, x < n -> zx (λj => w j * M j x) n % p = 0)
  {j : Nat} (hj : j < n) (h0 : ∀ k, k < n -> ¬ used k -> T k j % p = 0) : w j % p = 0 := by
 obtain ⟨d, hd⟩ := h.span w
 have h1 : ∀ x, x < n -> zx (λk => d k * L k x) n % p = 0 := by
  intro x hx
  have e1 : zx (λk => d k * L k x) n % p = zx (λk => zx (λj => d k * (T k j * M j x)) n) n % p := by
   refine yh p λk hk => ?_;rw [x5, yj _ (h.comb k hk x hx)]
  rw [e1, zib, <- hw x hx];refine yh p λj hj => ?_;rw [xb _ (hd j hj)]
  congr 1
  rw [Int.mul_comm _ (M j x), <- x5];exact yY λk _ => by rw [<- Int.mul_assoc, Int.mul_comm]
 have h2 : ∀ k, k < n -> used k -> d k % p = 0 := by
  intro k hk hu;obtain ⟨x, _, hxn, h3, h4⟩ := h.piv k hk hu;have h5 := h1 x hxn
  rw [yh p (g := λk' => if k' = k then d k * L k x else 0) λk' hk' => by
   by_cases he : k' = k
   ·subst he; simp
   ·rw [zX _ (h4 k' hk' he)]; simp [he], xw (k := k) hk λi _ hne => by simp [hne]] at h5
  simp only [if_true] at h5
  exact Classical.byContradiction λhne => Pr.mul_ne hne h3 h5
 rw [hd j hj, yh p (g := λ_ => 0) λk hk => by
  by_cases hu : used k
  ·rw [Int.mul_comm, zX _ (h2 k hk hu)]; simp
  ·rw [zX _ (h0 k hk hu)]; simp, vS λ_ _ => rfl]
 simp

namespace Poly
variable {p : Int} [SP p]

def zZ (g : Nat -> Poly p) : Nat -> Poly p
 | 0 => 0
 | n + 1 => zZ g n + g n
theorem zgB (g : Nat -> Poly p) (n : Nat) : zZ g (n + 1) = g 0 + zZ (λi => g (i + 1)) n := by
 induction n with
 | zero => simp only [zZ]; exact zg [g 0] (by rfl)
 | succ n ih => rw [zZ, ih, zZ]; exact CR.add_assoc _ _ _
theorem zcw {f g : Nat -> Poly p} {n : Nat} (h : ∀ i, i < n -> f i = g i) : zZ f n = zZ g n := by
 induction n with
 | zero => rfl
 | succ n ih => rw [zZ, zZ, ih λi hi => h i (by omega), h n (by omega)]
theorem zjy (a : Poly p) (g : Nat -> Poly p) (n : Nat) : zZ (λi => a * g i) n = a * zZ g n := by
 induction n with
 | zero => simp only [zZ]; exact (CR.mul_zero a).symm
 | succ n ih => simp only [zZ, ih]; exact (CR.mul_add _ _ _).symm
theorem zfv (f g : Nat -> Poly p) (n : Nat) : zZ (λi => f i - g i) n = zZ f n - zZ g n := by
 induction n with
 | zero => simp only [zZ]; exact (CR.sub_self 0).symm
 | succ n ih => simp only [zZ, ih]; exact zg [zZ f n, zZ g n, f n, g n] (by rfl)
theorem zic {f : Nat -> Poly p} {n : Nat} (h : ∀ i, i < n -> f i = 0) : zZ f n = 0 := by
 induction n with
 | zero => rfl
 | succ n ih => rw [zZ, ih λi hi => h i (by omega), h n (by omega)]; exact CR.add_zero 0
theorem zjz {f : Poly p} {g : Nat -> Poly p} {n : Nat} (h : ∀ i, i < n -> f ∣ g i) : f ∣ zZ g n := by
 induction n with
 | zero => exact dvd_zero _
 | succ n ih => exact dvd_add (ih λi hi => h i (by omega)) (h n (by omega))
theorem zd9 (c : Nat -> Int) (g : Nat -> Poly p) (n x : Nat) : cf (zZ (λj => con p (c j) * g j) n).l x = zx (λj => cf (g j).l x * c j) n % p := by
 induction n with
 | zero => rw [zZ, yO, zx]; simp
 | succ n ih => rw [zZ, yv, ih, zcn, zx, <- Int.add_emod, Int.mul_comm (c n)]
theorem zko {g : Nat -> Poly p} {n m : Nat} (h : ∀ i, i < n -> dg (g i) <= m) : dg (zZ g n) <= m := by
 induction n with
 | zero => rw [zZ, zu]; omega
 | succ n ih =>
  have h1 := ih λi hi => h i (by omega);have h2 := h n (by omega);have := zjj (zZ g n) (g n);rw [zZ]; omega

theorem zjA (a : Poly p) (l : List Int) {n : Nat} (h : l.length <= n) : ev a l = zZ (λj => con p (cf l j) * a ^ j) n := by
 induction l generalizing n with
 | nil => exact (zic λi _ => by rw [yG, yK]; exact CR.zero_mul _).symm
 | cons c l ih =>
  obtain ⟨m, rfl⟩ : ∃ m, n = m + 1 := ⟨n - 1, by simp at h; omega⟩
  rw [ev, ih (n := m) (by simpa using h), zgB, <- zjy, yg, zt]
  have : zZ (λi => con p (cf (c :: l) (i + 1)) * a ^ (i + 1)) m = zZ (λi => a * (con p (cf l i) * a ^ i)) m := zcw λi _ => by
   rw [zy, ze]; exact zg [con p (cf l i), a, a^i] (by rfl)
  rw [this]; rw [CR.mul_one]

abbrev X (p : Int) [Pos p] : Poly p := mono p 1 1

noncomputable def jM (f : Poly p) (i : Nat) : Poly p := rem (X p ^ (p.toNat * i)) f - X p ^ i

theorem dg_X (i : Nat) : dg (X p ^ i) <= i + 1 := by
 rw [zcu];exact j8 λj hj => by rw [v9, if_neg (by omega)]

theorem zkp {f : Poly p} {n i : Nat} (hf : dg f = n + 1) (hi : i < n) : dg (jM f i) <= n := by
 have hf0 : f ≠ 0 := λe => by rw [e, zu] at hf; omega
 have h1 := yl (X p ^ (p.toNat * i)) hf0;have h2 := dg_X (p := p) i;have h3 := zck (rem (X p ^ (p.toNat * i)) f) (X p ^ i);unfold jM; omega

theorem zea {f w : Poly p} {n : Nat} (hf : dg f = n + 1) (hw : dg w <= n) : Ber f w ↔ ∀ x, x < n -> zx (λj => cf (jM f j).l x * cf w.l j) n % p = 0 := by
 have hf0 : f ≠ 0 := λe => by rw [e, zu] at hf; omega
 have h1 : w ^ p.toNat - w = zZ (λj => con p (cf w.l j) * (X p ^ (p.toNat * j) - X p ^ j)) n := by
  have e1 := zhl (X p) w.l;rw [zk4, zjA _ _ hw] at e1;have e2 := zk4 w;rw [zjA (X p) w.l hw] at e2
  have e3 : zZ (λj => con p (cf w.l j) * (X p ^ p.toNat) ^ j) n - zZ (λj => con p (cf w.l j) * X p ^ j) n = zZ (λj => con p (cf w.l j) * (X p ^ (p.toNat * j) - X p ^ j)) n := by
   rw [<- zfv];exact zcw λj _ => by rw [zhk]; exact zg [con p (cf w.l j), X p ^ j, (X p ^ p.toNat) ^ j] (by rfl)
  rwa [e2, <- e1] at e3
 have h2 : f ∣ (w ^ p.toNat - w) - zZ (λj => con p (cf w.l j) * jM f j) n := by
  rw [h1, <- zfv];refine zjz λj _ => ?_;have := vz (X p ^ (p.toNat * j)) f;unfold jM;exact ⟨con p (cf w.l j) * quo (X p ^ (p.toNat * j)) f, by exact comb (con p (cf w.l j)) this (zg [f, con p (cf w.l j), X p ^ j, X p ^ (p.toNat * j), quo (X p ^ (p.toNat * j)) f, rem (X p ^ (p.toNat * j)) f] (by rfl))⟩
 have h3 : dg (zZ (λj => con p (cf w.l j) * jM f j) n) <= n := zko λi hi => by
  have h4 := zkp hf hi;have h5 := jY (con p (cf w.l i)) (jM f i);have h6 := vB (p := p) (cf w.l i);omega
 have h4 : Ber f w ↔ zZ (λj => con p (cf w.l j) * jM f j) n = 0 := by
  unfold Ber
  constructor
  ·intro h;refine Classical.byContradiction λhne => ?_;have h5 := dvd_sub h h2;have e : w ^ p.toNat - w - (w ^ p.toNat - w - zZ (λj => con p (cf w.l j) * jM f j) n) = zZ (λj => con p (cf w.l j) * jM f j) n := by exact zg [w ^ p.toNat, w, zZ (λj => con p (cf w.l j) * jM f j) n] (by rfl)
   rw [e] at h5;have := zC h5 hne;omega
  ·intro h;rw [h] at h2;have e : w ^ p.toNat - w - 0 = w ^ p.toNat - w := by exact zg [w ^ p.toNat, w] (by rfl)
   rwa [e] at h2
 rw [h4]
 constructor
 ·intro h x _;rw [<- zd9, h, yO]
 ·intro h;refine zI λx => ?_;rw [yO];rcases Nat.lt_or_ge x n with hx | hx
  ·rw [zd9]; exact h x hx
  ·exact z9 (by omega)

end Poly
namespace Poly
variable {p : Int} [SP p]

def zE (h : Poly p) (e : Nat) (f : Poly p) : Prop := ∃ u, f = h ^ e * u ∧ ¬ h ∣ u

theorem zE.unique {h f : Poly p} (hh : h ≠ 0) {e e' : Nat} (h1 : zE h e f) (h2 : zE h e' f) : e = e' := by
 have key : ∀ {e e' : Nat} {u u' : Poly p}, h ^ e * u = h ^ e' * u' -> ¬ h ∣ u' -> e <= e' := by
  intro e e' u u' he hn;rcases Nat.lt_or_ge e' e with hlt | hge
  ·exfalso
   obtain ⟨k, rfl⟩ : ∃ k, e = e' + k + 1 := ⟨e - e' - 1, by omega⟩
   have hp0 : h ^ e' ≠ 0 := by
    clear he hlt
    induction e' with
    | zero => rw [zt]; exact zd2
    | succ n ih => rw [ze]; exact mul_ne ih hh
   rw [Nat.add_assoc, zby] at he;have h3 : h ^ e' * (h ^ (k + 1) * u) = h ^ e' * u' := by exact comb (1) he (zg [u, u', h^e', h^(k+1)] (by rfl))
   have h4 := zcl hp0 h3;exact hn ⟨h ^ k * u, by rw [<- h4, ze]; exact zg [h, u, h^k] (by rfl)⟩
  ·exact hge
 obtain ⟨u, h3, h4⟩ := h1;obtain ⟨u', h5, h6⟩ := h2;exact Nat.le_antisymm (key (h3.symm.trans h5) h6) (key (h5.symm.trans h3) h4)

theorem zE.mul {h f g : Poly p} (hi : Irr h) {e e' : Nat} (h1 : zE h e f) (h2 : zE h e' g) : zE h (e + e') (f * g) := by
 obtain ⟨u, rfl, h4⟩ := h1;obtain ⟨u', rfl, h6⟩ := h2;exact ⟨u * u', by rw [zby]; exact zg [u, u', h^e, h^e'] (by rfl), λhd => (hi.prime hd).elim h4 h6⟩
theorem z7 {h f : Poly p} : zE h 0 f ↔ ¬ h ∣ f := by
 constructor
 ·rintro ⟨u, rfl, hn⟩;rw [zt];have : 1 * u = u := by exact zg [u] (by rfl)
  rwa [this]
 ·intro hn;exact ⟨f, by rw [zt]; exact zg [f] (by rfl), hn⟩
theorem zE.pow {h f : Poly p} (hi : Irr h) {e : Nat} (h1 : zE h e f) (n : Nat) : zE h (e * n) (f ^ n) := by
 induction n with
 | zero => rw [Nat.mul_zero, zt, z7]; exact hi.not_unit xm
 | succ n ih => rw [Nat.mul_succ, ze]; exact ih.mul hi h1
theorem xz {h : Poly p} (hi : 2 <= dg h) : ∀ (n : Nat) (f : Poly p), f ≠ 0 -> dg f <= n -> ∃ e, zE h e f := by
 intro n
 induction n with
 | zero => intro f hf hn; exact absurd (zc.1 (by omega)) hf
 | succ n ih =>
  intro f hf hn
  by_cases hd : h ∣ f
  ·obtain ⟨q, rfl⟩ := hd;have hh : h ≠ 0 := λe => hf (by rw [e]; exact zg [q] (by rfl));have hq : q ≠ 0 := λe => hf (by rw [e]; exact zg [h] (by rfl));have h1 := yW hh hq;obtain ⟨e, u, h2, h3⟩ := ih q hq (by omega);exact ⟨e + 1, u, by rw [ze, h2]; exact zg [h, u, h^e] (by rfl), h3⟩
  ·exact ⟨0, z7.2 hd⟩
theorem zE.dvd {h f : Poly p} {e : Nat} (h1 : zE h e f) (he : 1 <= e) : h ∣ f := by
 obtain ⟨u, rfl, _⟩ := h1;obtain ⟨n, rfl⟩ : ∃ n, e = n + 1 := ⟨e - 1, by omega⟩
 exact ⟨h ^ n * u, by rw [ze]; exact zg [h, u, h^n] (by rfl)⟩

def ltP (f g : Poly p) : Prop := dg f < dg g ∨ dg f = dg g ∧ ∃ i, cf f.l i < cf g.l i ∧ ∀ j, i < j -> cf f.l j = cf g.l j
theorem zcx {p : Int} (f : Poly p) : ¬ ltP f f := by
 rintro (h | ⟨_, i, h, _⟩) <;> omega
theorem zaI {p : Int} {f g h : Poly p} (h1 : ltP f g) (h2 : ltP g h) : ltP f h := by
 rcases h1 with h1 | ⟨h1, i, hi, hi'⟩ <;> rcases h2 with h2 | ⟨h2, j, hj, hj'⟩
 ·exact .inl (by omega)
 ·exact .inl (by omega)
 ·exact .inl (by omega)
 ·refine .inr ⟨by omega, ?_⟩;rcases Nat.lt_trichotomy i j with h | h | h
  ·exact ⟨j, by rw [hi' j h]; exact hj, λk hk => by rw [hi' k (by omega), hj' k hk]⟩
  ·subst h; exact ⟨i, by omega, λk hk => by rw [hi' k hk, hj' k hk]⟩
  ·exact ⟨i, by rw [<- hj' i h]; exact hi, λk hk => by rw [hi' k hk, hj' k (by omega)]⟩
theorem zdx {p : Int} {f g : Poly p} (h : f ≠ g) : ltP f g ∨ ltP g f := by
 rcases Nat.lt_trichotomy (dg f) (dg g) with h1 | h1 | h1
 ·exact .inl (.inl h1)
 ·have : ∀ n, n <= dg f -> (∀ j, n <= j -> cf f.l j = cf g.l j) -> ltP f g ∨ ltP g f := by
   intro n
   induction n with
   | zero => intro _ hj; exact absurd (zI λi => hj i (Nat.zero_le _)) h
   | succ n ih =>
    intro hn hj;rcases Int.lt_trichotomy (cf f.l n) (cf g.l n) with h2 | h2 | h2
    ·exact .inl (.inr ⟨h1, n, h2, λj hj' => hj j hj'⟩)
    ·exact ih (by omega) λj hj' => by
      rcases Nat.eq_or_lt_of_le hj' with rfl | h3
      ·exact h2
      ·exact hj j h3
    ·exact .inr (.inr ⟨h1.symm, n, h2, λj hj' => (hj j hj').symm⟩)
  exact this (dg f) (Nat.le_refl _) λj hj => by rw [z9 hj, z9 (by omega)]
 ·exact .inr (.inl h1)

theorem zdy {α : Type} {lt : α -> α -> Prop} (irr : ∀ a, ¬ lt a a) (tr : ∀ a b c, lt a b -> lt b c -> lt a c) : ∀ {l l' : List α}, l.Pairwise lt -> l'.Pairwise lt -> (∀ x, x ∈ l ↔ x ∈ l') -> l = l'
 | [], [], _, _, _ => rfl
 | [], b :: l', _, _, h => absurd ((h b).2 (by simp)) (by simp)
 | a :: l, [], _, _, h => absurd ((h a).1 (by simp)) (by simp)
 | a :: l, b :: l', h1, h2, h => by
  rw [List.pairwise_cons] at h1 h2
  have hab : a = b := by
   rcases List.mem_cons.1 ((h a).1 (by simp)) with h3 | h3
   ·exact h3
   ·rcases List.mem_cons.1 ((h b).2 (by simp)) with h4 | h4
    ·exact h4.symm
    ·exact absurd (tr _ _ _ (h2.1 a h3) (h1.1 b h4)) (irr b)
  subst hab;rw [zdy irr tr h1.2 h2.2 λx => ?_]
  constructor
  ·intro hx;rcases List.mem_cons.1 ((h x).1 (by simp [hx])) with h3 | h3
   ·subst h3; exact absurd (h1.1 x hx) (irr x)
   ·exact h3
  ·intro hx;rcases List.mem_cons.1 ((h x).2 (by simp [hx])) with h3 | h3
   ·subst h3; exact absurd (h2.1 x hx) (irr x)
   ·exact h3

def j9 (f : Poly p) (x : Poly p × Nat) : Prop := Irr x.1 ∧ Mon x.1 ∧ 1 <= x.2 ∧ zE x.1 x.2 f
def jN (f : Poly p) (F : List (Poly p × Nat)) : Prop := F.Pairwise (λx y => ltP x.1 y.1) ∧ ∀ x, x ∈ F ↔ j9 f x
theorem jN.unique {f : Poly p} {F F' : List (Poly p × Nat)} (h : jN f F) (h' : jN f F') : F = F' :=
 zdy (lt := λx y : Poly p × Nat => ltP x.1 y.1) (λx => zcx x.1) (λ_ _ _ h1 h2 => zaI h1 h2) h.1 h'.1 λx => (h.2 x).trans (h'.2 x).symm

def kF (f : Poly p) (L : List (Poly p)) : Prop := L.Nodup ∧ ∀ h, h ∈ L ↔ (Irr h ∧ Mon h ∧ h ∣ f)

structure Parts (f : Poly p) (L : List (Poly p)) : Prop where
 each : ∀ a ∈ L, Mon a ∧ 2 <= dg a ∧ a ∣ f
 all : ∀ h, Irr h -> h ∣ f -> ∃ a ∈ L, h ∣ a
 apart : L.Pairwise λa b => ∀ h, Irr h -> h ∣ a -> h ∣ b -> False

theorem Parts.start {f : Poly p} (hm : Mon f) (h2 : 2 <= dg f) : Parts f [f] :=
 ⟨by simp [hm, h2, dvd_refl], λh hi hd => ⟨f, by simp, hd⟩, by simp⟩

theorem Parts.irrs {f : Poly p} {L : List (Poly p)} (h : Parts f L) (hi : ∀ a ∈ L, Irr a) : kF f L := by
 refine ⟨?_, λg => ⟨λhg => ⟨hi g hg, (h.each g hg).1, (h.each g hg).2.2⟩, λ⟨h1, h2, h3⟩ => ?_⟩⟩
 ·have : L.Pairwise λa b => a ∈ L -> a ≠ b := h.apart.imp λ{a b} hab ha (he : a = b) => hab a (hi a ha) (dvd_refl a) (by rw [<- he]; exact dvd_refl a);exact List.pairwise_iff_getElem.2 λi j hi' hj' hij => (List.pairwise_iff_getElem.1 this i j hi' hj' hij) (List.getElem_mem _)
 ·obtain ⟨a, ha, hd⟩ := h.all g h1 h3;rw [kB h1 (hi a ha) h2 (h.each a ha).1 hd]; exact ha

noncomputable def zc0 (v a : Poly p) (s : Nat) : List (Poly p) := if 2 <= dg (gcd a (v - con p (s : Int))) then [gcd a (v - con p (s : Int))] else []
noncomputable def z8 (v a : Poly p) (n : Nat) : List (Poly p) := (List.range n).flatMap (zc0 v a)
noncomputable def zq (v : Poly p) (L : List (Poly p)) : List (Poly p) := L.flatMap λa => z8 v a p.toNat

theorem k9 {v a g : Poly p} {n : Nat} : g ∈ z8 v a n ↔ ∃ s, s < n ∧ 2 <= dg (gcd a (v - con p (s : Int))) ∧ g = gcd a (v - con p (s : Int)) := by
 simp only [z8, List.mem_flatMap, List.mem_range, zc0]
 constructor
 ·rintro ⟨s, h1, h2⟩
  split at h2
  ·rename_i h3; simp at h2; exact ⟨s, h1, h3, h2⟩
  ·cases h2
 ·rintro ⟨s, h1, h2, h3⟩;exact ⟨s, h1, by rw [if_pos h2]; simp [h3]⟩

theorem zjB {h v : Poly p} (hi : Irr h) {s t : Nat} (hs : (s : Int) < p) (ht : (t : Int) < p) (h1 : h ∣ v - con p (s : Int)) (h2 : h ∣ v - con p (t : Int)) : s = t := by
 have := zgA hi.1 h1 h2;rw [Int.emod_eq_of_lt (by omega) hs, Int.emod_eq_of_lt (by omega) ht] at this;omega

theorem zdz {v a : Poly p} {n : Nat} (hn : (n : Int) <= p) : (z8 v a n).Pairwise λx y => ∀ h, Irr h -> h ∣ x -> h ∣ y -> False := by
 induction n with
 | zero => simp [z8]
 | succ n ih =>
  have e : z8 v a (n + 1) = z8 v a n ++ zc0 v a n := by simp [z8, List.range_succ]
  rw [e, List.pairwise_append];refine ⟨ih (by omega), ?_, λx hx y hy h hi h1 h2 => ?_⟩
  ·unfold zc0; split <;> simp
  ·obtain ⟨s, hs, _, rfl⟩ := k9.1 hx;unfold zc0 at hy
   split at hy
   ·simp at hy; subst hy
    have := zjB (p := p) hi (s := s) (t := n) (by omega) (by omega) (zo h1 (y1 _ _)) (zo h2 (y1 _ _));omega
   ·cases hy

theorem zkq {v a h : Poly p} (hv : Ber h v) (hi : Irr h) (hd : h ∣ a) (ha : a ≠ 0) : ∃ g ∈ z8 v a p.toNat, h ∣ g := by
 obtain ⟨s, h1, h2, h3⟩ := zkn hi hv;have h4 := zhi hd h3;have hm := k0 (f := a) (g := v - con p s) (.inl ha);have h5 := zC h4 hm.1;have h6 := hi.1;have e : ((s.toNat : Nat) : Int) = s := by omega
 refine ⟨_, k9.2 ⟨s.toNat, by omega, ?_, rfl⟩, ?_⟩
 ·rw [e]; omega
 ·rw [e]; exact h4

theorem Parts.cut {f v : Poly p} {L : List (Poly p)} (h : Parts f L) (hv : Ber f v) : Parts f (zq v L) ∧ ∀ a' ∈ zq v L, (∃ s : Int, a' ∣ v - con p s) ∧ ∃ a ∈ L, a' ∣ a := by
 have hmem : ∀ a' ∈ zq v L, ∃ a ∈ L, ∃ s : Nat, 2 <= dg a' ∧ a' = gcd a (v - con p (s : Int)) := by
  intro a' ha';obtain ⟨a, ha, hg⟩ := List.mem_flatMap.1 ha';obtain ⟨s, _, h2, rfl⟩ := k9.1 hg;exact ⟨a, ha, s, h2, rfl⟩
 refine ⟨⟨λa' ha' => ?_, λq hq hd => ?_, ?_⟩, λa' ha' => ?_⟩
 ·obtain ⟨a, ha, s, h2, rfl⟩ := hmem a' ha';exact ⟨k0 (.inl (h.each a ha).1.1), h2, zo (y9 _ _) (h.each a ha).2.2⟩
 ·obtain ⟨a, ha, hqa⟩ := h.all q hq hd;obtain ⟨g, hg, hqg⟩ := zkq (hv.dvd hd) hq hqa (h.each a ha).1.1;exact ⟨g, List.mem_flatMap.2 ⟨a, ha, hg⟩, hqg⟩
 ·unfold zq;rw [List.pairwise_flatMap];refine ⟨λa _ => zdz (by have := Pr.two (p := p); omega), h.apart.imp λ{a b} hab x hx y hy q hq h1 h2 => ?_⟩;obtain ⟨s, _, _, rfl⟩ := k9.1 hx;obtain ⟨t, _, _, rfl⟩ := k9.1 hy;exact hab q hq (zo h1 (y9 _ _)) (zo h2 (y9 _ _))
 ·obtain ⟨a, ha, s, h2, rfl⟩ := hmem a' ha';exact ⟨⟨s, y1 _ _⟩, a, ha, y9 _ _⟩

end Poly

theorem zfw (n m : Int) (hm : 0 < m) : (n.tmod m + m).tmod m = n % m := by
 have h1 := Int.lt_tmod_of_pos n hm;rw [Int.tmod_eq_emod_of_nonneg (by omega), Int.add_emod_right];rw [Int.tmod_eq_emod]
 split
 ·simp
 ·rw [show (m.natAbs : Int) = m by omega, Int.sub_emod, Int.emod_self]; simp

abbrev isP (p : Int) : Bool := decide (p ∈ xa)

theorem zgC : (List.range 98).all (λn => decide ((n : Int) ∈ xa) == (decide (2 <= n) && (List.range 10).all λd => !(decide (2 <= d ∧ d * d <= n ∧ n % d = 0)))) = true := by decide +kernel
theorem jg {n : Int} (h : n <= 97) : n ∈ xa ↔ 2 <= n ∧ ∀ d : Int, 2 <= d -> d * d <= n -> n % d ≠ 0 := by
 rcases Int.lt_or_le n 2 with h2 | h2
 ·constructor
  ·intro hm;have := List.all_eq_true.1 kE n hm;simp only [decide_eq_true_eq] at this
   omega
  ·intro h3; omega
 ·obtain ⟨k, rfl⟩ : ∃ k : Nat, n = k := ⟨n.toNat, by omega⟩
  have h3 := List.all_eq_true.1 zgC k (List.mem_range.2 (by omega));simp only [beq_iff_eq] at h3
  have h4 : ((k : Int) ∈ xa) ↔ decide ((k : Int) ∈ xa) = true := by simp
  rw [h4, h3];simp only [Bool.and_eq_true, decide_eq_true_eq, List.all_eq_true, List.mem_range, Bool.not_eq_true', decide_eq_false_iff_not, not_and]
  constructor
  ·rintro ⟨h5, h6⟩;refine ⟨h2, λd hd hdd hr => ?_⟩
   have h9 : d < 10 := by
    rcases Int.lt_or_le d 10 with h | h
    ·exact h
    ·have : 10 * 10 <= d * d := Int.mul_le_mul h h (by omega) (by omega);omega
   obtain ⟨m, rfl⟩ : ∃ m : Nat, d = m := ⟨d.toNat, by omega⟩
   refine h6 m (by omega) (by omega) (by exact_mod_cast hdd) ?_;omega
  ·rintro ⟨_, h6⟩;refine ⟨by omega, λd hd h7 h8 h9 => h6 d (by omega) (by exact_mod_cast h8) (by omega)⟩
theorem vT {n : Int} (h : n ∈ xa) : 2 <= n ∧ n <= 97 := by
 have := List.all_eq_true.1 kE n h
 simpa using this

structure Bz (a b r x y s u v : Int) : Prop where
 r0 : 0 <= r
 s0 : 0 <= s
 e1 : a * x + b * y = r
 e2 : a * u + b * v = s
 g : ∀ d : Int, (d ∣ a ∧ d ∣ b) ↔ (d ∣ r ∧ d ∣ s)
 bd : ∃ ε X U Y V : Int, (ε = 1 ∨ ε = -1) ∧ 0 <= X ∧ 0 <= U ∧ 0 <= Y ∧ 0 <= V ∧ x = ε * X ∧ u = -(ε * U) ∧ y = -(ε * Y) ∧ v = ε * V ∧ U * r + X * s = b ∧ V * r + Y * s = a

theorem Bz.start {a b : Int} (ha : 0 <= a) (hb : 0 <= b) : Bz a b a 1 0 b 0 1 :=
 ⟨ha, hb, by omega, by omega, λ_ => Iff.rfl, 1, 1, 0, 0, 1, .inl rfl, by omega, by omega, by omega, by omega, by omega, by omega, by omega, by omega, by omega, by omega⟩

theorem vV {q s r : Int} (hs : 1 <= s) (hq : 0 <= q) (h : q * s <= r) : q <= r := by
 have : q * 1 <= q * s := Int.mul_le_mul_of_nonneg_left hs hq;omega

structure BzB (a b r x y s u v q : Int) : Prop where
 q0 : 0 <= q
 qr : q <= r
 qs : 0 <= q * s ∧ q * s <= r
 qu : -b <= q * u ∧ q * u <= b
 qv : -a <= q * v ∧ q * v <= a
 bx : -b <= x ∧ x <= b
 by' : -a <= y ∧ y <= a
 nx : -b <= x - q * u ∧ x - q * u <= b
 ny : -a <= y - q * v ∧ y - q * v <= a

theorem j1 {ε z B : Int} (he : ε = 1 ∨ ε = -1) (h0 : 0 <= z) (h : z <= B) : -B <= ε * z ∧ ε * z <= B := by
 rcases he with rfl | rfl <;> omega
theorem Bz.step {a b r x y s u v : Int} (h : Bz a b r x y s u v) (hs : s ≠ 0) : BzB a b r x y s u v (r / s) ∧ Bz a b s u v (r - r / s * s) (x - r / s * u) (y - r / s * v) := by
 obtain ⟨h1, h2, h3, h4, h5, ε, X, U, Y, V, he, hX, hU, hY, hV, rfl, rfl, rfl, rfl, h6, h7⟩ := h;have hs1 : 1 <= s := by omega
 have hm := Int.emod_nonneg r hs;have hm2 := Int.emod_lt_of_pos r (show 0 < s by omega);have hd : r = r / s * s + r % s := by have := Int.mul_ediv_add_emod r s; rw [Int.mul_comm] at this; omega
 have hq : 0 <= r / s := Int.ediv_nonneg h1 h2;generalize hqq : r / s = q at *;generalize hrr : r % s = r' at *;have hqs0 : 0 <= q * s := Int.mul_nonneg hq h2;have hqs : q * s <= r := by omega
 have hUr : 0 <= U * r := Int.mul_nonneg hU h1;have hVr : 0 <= V * r := Int.mul_nonneg hV h1;have hXs : 0 <= X * s := Int.mul_nonneg hX h2;have hYs : 0 <= Y * s := Int.mul_nonneg hY h2;have hXb : X <= b := vV (s := s) hs1 hX (by omega);have hYa : Y <= a := vV (s := s) hs1 hY (by omega);have hqU : 0 <= q * U := Int.mul_nonneg hq hU;have hqV : 0 <= q * V := Int.mul_nonneg hq hV
 have k1 : q * U * s <= U * r := by
  have : U * (q * s) <= U * r := Int.mul_le_mul_of_nonneg_left hqs hU;have e : q * U * s = U * (q * s) := by rw [Int.mul_comm q U, Int.mul_assoc]
  omega
 have k2 : q * V * s <= V * r := by
  have : V * (q * s) <= V * r := Int.mul_le_mul_of_nonneg_left hqs hV;have e : q * V * s = V * (q * s) := by rw [Int.mul_comm q V, Int.mul_assoc]
  omega
 have hXU : X + q * U <= b := vV (s := s) hs1 (by omega) (by rw [Int.add_mul]; omega);have hYV : Y + q * V <= a := vV (s := s) hs1 (by omega) (by rw [Int.add_mul]; omega);have e1 : q * -(ε * U) = -(ε * (q * U)) := by rw [Int.mul_neg, <- Int.mul_assoc, Int.mul_comm q ε, Int.mul_assoc]
 have e2 : q * (ε * V) = ε * (q * V) := by rw [<- Int.mul_assoc, Int.mul_comm q ε, Int.mul_assoc]
 have e3 : ε * X - q * -(ε * U) = ε * (X + q * U) := by rw [e1, Int.mul_add]; omega
 have e4 : -(ε * Y) - q * (ε * V) = -(ε * (Y + q * V)) := by rw [e2, Int.mul_add]; omega
 refine ⟨⟨hq, vV hs1 hq hqs, ⟨hqs0, hqs⟩, ?_, ?_, j1 he hX hXb, ?_, ?_, ?_⟩, h2, by omega, h4, ?_, λd => ?_, -ε, U, X + q * U, V, Y + q * V, by omega, hU, by omega, hV, by omega, ?_, ?_, ?_, ?_, ?_, ?_⟩
 ·rw [e1]; have := j1 he hqU (show q * U <= b by omega); omega
 ·rw [e2]; exact j1 he hqV (show q * V <= a by omega)
 ·have := j1 he hY hYa; omega
 ·rw [e3]; exact j1 he (by omega) hXU
 ·rw [e4]; have := j1 he (by omega) hYV; omega
 ·rw [Int.mul_sub, Int.mul_sub];have i1 : a * (q * -(ε * U)) = q * (a * -(ε * U)) := by rw [<- Int.mul_assoc, Int.mul_comm a q, Int.mul_assoc]
  have i2 : b * (q * (ε * V)) = q * (b * (ε * V)) := by rw [<- Int.mul_assoc, Int.mul_comm b q, Int.mul_assoc]
  have i3 : q * (a * -(ε * U)) + q * (b * (ε * V)) = q * s := by rw [<- Int.mul_add, h4]
  omega
 ·rw [h5 d]
  constructor
  ·rintro ⟨h8, h9⟩; exact ⟨h9, Int.dvd_sub h8 (Int.dvd_mul_of_dvd_right h9)⟩
  ·rintro ⟨h8, h9⟩;refine ⟨?_, h8⟩;have := Int.dvd_add h9 (Int.dvd_mul_of_dvd_right h8 (b := q))
   rwa [show r - q * s + q * s = r by omega] at this
 ·rw [Int.neg_mul]
 ·rw [Int.neg_mul, e3]; omega
 ·rw [Int.neg_mul]; omega
 ·rw [Int.neg_mul, e4]
 ·rw [Int.add_mul, Int.mul_sub];have : U * (q * s) = q * U * s := by rw [Int.mul_comm q U, Int.mul_assoc]
  omega
 ·rw [Int.add_mul, Int.mul_sub];have : V * (q * s) = q * V * s := by rw [Int.mul_comm q V, Int.mul_assoc]
  omega
theorem Bz.fin {a b r x y u v : Int} (h : Bz a b r x y 0 u v) : a * x + b * y = r ∧ 0 <= r ∧ r ∣ a ∧ r ∣ b := by
 have := (h.g r).2 ⟨Int.dvd_refl r, Int.dvd_zero r⟩;exact ⟨h.e1, h.r0, this.1, this.2⟩

def yZ (m a : Int) : Int := (((List.range m.toNat).find? λb : Nat => a * (b : Int) % m == 1 % m).getD 0 : Nat)
theorem zeb {m a x : Int} (hm : 0 < m) (h : a * x % m = 1 % m) : yZ m a = x % m := by
 unfold yZ;have h0 := Int.emod_nonneg x (show m ≠ 0 by omega);have h1 := Int.emod_lt_of_pos x hm;cases hf : (List.range m.toNat).find? λb : Nat => a * (b : Int) % m == 1 % m with
 | none =>
  exfalso
  rw [List.find?_eq_none] at hf;have h2 := hf (x % m).toNat (List.mem_range.2 (by omega));simp only [beq_iff_eq] at h2
  rw [show ((x % m).toNat : Int) = x % m by omega, Int.mul_emod, Int.emod_emod_of_dvd _ (Int.dvd_refl m), <- Int.mul_emod] at h2;exact h2 h
 | some b =>
  have h2 := List.find?_some hf;have h3 := List.mem_range.1 (List.mem_of_find?_eq_some hf);simp only [beq_iff_eq] at h2
  simp only [Option.getD_some]
  -- both are inverses
  have h4 : a * b * x % m = (b : Int) % m := by
   rw [Int.mul_assoc, Int.mul_comm (b : Int) x, <- Int.mul_assoc, Int.mul_emod, h, <- Int.mul_emod, Int.one_mul]
  have h5 : a * b * x % m = x % m := by
   rw [Int.mul_emod, h2, <- Int.mul_emod, Int.one_mul]
  rw [<- h5, h4, Int.emod_eq_of_lt (by omega) (by omega)]
theorem xn {p a : Int} [Pr p] (h : a % p ≠ 0) : 0 <= yZ p a ∧ yZ p a < p ∧ a * yZ p a % p = 1 := by
 have hp := Pr.two (p := p);obtain ⟨b, hb⟩ := Pr.inv (p := p) a h;have h1 : (1 : Int) % p = 1 := Int.emod_eq_of_lt (by omega) (by omega);rw [zeb (m := p) (x := b) (by omega) (by rw [hb, h1])];refine ⟨Int.emod_nonneg _ (by omega), Int.emod_lt_of_pos _ (by omega), ?_⟩;rw [Int.mul_emod, Int.emod_emod_of_dvd _ (Int.dvd_refl p), <- Int.mul_emod, hb]
theorem zjC {p a : Int} [Pr p] (h : a % p ≠ 0) : yZ p (a % p) = yZ p a := by
 have hp := Pr.two (p := p);obtain ⟨h1, h2, h3⟩ := xn h;rw [zeb (m := p) (x := yZ p a) (by omega), Int.emod_eq_of_lt h1 h2];rw [Int.mul_emod, Int.emod_emod_of_dvd _ (Int.dvd_refl p), <- Int.mul_emod, h3, Int.emod_eq_of_lt (by omega) (by omega)]

theorem zc1 {p a r : Int} [Pr p] (ha : a % p ≠ 0) (h0 : 0 <= r) (h1 : r ∣ a) (h2 : r ∣ p) : r = 1 := by
 obtain ⟨c, rfl⟩ := h1;obtain ⟨d, hd⟩ := h2;have hp := Pr.two (p := p)
 -- r is a unit by p, so p divides d, so r = 1
 by_cases hr : r % p = 0
 ·exact absurd (by rw [Int.mul_emod, hr]; simp) ha
 ·obtain ⟨b, hb⟩ := Pr.inv (p := p) r hr
  have h3 : d % p = 0 := by
   have h4 : r * b * d % p = d % p := by rw [Int.mul_emod, hb, Int.one_mul, Int.emod_emod_of_dvd _ (Int.dvd_refl p)]
   rw [<- h4, show r * b * d = p * b by rw [Int.mul_assoc, Int.mul_comm b d, <- Int.mul_assoc, <- hd]];exact Int.mul_emod_right p b
  obtain ⟨k, hk⟩ := Int.dvd_of_emod_eq_zero h3;rw [hk, <- Int.mul_assoc, Int.mul_comm r p, Int.mul_assoc] at hd
  have h5 : r * k = 1 := by
   have : p * (r * k) = p * 1 := by omega
   exact Int.eq_of_mul_eq_mul_left (by omega) this
  have hr1 : r ≠ 0 := λh => by rw [h, Int.zero_mul] at h5; omega
  have hk1 : 1 <= k := by
   rcases Int.lt_or_le k 1 with h | h
   ·have : r * k <= r * 0 := Int.mul_le_mul_of_nonneg_left (by omega) h0;omega
   ·exact h
  have : r * 1 <= r * k := Int.mul_le_mul_of_nonneg_left hk1 h0;omega
theorem Bz.inv {p a r x y u v : Int} [Pr p] (ha : a % p ≠ 0) (h : Bz a p r x y 0 u v) : x % p = yZ p a := by
 have hp := Pr.two (p := p);obtain ⟨h1, h2, h3, h4⟩ := h.fin;have hr := zc1 ha h2 h3 h4;subst hr;refine (zeb (m := p) (by omega) ?_).symm;have : a * x = 1 + p * -y := by rw [Int.mul_neg]; omega
 rw [this, Int.add_mul_emod_self_left]


theorem zkr (l : List Int) (i : Nat) : l.getD i 0 = cf l i := rfl
theorem yb {l : List Int} {i : Nat} (h : i < l.length) (x : Int) (j : Nat) : cf (l.set i x) j = if j = i then x else cf l j := by
 unfold cf;simp only [List.getD_eq_getElem?_getD, List.getElem?_set]
 by_cases hj : i = j
 ·subst hj; simp [h]
 ·simp [hj, Ne.symm hj]
theorem zF (n : Nat) (j : Nat) : cf (List.replicate n 0) j = 0 := by
 unfold cf;simp only [List.getD_eq_getElem?_getD, List.getElem?_replicate]
 split <;> rfl
theorem zhm (l : List Int) (n j : Nat) : cf (l.take n) j = if j < n then cf l j else 0 := by
 unfold cf;simp only [List.getD_eq_getElem?_getD, List.getElem?_take]
 split <;> rfl
theorem zks (l : List Int) (n j : Nat) : cf (l.drop n) j = cf l (n + j) := by
 unfold cf;simp only [List.getD_eq_getElem?_getD, List.getElem?_drop]
theorem zaa {l m : List Int} (h : l.length = m.length) (he : ∀ j, j < l.length -> cf l j = cf m j) : l = m := by
 apply List.ext_getElem h;intro j h1 h2;have := he j h1
 rwa [vj h1, vj h2] at this
theorem zjD {l : List Int} {j : Nat} (h : j < l.length) : cf l j ∈ l := by rw [vj h]; exact List.getElem_mem h

theorem jO {l m : List Int} (h : ∀ j, cf l j = cf m j) : zw l = zw m :=
 yu (xl l) (xl m) λj => by rw [xu, xu, h]
theorem zbz {l : List Int} {n : Nat} (hn : n <= l.length) (h0 : ∀ j, n <= j -> cf l j = 0) (h : n = 0 ∨ cf l (n - 1) ≠ 0) : l.take n = zw l := by
 refine yu ?_ (xl l) λj => ?_
 ·intro m hm;rw [List.length_take, Nat.min_eq_left hn] at hm;subst hm;rw [zhm, if_pos (by omega)];rcases h with h | h
  ·omega
  ·exact h
 ·rw [zhm, xu]
  split
  ·rfl
  ·exact (h0 j (by omega)).symm
theorem zid : zw [] = [] := rfl

def Bd (M : Int) (l : List Int) : Prop := ∀ j, -M <= cf l j ∧ cf l j <= M
theorem Bd.trim {M : Int} {l : List Int} (h : Bd M l) : Bd M (zw l) := λj => by rw [xu]; exact h j
namespace Poly
variable {p : Int} [SP p]
theorem zab (f : Poly p) (j : Nat) : 0 <= cf f.l j ∧ cf f.l j < p := by
 have hp := Pr.two (p := p)
 by_cases hj : j < f.l.length
 ·exact f.ok.1 _ (zjD hj)
 ·rw [zV (by omega)]; omega
theorem j4 (f : Poly p) : Bd 97 f.l := λj => by
 have h := zab f j; have := SP.le (p := p); omega
end Poly

theorem zkO {A B : Int} (hA : 0 <= A) (hB : 0 <= B) {n : Nat} (f g : Nat -> Int) (hf : ∀ j, -A <= f j ∧ f j <= A) (hf0 : ∀ j, n <= j -> f j = 0) (hg : ∀ j, -B <= g j ∧ g j <= B) :
  ∀ k, -((n : Int) * (A * B)) <= cv f g k ∧ cv f g k <= (n : Int) * (A * B) := by
 have hAB : 0 <= A * B := Int.mul_nonneg hA hB
 have hm : ∀ i j, -(A * B) <= f i * g j ∧ f i * g j <= A * B := by
  intro i j;have h1 := hf i;have h2 := hg j
  have e1 : (f i * g j).natAbs <= (A * B).natAbs := by
   rw [Int.natAbs_mul, Int.natAbs_mul];exact Nat.mul_le_mul (by omega) (by omega)
  omega
 intro k
 induction n generalizing f k with
 | zero =>
  have : cv f g k = 0 := z6 λi _ => hf0 i (Nat.zero_le _);rw [this]; simp
 | succ n ih =>
  have e : ((n + 1 : Nat) : Int) * (A * B) = (n : Int) * (A * B) + A * B := by rw [Int.natCast_add, Int.add_mul]; simp
  rw [e];have hn : 0 <= (n : Int) * (A * B) := Int.mul_nonneg (by omega) hAB;cases k with
  | zero =>
   have := hm 0 0;simp only [cv]; omega
  | succ k =>
   have h1 := ih (λi => f (i + 1)) (λj => hf (j + 1)) (λj hj => hf0 (j + 1) (by omega)) (λi j => hm (i + 1) j) k;have h2 := hm 0 (k + 1);have h3 : cv f g (k + 1) = f 0 * g (k + 1) + cv (λi => f (i + 1)) g k := rfl;rw [h3]; omega

def part (f g : Nat -> Int) (i k j : Nat) : Int := cv (λx => if x < i then f x else 0) g j + (if i <= j ∧ j < i + k then f i * g (j - i) else 0)
theorem zie (c : Int) (i : Nat) (g : Nat -> Int) (j : Nat) : cv (λx => if x = i then c else 0) g j = if i <= j then c * g (j - i) else 0 := Poly.cv_mono c i g j
theorem zfx {f g : Nat -> Int} {m : Nat} (hg : ∀ j, m <= j -> g j = 0) (i j : Nat) : part f g i m j = part f g (i + 1) 0 j := by
 unfold part;rw [if_neg (show ¬ (i + 1 <= j ∧ j < i + 1 + 0) by omega), Int.add_zero]
 have e : (λx => if x < i + 1 then f x else 0) = λx => (if x < i then f x else 0) + (if x = i then f i else 0) := by
  funext x
  by_cases h : x < i
  ·rw [if_pos h, if_pos (by omega), if_neg (by omega)]; omega
  ·by_cases h2 : x = i
   ·subst h2; rw [if_pos (by omega), if_neg h, if_pos rfl]; omega
   ·rw [if_neg (by omega), if_neg h, if_neg h2]; rfl
 rw [e, zd1, zie]
 congr 1
 by_cases h : i <= j
 ·rw [if_pos h]
  by_cases h2 : j < i + m
  ·rw [if_pos ⟨h, h2⟩]
  ·rw [if_neg (by omega), hg _ (by omega), Int.mul_zero]
 ·rw [if_neg (by omega), if_neg h]
theorem zcy (f g : Nat -> Int) (j : Nat) : part f g 0 0 j = 0 := by
 unfold part;rw [if_neg (by omega), z6 λi _ => by simp]; rfl
theorem zaJ (f g : Nat -> Int) (i k j : Nat) : part f g i (k + 1) j = if j = i + k then part f g i k j + f i * g k else part f g i k j := by
 unfold part
 by_cases h : j = i + k
 ·subst h;rw [if_pos rfl, if_pos ⟨by omega, by omega⟩, if_neg (by omega), show i + k - i = k by omega]; omega
 ·rw [if_neg h]
  congr 1
  by_cases h2 : i <= j ∧ j < i + k
  ·rw [if_pos h2, if_pos ⟨h2.1, by omega⟩]
  ·rw [if_neg h2, if_neg (by omega)]
theorem zfy {f g : Nat -> Int} {n : Nat} (hf : ∀ j, n <= j -> f j = 0) (j : Nat) : part f g n 0 j = cv f g j := by
 unfold part;rw [if_neg (by omega), Int.add_zero]
 congr 1
 funext x
 split
 ·rfl
 ·exact (hf x (by omega)).symm
theorem zhn {A B : Int} (hA : 0 <= A) (hB : 0 <= B) {f g : Nat -> Int} (hf : ∀ j, -A <= f j ∧ f j <= A) (hg : ∀ j, -B <= g j ∧ g j <= B) (i k j : Nat) :
  -(((i : Int) + 1) * (A * B)) <= part f g i k j ∧ part f g i k j <= ((i : Int) + 1) * (A * B) := by
 have h1 := zkO hA hB (n := i) (λx => if x < i then f x else 0) g (λj => by split; exact hf j; omega) (λj hj => if_neg (by omega)) hg j;have hAB : 0 <= A * B := Int.mul_nonneg hA hB
 have h2 : -(A * B) <= f i * g (j - i) ∧ f i * g (j - i) <= A * B := by
  have h1 := hf i;have h2 := hg (j - i)
  have e1 : (f i * g (j - i)).natAbs <= (A * B).natAbs := by
   rw [Int.natAbs_mul, Int.natAbs_mul];exact Nat.mul_le_mul (by omega) (by omega)
  omega
 unfold part;rw [Int.add_mul, Int.one_mul]
 split <;> omega

theorem ka (f : Int -> Int) {xs : List Int} {i : Nat} (h : i < xs.length) : (xs.take (i + 1)).map f = (xs.take i).map f ++ [f (xs.getD i 0)] := by
 rw [List.take_add_one, List.map_append, List.getElem?_eq_getElem h, List.getD_eq_getElem?_getD, List.getElem?_eq_getElem h]; rfl

theorem zac (n : Nat) (f : Nat -> Int) : mkL (n + 1) f = mkL n f ++ [f n] := by simp [mkL, List.range_succ]
theorem zfz {out f g : List Int} (h : ∀ j, cf out j = cf f j + cf g j) : zw out = zw (jJ f g) := jO λj => by rw [h, vm]
theorem zfA {out f g : List Int} (h : ∀ j, cf out j = cv (cf f) (cf g) j) : zw out = zw (v8 f g) := jO λj => by rw [h, zbu]
theorem zad {f g : List Int} (h : f = [] ∨ g = []) : zw (v8 f g) = [] := by
 rw [<- zid];refine jO λj => ?_;rw [zbu, yG];rcases h with rfl | rfl
 ·exact z6 λi _ => yG i
 ·rw [jX]; exact z6 λi _ => yG i
theorem zcz (p : Int) (l : List Int) : nrm p (zw l) = nrm p l := yu (vQ _ _) (vQ _ _) λj => by rw [zaE, zaE, xu]

theorem zec {p : Int} {l : List Int} (h : ∀ j, 0 <= cf l j ∧ cf l j < p) : nrm p l = zw l :=
 yu (vQ p l) (xl l) λj => by rw [zaE, xu, Int.emod_eq_of_lt (h j).1 (h j).2]

namespace Poly
variable {p : Int} [SP p]

structure DivI (p : Int) [SP p] (F G : Poly p) (nq k : Nat) (r q : List Int) : Prop where
 rl : r.length = dg F
 ql : q.length = nq
 eq : F = of p q * G + of p r
 z : ∀ j, k + dg G <= j + 1 -> cf r j = 0
 rr : ∀ j, 0 <= cf r j ∧ cf r j < p
 qr : ∀ j, 0 <= cf q j ∧ cf q j < p
 qz : ∀ j, j < k -> cf q j = 0

theorem DivI.start (F G : Poly p) {nq : Nat} (h : dg F + 1 <= nq + dg G) : DivI p F G nq nq F.l (List.replicate nq 0) := by
 have hp := Pr.two (p := p);refine ⟨rfl, by simp, ?_, λj hj => z9 (by omega), λj => zab F j, λj => by rw [zF]; omega, λj _ => zF _ _⟩;have h0 : of p (List.replicate nq 0) = (0 : Poly p) := zI λi => by rw [ya, zF, yO]; simp
 rw [h0, of_l];exact zg [F, G] (by rfl)

theorem DivI.step {F G : Poly p} {nq k : Nat} {r q r' : List Int} (h : DivI p F G nq (k + 1) r q) (hG : G ≠ 0) (hk : k < nq) (c : Int) (hc : c = cf r (k + dg G - 1) * yZ p (cf G.l (dg G - 1)) % p)
  (hl : r'.length = r.length) (hr : ∀ j, cf r' j = if k <= j ∧ j < k + dg G then (cf r j - c * cf G.l (j - k)) % p else cf r j) : DivI p F G nq k r' (q.set k c) := by
 have hp := Pr.two (p := p);have hm : dg G ≠ 0 := λe => hG (zc.1 e);have hcr : 0 <= c ∧ c < p := by rw [hc]; exact ⟨Int.emod_nonneg _ (by omega), Int.emod_lt_of_pos _ (by omega)⟩
 have hql := h.ql;have hlead : cf G.l (dg G - 1) % p ≠ 0 := z1 (yA (by omega));have hinv := (xn (p := p) hlead).2.2
 have e1 : of p (q.set k c) = of p q + mono p c k := zI λi => by
  rw [ya, yv, ya, v9, yb (by omega)]
  by_cases hi : i = k
  ·subst hi; rw [if_pos rfl, if_pos rfl, h.qz i (by omega)]; simp
  ·rw [if_neg hi, if_neg hi]; simp
 have e2 : of p r' = of p r - mono p c k * G := zI λi => by
  rw [ya, kz, ya, vn, hr]
  by_cases hi : k <= i
  ·rw [if_pos hi]
   by_cases hi2 : i < k + dg G
   ·rw [if_pos ⟨hi, hi2⟩];rw [Int.emod_emod_of_dvd _ (Int.dvd_refl p), <- Int.sub_emod]
   ·rw [if_neg (by omega), z9 (f := G) (by omega)]; simp
  ·rw [if_neg (by omega), if_neg hi]; simp
 refine ⟨by rw [hl, h.rl], by simpa using hql, ?_, λj hj => ?_, λj => ?_, λj => ?_, λj hj => ?_⟩
 ·rw [e1, e2];exact comb 1 h.eq (zg [F, G, of p q, of p r, mono p c k] (by rfl))
 ·rw [hr]
  by_cases hj2 : j < k + dg G
  ·obtain rfl : j = k + dg G - 1 := by omega
   rw [if_pos (by omega), show k + dg G - 1 - k = dg G - 1 by omega, hc];generalize cf r (k + dg G - 1) = a;generalize yZ p (cf G.l (dg G - 1)) = v at hinv;generalize cf G.l (dg G - 1) = l at hinv;rw [Int.sub_emod, Int.mul_emod (a * v % p), Int.emod_emod_of_dvd _ (Int.dvd_refl p), <- Int.mul_emod, show a * v * l = a * (l * v) by rw [Int.mul_assoc, Int.mul_comm v l], Int.mul_emod a, hinv, Int.mul_one, Int.emod_emod_of_dvd _ (Int.dvd_refl p)];simp
  ·rw [if_neg (by omega)]; exact h.z j (by omega)
 ·rw [hr]
  split
  ·exact ⟨Int.emod_nonneg _ (by omega), Int.emod_lt_of_pos _ (by omega)⟩
  ·exact h.rr j
 ·rw [yb (by omega)]
  split
  ·exact hcr
  ·exact h.qr j
 ·rw [yb (by omega), if_neg (by omega)];exact h.qz j (by omega)

theorem DivI.fin {F G : Poly p} {nq : Nat} {r q : List Int} (h : DivI p F G nq 0 r q) (hG : G ≠ 0) : zw q = (quo F G).l ∧ zw r = (rem F G).l := by
 have hm : dg G ≠ 0 := λe => hG (zc.1 e)
 have h1 := zd3 (q := of p q) (r := of p r) h.eq (by
  have : dg (of p r) <= dg G - 1 := j8 λj hj => by rw [ya, h.z j (by omega)]; simp
  omega)
 rw [h1.1, h1.2];exact ⟨(zec h.qr).symm, (zec h.rr).symm⟩

theorem zfB {p : Int} {c : Int} {g : Nat -> Int} {r o : List Int} {k i n : Nat} (hn : o.length = n) (hi : k + i < n) (h : ∀ j, cf o j = if k <= j ∧ j < k + i then (cf r j - c * g (j - k)) % p else cf r j) :
  cf o (k + i) = cf r (k + i) ∧ ∀ j, cf (o.set (k + i) ((cf o (k + i) - c * g i) % p)) j = if k <= j ∧ j < k + (i + 1) then (cf r j - c * g (j - k)) % p else cf r j := by
 have h0 : cf o (k + i) = cf r (k + i) := by rw [h, if_neg (by omega)]
 refine ⟨h0, λj => ?_⟩;rw [yb (by omega), h0, h]
 by_cases hj : j = k + i
 ·subst hj; rw [if_pos rfl, if_pos (by omega), show k + i - k = i by omega]
 ·rw [if_neg hj]
  by_cases h2 : k <= j ∧ j < k + i
  ·rw [if_pos h2, if_pos (by omega)]
  ·rw [if_neg h2, if_neg (by omega)]

end Poly
namespace Poly
variable {p : Int} [SP p]

theorem zc2 {f a b : Poly p} (hf : f ≠ 0) (h : f ∣ a - b) : rem a f = rem b f := by
 obtain ⟨q, hq⟩ := h;have h1 := vz b f;have h2 := yl b hf;exact (zd3 (q := q + quo b f) (comb 1 hq (comb 1 h1 (zg [a, b, f, q, quo b f, rem b f] (by rfl)))) h2).2
theorem zfC (a f : Poly p) : f ∣ a - rem a f := ⟨quo a f, comb 1 (vz a f) (zg [a, f, quo a f, rem a f] (by rfl))⟩
theorem yC {a b f : Poly p} (hf : f ≠ 0) : rem (rem a f * b) f = rem (a * b) f := by
 refine (zc2 hf ?_).symm;obtain ⟨q, hq⟩ := zfC a f;exact ⟨q * b, comb b hq (zg [a, b, f, q, rem a f] (by rfl))⟩
theorem vC {a b f : Poly p} (hf : f ≠ 0) : rem (a * rem b f) f = rem (a * b) f := by
 have e : a * rem b f = rem b f * a := zg [a, rem b f] (by rfl);have e2 : b * a = a * b := zg [a, b] (by rfl);rw [e, yC hf, e2]
theorem zdA {a f : Poly p} (h : dg a < dg f) : rem a f = a := (zd3 (q := 0) (f := a) (g := f) (zg [a, f] (by rfl)) h).2
theorem zed {a f : Poly p} (hf : f ≠ 0) (n : Nat) : rem (rem a f ^ n) f = rem (a ^ n) f := by
 induction n with
 | zero => rfl
 | succ n ih => rw [ze, ze, vC hf, <- yC hf, ih, yC hf]
theorem zee (a : Poly p) (n : Nat) : a ^ n = (a * a) ^ (n / 2) * a ^ (n % 2) := by
 have h1 : (a * a) ^ (n / 2) = a ^ (2 * (n / 2)) := by
  rw [zhk]
  congr 1
  show a * a = 1 * a * a
  rw [CR.one_mul]
 rw [h1, <- zby]
 congr 1; omega
theorem zfD {o b f g : Poly p} (hf : f ≠ 0) {n : Nat} (h : rem (o * b ^ n) f = g) :
  rem ((if n % 2 = 1 then rem (o * b) f else o) * rem (b * b) f ^ (n / 2)) f = g := by
 rw [<- vC hf, zed hf, vC hf, <- h, zee b n]
 split
 ·rename_i hn
  have e1 : b ^ (n % 2) = b := by rw [hn]; exact CR.one_mul b
  have e2 : o * b * (b * b) ^ (n / 2) = o * ((b * b) ^ (n / 2) * b) := zg [o, b, (b * b) ^ (n / 2)] (by rfl);rw [yC hf, e1, e2]
 ·rename_i hn
  have e1 : b ^ (n % 2) = 1 := by rw [show n % 2 = 0 by omega]; rfl
  rw [e1, CR.mul_one]

theorem zjE {c : Int} (h0 : 0 < c) (h1 : c < p) : (con p c).l = [c] := by
 refine yu (con p c).ok.2 ?_ λi => ?_
 ·intro n hn;have : n = 0 := by simpa using hn.symm
  subst this;show c ≠ 0
  omega
 ·rw [yX, Int.emod_eq_of_lt (by omega) h1];cases i <;> simp [cf]
theorem zkP : (1 : Poly p).l = [1] := by
 have hp := Pr.two (p := p);exact zjE (c := 1) (by omega) (by omega)
theorem zjF {F : Poly p} (hF : F ≠ 0) : 0 < yZ p (cf F.l (dg F - 1)) ∧ yZ p (cf F.l (dg F - 1)) < p ∧ F * con p (yZ p (cf F.l (dg F - 1))) = mnc F := by
 have hp := Pr.two (p := p);have hd : dg F ≠ 0 := λe => hF (zc.1 e);have hl : cf F.l (dg F - 1) % p ≠ 0 := z1 (yA (by omega));obtain ⟨h1, h2, h3⟩ := xn hl;generalize yZ p (cf F.l (dg F - 1)) = c at h1 h2 h3;have hc0 : c ≠ 0 := λe => by rw [e, Int.mul_zero, Int.zero_emod] at h3; omega
 have hcm : c % p ≠ 0 := by rw [Int.emod_eq_of_lt h1 h2]; exact hc0
 refine ⟨by omega, h2, ?_⟩
 have hm : Mon (con p c * F) := by
  refine ⟨mul_ne (zd7 hcm) hF, ?_⟩;rw [zd6 (zd7 hcm) hF, zjm hcm, Int.emod_eq_of_lt h1 h2, Int.mul_comm];exact h3
 rw [zk2 hm];exact zg [F, con p c] (by rfl)
theorem zif (F G : Poly p) (hF : F ≠ 0) : dg (gcd F G) <= dg F := zC (y9 F G) hF
end Poly

theorem zig {p : Int} {n m a0 : Nat} {R R' : Nat -> Nat -> Int} {s b : Int} (hab : s * b % p = 1) (ha : a0 < m) (h1 : ∀ x, x < n -> R' a0 x % p = (s * R a0 x) % p)
  (h2 : ∀ i, i < m -> i ≠ a0 -> ∃ t : Int, ∀ x, x < n -> R' i x % p = (R i x - t * (s * R a0 x)) % p) (c : Nat -> Int) : Sol p n m R' c ↔ Sol p n m R c := by
 constructor
 ·intro h
  have hat : vp p n (R a0) c := by
   have h3 := je b (h a0 ha);refine (xy (λx hx => ?_) (λ_ _ => rfl)).1 h3;rw [yj b (h1 x hx), <- Int.mul_assoc, Int.mul_comm b s, Int.mul_emod, hab, Int.one_mul, zO]
  intro k hk
  by_cases he : k = a0
  ·subst he; exact hat
  ·obtain ⟨t, ht⟩ := h2 k hk he;have h3 := zdw t (h k hk) (je s hat);refine (xy (λx hx => ?_) (λ_ _ => rfl)).1 h3;rw [Int.add_emod, ht x hx, <- Int.add_emod]
   congr 1; omega
 ·intro h k hk
  by_cases he : k = a0
  ·subst he;exact (xy (λx hx => h1 x hx) (λ_ _ => rfl)).2 (je s (h k hk))
  ·obtain ⟨t, ht⟩ := h2 k hk he;have h3 := zdw (-t) (h k hk) (je s (h a0 ha));refine (xy (λx hx => ?_) (λ_ _ => rfl)).2 h3;rw [ht x hx]
   congr 1; rw [Int.neg_mul]; omega

namespace Poly
variable {p : Int} [SP p]

def zaK (L : List (Poly p)) (w : Poly p) : Prop := ∀ C : Poly p -> Prop, C 0 -> (∀ a b, C a -> C b -> C (a + b)) -> (∀ (c : Int) a, C a -> C (con p c * a)) -> (∀ a ∈ L, C a) -> C w

theorem zjG {L : List (Poly p)} {g : Nat -> Poly p} {n : Nat} (h : ∀ i, i < n -> zaK L (g i)) : zaK L (zZ g n) := by
 intro C h0 ha hc hL
 induction n with
 | zero => exact h0
 | succ n ih => exact ha _ _ (ih λi hi => h i (by omega)) (h n (by omega) C h0 ha hc hL)

def za7 (p : Int) [SP p] (n : Nat) (piv : List Nat) (R : Nat -> Nat -> Int) (col : Nat) : Poly p := of p (mkL n (x6 p piv R col))
theorem zae (n : Nat) (piv : List Nat) (R : Nat -> Nat -> Int) (col x : Nat) : cf (za7 p n piv R col).l x = if x < n then x6 p piv R col x % p else 0 := by
 rw [za7, ya, y8]; split <;> simp

def xd (p : Int) [SP p] (n : Nat) (piv : List Nat) (R : Nat -> Nat -> Int) (m : Nat) : List (Poly p) := ((List.range m).filter λc => !piv.contains c).map (za7 p n piv R)
theorem zcA (n : Nat) (piv : List Nat) (R : Nat -> Nat -> Int) (m : Nat) : xd p n piv R (m + 1) = if m ∈ piv then xd p n piv R m else xd p n piv R m ++ [za7 p n piv R m] := by
 unfold xd;rw [List.range_succ, List.filter_append]
 by_cases h : m ∈ piv
 ·simp [h]
 ·simp [h]

structure Basis (p : Int) [SP p] (n : Nat) (R : Nat -> Nat -> Int) (L : List (Poly p)) : Prop where
 few : L.length <= n
 sol : ∀ w ∈ L, dg w <= n ∧ Sol p n n R (cf w.l)
 span : ∀ w : Poly p, dg w <= n -> Sol p n n R (cf w.l) -> zaK L w

theorem Steps.basis {n : Nat} {piv : List Nat} {R R0 : Nat -> Nat -> Int} (h : Steps p n n piv R) (he : ∀ c, Sol p n n R c ↔ Sol p n n R0 c) : Basis p n R0 (xd p n piv R n) := by
 refine ⟨?_, ?_, ?_⟩
 ·unfold xd;rw [List.length_map];exact Nat.le_trans (List.length_filter_le _ _) (by simp)
 ·intro w hw;obtain ⟨col, hc, rfl⟩ := List.mem_map.1 hw;simp only [List.mem_filter, List.mem_range, Bool.not_eq_true', List.contains_eq_mem, decide_eq_false_iff_not] at hc
  refine ⟨j8 λi hi => by rw [zae, if_neg (by omega)], (he _).1 λk hk => ?_⟩;refine (xy (λ_ _ => rfl) (λi hi => ?_)).1 (h.free hc.1 hc.2 k hk);rw [zae, if_pos hi, zO]
 ·intro w hw hs;have h1 := h.all ((he _).2 hs)
  have e : w = zZ (λcol => con p (if col ∈ piv then 0 else cf w.l col) * za7 p n piv R col) n := zI λx => by
   rw [zd9 (λcol => if col ∈ piv then 0 else cf w.l col)]
   by_cases hx : x < n
   ·rw [<- vw w x, h1 x hx];refine yh p λcol hcol => ?_;rw [zae, if_pos hx]
    split
    ·simp
    ·rw [Int.mul_comm, xb _ (zO p _)]
   ·rw [z9 (by omega)];rw [vS λi _ => by rw [zae, if_neg hx, Int.zero_mul]]; simp
  rw [e];refine zjG λcol hcol => ?_;intro C h0 ha hc hL
  by_cases hp : col ∈ piv
  ·rw [if_pos hp, yK, CR.zero_mul]; exact h0
  ·rw [if_neg hp];refine hc _ _ (hL _ (List.mem_map.2 ⟨col, ?_, rfl⟩));simp [hcol, hp]

structure Ker (f : Poly p) (L : List (Poly p)) : Prop where
 few : L.length <= dg f
 ber : ∀ w ∈ L, Ber f w ∧ dg w < dg f
 span : ∀ w : Poly p, dg w < dg f -> Ber f w -> zaK L w
noncomputable def zaL (f : Poly p) (k i : Nat) : Int := cf (jM f i).l k
theorem Basis.ker {f : Poly p} {n : Nat} {L : List (Poly p)} (hf : dg f = n + 1) (h : Basis p n (zaL f) L) : Ker f L := by
 have hb : ∀ w : Poly p, dg w <= n -> (Ber f w ↔ Sol p n n (zaL f) (cf w.l)) := λw hw => zea hf hw;exact ⟨by have := h.few; omega, λw hw => ⟨(hb w (h.sol w hw).1).2 (h.sol w hw).2, by have := (h.sol w hw).1; omega⟩, λw hw hB => h.span w (by omega) ((hb w (by omega)).1 hB)⟩

theorem zjH {L : List (Poly p)} {a : Poly p} (h : ∀ w ∈ L, ∃ s : Int, a ∣ w - con p s) {w : Poly p} (hw : zaK L w) : ∃ s : Int, a ∣ w - con p s := by
 refine hw (λw => ∃ s : Int, a ∣ w - con p s) ⟨0, ?_⟩ ?_ ?_ h
 ·rw [yK, CR.sub_self]; exact dvd_zero _
 ·rintro x y ⟨s, q, hq⟩ ⟨t, r, hr⟩;refine ⟨s + t, q + r, ?_⟩;rw [<- zd5];exact comb 1 hq (comb 1 hr (zg [x, y, a, q, r, con p s, con p t] (by rfl)))
 ·rintro c x ⟨s, q, hq⟩;refine ⟨c * s, con p c * q, ?_⟩;rw [<- zd4];exact comb (con p c) hq (zg [x, a, q, con p c, con p s] (by rfl))

theorem Parts.done {f : Poly p} {P L : List (Poly p)} (hf : f ≠ 0) (hs : Sqf f) (hk : Ker f L) (hp : Parts f P) (hc : ∀ a ∈ P, ∀ w ∈ L, ∃ s : Int, a ∣ w - con p s) : kF f P :=
 hp.irrs λa ha => zft hf hs (hp.each a ha).2.2 (hp.each a ha).2.1 λw hw hb => zjH (hc a ha) (hk.span w hw hb)

structure Cut (f : Poly p) (B P : List (Poly p)) : Prop where
 parts : Parts f P
 con : ∀ a ∈ P, ∀ w ∈ B, ∃ s : Int, a ∣ w - Poly.con p s
theorem Cut.start {f : Poly p} (hm : Mon f) (h2 : 2 <= dg f) : Cut f [] [f] := ⟨Parts.start hm h2, by simp⟩
theorem Cut.next {f v : Poly p} {B P : List (Poly p)} (h : Cut f B P) (hv : Ber f v) : Cut f (B ++ [v]) (zq v P) := by
 obtain ⟨h1, h2⟩ := h.parts.cut hv;refine ⟨h1, λa ha w hw => ?_⟩;obtain ⟨h3, a0, ha0, h4⟩ := h2 a ha;rcases List.mem_append.1 hw with hw | hw
 ·obtain ⟨s, hs⟩ := h.con a0 ha0 w hw;exact ⟨s, zo h4 hs⟩
 ·simp at hw; subst hw; exact h3
theorem Cut.done {f : Poly p} {L P : List (Poly p)} (hf : f ≠ 0) (hs : Sqf f) (hk : Ker f L) (h : Cut f L P) : kF f P := Parts.done hf hs hk h.parts h.con

theorem X_l : (X p).l = [0, 1] := by
 have hp := Pr.two (p := p);refine yu (X p).ok.2 ?_ λi => ?_
 ·intro n hn;have : n = 1 := by simpa using hn.symm
  subst this;show (1 : Int) ≠ 0
  omega
 ·rw [v9, Int.emod_eq_of_lt (by omega) (by omega)]
  match i with
  | 0 => rfl
  | 1 => rfl
  | i + 2 => rw [if_neg (by omega), zV (by simp)]
theorem zkt (i a : Nat) : cf (X p ^ i).l a = if a = i then 1 else 0 := by
 have hp := Pr.two (p := p);rw [zcu, Nat.one_mul, v9, Int.emod_eq_of_lt (by omega) (by omega)]
theorem zef (f : Poly p) (a i : Nat) : zaL f a i = (cf (rem (X p ^ (p.toNat * i)) f).l a - if a = i then 1 else 0) % p := by
 unfold zaL jM;rw [kz, zkt]

end Poly
namespace Poly
variable {p : Int} [SP p]

def zcB : List (Poly p) -> Poly p
 | [] => 1
 | a :: l => a * zcB l
theorem zfE {a : Poly p} : ∀ {l : List (Poly p)}, (∀ b ∈ l, Cop a b) -> Cop a (zcB l)
 | [], _ => (zkl a).symm
 | b :: l, h => by
  have h1 := h b (by simp);have h2 := zfE (l := l) λc hc => h c (by simp [hc]);exact (h1.symm.mul h2.symm).symm
theorem zcC {f : Poly p} (hf : f ≠ 0) : ∀ {l : List (Poly p)}, (∀ a ∈ l, a ∣ f) -> l.Pairwise (λa b => ∀ h, Irr h -> h ∣ a -> h ∣ b -> False) -> zcB l ∣ f
 | [], _, _ => zbv f
 | a :: l, h, hp => by
  rw [List.pairwise_cons] at hp;have h1 := zcC hf (l := l) (λb hb => h b (by simp [hb])) hp.2;have ha := h a (by simp);exact (zfE λb hb => kD (zcm ha hf) (hp.1 b hb)).mul_dvd ha h1
theorem zeg : ∀ {l : List (Poly p)}, (∀ a ∈ l, 2 <= dg a) -> l.length + 1 <= dg (zcB l)
 | [], _ => by rw [zcB, xm]; simp
 | a :: l, h => by
  have h1 := zeg (l := l) λb hb => h b (by simp [hb]);have h2 := h a (by simp);have ha : a ≠ 0 := λe => by rw [e, zu] at h2; omega
  have hl : zcB l ≠ 0 := λe => by rw [e, zu] at h1; omega
  have := yW ha hl;rw [zcB, List.length_cons]; omega
theorem Parts.few {f : Poly p} {P : List (Poly p)} (h : Parts f P) (hf : f ≠ 0) : P.length + 1 <= dg f :=
 Nat.le_trans (zeg λa ha => (h.each a ha).2.1) (zC (zcC hf (λa ha => (h.each a ha).2.2) h.apart) hf)
theorem kF.few {f : Poly p} {P : List (Poly p)} (h : kF f P) (hf : f ≠ 0) : P.length + 1 <= dg f := by
 refine Nat.le_trans (zeg (l := P) λa ha => ((h.2 a).1 ha).1.1) (zC (zcC hf (λa ha => ((h.2 a).1 ha).2.2) ?_) hf);refine List.pairwise_iff_getElem.2 λi j hi hj hij q hq h1 h2 => ?_;have ha := (h.2 _).1 (List.getElem_mem hi);have hb := (h.2 _).1 (List.getElem_mem hj);have e1 := kB (jd hq).1 ha.1 (jd hq).2 ha.2.1 (zo (zS q).1 h1);have e2 := kB (jd hq).1 hb.1 (jd hq).2 hb.2.1 (zo (zS q).1 h2);exact List.pairwise_iff_getElem.1 h.1 i j hi hj hij (e1.symm.trans e2)

theorem vW (v a : Poly p) (n : Nat) : z8 v a (n + 1) = z8 v a n ++ zc0 v a n := by simp [z8, List.range_succ]
theorem zjI (v a : Poly p) {n m : Nat} (h : n <= m) : (z8 v a n).length <= (z8 v a m).length := by
 induction m with
 | zero => obtain rfl : n = 0 := by omega
           exact Nat.le_refl _
 | succ m ih =>
   rcases Nat.eq_or_lt_of_le h with rfl | h'
   · exact Nat.le_refl _
   · have := ih (by omega)
     rw [vW, List.length_append]; omega
theorem za8 (v : Poly p) {P : List (Poly p)} {j : Nat} (h : j < P.length) : zq v (P.take (j + 1)) = zq v (P.take j) ++ z8 v (P.getD j 0) p.toNat := by
 unfold zq;rw [List.take_add_one, List.flatMap_append, List.getElem?_eq_getElem h, List.getD_eq_getElem?_getD, List.getElem?_eq_getElem h];simp
theorem zgD (v : Poly p) (P : List (Poly p)) (j : Nat) : (zq v (P.take j)).length <= (zq v P).length := by
 conv => rhs; rw [<- List.take_append_drop j P]
 unfold zq;rw [List.flatMap_append, List.length_append]; omega
theorem zku (v : Poly p) {P : List (Poly p)} {j a : Nat} (h : j < P.length) (ha : a <= p.toNat) : (zq v (P.take j) ++ z8 v (P.getD j 0) a).length <= (zq v P).length := by
 have h1 := zgD v P (j + 1);rw [za8 v h, List.length_append] at h1;have h2 := zjI v (P.getD j 0) ha;rw [List.length_append]; omega

theorem zdB (v : Poly p) (a : Int) : nrm p (zw (jJ v.l [-a])) = (v - con p a).l := by
 rw [zcz];show (of p (jJ v.l [-a])).l = _
 congr 1
 refine zI λi => ?_;rw [ya, vm, kz, yX];cases i with
 | zero => rw [if_pos rfl, yg]; rw [Int.sub_emod, Int.emod_emod_of_dvd _ (Int.dvd_refl p), <- Int.sub_emod]; congr 1
 | succ i => rw [if_neg (by omega), zy, yG]; simp
theorem zfF {L : List (Poly p)} {j : Nat} (h : j < L.length) : L.getD j 0 ∈ L := by
 rw [List.getD_eq_getElem?_getD, List.getElem?_eq_getElem h]; exact List.getElem_mem h
theorem zih {L : List (Poly p)} {j : Nat} (h : j < L.length) : L.take (j + 1) = L.take j ++ [L.getD j 0] := by
 rw [List.take_add_one, List.getD_eq_getElem?_getD, List.getElem?_eq_getElem h]; rfl

end Poly
namespace Poly
variable {p : Int} [SP p]

theorem zkv {h : Poly p} (hm : Mon h) (n : Nat) : Mon (h ^ n) := by
 induction n with
 | zero => rw [zt]; exact zhh
 | succ n ih => rw [ze]; exact ih.mul hm
theorem Mon.left {f g : Poly p} (hf : Mon g) (h : Mon (f * g)) : Mon f := by
 rw [xM] at h; exact hf.right h

structure Peel (f : Poly p) (P : List (Poly p)) (k : Nat) (r : Poly p) (L : List (Poly p × Nat)) : Prop where
 mon : Mon r
 len : L.length = k
 le : k <= P.length
 cut : ∃ s, f = r * s ∧ ∀ h, Irr h -> Mon h -> h ∣ s -> ∃ j, j < k ∧ h = P.getD j 0
 fac : ∀ j, j < k -> (L.getD j (0, 0)).1 = P.getD j 0 ∧ 1 <= (L.getD j (0, 0)).2 ∧ zE (P.getD j 0) (L.getD j (0, 0)).2 f
 out : ∀ j, j < k -> ¬ P.getD j 0 ∣ r
 rest : ∀ h e, Irr h -> Mon h -> (∀ j, j < k -> h ≠ P.getD j 0) -> (zE h e f ↔ zE h e r)

theorem Peel.start {f : Poly p} (hm : Mon f) (P : List (Poly p)) : Peel f P 0 f [] :=
 ⟨hm, rfl, Nat.zero_le _, ⟨1, by exact zg [f] (by rfl), λh hi _ hd => (hi.not_unit xm hd).elim⟩, λj hj => absurd hj (by omega), λj hj => absurd hj (by omega), λ_ _ _ _ _ => Iff.rfl⟩

theorem kG {P : List (Poly p)} (h : P.Nodup) {i j : Nat} (hi : i < P.length) (hj : j < P.length) (e : P.getD i 0 = P.getD j 0) : i = j := by
 rw [List.getD_eq_getElem?_getD, List.getD_eq_getElem?_getD, List.getElem?_eq_getElem hi, List.getElem?_eq_getElem hj] at e;exact (List.getElem_inj h).1 (by simpa using e)

theorem zaM {α : Type} {d x : α} {L : List α} {j : Nat} : (L ++ [x]).getD j d = if j < L.length then L.getD j d else if j = L.length then x else d := by
 simp only [List.getD_eq_getElem?_getD, List.getElem?_append]
 by_cases h : j < L.length
 ·simp [h]
 ·by_cases h2 : j = L.length
  ·simp [h2]
  ·rw [if_neg h, if_neg h, if_neg h2, List.getElem?_eq_none (by simp; omega)]; rfl

theorem Peel.step {f r r' : Poly p} {P : List (Poly p)} {k n : Nat} {L : List (Poly p × Nat)} (h : Peel f P k r L) (hP : P.Nodup) (hk : k < P.length) (hi : Irr (P.getD k 0)) (hm : Mon (P.getD k 0)) (hd : P.getD k 0 ∣ f)
  (he : r = P.getD k 0 ^ n * r') (hn : ¬ P.getD k 0 ∣ r') : Peel f P (k + 1) r' (L ++ [(P.getD k 0, n)]) := by
 have hr' : r' ∣ r := ⟨P.getD k 0 ^ n, by rw [he]; exact xM _ _⟩
 have hmult : zE (P.getD k 0) n r := ⟨r', he, hn⟩
 have hmf : zE (P.getD k 0) n f := (h.rest _ _ hi hm λj hj e => by have := kG hP hk (by have := h.le; omega) e; omega).2 hmult
 have hn1 : 1 <= n := by
  rcases Nat.eq_zero_or_pos n with h0 | h0
  ·subst h0; exact absurd hd (z7.1 hmf)
  ·exact h0
 refine ⟨(zkv hm n).right (he ▸ h.mon), by simp [h.len], hk, ?_, λj hj => ?_, λj hj => ?_, λq e hq hqm hqn => ?_⟩
 ·obtain ⟨s, h1, h2⟩ := h.cut;refine ⟨P.getD k 0 ^ n * s, by rw [h1, he]; exact zg [P.getD k 0 ^ n, r', s] (by rfl), λq hq hqm hqd => ?_⟩;rcases hq.prime hqd with h3 | h3
  ·exact ⟨k, by omega, kB hq hi hqm hm (hq.pow h3)⟩
  ·obtain ⟨j, hj, e⟩ := h2 q hq hqm h3;exact ⟨j, by omega, e⟩
 ·rw [zaM]
  by_cases hjk : j = k
  ·subst hjk;rw [if_neg (by have := h.len; omega), if_pos h.len.symm];exact ⟨rfl, hn1, hmf⟩
  ·rw [if_pos (by have := h.len; omega)];exact h.fac j (by omega)
 ·by_cases hjk : j = k
  ·subst hjk; exact hn
  ·exact λhdj => h.out j (by omega) (zo hdj hr')
 ·rw [h.rest q e hq hqm λj hj => hqn j (by omega)];have hne : ¬ q ∣ P.getD k 0 := λhd' => hqn k (by omega) (kB hq hi hqm hm hd');have h0 : zE q 0 (P.getD k 0 ^ n) := z7.2 λhd' => hne (hq.pow hd');have r0 : r' ≠ 0 := λe0 => h.mon.1 (by rw [he, e0]; exact zg [P.getD k 0 ^ n] (by rfl))
  have up : ∀ e', zE q e' r' -> zE q e' r := λe' h1 => by
   have := h0.mul hq h1;rw [Nat.zero_add] at this;rw [he]; exact this
  refine ⟨λh1 => ?_, up e⟩;obtain ⟨e', h2⟩ := xz hq.1 _ r' r0 (Nat.le_refl _);rw [h1.unique hq.ne (up e' h2)]; exact h2

theorem zho {f g : Poly p} (hf : f ≠ 0) (h : ∀ h, Irr h -> Mon h -> h ∣ f -> h ∣ g -> False) : Cop f g :=
 kD hf λq hq h1 h2 => by
  obtain ⟨hi, hm⟩ := jd hq;exact h _ hi hm (zo (zS q).1 h1) (zo (zS q).1 h2)

theorem Peel.fin {f r : Poly p} {P : List (Poly p)} {L : List (Poly p × Nat)} (h : Peel f P P.length r L) (_hf : Mon f) {q c : Poly p} (hq : kF q P) (he : f = q * c) (hc : c ∣ der f) :
  der r = 0 ∧ ∀ x, j9 f x ↔ x ∈ L ∨ j9 r x := by
 have hr0 := h.mon.1
 have hidx : ∀ {g : Poly p}, g ∈ P -> ∃ j, j < P.length ∧ g = P.getD j 0 := λ{g} hg => by
  obtain ⟨j, hj, e⟩ := List.getElem_of_mem hg;exact ⟨j, hj, by rw [List.getD_eq_getElem?_getD, List.getElem?_eq_getElem hj]; exact e.symm⟩
 constructor
 ·obtain ⟨s, h1, h2⟩ := h.cut;refine zjs he h1 hr0 hc (zho hr0 λg hg hgm h3 h4 => ?_) (zho hr0 λg hg hgm h3 h4 => ?_)
  ·obtain ⟨j, hj, rfl⟩ := hidx ((hq.2 g).2 ⟨hg, hgm, h4⟩);exact h.out j hj h3
  ·obtain ⟨j, hj, rfl⟩ := h2 g hg hgm h4;exact h.out j hj h3
 ·have hL : ∀ x, x ∈ L ↔ ∃ j, j < P.length ∧ x = L.getD j (0, 0) := λx => by
   constructor
   ·intro hx;obtain ⟨j, hj, e⟩ := List.getElem_of_mem hx;exact ⟨j, by have := h.len; omega, by rw [List.getD_eq_getElem?_getD, List.getElem?_eq_getElem hj]; exact e.symm⟩
   ·rintro ⟨j, hj, rfl⟩;have hj' : j < L.length := by have := h.len; omega
    rw [List.getD_eq_getElem?_getD, List.getElem?_eq_getElem hj'];exact List.getElem_mem hj'
  rintro ⟨g, e⟩;rw [hL]
  constructor
  ·rintro ⟨h1, h2, h3, h4⟩
   by_cases hg : ∃ j, j < P.length ∧ g = P.getD j 0
   ·obtain ⟨j, hj, rfl⟩ := hg;obtain ⟨h5, h6, h7⟩ := h.fac j hj;refine .inl ⟨j, hj, ?_⟩;have : e = (L.getD j (0, 0)).2 := h4.unique h1.ne h7;exact Prod.ext h5.symm this
   ·exact .inr ⟨h1, h2, h3, (h.rest g e h1 h2 λj hj e' => hg ⟨j, hj, e'⟩).1 h4⟩
  ·rintro (⟨j, hj, hx⟩ | ⟨h1, h2, h3, h4⟩)
   ·obtain ⟨h5, h6, h7⟩ := h.fac j hj;rw [hx]
    have hmem : P.getD j 0 ∈ P := by
     rw [List.getD_eq_getElem?_getD, List.getElem?_eq_getElem hj]; exact List.getElem_mem hj
    obtain ⟨h8, h9, _⟩ := (hq.2 _).1 hmem;exact ⟨by rw [h5]; exact h8, by rw [h5]; exact h9, h6, by rw [h5]; exact h7⟩
   ·refine ⟨h1, h2, h3, (h.rest g e h1 h2 λj hj e' => ?_).2 h4⟩;have hd : g ∣ r := h4.dvd h3;exact h.out j hj (e' ▸ hd)

theorem zaf {f g : Poly p} (h : f ∣ g) (h' : g ∣ f) (hf : f ≠ 0) {q : Poly p} (hq : Irr q) (e : Nat) (h1 : zE q e f) : zE q e g := by
 obtain ⟨u, rfl⟩ := h;obtain ⟨v, hv⟩ := h'
 have huv : u * v = 1 := by
  have h3 : f * (u * v) = f * 1 := by
   have : f * (u * v) = f * u * v := by exact zg [f, u, v] (by rfl)
   rw [this, <- hv]; exact zg [f] (by rfl)
  exact zcl hf h3
 have hu : ¬ q ∣ u := λhd => by
  have h4 : q ∣ u * v := by obtain ⟨w, hw⟩ := hd; exact ⟨w * v, by rw [hw]; exact zg [q, w, v] (by rfl)⟩
  rw [huv] at h4;exact hq.not_unit xm h4
 have := h1.mul hq (z7.2 hu)
 rwa [Nat.add_zero] at this
theorem zdC {f : Poly p} (hf : f ≠ 0) (x : Poly p × Nat) : j9 (mnc f) x ↔ j9 f x := by
 obtain ⟨h1, h2⟩ := zS f;exact ⟨λ⟨a, b, c, d⟩ => ⟨a, b, c, zaf h1 h2 (vo hf).1 a _ d⟩, λ⟨a, b, c, d⟩ => ⟨a, b, c, zaf h2 h1 hf a _ d⟩⟩

theorem kH {f : Poly p} (h : dg f = 1) (x : Poly p × Nat) : ¬ j9 f x := λ⟨a, _, c, d⟩ => a.not_unit h (d.dvd c)

theorem zaN {g f : Poly p} (hg : g ≠ 0) {n : Nat} (hn : 1 <= n) (he : g ^ n = f) (x : Poly p × Nat) : j9 f x ↔ ∃ e, j9 g (x.1, e) ∧ x.2 = n * e := by
 subst he
 constructor
 ·rintro ⟨a, b, c, d⟩;obtain ⟨e, h1⟩ := xz a.1 _ g hg (Nat.le_refl _);have h2 := h1.pow a n;have h3 := d.unique a.ne h2;refine ⟨e, ⟨a, b, ?_, h1⟩, by rw [h3, Nat.mul_comm]⟩;rcases Nat.eq_zero_or_pos e with h4 | h4
  ·subst h4; omega
  ·exact h4
 ·rintro ⟨e, ⟨a, b, c, d⟩, h⟩;refine ⟨a, b, ?_, ?_⟩
  ·rw [h]; exact Nat.mul_pos hn c
  ·rw [h, Nat.mul_comm]; exact d.pow a n

theorem zdD {f : Poly p} (hm : Mon f) (hd : der f = 0) {l : List Int} {n : Nat} (hl : l.length = n) (hc : ∀ i, i < n -> cf l i = cf f.l (i * p.toNat)) (h1 : dg f <= n * p.toNat) (h2 : n * p.toNat < dg f + p.toNat) :
  ∃ g : Poly p, g.l = l ∧ Mon g ∧ g ^ p.toNat = f ∧ dg g <= dg f ∧ (2 <= dg f -> dg g < dg f) := by
 have hp := Pr.two (p := p);have hp2 : 2 <= p.toNat := by omega
 have hcf : ∀ i, cf l i = cf f.l (i * p.toNat) := λi => by
  by_cases hi : i < n
  ·exact hc i hi
  ·rw [zV (by omega), z9];have : n * p.toNat <= i * p.toNat := Nat.mul_le_mul_right _ (by omega);omega
 have hof : ∀ i, cf (of p l).l i = cf f.l (i * p.toNat) := λi => by
  rw [ya, hcf, f.ok.cf_mod]
 have hpow := zjv hd hof;have hf0 := hm.1
 have hd1 : 1 <= dg f := by
  rcases Nat.eq_zero_or_pos (dg f) with h | h
  ·exact absurd (zc.1 h) hf0
  ·exact h
 have hn1 : 1 <= n := by
  rcases Nat.eq_zero_or_pos n with h | h
  ·subst h; omega
  ·exact h
 -- its last coefficient
 obtain ⟨m, rfl⟩ : ∃ m, n = m + 1 := ⟨n - 1, by omega⟩
 have hlast : dg f = m * p.toNat + 1 := by
  have hne : cf f.l (dg f - 1) ≠ 0 := by have := yA (f := f) (n := dg f - 1) (by omega); exact this
  have hk : (dg f - 1) % p.toNat = 0 := by
   refine Classical.byContradiction λhk => hne ?_;have e := zju (of p l) (dg f - 1)
   rwa [hpow, if_neg hk] at e
  have h3 : dg f - 1 = (dg f - 1) / p.toNat * p.toNat := (Nat.div_mul_cancel (Nat.dvd_of_mod_eq_zero hk)).symm;generalize (dg f - 1) / p.toNat = t at h3
  have h4 : t = m := by
   have e1 : (m + 1) * p.toNat = m * p.toNat + p.toNat := Nat.succ_mul _ _;rcases Nat.lt_trichotomy t m with h | h | h
   ·have : (t + 1) * p.toNat <= m * p.toNat := Nat.mul_le_mul_right _ h;have e2 : (t + 1) * p.toNat = t * p.toNat + p.toNat := Nat.succ_mul _ _;omega
   ·exact h
   ·have : (m + 1) * p.toNat <= t * p.toNat := Nat.mul_le_mul_right _ h;omega
  subst h4; omega
 have hone : cf (of p l).l m = 1 := by
  rw [hof];have := hm.2;unfold lc at this;rw [hlast] at this
  simpa using this
 have hdg : dg (of p l) = m + 1 := by
  have h5 := zkN (f := of p l) (n := m) (by rw [hone]; decide);have h6 := kY (p := p) l;omega
 refine ⟨of p l, zaa (by show dg (of p l) = _; omega) λj hj => ?_, ⟨λe => ?_, ?_⟩, hpow, ?_, λh => ?_⟩
 ·rw [hof, hcf]
 ·rw [e, zu] at hdg; omega
 ·unfold lc; rw [hdg]; exact hone
 ·have : m * 2 <= m * p.toNat := Nat.mul_le_mul_left _ hp2;omega
 ·have : m * 2 <= m * p.toNat := Nat.mul_le_mul_left _ hp2
  have : 1 <= m := by
   rcases Nat.eq_zero_or_pos m with h0 | h0
   ·subst h0; simp at hlast; omega
   ·exact h0
  omega

end Poly
namespace Poly
variable {p : Int} [SP p]

def vD (f : Poly p) (G : List (Poly p × Nat)) : Prop := (G.map Prod.fst).Nodup ∧ ∀ x, x ∈ G ↔ j9 f x

theorem vD.few {f : Poly p} {G : List (Poly p × Nat)} (h : vD f G) (hf : f ≠ 0) : G.length + 1 <= dg f := by
 have : kF f (G.map Prod.fst) := ⟨h.1, λg => ?_⟩
 ·have := this.few hf
  simpa using this
 ·rw [List.mem_map]
  constructor
  ·rintro ⟨x, hx, rfl⟩;obtain ⟨a, b, c, d⟩ := (h.2 x).1 hx;exact ⟨a, b, d.dvd c⟩
  ·rintro ⟨a, b, c⟩;obtain ⟨e, he⟩ := xz a.1 _ f hf (Nat.le_refl _);refine ⟨(g, e), (h.2 _).2 ⟨a, b, ?_, he⟩, rfl⟩;rcases Nat.eq_zero_or_pos e with h0 | h0
   ·subst h0; exact absurd c (z7.1 he)
   ·exact h0
theorem jN.facs {f : Poly p} {F : List (Poly p × Nat)} (h : jN f F) : vD f F :=
 ⟨by
  refine List.Pairwise.map _ (R := λx y : Poly p × Nat => ltP x.1 y.1) (λx y hxy e => zcx y.1 (by rw [e] at hxy; exact hxy)) h.1, h.2⟩

theorem vD.unit {r : Poly p} (h : dg r = 1) : vD r [] := ⟨List.nodup_nil, λx => ⟨λhx => by simp at hx, λhx => (kH h x hx).elim⟩⟩

def up (n : Nat) (F : List (Poly p × Nat)) : List (Poly p × Nat) := F.map λx => (x.1, n * x.2)
theorem vD.up {g f : Poly p} (hg : g ≠ 0) {n : Nat} (hn : 1 <= n) (he : g ^ n = f) {F : List (Poly p × Nat)} (h : vD g F) : vD f (up n F) := by
 refine ⟨?_, λx => ?_⟩
 ·have : (Poly.up n F).map Prod.fst = F.map Prod.fst := by unfold Poly.up; rw [List.map_map]; rfl
  rw [this]; exact h.1
 ·rw [zaN hg hn he];unfold Poly.up;rw [List.mem_map]
  constructor
  ·rintro ⟨y, hy, rfl⟩;exact ⟨y.2, (h.2 _).1 hy, rfl⟩
  ·rintro ⟨e, h1, h2⟩;exact ⟨(x.1, e), (h.2 _).2 h1, Prod.ext rfl h2.symm⟩

theorem Peel.fstL {f r : Poly p} {P : List (Poly p)} {L : List (Poly p × Nat)} (h : Peel f P P.length r L) : L.map Prod.fst = P := by
 refine List.ext_getElem (by simpa using h.len) λi h1 h2 => ?_;have h3 := (h.fac i h2).1;have h1' : i < L.length := by simpa using h1
 rw [List.getD_eq_getElem?_getD, List.getD_eq_getElem?_getD, List.getElem?_eq_getElem h1', List.getElem?_eq_getElem h2] at h3
 simpa using h3

theorem Peel.facs {f r : Poly p} {P : List (Poly p)} {L F : List (Poly p × Nat)} (h : Peel f P P.length r L) (hf : Mon f) {q c : Poly p} (hq : kF q P) (he : f = q * c) (hc : c ∣ der f) (hF : vD r F) : vD f (L ++ F) := by
 obtain ⟨_, h2⟩ := h.fin hf hq he hc;refine ⟨?_, λx => by rw [h2, List.mem_append, hF.2]⟩;rw [List.map_append, h.fstL];refine List.nodup_append.2 ⟨hq.1, hF.1, λa ha b hb e => ?_⟩;subst e;obtain ⟨x, hx, rfl⟩ := List.mem_map.1 hb;obtain ⟨a1, a2, a3, a4⟩ := (hF.2 x).1 hx;obtain ⟨j, hj, hje⟩ := List.getElem_of_mem ha;refine h.out j hj ?_;rw [List.getD_eq_getElem?_getD, List.getElem?_eq_getElem hj];show P[j] ∣ r
 rw [hje]; exact a4.dvd a3

theorem vD.mnc {f : Poly p} (hf : f ≠ 0) {G : List (Poly p × Nat)} (h : vD (mnc f) G) : vD f G := ⟨h.1, λx => by rw [h.2, zdC hf]⟩

theorem zkQ (f : Poly p) : nrm p (mkL (f.l.length - 1) (dv (cf f.l))) = (der f).l := by
 refine yu (vQ _ _) (der f).ok.2 λj => ?_;rw [zaE, zaF, y8]
 by_cases h : j < f.l.length - 1
 ·rw [if_pos h]
 ·rw [if_neg h];unfold dv;rw [zV (by omega)]; simp

theorem zhp {f : Poly p} (hm : Mon f) (hd : der f ≠ 0) : f = quo f (gcd f (der f)) * gcd f (der f) ∧ Mon (quo f (gcd f (der f))) ∧ Sqf (quo f (gcd f (der f))) ∧ 2 <= dg (quo f (gcd f (der f))) ∧ dg (quo f (gcd f (der f))) <= dg f ∧ gcd f (der f) ∣ der f ∧ gcd f (der f) ≠ 0 := by
 have hg := k0 (f := f) (g := der f) (.inl hm.1)
 have h1 : f = quo f (gcd f (der f)) * gcd f (der f) := by
  have h2 := vz f (gcd f (der f));rw [(jL hg.1).1 (y9 f (der f))] at h2;have e : ∀ a : Poly p, a + 0 = a := λa => by exact zg [a] (by rfl)
  rw [e] at h2; exact h2
 have hq0 : quo f (gcd f (der f)) ≠ 0 := λe => hm.1 (by rw [h1, e]; exact zg [gcd f (der f)] (by rfl));have hmq : Mon (quo f (gcd f (der f))) := hg.left (h1 ▸ hm);refine ⟨h1, hmq, zjr hm.1 h1 (λh a b => zhi a b), ?_, ?_, y1 _ _, hg.1⟩
 ·refine Classical.byContradiction λh2 => ?_;have h3 := yW hq0 hg.1;rw [<- h1] at h3;have h4 := zC (y1 f (der f)) hd;have h5 := zaG hm.1;have h6 : dg (quo f (gcd f (der f))) ≠ 0 := λe => hq0 (zc.1 e);omega
 ·exact zC ⟨gcd f (der f), h1⟩ hm.1

end Poly
namespace Poly
variable {p : Int} [SP p]

def zag (f v : Poly p) (s : Nat) (O : List (Poly p)) : Prop := O.Nodup ∧ ∀ h, h ∈ O ↔ Irr h ∧ Mon h ∧ ∃ a ∈ z8 v f s, h ∣ a

theorem zag.start (f v : Poly p) : zag f v 0 [] := ⟨List.nodup_nil, λh => ⟨λhh => by simp at hh, λ⟨_, _, a, ha, _⟩ => by simp [z8] at ha⟩⟩
theorem zag.skip {f v : Poly p} {s : Nat} {O : List (Poly p)} (h : zag f v s O) (hd : ¬ 2 <= dg (gcd f (v - con p (s : Int)))) : zag f v (s + 1) O := by
 have e : z8 v f (s + 1) = z8 v f s := by rw [vW, zc0, if_neg hd, List.append_nil]
 unfold zag at *;rw [e]; exact h
theorem zag.step {f v : Poly p} {s : Nat} {O P : List (Poly p)} (h : zag f v s O) (hs : (s : Int) < p) (hd : 2 <= dg (gcd f (v - con p (s : Int)))) (hP : kF (gcd f (v - con p (s : Int))) P) : zag f v (s + 1) (O ++ P) := by
 have e : z8 v f (s + 1) = z8 v f s ++ [gcd f (v - con p (s : Int))] := by rw [vW, zc0, if_pos hd]
 have hap := zdz (v := v) (a := f) (n := s + 1) (by omega);rw [e] at hap;refine ⟨List.nodup_append.2 ⟨h.1, hP.1, λa ha b hb hab => ?_⟩, λq => ?_⟩
 ·subst hab;obtain ⟨a1, a2, c, hc, h3⟩ := (h.2 a).1 ha;obtain ⟨_, _, h4⟩ := (hP.2 a).1 hb;exact (List.pairwise_append.1 hap).2.2 c hc _ (by simp) a a1 h3 h4
 ·rw [e, List.mem_append, h.2, hP.2]
  constructor
  ·rintro (⟨a1, a2, c, hc, h3⟩ | ⟨a1, a2, h3⟩)
   ·exact ⟨a1, a2, c, by simp [hc], h3⟩
   ·exact ⟨a1, a2, _, by simp, h3⟩
  ·rintro ⟨a1, a2, c, hc, h3⟩;rcases List.mem_append.1 hc with hc | hc
   ·exact .inl ⟨a1, a2, c, hc, h3⟩
   ·simp at hc; subst hc; exact .inr ⟨a1, a2, h3⟩
theorem zag.fin {f v : Poly p} {O : List (Poly p)} (h : zag f v p.toNat O) (hm : Mon f) (hd : 2 <= dg f) (hv : Ber f v) : kF f O := by
 have hc := (Parts.start hm hd).cut hv;have e : zq v [f] = z8 v f p.toNat := by simp [zq]
 rw [e] at hc;refine ⟨h.1, λq => ?_⟩;rw [h.2]
 constructor
 ·rintro ⟨a1, a2, c, h1, h2⟩;exact ⟨a1, a2, zo h2 (hc.1.each c h1).2.2⟩
 ·rintro ⟨a1, a2, h1⟩;obtain ⟨c, h2, h3⟩ := hc.1.all q a1 h1;exact ⟨a1, a2, c, h2, h3⟩
theorem zjJ {f v : Poly p} {n : Nat} (_hf : dg f = n + 1) (h2 : 2 <= dg v) (hv : dg v <= n) (s : Int) : dg (gcd f (v - con p s)) <= n := by
 have h1 : v - con p s ≠ 0 := λe => by
  have h3 := zjj (v - con p s) (con p s);have e2 : v - con p s + con p s = v := by exact zg [v, con p s] (by rfl)
  rw [e2, e, zu] at h3;have := vB (p := p) s;omega
 have h3 := zC (y1 f (v - con p s)) h1;have h4 := zck v (con p s);have := vB (p := p) s;omega

end Poly

def zL {α : Type} (G : List α) (k : Nat) (x : α) : List α := G.take k ++ [x] ++ G.drop k
theorem zcD {α : Type} {G : List α} {k j : Nat} {x d : α} (hk : k <= G.length) (h : j < k) : (zL G k x).getD j d = G.getD j d := by
 rw [zL, List.append_assoc, List.getD_eq_getElem?_getD, List.getD_eq_getElem?_getD, List.getElem?_append_left (by simp; omega), List.getElem?_take_of_lt h]
theorem zcE {α : Type} {G : List α} {k : Nat} {x d : α} (hk : k <= G.length) : (zL G k x).getD k d = x := by
 simp [zL, List.getD_eq_getElem?_getD, Nat.min_eq_left hk]
theorem zcF {α : Type} {G : List α} {k j : Nat} {x d : α} (hk : k <= G.length) : (zL G k x).getD (k + 1 + j) d = G.getD (k + j) d := by
 rw [zL, List.getD_eq_getElem?_getD, List.getD_eq_getElem?_getD, List.getElem?_append_right (by simp [Nat.min_eq_left hk]), List.getElem?_drop];simp [Nat.min_eq_left hk]
theorem zaO {α : Type} {G : List α} {k : Nat} {x y : α} : y ∈ zL G k x ↔ y = x ∨ y ∈ G := by
 have : y ∈ G ↔ y ∈ G.take k ++ G.drop k := by rw [List.take_append_drop]
 rw [this, zL];simp only [List.mem_append, List.mem_singleton]
 constructor
 ·rintro ((h | h) | h)
  ·exact .inr (.inl h)
  ·exact .inl h
  ·exact .inr (.inr h)
 ·rintro (h | h | h)
  ·exact .inl (.inr h)
  ·exact .inl (.inl h)
  ·exact .inr h
theorem zah {α : Type} {G : List α} {k : Nat} {x : α} (hk : k <= G.length) : (zL G k x).length = G.length + 1 := by
 simp [zL]; omega

namespace Poly
variable {p : Int} [SP p]

abbrev Srt (G : List (Poly p × Nat)) : Prop := G.Pairwise λx y => ltP x.1 y.1

theorem zbA {α : Type} {d : α} {G : List α} {j : Nat} (h : j < G.length) : G.getD j d = G[j] := by
 rw [List.getD_eq_getElem?_getD, List.getElem?_eq_getElem h]; rfl

theorem Srt.put {G : List (Poly p × Nat)} (h : Srt G) {k : Nat} {x : Poly p × Nat} (hk : k <= G.length) (h1 : ∀ j, j < k -> ltP (G.getD j (0, 0)).1 x.1) (h2 : k = G.length ∨ ¬ ltP (G.getD k (0, 0)).1 x.1) (hn : ∀ y ∈ G, y.1 ≠ x.1) : Srt (zL G k x) := by
 have hG := h;rw [<- List.take_append_drop k G] at hG;obtain ⟨a1, a2, a3⟩ := List.pairwise_append.1 hG
 have ht : ∀ a ∈ G.take k, ltP a.1 x.1 := λa ha => by
  obtain ⟨j, hj, e⟩ := List.getElem_of_mem ha;have hj' : j < k ∧ j < G.length := by simp at hj; omega
  have := h1 j hj'.1;rw [zbA hj'.2] at this;rw [List.getElem_take] at e;rw [<- e]; exact this
 have hd : ∀ a ∈ G.drop k, ltP x.1 a.1 := λa ha => by
  obtain ⟨j, hj, e⟩ := List.getElem_of_mem ha;have hj' : k + j < G.length := by simp at hj; omega
  rw [List.getElem_drop] at e;have hk' : k < G.length := by omega
  have hx := h2.resolve_left (by omega);rw [zbA hk'] at hx;have hlt : ltP x.1 G[k].1 := (zdx (hn G[k] (List.getElem_mem hk'))).resolve_left hx;rcases Nat.eq_zero_or_pos j with h0 | h0
  ·subst h0; rw [<- e]; exact hlt
  ·rw [<- e];exact zaI hlt (List.pairwise_iff_getElem.1 h k (k + j) hk' hj' (by omega))
 refine List.pairwise_append.2 ⟨List.pairwise_append.2 ⟨a1, List.pairwise_singleton _ _, λa ha b hb => ?_⟩, a2, λa ha b hb => ?_⟩
 ·rw [List.mem_singleton.1 hb]; exact ht a ha
 ·rcases List.mem_append.1 ha with h' | h'
  ·exact a3 a h' b hb
  ·rw [List.mem_singleton.1 h']; exact hd b hb

structure PutOf (f : Poly p) (t : Nat) (G G' : List (Poly p × Nat)) : Prop where
 srt : Srt G'
 mem : ∀ x, x ∈ G' ↔ x ∈ G ∨ ∃ e, j9 f (x.1, e) ∧ x.2 = t * e

theorem PutOf.unit {f : Poly p} (h : dg f = 1) {t : Nat} {G : List (Poly p × Nat)} (hG : Srt G) : PutOf f t G G :=
 ⟨hG, λ_x => ⟨.inl, λhx => hx.elim id λ⟨_e, he, _⟩ => (kH h _ he).elim⟩⟩
theorem PutOf.root {g f : Poly p} (hg : g ≠ 0) {n t : Nat} (hn : 1 <= n) (he : g ^ n = f) {G G' : List (Poly p × Nat)} (h : PutOf g (n * t) G G') : PutOf f t G G' :=
 ⟨h.srt, λx => by
  rw [h.mem];refine or_congr Iff.rfl ⟨λ⟨e, h1, h2⟩ => ⟨n * e, (zaN hg hn he _).2 ⟨e, h1, rfl⟩, by rw [h2, Nat.mul_comm n t, Nat.mul_assoc]⟩, λ⟨e, h1, h2⟩ => ?_⟩;obtain ⟨e', h3, h4⟩ := (zaN hg hn he _).1 h1;have h4 : e = n * e' := h4;exact ⟨e', h3, by rw [h2, h4, Nat.mul_comm n t, Nat.mul_assoc]⟩⟩
theorem PutOf.fac {f : Poly p} {F : List (Poly p × Nat)} (h : PutOf f 1 [] F) : jN f F :=
 ⟨h.srt, λx => by
  rw [h.mem];refine ⟨λhx => hx.elim (λh => by simp at h) λ⟨e, h1, h2⟩ => ?_, λhx => .inr ⟨x.2, hx, by omega⟩⟩;obtain rfl : e = x.2 := by omega
  exact h1⟩

structure Putting (f : Poly p) (P : List (Poly p)) (t : Nat) (G : List (Poly p × Nat)) (k : Nat) (r : Poly p) (L H : List (Poly p × Nat)) : Prop where
 peel : Peel f P k r L
 srt : Srt H
 mem : ∀ x, x ∈ H ↔ x ∈ G ∨ x ∈ up t L
 len : H.length = G.length + k

theorem Putting.start {f : Poly p} (hm : Mon f) (P : List (Poly p)) (t : Nat) {G : List (Poly p × Nat)} (hG : Srt G) : Putting f P t G 0 f [] G :=
 ⟨Peel.start hm P, hG, λx => by simp [up], rfl⟩

theorem zgE {p : Int} {t : Nat} {L : List (Poly p × Nat)} {x : Poly p × Nat} (h : x ∈ up t L) : ∃ y ∈ L, x = (y.1, t * y.2) := by
 obtain ⟨y, hy, e⟩ := List.mem_map.1 h;exact ⟨y, hy, e.symm⟩

theorem Peel.mem_fst {f r : Poly p} {P : List (Poly p)} {k : Nat} {L : List (Poly p × Nat)} (h : Peel f P k r L) {y : Poly p × Nat} (hy : y ∈ L) : ∃ j, j < k ∧ y.1 = P.getD j 0 := by
 obtain ⟨j, hj, e⟩ := List.getElem_of_mem hy;have hjk : j < k := by rw [<- h.len]; exact hj
 have := (h.fac j hjk).1;rw [zbA hj, e] at this;exact ⟨j, hjk, this⟩

theorem Putting.step {f r r' : Poly p} {P : List (Poly p)} {t k n i : Nat} {G L H : List (Poly p × Nat)} (h : Putting f P t G k r L H) (hG : ∀ x ∈ G, ¬ x.1 ∣ f) (hP : P.Nodup) (hk : k < P.length) (hi : Irr (P.getD k 0)) (hm : Mon (P.getD k 0)) (hd : P.getD k 0 ∣ f)
  (he : r = P.getD k 0 ^ n * r') (hn : ¬ P.getD k 0 ∣ r') (hil : i <= H.length) (h1 : ∀ j, j < i -> ltP (H.getD j (0, 0)).1 (P.getD k 0)) (h2 : i = H.length ∨ ¬ ltP (H.getD i (0, 0)).1 (P.getD k 0)) :
  Putting f P t G (k + 1) r' (L ++ [(P.getD k 0, n)]) (zL H i (P.getD k 0, n * t)) := by
 refine ⟨h.peel.step hP hk hi hm hd he hn, h.srt.put hil h1 h2 λy hy e => ?_, λx => ?_, by rw [zah hil, h.len]; omega⟩
 ·have e : y.1 = P.getD k 0 := e;rcases (h.mem y).1 hy with hy | hy
  ·exact hG y hy (e ▸ hd)
  ·obtain ⟨z, hz, rfl⟩ := zgE hy;obtain ⟨j, hj, e'⟩ := h.peel.mem_fst hz;have := kG hP hk (by omega) (e.symm.trans e');omega
 ·rw [zaO, h.mem];have : up t (L ++ [(P.getD k 0, n)]) = up t L ++ [(P.getD k 0, n * t)] := by simp [up, Nat.mul_comm]
  rw [this, List.mem_append, List.mem_singleton]
  constructor
  ·rintro (h | h | h)
   ·exact .inr (.inr h)
   ·exact .inl h
   ·exact .inr (.inl h)
  ·rintro (h | h | h)
   ·exact .inr (.inl h)
   ·exact .inr (.inr h)
   ·exact .inl h

theorem Putting.apart {f r : Poly p} {P : List (Poly p)} {t : Nat} {G L H : List (Poly p × Nat)} (h : Putting f P t G P.length r L H) (hG : ∀ x ∈ G, ¬ x.1 ∣ f) : ∀ x ∈ H, ¬ x.1 ∣ r := by
 intro x hx hd;rcases (h.mem x).1 hx with hx | hx
 ·obtain ⟨s, hs, _⟩ := h.peel.cut;exact hG x hx (zo hd ⟨s, hs⟩)
 ·obtain ⟨z, hz, rfl⟩ := zgE hx;obtain ⟨j, hj, e'⟩ := h.peel.mem_fst hz;exact h.peel.out j hj (by rw [<- e']; exact hd)

theorem Putting.fin {f r : Poly p} {P : List (Poly p)} {t : Nat} {G L H G' : List (Poly p × Nat)} (h : Putting f P t G P.length r L H) (hf : Mon f) {q c : Poly p} (hq : kF q P) (he : f = q * c) (hc : c ∣ der f) (hG' : PutOf r t H G') : PutOf f t G G' := by
 obtain ⟨_, h2⟩ := h.peel.fin hf hq he hc;refine ⟨hG'.srt, λx => ?_⟩;rw [hG'.mem, h.mem]
 constructor
 ·rintro ((h3 | h3) | ⟨e, h3, h4⟩)
  ·exact .inl h3
  ·obtain ⟨z, hz, rfl⟩ := zgE h3;exact .inr ⟨z.2, (h2 _).2 (.inl hz), rfl⟩
  ·exact .inr ⟨e, (h2 _).2 (.inr h3), h4⟩
 ·rintro (h3 | ⟨e, h3, h4⟩)
  ·exact .inl (.inl h3)
  ·rcases (h2 _).1 h3 with h5 | h5
   ·refine .inl (.inr (List.mem_map.2 ⟨_, h5, Prod.ext rfl h4.symm⟩))
   ·exact .inr ⟨e, h5, h4⟩

theorem Peel.less {f r : Poly p} {P : List (Poly p)} {L : List (Poly p × Nat)} (h : Peel f P P.length r L) (hf : Mon f) {q c : Poly p} (hq : kF q P) (he : f = q * c) (hq2 : 2 <= dg q) : dg r < dg f := by
 obtain ⟨g, g1, g2, g3⟩ := kC _ q (Nat.le_refl _) hq2;obtain ⟨j, hj, e⟩ := List.getElem_of_mem ((hq.2 g).2 ⟨g1, g2, g3⟩);have hg : g = P.getD j 0 := by rw [zbA hj, e]
 obtain ⟨s, hs, _⟩ := h.cut;have hr0 := h.mon.1;have hs0 : s ≠ 0 := λe => hf.1 (by rw [hs, e]; exact zg [r] (by rfl));have h1 := yW hr0 hs0;rw [<- hs] at h1
 have hgs : g ∣ s := by
  have : g ∣ r * s := by rw [<- hs, he]; exact zo g3 ⟨c, rfl⟩
  rcases g1.prime this with h2 | h2
  ·exact absurd (hg ▸ h2) (h.out j hj)
  ·exact h2
 have h2 := zC hgs hs0;have h3 := g1.1;omega

theorem zfG {a : Poly p} {n : Nat} (h : 1 <= n) : a ∣ a ^ n := by
 obtain ⟨m, rfl⟩ : ∃ m, n = m + 1 := ⟨n - 1, by omega⟩
 exact ⟨a ^ m, by rw [ze]; exact xM _ _⟩

theorem zjK {g f : Poly p} (hg : Mon g) (he : g ^ p.toNat = f) (h2 : 2 <= dg f) : p.toNat < dg f := by
 have : 2 <= dg g := by
  refine Classical.byContradiction λh => ?_
  have h1 : dg g = 1 := by
   have : dg g ≠ 0 := λe => hg.1 (zc.1 e);omega
  have h3 : g = 1 := zgv hg zhh (zjl h1 _) (zbv g);rw [h3, k6] at he;rw [<- he, xm] at h2;omega
 have := zaH this p.toNat;rw [he] at this;exact this

theorem zgF {G : List (Poly p × Nat)} (f : Poly p) : ∃ k, k <= G.length ∧ (∀ j, j < k -> ltP (G.getD j (0, 0)).1 f) ∧ (k = G.length ∨ ¬ ltP (G.getD k (0, 0)).1 f) := by
 have go : ∀ n, n <= G.length -> (∀ j, j < n -> ltP (G.getD j (0, 0)).1 f) ∨ ∃ k, k <= G.length ∧ (∀ j, j < k -> ltP (G.getD j (0, 0)).1 f) ∧ (k = G.length ∨ ¬ ltP (G.getD k (0, 0)).1 f) := by
  intro n
  induction n with
  | zero => intro _; exact .inl λj hj => by omega
  | succ n ih =>
   intro hn;rcases ih (by omega) with h | h
   ·by_cases hl : ltP (G.getD n (0, 0)).1 f
    ·exact .inl λj hj => by
      by_cases hj2 : j = n
      ·subst hj2; exact hl
      ·exact h j (by omega)
    ·exact .inr ⟨n, by omega, h, .inr hl⟩
   ·exact .inr h
 rcases go G.length (Nat.le_refl _) with h | h
 ·exact ⟨G.length, Nat.le_refl _, h, .inl rfl⟩
 ·exact h

theorem za9 : ∀ (n : Nat) (f : Poly p), dg f <= n -> f ≠ 0 -> ∃ F, jN f F
 | 0, f, hd, hf => absurd (zc.1 (by omega)) hf
 | n + 1, f, hd, hf => by
  by_cases h1 : dg f = 1
  ·exact ⟨[], List.Pairwise.nil, λx => ⟨λhx => by simp at hx, λhx => (kH h1 _ hx).elim⟩⟩
  have h2 : dg f ≠ 0 := λe => hf (zc.1 e);obtain ⟨h, hi, hm, hdv⟩ := kC _ f (Nat.le_refl _) (by omega);obtain ⟨e, he⟩ := xz hi.1 _ f hf (Nat.le_refl _)
  have he1 : 1 <= e := by
   rcases Nat.eq_zero_or_pos e with h0 | h0
   ·subst h0; exact absurd hdv (z7.1 he)
   ·exact h0
  obtain ⟨u, hu1, hu2⟩ := id he;have hu0 : u ≠ 0 := λe0 => hf (by rw [hu1, e0]; exact zg [h ^ e] (by rfl));have hp0 : h ^ e ≠ 0 := λe0 => hf (by rw [hu1, e0]; exact zg [u] (by rfl));have hdg := yW hp0 hu0;rw [<- hu1] at hdg;have hpd := zaH hi.1 e;obtain ⟨F, hF⟩ := za9 n u (by omega) hu0;obtain ⟨k, hk, hk1, hk2⟩ := zgF (G := F) h;have hnot : ∀ g : Poly p, Irr g -> Mon g -> g ≠ h -> ¬ g ∣ h ^ e := λg gi gm hne hd => hne (kB gi hi gm hm (gi.pow hd));refine ⟨zL F k (h, e), Srt.put hF.1 hk hk1 hk2 (λy hy e0 => ?_), λx => ?_⟩
  ·obtain ⟨_, _, a3, a4⟩ := (hF.2 y).1 hy;have e0 : y.1 = h := e0;exact hu2 (by rw [<- e0]; exact a4.dvd a3)
  ·rw [zaO, hF.2]
   constructor
   ·rintro (rfl | ⟨a1, a2, a3, a4⟩)
    ·exact ⟨hi, hm, he1, he⟩
    ·refine ⟨a1, a2, a3, ?_⟩;have hne : x.1 ≠ h := λe0 => hu2 (by rw [<- e0]; exact a4.dvd a3);have := zE.mul a1 (z7.2 (hnot _ a1 a2 hne)) a4;rw [Nat.zero_add, <- hu1] at this;exact this
   ·rintro ⟨a1, a2, a3, a4⟩
    by_cases hx : x.1 = h
    ·left
     have : x.2 = e := zE.unique hi.ne (by rw [<- hx]; exact a4) he;exact Prod.ext hx this
    ·right
     obtain ⟨e', he'⟩ := xz a1.1 _ u hu0 (Nat.le_refl _);have h5 := zE.mul a1 (z7.2 (hnot _ a1 a2 hx)) he';rw [Nat.zero_add, <- hu1] at h5;rw [zE.unique a1.ne h5 a4] at he';exact ⟨a1, a2, a3, he'⟩
theorem zgG {f : Poly p} (hf : f ≠ 0) : ∃ F, jN f F := za9 _ f (Nat.le_refl _) hf

end Poly
namespace Poly

def Digs (p : Nat) (l : List Int) : Prop := ∀ x ∈ l, 0 <= x ∧ x < p
structure Top (p d : Nat) (l : List Int) : Prop where
 len : l.length = d + 1
 one : cf l d = 1
 digs : Digs p l
end Poly
namespace Poly
variable {p : Int} [SP p]

def One (f x : Poly p) (e : Nat) : Prop := f ∣ x ^ e - 1
/- powers that are 1 -/
end Poly
namespace Poly
variable {p : Int} [SP p]

end Poly
end Go.Proofs.Ytffhmebkkbfaeaa
