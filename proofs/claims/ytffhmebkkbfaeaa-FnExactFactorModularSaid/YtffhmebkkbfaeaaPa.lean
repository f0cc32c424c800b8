/- An evaluator of the model's code over plain values, and that it is sound. No conditions. -/
import GoSem.Step
import Derived.Calls
import Derived.WalkKit
namespace Go.Proofs.Ytffhmebkkbfaeaa
open Go

inductive V where
 | tr
 | fa
 | bool (b : Bool)
 | int (k : IntKind) (n : Int)
 | nil
 | ints (g : Option Nat) (xs : List Int)
 | vals (g : Option Nat) (sz : Nat) (n : Nat) (f : Nat -> V)
 | agg (cs : List V)
 | tup (vs : List V)
 | box (g : Option Nat) (x : V)
 | func (f : Nat) (caps : List V)
 /-- a slice of integers, the whole of block b, of which the table tells what is there -/
 | rf (b n : Nat)
 /-- a slice of integers, the whole of block b, which was owned -/
 | wh (e b : Nat) (xs : List Int)
 deriving Inhabited

inductive AV where
 | dead
 | v (x : V)
 | ownI (e b : Nat) (xs : List Int)
 | ownV (e sz b n : Nat) (f : Nat -> V)
 | ownB (b : Nat) (x : V)
 | al (s : Nat)
 | pl (s : Nat) (i : Nat) (off : Nat)
 | pv (x : V) (off : Nat)
 /-- a place in a block of the table -/
 | pr (b i : Nat)
 /-- a slice of a block of the table -/
 | sl (b i n : Nat)
 /-- blocks of integers that are owned -/
 | tab (tb : Nat -> Option (List Int))
 /-- blocks that nobody writes: owned by a caller, or only read -/
 | keep (O U : Nat -> Prop) (hw : Array Obj) (k : Nat) (v : Value)
 /-- several results, of which number i is owned (or was handed on) -/
 | tupO (i : Nat) (o : AV) (vs : List V)
 deriving Inhabited

abbrev vt : Nat := 1000000
abbrev vk : Nat := 1000001

def z2 (tb : Nat -> Option (List Int)) (b : Nat) (xs : List Int) : Nat -> Option (List Int) := λc => if c = b then some xs else tb c

noncomputable def zla (tb : Nat -> Option (List Int)) (b : Nat) (xs : List Int) : Nat -> Option (List Int) := match xs with | [] => tb | x :: r => z2 tb b (x :: r)

inductive GM where
 | no
 | yes
 | mv
 /-- an assignment of an alias takes what is owned along -/
 | tr
 /-- what is given up goes to the table, empty slices too; arguments are read through the table -/
 | mt
 /-- what is given up is known to be whole -/
 | wh

abbrev Env := List (Nat × AV)

def V.cells : V -> List V
 | .agg cs => cs
 | x => [x]

def V.isCell : V -> Bool
 | .agg _ | .tup _ => false
 | _ => true

def V.flat : V -> Bool
 | .agg cs => cs.all V.isCell
 | .tup _ => false
 | _ => true

inductive TK where
 | int (k : IntKind)
 | bool
 | struct (fs : List (Nat × Nat))
 | slice (e : Nat)
 | cell

structure TI where
 kind : TK
 size : Nat
 bytes : Nat
 zero : V

abbrev TT := List (Nat × TI)

abbrev zfW := Nat -> Nat -> AV -> Prop
abbrev Tab := Nat -> Option (List Int)
abbrev zkG := Nat -> Nat -> V -> Tab -> Prop
abbrev TFns := Nat -> List V -> zkG -> Prop
abbrev Fns := Nat -> List V -> zfW -> Prop
abbrev MFns := Nat -> List V -> Nat -> AV -> AV -> (Nat -> AV -> AV -> AV -> Prop) -> Prop

structure Cx where
 F : Fns
 M : MFns
 T : TFns
 /-- which functions these are, and the argument's place -/
 ms : List (Nat × Nat)
 /-- functions that hand over a table, where arguments are read through the table -/
 ts : List Nat
 tt : TT
 gh : GM
 ks : List Nat
 /-- sums may wrap around -/
 wr : Bool := false
 /-- structs of so many integers that may be held against each other -/
 eqs : List (Nat × Nat) := []

structure S where
 env : Env
 hs : Nat

abbrev inR (n : Int) : Prop := -9223372036854775808 <= n ∧ n <= 9223372036854775807

def V.bare : V -> Bool
 | .tr | .fa | .bool _ | .int _ _ => true
 | _ => false

/- the environment -/
def get : Env -> Nat -> AV
 | [], _ => .dead
 | (k, a) :: r, i => bif Nat.beq k i then a else get r i
def put : Env -> Nat -> AV -> Env
 | [], i, a => [(i, a)]
 | (k, x) :: r, i, a => bif Nat.beq k i then (k, a) :: r else (k, x) :: put r i a
def AV.touches (s : Nat) : AV -> Bool
 | .al t => Nat.beq t s
 | .pl t _ _ => Nat.beq t s
 | .pr _ _ => Nat.beq vt s
 | .keep _ _ _ k _ => Nat.beq k s
 | _ => false
def vZ (s : Nat) : Env -> Env
 | [] => []
 | (k, x) :: r => (k, bif x.touches s then .dead else x) :: vZ s r
def ym (ks : List Nat) : Env -> Env
 | [] => []
 | (k, x) :: r => bif ks.elem k then (k, x) :: ym ks r else ym ks r

def zM : Env -> Nat -> (AV -> Prop) -> Prop
 | [], _, C => C .dead
 | (k, a) :: r, i, C => bif Nat.beq k i then C a else zM r i C
def yP : Env -> Nat -> AV -> (Env -> Prop) -> Prop
 | [], i, a, C => C [(i, a)]
 | (k, x) :: r, i, a, C => bif Nat.beq k i then C ((k, a) :: r) else yP r i a (λr' => C ((k, x) :: r'))
def zey : Env -> Nat -> (Env -> Prop) -> Prop
 | [], _, C => C []
 | (k, x) :: r, s, C => bif x.touches s then zey r s (λr' => C ((k, .dead) :: r')) else zey r s (λr' => C ((k, x) :: r'))
def j5 : Env -> List Nat -> (Env -> Prop) -> Prop
 | [], _, C => C []
 | (k, x) :: r, ks, C => bif ks.elem k then j5 r ks (λr' => C ((k, x) :: r')) else j5 r ks C

def gho (gh : GM) (b : Nat) : Option Nat := match gh with | .yes => some b | _ => none

def xg (c : Value) (C : V -> Prop) : Prop :=
 match c with
 | .bool true => C .tr
 | .bool false => C .fa
 | .int k n => C (.int k n)
 | .slice none 0 0 => C .nil
 | _ => False

def zR (x : V) (C : Bool -> Prop) : Prop :=
 match x with
 | .tr => C true
 | .fa => C false
 | .bool b => C b
 | _ => False

def rdK (e : Env) (o : Operand) (C : V -> Prop) : Prop :=
 match o with
 | .tmp t => zM e t λa => match a with
  | .v x => C x
  | .ownI _ b xs => C (.ints (some b) xs)
  | .ownV _ sz b n f => C (.vals (some b) sz n f)
  | .al s => zM e s λa => match a with
   | .v x => C x
   | .ownI _ b xs => C (.ints (some b) xs)
   | .ownV _ sz b n f => C (.vals (some b) sz n f)
   | _ => False
  | _ => False
 | .const c => xg c C
 | .func f => C (.func f [])
 | _ => False

def frK (gh : GM) (e : Env) (t : Nat) (a : AV) (C : Env -> V -> Prop) : Prop :=
 match a with
 | .v x => C e x
 | .ownI el b xs => (match gh with
  | .wh => yP e t (.v (.wh el b xs)) λe => C e (.wh el b xs)
  | .mv => (0 < xs.length) ∧ yP e t (.v (.rf b xs.length)) λe => zM e vt λa => (match a with
   | .tab tb => yP e vt (.tab (z2 tb b xs)) λe => C e (.rf b xs.length)
   | _ => False)
  | .mt => yP e t (.v (.rf b xs.length)) λe => zM e vt λa => (match a with
   | .tab tb => yP e vt (.tab (zla tb b xs)) λe => C e (.rf b xs.length)
   | _ => False)
  | gh => yP e t (.v (.ints (gho gh b) xs)) λe => C e (.ints (gho gh b) xs))
 | .ownV _ sz b n f => yP e t (.v (.vals (gho gh b) sz n f)) λe => C e (.vals (gho gh b) sz n f)
 | .ownB b x => yP e t (.v (.box (gho gh b) x)) λe => C e (.box (gho gh b) x)
 | _ => False

def cvK (gh : GM) (e : Env) (o : Operand) (C : Env -> V -> Prop) : Prop :=
 match o with
 | .tmp t => zM e t λa => match a with
  | .al s => zM e s λb => frK gh e s b C
  | a => frK gh e t a C
 | .const c => xg c (C e)
 | .func f => C e (.func f [])
 | _ => False

def zkR (gh : GM) : Env -> List Operand -> (Env -> List V -> Prop) -> Prop
 | e, [], C => C e []
 | e, o :: r, C => cvK gh e o λe x => zkR gh e r λe xs => C e (x :: xs)

def zH : TT -> Nat -> (TI -> Prop) -> Prop
 | [], _, _ => False
 | (k, x) :: r, t, C => bif Nat.beq k t then C x else zH r t C

def xh (tt : TT) (t : Nat) (x : V) (C : V -> Prop) : Prop :=
 match x with
 | .nil => zH tt t λi => match i.kind with
  | .slice e => zH tt e λj => match j.kind with
   | .int .i64 => C (.ints none [])
   | _ => C (.vals none j.size 0 (λ_ => j.zero))
  | _ => C .nil
 | .wh _ b xs => C (.ints (some b) xs)
 | x => C x

def x9 (tt : TT) (e : Env) : List Operand -> List Nat -> (List V -> Prop) -> Prop
 | [], _, C => C []
 | o :: r, t :: ts, C => rdK e o λx => xh tt t x λx => x9 tt e r ts λxs => C (x :: xs)
 | _ :: _, [], _ => False

def deC (tb : Tab) (x y : V) : Prop :=
 match x with
 | .rf b n => ∃ xs : List Int, xs.length = n ∧ (xs ≠ [] -> tb b = some xs) ∧ y = .ints (some b) xs
 | x => y = x
def deV (tb : Tab) (x y : V) : Prop :=
 match x with
 | .agg cs => ∃ ds, y = .agg ds ∧ ds.length = cs.length ∧ ∀ j, j < cs.length -> deC tb (cs.getD j .nil) (ds.getD j .nil)
 | x => deC tb x y
def zan (e : Env) (C : Tab -> Prop) : Prop := zM e vt λt => match t with
 | .tab tb => C tb
 | _ => False
def zao (e : Env) : List V -> (List V -> Prop) -> Prop
 | [], C => C []
 | .rf b n :: r, C => zan e λtb => ∃ xs : List Int, (xs.length = n ∧ (xs ≠ [] -> tb b = some xs)) ∧ zao e r λds => C (.ints (some b) xs :: ds)
 | x :: r, C => zao e r λds => C (x :: ds)
def deK (e : Env) (x : V) (C : V -> Prop) : Prop :=
 match x with
 | .rf b n => zan e λtb => ∃ xs : List Int, (xs.length = n ∧ (xs ≠ [] -> tb b = some xs)) ∧ C (.ints (some b) xs)
 | .agg cs => zao e cs λds => C (.agg ds)
 | .vals g sz n f => zan e λtb => ∃ f' : Nat -> V, (∀ i, i < n -> deV tb (f i) (f' i)) ∧ C (.vals g sz n f')
 | x => C x
def xA (tt : TT) (e : Env) : List Operand -> List Nat -> (List V -> Prop) -> Prop
 | [], _, C => C []
 | o :: r, t :: ts, C => rdK e o λx => xh tt t x λx => deK e x λx => xA tt e r ts λxs => C (x :: xs)
 | _ :: _, [], _ => False

def zdI (x : V) (C : V -> Prop) : Prop := match x with | .agg cs => C (.agg cs) | _ => False
def zbC (x : V) (off : Nat) (C : V -> Prop) : Prop :=
 match x with
 | .agg cs => match cs.drop off with
  | c :: _ => C c
  | [] => False
 | x => bif Nat.beq off 0 then C x else False
def z3 (i : TI) (x : V) (off : Nat) (C : V -> Prop) : Prop :=
 match i.kind with
 | .struct _ => bif Nat.beq off 0 && Nat.beq x.cells.length i.size then zdI x C
     else (off + i.size <= x.cells.length) ∧ C (.agg ((x.cells.drop off).take i.size))
 | _ => zbC x off C

def zP (x : V) (off : Nat) (y : V) : V :=
 match x with
 | .agg cs => .agg (cs.take off ++ y.cells ++ cs.drop (off + y.cells.length))
 | _ => y

def K1 (K : S -> Prop) (hs : Nat) (d : Nat) (e : Env) (a : AV) : Prop := zey e d λe => yP e d a λe => K ⟨e, hs⟩

def ziw (op : BinOp) (k : IntKind) (a b : Int) (C : V -> Prop) : Prop :=
 match op with
 | .add => inR (a + b) ∧ C (.int k (a + b))
 | .sub => inR (a - b) ∧ C (.int k (a - b))
 | .mul => inR (a * b) ∧ C (.int k (a * b))
 | .rem => b ≠ 0 ∧ C (.int k (a.tmod b))
 | .quo => b ≠ 0 ∧ inR (a.tdiv b) ∧ C (.int k (a.tdiv b))
 | .eql => C (.bool (decide (a = b)))
 | .neq => C (.bool (decide (a ≠ b)))
 | .lss => C (.bool (decide (a < b)))
 | .leq => C (.bool (decide (a <= b)))
 | .gtr => C (.bool (decide (b < a)))
 | .geq => C (.bool (decide (b <= a)))
 | .and => (0 <= a ∧ a <= 9223372036854775807 ∧ b = 1) ∧ C (.int k (a % 2))
 | .shr => (0 <= a ∧ b = 1) ∧ C (.int k (a / 2))
 | _ => False

def zgP (op : BinOp) (k : IntKind) (a b : Int) (C : V -> Prop) : Prop :=
 match op with
 | .add => C (.int k (k.wrap (a + b)))
 | op => ziw op k a b C
def zbD (wr : Bool) (op : BinOp) (k : IntKind) (a b : Int) (C : V -> Prop) : Prop := bif wr then zgP op k a b C else ziw op k a b C

def kfK (op : BinOp) (k : IntKind) (C : V -> Prop) (x : V) : Prop := match k with
 | .i64 => C x
 | .u64 => (match op with | .shr => C x | _ => False)
 | _ => False

abbrev inU (n : Int) : Prop := 0 <= n ∧ n <= 18446744073709551615
def u64K (op : BinOp) (k : IntKind) (a b : Int) (C : V -> Prop) : Prop :=
 match k with
 | .u64 => (match op with
  | .add => C (.int .u64 ((a + b) % 18446744073709551616))
  | .mul => C (.int .u64 (a * b % 18446744073709551616))
  | .and => (inU a ∧ (b = 4294967295 ∨ b = 16777215)) ∧ C (.int .u64 (a % (b + 1)))
  | .shr => (0 <= a ∧ 0 <= b ∧ b < 64) ∧ C (.int .u64 (a / 2 ^ b.toNat))
  | .eql => C (.bool (decide (a = b)))
  | .neq => C (.bool (decide (a ≠ b)))
  | .lss => C (.bool (decide (a < b)))
  | .leq => C (.bool (decide (a <= b)))
  | .gtr => C (.bool (decide (b < a)))
  | .geq => C (.bool (decide (b <= a)))
  | _ => False)
 | _ => False

abbrev idx (n : Int) (len : Nat) : Prop := 0 <= n ∧ n < (len : Int)

def va (hs : Nat) (ne : Prop) (C : Nat -> Nat -> Prop) : Prop :=
 ∀ b hs', hs <= hs' -> (ne -> hs <= b ∧ b < hs') -> C b hs'

def zlc (cx : Cx) (K : S -> Prop) (t : Nat) (n : Int) (d : Nat) (e : Env) (hs : Nat) : Prop :=
 zH cx.tt t λi => match i.kind with
  | .slice el => zH cx.tt el λj => (0 <= n ∧ n <= 1000000000) ∧ va hs (0 < n) λb hs' => match j.kind with
   | .int .i64 => K1 K hs' d e (.ownI el b (List.replicate n.toNat 0))
   | _ => K1 K hs' d e (.ownV el j.size b n.toNat (λ_ => j.zero))
  | _ => False

def xp : List (Nat × V) -> Nat -> (List Int -> Prop) -> Prop
 | [], _, C => C []
 | (i, .int .i64 n) :: r, j, C => bif Nat.beq i j then xp r (j + 1) λl => C (n :: l) else False
 | _ :: _, _, _ => False
def y3 : List (Nat × V) -> Nat -> (List V -> Prop) -> Prop
 | [], _, C => C []
 | (i, x) :: r, j, C => bif Nat.beq i j then y3 r (j + 1) λl => C (x :: l) else False

def zbE (gh : GM) : Env -> List (Nat × Operand) -> (Env -> List (Nat × V) -> Prop) -> Prop
 | e, [], C => C e []
 | e, (i, o) :: r, C => cvK gh e o λe x => zbE gh e r λe xs => C e ((i, x) :: xs)

def nth : List V -> Nat -> V
 | [], _ => .nil
 | x :: _, 0 => x
 | _ :: r, n + 1 => nth r n

def zgQ (tt : TT) (fs : List (Nat × Nat)) : V -> List (Nat × V) -> (V -> Prop) -> Prop
 | z, [], C => C z
 | z, (i, x) :: r, C => match fs.drop i with
  | (off, ft) :: _ => zH tt ft λj => bif Nat.beq x.cells.length j.size && x.flat && Nat.ble (off + x.cells.length) z.cells.length then zgQ tt fs (zP z off x) r C else False
  | [] => False

def zfX (x : V) (C : Int -> Prop) : Prop :=
 match x with
 | .ints _ xs => C (xs.length : Int)
 | .vals _ _ n _ => C (n : Int)
 | .nil => C 0
 | .rf _ n => C (n : Int)
 | .wh _ _ xs => C (xs.length : Int)
 | _ => False

def zhu (x : AV) (ints : List Int -> Prop) (vals : Nat -> Nat -> (Nat -> V) -> Prop) (none : Prop) : Prop :=
 match x with
 | .ownI _ _ xs => ints xs
 | .ownV _ sz _ n f => vals sz n f
 | .v (.ints _ xs) => ints xs
 | .v (.vals _ sz n f) => vals sz n f
 | .v .nil => none
 | _ => False

def zgR (hs : Nat) (b0 : Option Nat) (ne : Prop) (C : Nat -> Nat -> Prop) : Prop :=
 ∀ b hs', hs <= hs' -> (ne -> (some b = b0 ∨ (hs <= b ∧ b < hs'))) -> C b hs'

def zhv (K : S -> Prop) (hs : Nat) (d el : Nat) (b0 : Option Nat) (e : Env) (xs ys : List Int) : Prop :=
 ((xs.length + ys.length : Nat) <= 1000000000) ∧ zgR hs b0 (xs ++ ys ≠ []) λb hs' => K1 K hs' d e (.ownI el b (xs ++ ys))
def zhw (K : S -> Prop) (hs : Nat) (d el sz : Nat) (b0 : Option Nat) (e : Env) (n m : Nat) (f g : Nat -> V) : Prop :=
 (n + m <= 1000000000) ∧ ∃ h : Nat -> V, (∀ i, i < n -> h i = f i) ∧ (∀ j, j < m -> h (n + j) = g j) ∧
  zgR hs b0 (n + m ≠ 0) λb hs' => K1 K hs' d e (.ownV el sz b (n + m) h)

def appK (cx : Cx) (K : S -> Prop) (t d : Nat) (e : Env) (hs : Nat) (s : Nat) (a src : AV) : Prop :=
 zH cx.tt t λi => match i.kind with
   | .slice el => zH cx.tt el λj => match a with
     | .ownI el' b xs => bif Nat.beq el' el && Nat.beq j.size 1 then yP e s .dead λe => zhu src (λys => zhv K hs d el (some b) e xs ys) (λ_ _ _ => False) (zhv K hs d el (some b) e xs []) else False
     | .ownV el' sz b n f => bif Nat.beq el' el && Nat.beq sz j.size then yP e s .dead λe => zhu src (λ_ => False) (λsz' m g => bif Nat.beq sz' sz then zhw K hs d el sz (some b) e n m f g else False)
         (zhw K hs d el sz (some b) e n 0 f (λ_ => .nil)) else False
     | .v .nil => match j.kind with
       | .int .i64 => zhu src (λys => zhv K hs d el none e [] ys) (λ_ _ _ => False) (zhv K hs d el none e [] [])
       | _ => zhu src (λ_ => False) (λsz' m g => bif Nat.beq sz' j.size then zhw K hs d el sz' none e 0 m (λ_ => .nil) g else False) (K1 K hs d e (.v .nil))
     | _ => False
   | _ => False

def zc8 (cx : Cx) (e : Env) (t : Nat) (a : AV) (C : V -> Prop) : Prop :=
 zH cx.tt t λi => match a with
  | .pv x off => z3 i x off C
  | .v (.box _ x) => z3 i x 0 C
  | .ownB _ x => z3 i x 0 C
  | .al s => zM e s λb => match b with
   | .ownB _ x => z3 i x 0 C
   | .v (.box _ x) => z3 i x 0 C
   | _ => False
  | .pl s ix off => zM e s λb => match b with
   | .ownI _ _ xs => match i.kind with | .int .i64 => bif Nat.beq off 0 then C (.int .i64 (xs.getD ix 0)) else False | _ => False
   | .ownV _ _ _ _ f => z3 i (f ix) off C
   | .ownB _ x => z3 i x off C
   | _ => False
  | .pr b ix => (match i.kind with
   | .int .i64 => zM e vt λt => (match t with
    | .tab tb => ∃ xs, tb b = some xs ∧ ix < xs.length ∧ C (.int .i64 (xs.getD ix 0))
    | _ => False)
   | _ => False)
  | _ => False

def zbF (K : Env -> Prop) (e : Env) (s ix off : Nat) (x : V) : Prop :=
 zM e s λb => match b with
  | .ownI el b xs => match x with
   | .int .i64 n => bif Nat.beq off 0 then yP e s (.ownI el b (xs.set ix n)) K else False
   | _ => False
  | .ownV el sz b n f => ((off + x.cells.length <= sz) ∧ x.flat = true) ∧ ∃ h : Nat -> V, h ix = zP (f ix) off x ∧ (∀ j, j < n -> j ≠ ix -> h j = f j) ∧ yP e s (.ownV el sz b n h) K
  | .ownB b y => ((off + x.cells.length <= y.cells.length) ∧ x.flat = true) ∧ yP e s (.ownB b (zP y off x)) K
  | _ => False

def zdJ (K : Env -> Prop) (e : Env) (s : Nat) (a : AV) (x : V) : Prop :=
 match a with
 | .ownB b y => ((x.cells.length <= y.cells.length) ∧ x.flat = true) ∧ yP e s (.ownB b (zP y 0 x)) K
 | _ => False

def zap (K : Env -> Prop) (e : Env) (t : Nat) (a : AV) (x : V) : Prop :=
 match a with
 | .pl s ix off => zbF K e s ix off x
 | .pr b ix => (match x with
  | .int .i64 n => zM e vt λt => (match t with
   | .tab tb => ∃ xs, tb b = some xs ∧ ix < xs.length ∧ yP e vt (.tab (z2 tb b (xs.set ix n))) K
   | _ => False)
  | _ => False)
 | .al s => zM e s λb => zdJ K e s b x
 | a => zdJ K e t a x

def xC (e : Env) (o : Operand) (C : Nat -> AV -> Prop) : Prop :=
 match o with
 | .tmp t => zM e t λa => match a with
  | .al s => zM e s λb => C s b
  | a => C t a
 | _ => False

def zhx (e : Env) (o : Option Operand) (dflt : Int) (C : Int -> Prop) : Prop :=
 match o with
 | none => C dflt
 | some o => rdK e o λx => match x with | .int .i64 n => C n | _ => False

def zfY (esz : Nat) (e : Env) (x : V) (lo hi mx : Option Operand) (C : V -> Prop) : Prop :=
 match mx with
 | none => zfX x λlen => zhx e lo 0 λl => zhx e hi len λh => (0 <= l ∧ l <= h ∧ h <= len) ∧ match x with
  | .ints g xs => bif Nat.beq esz 1 then C (.ints g ((xs.take h.toNat).drop l.toNat)) else False
  | .vals g sz _ f => bif Nat.beq esz sz then C (.vals g sz (h - l).toNat (λi => f (l.toNat + i))) else False
  | .nil => C .nil
  | _ => False
 | some (.const (.int .i64 0)) => match lo, hi with
  | none, some (.const (.int .i64 0)) => zfX x λ_ => C .nil
  | _, _ => False
 | _ => False

def AV.fresh (lo hi : Nat) : AV -> Prop
 | .ownI _ b xs => xs ≠ [] -> lo <= b ∧ b < hi
 | .ownV _ _ b n _ => n ≠ 0 -> lo <= b ∧ b < hi
 | .tupO _ (.ownI _ b xs) _ => xs ≠ [] -> lo <= b ∧ b < hi
 | .tupO _ (.ownV _ _ b n _) _ => n ≠ 0 -> lo <= b ∧ b < hi
 | _ => True

def kJ (cx : Cx) (K : S -> Prop) (d : Nat) (e : Env) (hs : Nat) (f : Nat) (xs : List V) : Prop :=
 ∃ post, cx.F f xs post ∧ ∀ lo hi hi' a, hs <= lo -> lo <= hi' -> hi <= hi' -> post lo hi a -> a.fresh lo hi' -> K1 K hi' d e a

/- one operation each; d: where the result goes -/
def zgS (K : S -> Prop) (d : Nat) (x : Operand) (e : Env) (hs : Nat) : Prop :=
 match x with
 | .tmp t => zM e t λa => match a with
  | .ownI .. | .ownV .. | .ownB .. | .tupO .. => K1 K hs d e (.al t)
  | .dead | .tab _ | .keep .. => False
  | a => K1 K hs d e a
 | .const c => xg c λx => K1 K hs d e (.v x)
 | .func f => K1 K hs d e (.v (.func f []))
 | _ => False
def zaq (K : S -> Prop) (d : Nat) (x : Operand) (e : Env) (hs : Nat) : Prop :=
 match x with
 | .tmp t => zM e t λa => match a with
  | .ownB .. => K1 K hs d e (.al t)
  | .al s => zM e s λb => (match b with
   | .ownB .. => K1 K hs d e (.al s)
   | .v (.box g y) => K1 K hs d e (.v (.box g y))
   | _ => False)
  | .v (.box g y) => K1 K hs d e (.v (.box g y))
  | .pl s i off => K1 K hs d e (.pl s i off)
  | .pv y off => K1 K hs d e (.pv y off)
  | _ => False
 | _ => False
def kK (cx : Cx) (K : S -> Prop) (d : Nat) (x : Operand) (e : Env) (hs : Nat) : Prop :=
 match x with
 | .tmp t => zM e t λa => match a with
  | .dead => False
  | .v x => K1 K hs d e (.v x)
  | .al u => (match cx.gh with
   | .tr => zM e u λb => match b with
    | .ownI .. | .ownV .. | .ownB .. => yP e u .dead λe => K1 K hs d e b
    | .v x => K1 K hs d e (.v x)
    | _ => False
   | gh => zM e u λb => frK gh e u b λe x => K1 K hs d e (.v x))
  | .pl .. | .pv .. | .pr .. | .sl .. | .tab _ | .keep .. | .tupO .. => False
  | a => yP e t .dead λe => K1 K hs d e a
 | .const (.pointer none) => K1 K hs d e .dead
 | .const c => xg c λx => K1 K hs d e (.v x)
 | .func f => K1 K hs d e (.v (.func f []))
 | _ => False
def zix (x : V) (C : Option Bool -> Prop) : Prop :=
 match x with
 | .tr => C (some true)
 | .fa => C (some false)
 | .bool b => C (some b)
 | .tup [] => C none
 | _ => False
def boK (e : Env) (o : Operand) (C : Option Bool -> Prop) : Prop :=
 match o with
 | .tmp t => zM e t λa => match a with
  | .v x => zix x C
  | .dead => C none
  | _ => False
 | .const c => xg c λx => zR x λb => C (some b)
 | _ => False
def zkH (K : S -> Prop) (d : Nat) (c a b : Operand) (e : Env) (hs : Nat) : Prop :=
 rdK e c λvc => match vc with
 | .tr => rdK e a λx => zR x λ_ => K1 K hs d e (.v x)
 | .fa => rdK e b λx => zR x λ_ => K1 K hs d e (.v x)
 | .bool t => boK e a λp => boK e b λq => match p, q with
  | some p, some q => K1 K hs d e (.v (.bool (bif t then p else q)))
  | some p, none => t = true ∧ K1 K hs d e (.v (.bool p))
  | none, some q => t = false ∧ K1 K hs d e (.v (.bool q))
  | _, _ => False
 | _ => False
def ziy (tt : TT) (K : S -> Prop) (d : Nat) (op : BinOp) (t : Nat) (p q : Bool) (e : Env) (hs : Nat) : Prop :=
 zH tt t λi => match i.kind with
 | .bool => (match op with
  | .eql => K1 K hs d e (.v (.bool (p == q)))
  | .neq => K1 K hs d e (.v (.bool (!(p == q))))
  | _ => False)
 | _ => False
def zgT : List V -> (List Int -> Prop) -> Prop
 | [], C => C []
 | .int .i64 n :: r, C => zgT r λl => C (n :: l)
 | _ :: _, _ => False
def zez : List (Nat × Nat) -> Nat -> (Nat -> Prop) -> Prop
 | [], _, _ => False
 | (k, n) :: r, t, C => bif Nat.beq k t then C n else zez r t C
def eqAK (cx : Cx) (K : S -> Prop) (d : Nat) (op : BinOp) (t : Nat) (cs ds : List V) (e : Env) (hs : Nat) : Prop :=
 match op with
 | .neq => zez cx.eqs t λn => zgT cs λxs => zgT ds λys => (xs.length = n ∧ ys.length = n) ∧ K1 K hs d e (.v (.bool (decide (xs ≠ ys))))
 | _ => False
def zfZ (cx : Cx) (K : S -> Prop) (d : Nat) (op : BinOp) (t : Nat) (x y : Operand) (e : Env) (hs : Nat) : Prop :=
 rdK e x λvx => rdK e y λvy => match vx, vy with
 | .int .i64 a, .int k b => zbD cx.wr op .i64 a b (kfK op k λx => K1 K hs d e (.v x))
 | .int .u64 a, .int k b => u64K op k a b λx => K1 K hs d e (.v x)
 | .tr, y => zR y λq => ziy cx.tt K d op t true q e hs
 | .fa, y => zR y λq => ziy cx.tt K d op t false q e hs
 | .bool p, y => zR y λq => ziy cx.tt K d op t p q e hs
 | .agg cs, .agg ds => eqAK cx K d op t cs ds e hs
 | _, _ => False
def ziz (cx : Cx) (K : S -> Prop) (d t : Nat) (x : Operand) (e : Env) (hs : Nat) : Prop :=
 zH cx.tt t λi => match i.kind with
 | .slice _ => rdK e x λvx => match vx with
  | .ints _ xs => ∀ b, (b = true -> xs = []) -> K1 K hs d e (.v (.bool b))
  | .vals _ sz n _ => ∀ b, (b = true -> n = 0 ∨ sz = 0) -> K1 K hs d e (.v (.bool b))
  | .nil => ∀ b, K1 K hs d e (.v (.bool b))
  | _ => False
 | _ => False
def zkI (K : S -> Prop) (d : Nat) (op : UnOp) (x : Operand) (e : Env) (hs : Nat) : Prop :=
 rdK e x λvx => match op, vx with
 | .not, .tr => K1 K hs d e (.v .fa)
 | .not, .fa => K1 K hs d e (.v .tr)
 | .not, .bool b => K1 K hs d e (.v (.bool (!b)))
 | .neg, .int .i64 n => inR (-n) ∧ K1 K hs d e (.v (.int .i64 (-n)))
 | _, _ => False
def zeA (cx : Cx) (K : S -> Prop) (d s t : Nat) (x : Operand) (e : Env) (hs : Nat) : Prop :=
 rdK e x λvx => match vx with
 | .int .i64 n => zH cx.tt s λ_ => zH cx.tt t λi => match i.kind with
  | .int .i64 => inR n ∧ K1 K hs d e (.v (.int .i64 n))
  | .int .u64 => (0 <= n ∧ inR n) ∧ K1 K hs d e (.v (.int .u64 n))
  | _ => False
 | .int .u64 n => zH cx.tt s λ_ => zH cx.tt t λi => match i.kind with
  | .int .i64 => (0 <= n ∧ inR n) ∧ K1 K hs d e (.v (.int .i64 n))
  | .int .u64 => inU n ∧ K1 K hs d e (.v (.int .u64 n))
  | _ => False
 | .int .u8 n => zH cx.tt s λ_ => zH cx.tt t λi => match i.kind with
  | .int .i64 => (0 <= n ∧ n <= 255) ∧ K1 K hs d e (.v (.int .i64 n))
  | .int .u64 => (0 <= n ∧ n <= 255) ∧ K1 K hs d e (.v (.int .u64 n))
  | _ => False
 | _ => False
def ziA (cx : Cx) (K : S -> Prop) (d t : Nat) (e : Env) (hs : Nat) : Prop :=
 zH cx.tt t λi => va hs True λb hs' => K1 K hs' d e (.ownB b i.zero)
def boxK (cx : Cx) (K : S -> Prop) (d t : Nat) (x : Operand) (e : Env) (hs : Nat) : Prop :=
 cvK cx.gh e x λe x => xh cx.tt t x λx => (x.flat = true) ∧ va hs True λb hs' => K1 K hs' d e (.ownB b x)
def ziB (cx : Cx) (K : S -> Prop) (d t : Nat) (ps : List (Nat × Operand)) (e : Env) (hs : Nat) : Prop :=
 zH cx.tt t λi => match i.kind with
 | .struct fs => zbE cx.gh e ps λe xs => zgQ cx.tt fs i.zero xs λx => K1 K hs d e (.v x)
 | _ => False
def js (cx : Cx) (K : S -> Prop) (d t n : Nat) (ps : List (Nat × Operand)) (e : Env) (hs : Nat) : Prop :=
 zH cx.tt t λi => match i.kind with
 | .slice el => zH cx.tt el λj => zbE cx.gh e ps λe xs => match j.kind with
  | .int .i64 => xp xs 0 λl => (l.length = n ∧ n * j.size <= 10000) ∧ va hs (0 < n ∨ n = 0) λb hs' => K1 K hs' d e (.ownI el b l)
  | _ => y3 xs 0 λl => (l.length = n ∧ n * j.size <= 10000 ∧ (∀ x ∈ l, x.cells.length = j.size ∧ x.flat = true)) ∧ va hs (0 < n ∨ n = 0) λb hs' => K1 K hs' d e (.ownV el j.size b n (nth l))
 | _ => False
def zbq (cx : Cx) (K : S -> Prop) (d t a : Nat) (e : Env) (hs : Nat) : Prop :=
 zM e a λav => zc8 cx e t av λx => K1 K hs d e (.v x)
def zbG (cx : Cx) (K : S -> Prop) (d t : Nat) (l c : Operand) (e : Env) (hs : Nat) : Prop :=
 rdK e l λvl => rdK e c λvc => match vl, vc with
 | .int .i64 n, .int .i64 m => (n = m) ∧ zlc cx K t n d e hs
 | _, _ => False
def zc9 (cx : Cx) (K : S -> Prop) (d f : Nat) (caps : List Operand) (e : Env) (hs : Nat) : Prop :=
 zkR cx.gh e caps λe xs => K1 K hs d e (.v (.func f xs))
def ziC (K : S -> Prop) (hs d sz : Nat) (e : Env) (b n : Nat) (lo hi mx : Option Operand) : Prop :=
 match mx with
 | none => bif Nat.beq sz 1 then zhx e lo 0 λl => zhx e hi n λh => (0 <= l ∧ l < h ∧ h <= n) ∧ K1 K hs d e (.sl b l.toNat (h.toNat - l.toNat)) else False
 | _ => False
def zeB (cx : Cx) (K : S -> Prop) (d t : Nat) (x : Operand) (lo hi mx : Option Operand) (e : Env) (hs : Nat) : Prop :=
 zH cx.tt t λi => match i.kind with
 | .slice el => zH cx.tt el λj => cvK cx.gh e x λe x => match x with
  | .rf b n => ziC K hs d j.size e b n lo hi mx
  | x => zfY j.size e x lo hi mx λy => K1 K hs d e (.v y)
 | _ => False
def cutK (cx : Cx) (K : S -> Prop) (d t : Nat) (x hi : Operand) (e : Env) (hs : Nat) : Prop :=
 zH cx.tt t λi => match i.kind with
 | .slice el => zH cx.tt el λj => zhx e (some hi) 0 λm => xC e x λs a => match a with
  | .ownV el' sz b n f => (j.size = sz ∧ 1 <= m ∧ m <= n) ∧ yP e s .dead λe => K1 K hs d e (.ownV el' sz b m.toNat f)
  | _ => False
 | _ => False
def zdK (cx : Cx) (K : S -> Prop) (d t : Nat) (x : Operand) (lo hi mx : Option Operand) (e : Env) (hs : Nat) : Prop :=
 match cx.gh, lo, hi, mx with
 | .tr, none, some h, none => cutK cx K d t x h e hs
 | _, _, _, _ => zeB cx K d t x lo hi mx e hs
def zkS (e : Env) (o : Operand) (C : Nat -> Nat -> Nat -> Prop) : Prop :=
 match o with
 | .tmp t => zM e t λa => match a with
  | .sl b i n => C b i n
  | .v (.rf b n) => 0 < n ∧ C b 0 n
  | _ => False
 | _ => False
def ziD (e : Env) (tb : Tab) (o : Operand) (C : List Int -> Prop) : Prop :=
 match o with
 | .tmp t => zM e t λa => match a with
  | .sl b i n => ∃ xs, tb b = some xs ∧ i + n <= xs.length ∧ C ((xs.drop i).take n)
  | .v (.rf b n) => 0 < n ∧ ∃ xs, tb b = some xs ∧ n <= xs.length ∧ C (xs.take n)
  | .v (.ints _ xs) => 0 < xs.length ∧ C xs
  | _ => False
 | _ => False
def zhy (xs : List Int) (i n : Nat) (ys : List Int) : List Int := xs.take i ++ ys.take n ++ xs.drop (i + min n ys.length)
def zlg (K : S -> Prop) (d : Nat) (x y : Operand) (e : Env) (hs : Nat) : Prop :=
 zkS e x λb i n => zan e λtb => ziD e tb y λys => ∃ xs, tb b = some xs ∧ i + n <= xs.length ∧
  yP e vt (.tab (z2 tb b (zhy xs i n ys))) λe => K1 K hs d e (.v (.int .i64 (min n ys.length : Nat)))
def zdL (cx : Cx) (K : S -> Prop) (d t t' : Nat) (x y : Operand) (e : Env) (hs : Nat) : Prop :=
 bif Nat.beq t t' then zH cx.tt t λi => match i.kind with
  | .slice el => zH cx.tt el λj => (match j.kind with
   | .int .i64 => zlg K d x y e hs
   | _ => False)
  | _ => False
 else False
def kf (cx : Cx) (K : S -> Prop) (d t a k : Nat) (e : Env) (hs : Nat) : Prop :=
 zH cx.tt t λi => match i.kind with
 | .struct fs => (match fs.drop k with
   | (off, ft) :: _ => zH cx.tt ft λ_ => zM e a λav => match av with
       | .pl s ix o => K1 K hs d e (.pl s ix (o + off))
       | .pv y o => K1 K hs d e (.pv y (o + off))
       | .ownB _ _ => K1 K hs d e (.pl a 0 off)
       | .v (.box _ y) => K1 K hs d e (.pv y off)
       | .al s => zM e s λb => match b with
         | .ownB _ _ => K1 K hs d e (.pl s 0 off)
         | .v (.box _ y) => K1 K hs d e (.pv y off)
         | _ => False
       | _ => False
   | [] => False)
 | _ => False
def zhz (e : Env) (x : Operand) (C : List V -> Prop) : Prop :=
 match x with
 | .tmp t => zM e t λa => match a with | .v (.agg cs) => C cs | _ => False
 | _ => False
def zf0 (cx : Cx) (K : S -> Prop) (d t : Nat) (x : Operand) (k : Nat) (e : Env) (hs : Nat) : Prop :=
 zH cx.tt t λi => match i.kind with
 | .struct fs => (match fs.drop k with
  | (off, ft) :: _ => zH cx.tt ft λj => zhz e x λcs => match j.kind with
   | .struct _ => False
   | _ => z3 j (.agg cs) off λy => K1 K hs d e (.v y)
  | [] => False)
 | _ => False
def kg (cx : Cx) (K : S -> Prop) (d t : Nat) (x i : Operand) (e : Env) (hs : Nat) : Prop :=
 zH cx.tt t λti => match ti.kind with
 | .slice el => zH cx.tt el λtj => rdK e i λvi => match vi with
  | .int .i64 n => xC e x λs a => match a with
   | .ownI _ _ xs => bif Nat.beq tj.size 1 then idx n xs.length ∧ K1 K hs d e (.pl s n.toNat 0) else False
   | .ownV _ sz _ m _ => bif Nat.beq sz tj.size then idx n m ∧ K1 K hs d e (.pl s n.toNat 0) else False
   | .v (.rf b m) => bif Nat.beq tj.size 1 then idx n m ∧ K1 K hs d e (.pr b n.toNat) else False
   | .v (.ints _ xs) => bif Nat.beq tj.size 1 then idx n xs.length ∧ K1 K hs d e (.pv (.int .i64 (xs.getD n.toNat 0)) 0) else False
   | .v (.vals _ sz m f) => bif Nat.beq sz tj.size then idx n m ∧ K1 K hs d e (.pv (f n.toNat) 0) else False
   | _ => False
  | _ => False
 | _ => False
def AV.isLst : AV -> Bool
 | .ownI .. | .ownV .. => true
 | _ => false
def zgU (K : S -> Prop) (d s i j : Nat) (o : AV) (vs : List V) (e : Env) (hs : Nat) : Prop :=
 bif Nat.beq i j then (o.isLst = true) ∧ yP e s (.tupO j .dead vs) λe => K1 K hs d e o
 else match vs.drop i with
  | y :: _ => K1 K hs d e (.v y)
  | [] => False
def zbH (K : S -> Prop) (d : Nat) (t i : Nat) (e : Env) (hs : Nat) : Prop :=
 zM e t λa => match a with
 | .v (.tup vs) => (match vs.drop i with
  | y :: _ => K1 K hs d e (.v y)
  | [] => False)
 | .tupO j o vs => zgU K d t i j o vs e hs
 | .al s => zM e s λb => (match b with
  | .tupO j o vs => zgU K d s i j o vs e hs
  | _ => False)
 | _ => False
def zf1 (cx : Cx) (K : S -> Prop) (d t : Nat) (x : Operand) (e : Env) (hs : Nat) : Prop :=
 zH cx.tt t λi => match i.kind with
 | .slice _ => rdK e x λvx => zfX vx λn => K1 K hs d e (.v (.int .i64 n))
 | _ => False
def maxK (K : S -> Prop) (d : Nat) (x y : Operand) (e : Env) (hs : Nat) : Prop :=
 rdK e x λvx => rdK e y λvy => match vx, vy with
 | .int .i64 a, .int .i64 b => K1 K hs d e (.v (.int .i64 (max a b)))
 | _, _ => False
def minK (K : S -> Prop) (d : Nat) (x y : Operand) (e : Env) (hs : Nat) : Prop :=
 rdK e x λvx => rdK e y λvy => match vx, vy with
 | .int .i64 a, .int .i64 b => K1 K hs d e (.v (.int .i64 (min a b)))
 | _, _ => False
def zar (cx : Cx) (K : S -> Prop) (d t t' : Nat) (x y : Operand) (e : Env) (hs : Nat) : Prop :=
 bif Nat.beq t t' then xC e y λ_ b => xC e x λs a => appK cx K t d e hs s a b else False
def AV.shape : AV -> Option (Bool × Nat × Nat × Nat)
 | .ownI _ b xs => some (false, b, xs.length, 1)
 | .ownV _ sz b n _ => some (false, b, n, sz)
 | .ownB b _ => some (true, b, 1, 0)
 | _ => none

def ziE : List (Nat × Nat) -> Nat -> Option Nat
 | [], _ => none
 | (f, k) :: r, g => bif Nat.beq f g then some k else ziE r g

def zbI (tt : TT) (k : Nat) : Env -> Nat -> List Operand -> List Nat -> (Env -> List V -> Prop) -> Prop
 | e, _, [], _, C => C e []
 | e, j, o :: r, t :: ts, C => bif Nat.beq j k then zbI tt k e (j + 1) r ts λe xs => C e (.nil :: xs)
     else cvK .no e o λe x => xh tt t x λx => zbI tt k e (j + 1) r ts λe xs => C e (x :: xs)
 | _, _, _ :: _, [], _ => False
def zeC : List Operand -> Nat -> Operand
 | [], _ => .const undef
 | o :: _, 0 => o
 | _ :: r, n + 1 => zeC r n
def AV.own : AV -> Bool
 | .ownI .. | .ownV .. | .ownB .. | .v _ => true
 | _ => false
def AV.tabOk : AV -> Bool
 | .tab _ | .dead => true
 | _ => false
def v2 (x x' : AV) : Prop := x' = .dead ∨ (x'.own = true ∧ x'.shape = x.shape)
def AV.isRes : AV -> Bool
 | .v _ | .ownI .. | .ownV .. | .ownB .. | .tupO .. => true
 | _ => false
def ziF (cx : Cx) (K : S -> Prop) (d f : Nat) (args : List Operand) (ts : List Nat) (k : Nat) (e : Env) (hs : Nat) : Prop :=
 zbI cx.tt k e 0 args ts λe xs => xC e (zeC args k) λs x => (x.own = true ∧ Nat.blt args.length vt = true) ∧ zM e vt λt => (t.tabOk = true) ∧
  ∃ post, cx.M f xs k x t post ∧ ∀ hs' av x' t', hs <= hs' -> post hs' av x' t' -> v2 x x' -> t'.tabOk = true -> (x' ≠ .dead -> av.fresh hs hs') ->
   yP e s x' λe => yP e vt t' λe => K1 K hs' d e av

def zf2 (cx : Cx) (K : S -> Prop) (d : Nat) (e : Env) (hs : Nat) (f : Nat) (xs : List V) : Prop :=
 zan e λtb0 => ∃ post, cx.T f xs post ∧ ∀ lo hi hi' x tb tb', hs <= lo -> lo <= hi' -> hi <= hi' -> post lo hi x tb -> (∀ b, tb b ≠ none -> lo <= b ∧ b < hi') ->
  (∀ b c, tb b = some c -> tb' b = some c) -> (∀ b c, tb0 b = some c -> tb' b = some c) -> yP e vt (.tab tb') λe => K1 K hi' d e (.v x)

def zbr (cx : Cx) (K : S -> Prop) (d f : Nat) (args : List Operand) (ts : List Nat) (e : Env) (hs : Nat) : Prop :=
 match ziE cx.ms f with
 | none => (match cx.gh with
  | .mt => xA cx.tt e args ts λxs => bif cx.ts.elem f then zf2 cx K d e hs f xs else kJ cx K d e hs f xs
  | _ => x9 cx.tt e args ts λxs => kJ cx K d e hs f xs)
 | some k => ziF cx K d f args ts k e hs
def zbJ (cx : Cx) (K : S -> Prop) (d t : Nat) (args : List Operand) (ts : List Nat) (e : Env) (hs : Nat) : Prop :=
 rdK e (.tmp t) λvf => match vf with
 | .func f caps => x9 cx.tt e args ts λxs => kJ cx K d e hs f (xs ++ caps)
 | _ => False
def zbK (cx : Cx) (K : S -> Prop) (t a : Nat) (x : Operand) (e : Env) (hs : Nat) : Prop :=
 cvK cx.gh e x λe x => zH cx.tt t λi => bif Nat.beq x.cells.length i.size then zM e a λav => zap (λe => K ⟨e, hs⟩) e a av x else False

def vb (cx : Cx) (o : Oper) (K : S -> Prop) (e : Env) (hs : Nat) : Prop :=
 match o.dst with
 | some d => match o.op with
  | .move x => zgS K d x e hs
  | .assign x => kK cx K d x e hs
  | .nilCheck x => zaq K d x e hs
  | .pick c a b => zkH K d c a b e hs
  | .binOp .eql t x (.const (.slice none 0 0)) _ => ziz cx K d t x e hs
  | .binOp op t x y _ => zfZ cx K d op t x y e hs
  | .unOp op _ x => zkI K d op x e hs
  | .convert s t x => zeA cx K d s t x e hs
  | .alloc t => ziA cx K d t e hs
  | .box t x => boxK cx K d t x e hs
  | .build t ⟨ps⟩ => ziB cx K d t ps e hs
  | .buildSlice t n ⟨ps⟩ => js cx K d t n ps e hs
  | .load t (.tmp a) => zbq cx K d t a e hs
  | .makeSlice t l c => zbG cx K d t l c e hs
  | .makeFunc (.func f) ⟨[]⟩ ⟨caps⟩ => zc9 cx K d f caps e hs
  | .slice t x lo hi mx => zdK cx K d t x lo hi mx e hs
  | .fieldAddr t (.tmp a) k => kf cx K d t a k e hs
  | .field t x k => zf0 cx K d t x k e hs
  | .indexAddr t x i => kg cx K d t x i e hs
  | .extract (.tmp t) i => zbH K d t i e hs
  | .call ⟨.builtin .len, ⟨[x]⟩, ⟨[t]⟩⟩ => zf1 cx K d t x e hs
  | .call ⟨.builtin .max, ⟨[x, y]⟩, _⟩ => maxK K d x y e hs
  | .call ⟨.builtin .min, ⟨[x, y]⟩, _⟩ => minK K d x y e hs
  | .call ⟨.builtin .append, ⟨[x, y]⟩, ⟨[t, t']⟩⟩ => zar cx K d t t' x y e hs
  | .call ⟨.builtin .copy, ⟨[x, y]⟩, ⟨[t, t']⟩⟩ => zdL cx K d t t' x y e hs
  | .call ⟨.value (.func f), ⟨args⟩, ⟨ts⟩⟩ => zbr cx K d f args ts e hs
  | .call ⟨.value (.tmp t), ⟨args⟩, ⟨ts⟩⟩ => zbJ cx K d t args ts e hs
  | _ => False
 | none => match o.op with
  | .store t (.tmp a) x => zbK cx K t a x e hs
  | _ => False

def vr : List Oper -> Nat -> Option Nat
 | [], _ => none
 | o :: _, 0 => o.dst
 | _ :: r, n + 1 => vr r n

def jt (o : Oper) (K : S -> Prop) (e : Env) (hs : Nat) : Prop :=
 match o.dst with
 | some d => K1 K hs d e (.v (.tup []))
 | none => K ⟨e, hs⟩

def ju (cx : Cx) (all : List Oper) (o : Oper) (K : S -> Prop) (e : Env) (hs : Nat) : Prop :=
 match o.guard with
 | none => vb cx o K e hs
 | some (j, want) => match vr all j with
   | some t => zM e t λa => match a with
     | .v .tr => bif want then vb cx o K e hs else jt o K e hs
     | .v .fa => bif want then jt o K e hs else vb cx o K e hs
     | .v (.bool c) => (c = true -> yP e t (.v .tr) λe => bif want then vb cx o K e hs else jt o K e hs) ∧
         (c = false -> yP e t (.v .fa) λe => bif want then jt o K e hs else vb cx o K e hs)
     | .v (.tup []) => jt o K e hs
     | _ => False
   | none => False

def zaU (cx : Cx) (all : List Oper) : List Oper -> (S -> Prop) -> Env -> Nat -> Prop
 | [], K, e, hs => K ⟨e, hs⟩
 | o :: r, K, e, hs => ju cx all o (λs => match s with | ⟨e, hs⟩ => zaU cx all r K e hs) e hs

/- weakening -/
def leV (x y : V) : Prop :=
 match x, y with
 | .int k n, .int k' n' => k = k' ∧ n = n'
 | .ints g xs, .ints g' xs' => g = g' ∧ xs = xs'
 | .nil, .ints _ xs => xs = []
 | .nil, .vals _ _ n _ => n = 0
 | .nil, .rf _ n => n = 0
 | .wh _ b xs, .ints g xs' => g = some b ∧ xs = xs'
 | .vals g sz n f, .vals g' sz' n' f' => g = g' ∧ sz = sz' ∧ n = n' ∧ ∀ i, i < n -> f i = f' i
 | .tr, .bool b => b = true
 | .fa, .bool b => b = false
 | .bool b, .bool b' => b = b'
 | x, y => x = y

def leK (x y : AV) : Prop :=
 match x, y with
 | _, .dead => True
 | .v x, .v y => leV x y
 | .v .nil, .ownI _ _ xs => xs = []
 | .v .nil, .ownV _ sz _ n _ => n = 0 ∧ 0 < sz
 | .ownI e b xs, .ownI e' b' xs' => e = e' ∧ b = b' ∧ xs = xs'
 | .ownI _ b xs, .v (.ints g xs') => (g = none ∨ g = some b) ∧ xs = xs'
 | .ownV e sz b n f, .ownV e' sz' b' n' f' => e = e' ∧ sz = sz' ∧ b = b' ∧ n = n' ∧ ∀ i, i < n -> f i = f' i
 | .ownV _ sz b n f, .v (.vals g sz' n' f') => (g = none ∨ g = some b) ∧ sz = sz' ∧ n = n' ∧ ∀ i, i < n -> f i = f' i
 | .ownB b x, .ownB b' x' => b = b' ∧ x = x'
 | .al s, .al s' => s = s'
 | .tab tb, .tab tb' => ∀ b xs, tb' b = some xs -> tb b = some xs
 | .keep O U hw kk vv, .keep O' U' hw' kk' vv' => O = O' ∧ U = U' ∧ hw = hw' ∧ kk = kk' ∧ vv = vv'
 | .tupO i o vs, .tupO i' o' vs' => i = i' ∧ o = o' ∧ vs = vs'
 | _, _ => False

def zD (e : Env) : Env -> Prop
 | [] => True
 | (k, y) :: r => (zM e k λx => leK x y) ∧ zD e r

def le (s t : S) : Prop := t.hs <= s.hs ∧ zD s.env t.env

def Ex (nx : S -> Prop) (Q : Exit -> S -> Prop) : Exit -> S -> Prop
 | .normal, s => nx s
 | e, s => Q e s
def ExB (id : Nat) (Q : Exit -> S -> Prop) : Exit -> S -> Prop
 | .exit id', s => bif Nat.beq id' id then Q .normal s else Q (.exit id') s
 | e, s => Q e s

def zda (lo : Nat) (g : Option Nat) : Prop := match g with | none => True | some b => lo <= b

/- no ghost but of blocks from lo on -/
mutual
def V.ng (lo : Nat) : V -> Prop
 | .ints g _ => zda lo g
 | .vals g _ n f => zda lo g ∧ ∀ i, i < n -> V.ng lo (f i)
 | .agg cs => V.ngs lo cs
 | .tup cs => V.ngs lo cs
 | .box g x => zda lo g ∧ V.ng lo x
 | .func _ cs => V.ngs lo cs
 | .tr | .fa | .bool _ | .int _ _ | .nil | .rf _ _ => True
 | .wh _ b _ => lo <= b
def V.ngs (lo : Nat) : List V -> Prop
 | [] => True
 | c :: cs => V.ng lo c ∧ V.ngs lo cs
end

def AV.ng (lo : Nat) : AV -> Prop
 | .v x => x.ng lo
 | .ownI _ _ _ => True
 | .ownV _ _ _ n f => ∀ i, i < n -> (f i).ng lo
 | .ownB _ x => x.ng lo
 | _ => False

def zeD (tt : TT) (lo : Nat) (e : Env) (r : ResultVar) (C : AV -> Prop) : Prop :=
 match r with
 | .tmp k => zM e k λa => ∃ av, leK a av ∧ av.ng lo ∧ C av
 | .cell k t => zM e k λa => match a with
  | .ownB _ x => zH tt t λi => match i.kind with
   | .struct _ => bif Nat.beq x.cells.length i.size then x.ng lo ∧ (match x with | .agg _ => C (.v x) | _ => False) else False
   | _ => False
  | _ => False
def zgV (tt : TT) (lo : Nat) (e : Env) : List ResultVar -> (List V -> Prop) -> Prop
 | [], C => C []
 | r :: rs, C => zeD tt lo e r λa => match a with
  | .v x => zgV tt lo e rs λxs => C (x :: xs)
  | _ => False
def zkT (tt : TT) (lo : Nat) (rs : List ResultVar) (s : S) (post : zfW) : Prop :=
 match rs with
 | [r] => zeD tt lo s.env r (post lo s.hs)
 | rs => zgV tt lo s.env rs λxs => post lo s.hs (.v (.tup xs))

def retQ (tt : TT) (lo : Nat) (rs : List ResultVar) (post : zfW) : Exit -> S -> Prop
 | .normal, s => zkT tt lo rs s post
 | .ret, s => zkT tt lo rs s post
 | _, _ => False

def kh : Nat -> List V -> Env
 | _, [] => []
 | k, x :: r => (k, .v x) :: kh (k + 1) r

def yF (N : Nat) : List Oper -> Bool
 | [] => true
 | o :: r => (match o.dst with | some d => Nat.blt d N | none => true) && yF N r

open Go Go.RowKit

def zW (x : V) (j : Nat) : V := x.cells.getD j .nil

abbrev OkB := Option Nat -> Nat -> Prop

def zK (h : Array Obj) (e sz b n : Nat) (v : Value) (cells : List Value) : Prop :=
 cells.length = n * sz ∧
 ((∃ a, v = .slice a 0 0 ∧ n = 0) ∨
  ∃ cap cur, v = .slice (some ⟨b, 0, none⟩) n (cap + 1) ∧ h[b]? = some (.cells cur e (0, 0)) ∧ n <= cap + 1 ∧ cap + 1 <= maxLen ∧
    cur.size = (cap + 1) * sz ∧ cur.toList.take (n * sz) = cells)

inductive Rep (ok : OkB) (h : Array Obj) : V -> Value -> Prop
 | tr : Rep ok h .tr (.bool true)
 | fa : Rep ok h .fa (.bool false)
 | bool (b : Bool) : Rep ok h (.bool b) (.bool b)
 | int (k : IntKind) (n : Int) : Rep ok h (.int k n) (.int k n)
 | nil (a : Option Addr) : Rep ok h .nil (.slice a 0 0)
 | ints (g : Option Nat) (xs : List Int) (a : Option Addr) (cap : Nat) (hc : xs.length <= cap) (hm : cap <= maxLen)
   (hx : ∀ j, j < xs.length -> ∃ b o cur e fr, a = some ⟨b, o, none⟩ ∧ ok g b ∧ h[b]? = some (.cells cur e fr) ∧ cur[o + j]? = some (.int .i64 (xs.getD j 0))) :
   Rep ok h (.ints g xs) (.slice a xs.length cap)
 | vals (g : Option Nat) (sz n : Nat) (f : Nat -> V) (a : Option Addr) (cap : Nat) (hc : n <= cap) (hm : cap <= maxLen)
   (hl : ∀ i, i < n -> (f i).cells.length = sz) (hf : ∀ i, i < n -> (f i).flat = true) (c : Nat -> Nat -> Value)
   (hx : ∀ i j, i < n -> j < sz -> ∃ b o cur e fr, a = some ⟨b, o, none⟩ ∧ ok g b ∧ h[b]? = some (.cells cur e fr) ∧ cur[o + (i * sz + j)]? = some (c i j))
   (hr : ∀ i j, i < n -> j < sz -> Rep ok h (zW (f i) j) (c i j)) :
   Rep ok h (.vals g sz n f) (.slice a n cap)
 | agg (cs : List V) (vs : Array Value) (hl : vs.size = cs.length) (hf : cs.all V.isCell = true)
   (hr : ∀ j, j < cs.length -> Rep ok h (cs.getD j .nil) (vs.getD j undef)) : Rep ok h (.agg cs) (.agg vs)
 | tup (cs : List V) (vs : Array Value) (hl : vs.size = cs.length)
   (hr : ∀ j, j < cs.length -> Rep ok h (cs.getD j .nil) (vs.getD j undef)) : Rep ok h (.tup cs) (.tuple vs)
 | box (g : Option Nat) (x : V) (b : Nat) (hb : ok g b) (hf : x.flat = true) (cur : Array Value) (e : TypeId) (fr : Nat × Nat) (hh : h[b]? = some (.cells cur e fr))
   (c : Nat -> Value) (hx : ∀ j, j < x.cells.length -> cur[j]? = some (c j)) (hr : ∀ j, j < x.cells.length -> Rep ok h (zW x j) (c j)) :
   Rep ok h (.box g x) (.pointer (some ⟨b, 0, none⟩))
 | func (f : Nat) (caps : List V) (vs : Array Value) (hl : vs.size = caps.length)
   (hr : ∀ j, j < caps.length -> Rep ok h (caps.getD j .nil) (vs.getD j undef)) : Rep ok h (.func f caps) (.func (.func f) #[] vs)
 | rf0 (b : Nat) (a : Option Addr) (cap : Nat) (hm : cap <= maxLen) : Rep ok h (.rf b 0) (.slice a 0 cap)
 | rf (b n c : Nat) (hn : n <= c + 1) (hc : c + 1 <= maxLen) : Rep ok h (.rf b n) (.slice (some ⟨b, 0, none⟩) n (c + 1))
 | wh (e b : Nat) (xs : List Int) (v : Value) (ho : zK h e 1 b xs.length v (xs.map (Value.int .i64))) (hk : ∀ c, v = .slice (some ⟨b, 0, none⟩) xs.length (c + 1) -> ok (some b) b) : Rep ok h (.wh e b xs) v

theorem Rep.mono {ok ok' : OkB} {h h' : Array Obj} {x : V} {v : Value} (r : Rep ok h x v)
  (m : ∀ g b, ok g b -> ok' g b ∧ h'[b]? = h[b]?) : Rep ok' h' x v := by
 induction r with
 | tr => exact .tr
 | fa => exact .fa
 | bool b => exact .bool b
 | int k n => exact .int k n
 | nil a => exact .nil a
 | ints g xs a cap hc hm hx =>
  refine .ints g xs a cap hc hm λj hj => ?_;obtain ⟨b, o, cur, e, fr, h1, h2, h3, h4⟩ := hx j hj;exact ⟨b, o, cur, e, fr, h1, (m g b h2).1, (m g b h2).2.trans h3, h4⟩
 | vals g sz n f a cap hc hm hl hf c hx hr ih =>
  refine .vals g sz n f a cap hc hm hl hf c (λi j hi hj => ?_) (λi j hi hj => ih i j hi hj);obtain ⟨b, o, cur, e, fr, h1, h2, h3, h4⟩ := hx i j hi hj;exact ⟨b, o, cur, e, fr, h1, (m g b h2).1, (m g b h2).2.trans h3, h4⟩
 | agg cs vs hl hf hr ih => exact .agg cs vs hl hf ih
 | tup cs vs hl hr ih => exact .tup cs vs hl ih
 | box g x b hb hf cur e fr hh c hx hr ih => exact .box g x b (m g b hb).1 hf cur e fr ((m g b hb).2.trans hh) c hx ih
 | func f caps vs hl hr ih => exact .func f caps vs hl ih
 | rf b n c hn hc => exact .rf b n c hn hc
 | rf0 b a cap hm => exact .rf0 b a cap hm
 | wh e b xs v ho hk =>
  refine .wh e b xs v ⟨ho.1, ho.2.imp id λ⟨c, cur, h1, h2, h3⟩ => ⟨c, cur, h1, (m _ _ (hk c h1)).2.trans h2, h3⟩⟩ λc hc => (m _ _ (hk c hc)).1

theorem Rep.oneCell {ok : OkB} {h : Array Obj} {x : V} {v : Value} (r : Rep ok h x v) (hx : x.isCell = true) : v.oneCell' = true := by
 cases r with
 | wh e b xs _ ho hk => rcases ho.2 with ⟨a, rfl, _⟩ | ⟨c, cur, rfl, _⟩ <;> rfl
 | _ => first | rfl | simp [V.isCell] at hx

theorem j6 {x : V} (hf : x.flat = true) {j : Nat} (hj : j < x.cells.length) : (zW x j).isCell = true := by
 cases x <;> simp_all [V.flat, V.cells, zW, V.isCell]

def rb1 : AV -> Value -> Nat -> Prop
 | .ownI _ b _, .slice (some _) _ (_ + 1), c => c = b
 | .ownV _ _ b _ _, .slice (some _) _ (_ + 1), c => c = b
 | _, _, _ => False
def rb : AV -> Value -> Nat -> Prop
 | .ownI _ b _, .slice (some _) _ (_ + 1), c => c = b
 | .ownV _ _ b _ _, .slice (some _) _ (_ + 1), c => c = b
 | .ownB b _, _, c => c = b
 | .tab tb, _, c => tb c ≠ none
 | .keep O _ _ _ _, _, c => O c
 | .tupO i o _, .tuple us, c => rb1 o (us.getD i undef) c
 | _, _, _ => False

def AV.free : AV -> Bool
 | .ownI .. | .ownV .. | .ownB .. | .tab _ | .keep .. | .tupO .. => false
 | _ => true
theorem zgW {x : AV} (h : x.free = true) {v : Value} {b : Nat} : ¬ rb x v b := by
 cases x <;> simp_all [AV.free, rb]

def v3 (ok : OkB) (h : Array Obj) (sz n : Nat) (f : Nat -> V) (cells : List Value) : Prop :=
 (∀ i, i < n -> (f i).cells.length = sz ∧ (f i).flat = true) ∧
 ∀ i j, i < n -> j < sz -> ∃ c, cells[i * sz + j]? = some c ∧ Rep ok h (zW (f i) j) c

theorem jv {x y : AV} {q : Bool × Nat × Nat × Nat} (h : x.shape = y.shape) (hq : y.shape = some q) (v : Value) : rb x v = rb y v := by
 rw [hq] at h
 funext c
 cases v with
 | slice a l k => cases a <;> cases k <;> cases x <;> cases y <;> simp_all [AV.shape, rb] <;> grind
 | _ => cases x <;> cases y <;> simp_all [AV.shape, rb] <;> grind

def AVO (ok : OkB) (h : Array Obj) : AV -> Value -> Prop
 | .dead, _ => True
 | .ownI e b xs, v => zK h e 1 b xs.length v (xs.map (Value.int .i64))
 | .ownV e sz b n f, v => 0 < sz ∧ ∃ cells, zK h e sz b n v cells ∧ v3 ok h sz n f cells
 | _, _ => False

def AVR (ok : OkB) (h : Array Obj) (σ : Nat -> AV) (τ : Nat -> Value) : AV -> Value -> Prop
 | .dead, _ => True
 | .v x, v => Rep ok h x v
 | .ownI e b xs, v => zK h e 1 b xs.length v (xs.map (Value.int .i64))
 | .ownV e sz b n f, v => 0 < sz ∧ ∃ cells, zK h e sz b n v cells ∧ v3 ok h sz n f cells
 | .ownB b x, v => v = .pointer (some ⟨b, 0, none⟩) ∧ x.flat = true ∧ ∃ cur e, h[b]? = some (.cells cur e (0, 0)) ∧
     ∀ j, j < x.cells.length -> ∃ c, cur[j]? = some c ∧ Rep ok h (zW x j) c
 | .al s, v => v = τ s
 | .pr b i, v => v = .pointer (some ⟨b, i, none⟩)
 | .sl b i n, v => ∃ cap, n <= cap ∧ cap <= maxLen ∧ v = .slice (some ⟨b, i, none⟩) n cap
 | .tab tb, _ => ∀ b xs, tb b = some xs -> ∃ cur e, h[b]? = some (.cells cur e (0, 0)) ∧ ∀ j, j < xs.length -> cur[j]? = some (.int .i64 (xs.getD j 0))
 | .tupO i o vs, v => ∃ us : Array Value, v = .tuple us ∧ us.size = vs.length ∧ i < vs.length ∧ (∀ j, j < vs.length -> j ≠ i -> Rep ok h (vs.getD j .nil) (us.getD j undef)) ∧ AVO ok h o (us.getD i undef)
 | .keep O U hw kk vv, _ => (∀ b, O b -> h[b]? = hw[b]?) ∧ (∀ b, U b -> (∃ g, ok g b) ∧ h[b]? = hw[b]?) ∧ τ kk = vv
 | .pl s i off, v => (∃ b o, v = .pointer (some ⟨b, o, none⟩)) ∧ ∀ q, (σ s).shape = some q -> i < q.2.2.1 ∧ ∀ b, rb (σ s) (τ s) b -> v = .pointer (some ⟨b, i * q.2.2.2 + off, none⟩)
 | .pv x off, v => x.flat = true ∧ ∃ o, ((∃ b, v = .pointer (some ⟨b, o + off, none⟩)) ∧
     ∀ j, j < x.cells.length -> ∃ b g cur e fr c, v = .pointer (some ⟨b, o + off, none⟩) ∧ ok g b ∧ h[b]? = some (.cells cur e fr) ∧ cur[o + j]? = some c ∧ Rep ok h (zW x j) c)

def okF (D own : Nat -> Prop) (n : Nat) : OkB := λg b => b < n ∧ ¬ own b ∧ (match g with | none => ¬ D b | some b' => b = b')

def zj (σ : Nat -> AV) (τ : Nat -> Value) (b : Nat) : Prop := ∃ k, rb (σ k) (τ k) b

structure R (D : Nat -> Prop) (w0 : World) (N : Nat) (σ : Nat -> AV) (hs : Nat) (a : Act) (w : World) : Prop where
 defers : a.defers = []
 size : a.tmps.size = N
 hs1 : w0.heap.size <= hs
 hs2 : hs <= w.heap.size
 below : Below w0.heap.size w0 w
 dom : ∀ k, σ k ≠ .dead -> k < N ∨ vt <= k
 slots : ∀ k, AVR (okF D (zj σ (λi => a.tmps.getD i undef)) w.heap.size) w.heap σ (λi => a.tmps.getD i undef) (σ k) (a.tmps.getD k undef)
 real : ∀ k b, rb (σ k) (a.tmps.getD k undef) b -> w0.heap.size <= b ∧ b < w.heap.size
 dist : ∀ k k' b, rb (σ k) (a.tmps.getD k undef) b -> rb (σ k') (a.tmps.getD k' undef) b -> k = k'
 old : ∀ b, D b -> b < w0.heap.size

def upd (σ : Nat -> AV) (d : Nat) (a : AV) : Nat -> AV := λk => if k = d then a else σ k

theorem yk {i k : Nat} (h : i ≠ k) : Nat.beq i k = false := by
 cases hb : Nat.beq i k with
 | false => rfl
 | true => exact absurd (Nat.eq_of_beq_eq_true hb) h
theorem zQ (i : Nat) : Nat.beq i i = true := Nat.beq_refl i

/- the environment's laws -/
theorem z4 (i : Nat) (x : AV) (r : Env) (k : Nat) : get ((i, x) :: r) k = if i = k then x else get r k := by
 by_cases h : i = k
 ·subst h; simp [get]
 ·simp [get, yk h, h]
theorem zd (e : Env) (d : Nat) (a : AV) : get (put e d a) = upd (get e) d a := by
 funext k
 induction e with
 | nil => simp only [put, z4, upd]; by_cases h : k = d
          · subst h; simp
          · simp [h, Ne.symm h, get]
 | cons p r ih =>
   obtain ⟨i, x⟩ := p
   by_cases h : i = d
   · subst h; simp only [put, zQ, cond_true, z4, upd]
     by_cases hk : k = i
     · subst hk; simp
     · simp [hk, Ne.symm hk]
   · simp only [put, yk h, cond_false, z4, ih, upd]
     by_cases hk : i = k
     · subst hk; simp [h]
     · simp [hk]

theorem jw (e : Env) (s : Nat) : get (vZ s e) = λk => bif (get e k).touches s then .dead else get e k := by
 funext k
 induction e with
 | nil => simp [vZ, get, AV.touches]
 | cons p r ih =>
  obtain ⟨i, x⟩ := p;simp only [vZ, z4]
  by_cases hk : i = k
  ·simp [hk]
  ·simp [hk, ih]

theorem zbL (e : Env) (ks : List Nat) : get (ym ks e) = λk => bif ks.elem k then get e k else .dead := by
 funext k
 induction e with
 | nil => simp [ym, get]
 | cons p r ih =>
  obtain ⟨i, x⟩ := p
  by_cases hi : ks.elem i = true
  ·simp only [ym, hi, cond_true, z4, ih]
   by_cases hk : i = k
   ·subst hk; simp only [hi, if_true, cond_true]
   ·simp [hk]
  ·have hi' : ks.elem i = false := by simpa using hi
   simp only [ym, hi', cond_false, ih, z4]
   by_cases hk : i = k
   ·subst hk; simp only [hi', cond_false]
   ·simp [hk]

theorem zb (e : Env) (k : Nat) (C : AV -> Prop) : zM e k C = C (get e k) := by
 induction e with
 | nil => rfl
 | cons p r ih => obtain ⟨i, x⟩ := p; simp only [zM, get, cond_eq_ite]; split <;> simp_all
theorem zr (e : Env) (k : Nat) (a : AV) (C : Env -> Prop) : yP e k a C = C (put e k a) := by
 induction e generalizing C with
 | nil => rfl
 | cons p r ih => obtain ⟨i, x⟩ := p; simp only [yP, put, cond_eq_ite]; split <;> simp_all
theorem jx (e : Env) (s : Nat) (C : Env -> Prop) : zey e s C = C (vZ s e) := by
 induction e generalizing C with
 | nil => rfl
 | cons p r ih => obtain ⟨i, x⟩ := p; simp only [zey, vZ, cond_eq_ite]; split <;> simp_all
theorem zbM (e : Env) (ks : List Nat) (C : Env -> Prop) : j5 e ks C = C (ym ks e) := by
 induction e generalizing C with
 | nil => rfl
 | cons p r ih => obtain ⟨i, x⟩ := p; simp only [j5, ym, cond_eq_ite]; split <;> simp_all

open Go Go.RowKit

abbrev tv (a : Act) : Nat -> Value := λi => a.tmps.getD i undef

theorem zeE (a : Act) (d : Nat) (v : Value) (k : Nat) (hd : d < a.tmps.size) : tv (a.put (some d) v) k = if k = d then v else tv a k := by
 simp only [tv, Act.put, Array.getD_eq_getD_getElem?, Array.getElem?_setIfInBounds]
 by_cases h : d = k
 ·subst h; simp [hd]
 ·simp [h, Ne.symm h]
theorem zbN (a : Act) (d : Nat) (v : Value) : (a.put (some d) v).tmps.size = a.tmps.size := by simp [Act.put]
theorem ki (a : Act) (d : Nat) (v : Value) : (a.put (some d) v).defers = a.defers := rfl

theorem zK.congr {h h' : Array Obj} {e sz b n : Nat} {v : Value} {cells : List Value} (o : zK h e sz b n v cells)
  (hb : (∃ c, v = .slice (some ⟨b, 0, none⟩) n (c + 1)) -> h'[b]? = h[b]?) : zK h' e sz b n v cells := by
 obtain ⟨h1, h2⟩ := o;refine ⟨h1, ?_⟩;rcases h2 with h2 | ⟨cap, cur, hv, hh, r⟩
 ·exact Or.inl h2
 ·exact Or.inr ⟨cap, cur, hv, (hb ⟨cap, hv⟩).trans hh, r⟩

theorem AVO.keep {ok ok' : OkB} {h h' : Array Obj} {x : AV} {v : Value} (r : AVO ok h x v) (m : ∀ g b, ok g b -> ok' g b ∧ h'[b]? = h[b]?) (hb : ∀ b, rb1 x v b -> h'[b]? = h[b]?) : AVO ok' h' x v := by
 cases x with
 | dead => trivial
 | ownI e b xs => exact zK.congr r λ⟨c, hc⟩ => hb b (by subst hc; rfl)
 | ownV e sz b n f =>
  obtain ⟨h0, cells, h1, h2, h3⟩ := r;refine ⟨h0, cells, zK.congr h1 λ⟨c, hc⟩ => hb b (by subst hc; rfl), h2, λi j hi hj => ?_⟩;obtain ⟨c, hc, hr⟩ := h3 i j hi hj;exact ⟨c, hc, hr.mono m⟩
 | _ => exact r.elim
theorem AVR.keep {ok ok' : OkB} {h h' : Array Obj} {σ σ' : Nat -> AV} {τ τ' : Nat -> Value} {x : AV} {v : Value} (r : AVR ok h σ τ x v)
  (m : ∀ g b, ok g b -> ok' g b ∧ h'[b]? = h[b]?) (hb : ∀ b, rb x v b -> h'[b]? = h[b]?)
  (ht : ∀ s, x.touches s = true -> τ' s = τ s ∧ ((σ' s).shape = none ∨ (σ' s).shape = (σ s).shape)) : AVR ok' h' σ' τ' x v := by
 cases x with
 | dead => trivial
 | v x => exact Rep.mono r m
 | ownI e b xs => exact zK.congr r λ⟨c, hc⟩ => hb b (by subst hc; rfl)
 | ownV e sz b n f =>
  obtain ⟨h0, cells, h1, h2, h3⟩ := r;refine ⟨h0, cells, zK.congr h1 λ⟨c, hc⟩ => hb b (by subst hc; rfl), h2, λi j hi hj => ?_⟩;obtain ⟨c, hc, hr⟩ := h3 i j hi hj;exact ⟨c, hc, hr.mono m⟩
 | ownB b x =>
  obtain ⟨h0, hf, cur, e, h1, h2⟩ := r;refine ⟨h0, hf, cur, e, (hb b rfl).trans h1, λj hj => ?_⟩;obtain ⟨c, hc, hr⟩ := h2 j hj;exact ⟨c, hc, hr.mono m⟩
 | al s => exact r.trans ((ht s (by simp [AV.touches])).1).symm
 | pr b i => exact r
 | sl b i n => exact r
 | tab tb =>
  intro b xs hx;obtain ⟨cur, e, h1, h2⟩ := r b xs hx;exact ⟨cur, e, (hb b (by simp [rb, hx])).trans h1, h2⟩
 | keep O U hw kk vv =>
  refine ⟨λb ho => (hb b ho).trans (r.1 b ho), λb hu => ?_, (ht kk (by simp [AV.touches])).1.trans r.2.2⟩;obtain ⟨⟨g, hg⟩, h2⟩ := r.2.1 b hu;exact ⟨⟨g, (m g b hg).1⟩, (m g b hg).2.trans h2⟩
 | tupO i o vs =>
  obtain ⟨us, rfl, h0, h1, h2, h3⟩ := r;exact ⟨us, rfl, h0, h1, λj hj hji => (h2 j hj hji).mono m, h3.keep m hb⟩
 | pl s i off =>
  obtain ⟨h1, h2⟩ := ht s (by simp [AV.touches]);refine ⟨r.1, λq hq => ?_⟩;rcases h2 with h2 | h2
  ·rw [h2] at hq; cases hq
  ·rw [jv h2 (h2 ▸ hq), h1];exact r.2 q (h2 ▸ hq)
 | pv x off =>
  obtain ⟨hf, o, ⟨b0, hb0⟩, h1⟩ := r;refine ⟨hf, o, ⟨b0, hb0⟩, λj hj => ?_⟩;obtain ⟨b, g, cur, e, fr, c, h2, h3, h4, h5, h6⟩ := h1 j hj;exact ⟨b, g, cur, e, fr, c, h2, (m g b h3).1, (m g b h3).2.trans h4, h5, h6.mono m⟩

section
variable {D : Nat -> Prop} {w0 : World} {N : Nat} {σ σ' : Nat -> AV} {hs hs' : Nat} {a a' : Act} {w w' : World}

theorem R.next (r : R D w0 N σ hs a w) (mod : Option Nat) (hg : w.grownBy w' mod) (hmod : ∀ b, mod = some b -> zj σ (tv a) b)
  (hdef : a'.defers = []) (hsize : a'.tmps.size = N) (h1 : hs' <= w'.heap.size) (h2 : w0.heap.size <= hs')
  (hown : ∀ k b, rb (σ' k) ((tv a') k) b -> (rb (σ k) ((tv a) k) b ∨ (zj σ (tv a) b) ∨ (w.heap.size <= b ∧ b < w'.heap.size)))
  (hdist : ∀ k k' b, rb (σ' k) ((tv a') k) b -> rb (σ' k') ((tv a') k') b -> k = k')
  (hk : ∀ k, σ' k = .dead ∨
   (σ' k = σ k ∧ (tv a') k = (tv a) k ∧ (∀ b, rb (σ k) ((tv a) k) b -> mod ≠ some b) ∧
    ∀ s, (σ k).touches s = true -> (tv a') s = (tv a) s ∧ ((σ' s).shape = none ∨ (σ' s).shape = (σ s).shape)) ∨
   ((k < N ∨ vt <= k) ∧ AVR (okF D (zj σ' (tv a')) w'.heap.size) w'.heap σ' (tv a') (σ' k) ((tv a') k))) : R D w0 N σ' hs' a' w' := by
 have hge : w.heap.size <= w'.heap.size := hg.size
 have howns : ∀ b, zj σ' (tv a') b -> zj σ (tv a) b ∨ (w.heap.size <= b ∧ b < w'.heap.size) := by
  rintro b ⟨k, hb⟩;rcases hown k b hb with h | h | h
  ·exact .inl ⟨k, h⟩
  ·exact .inl h
  ·exact .inr h
 have hm : ∀ g b, okF D (zj σ (tv a)) w.heap.size g b -> okF D (zj σ' (tv a')) w'.heap.size g b ∧ w'.heap[b]? = w.heap[b]? := by
  rintro g b ⟨hb1, hb2, hb3⟩;refine ⟨⟨by omega, λho => ?_, hb3⟩, hg.block b hb1 (λe => hb2 (hmod b e.symm))⟩;rcases howns b ho with h | h
  ·exact hb2 h
  ·omega
 have hmge : ∀ b, mod = some b -> w0.heap.size <= b := λb hb => by
  obtain ⟨k, hk⟩ := hmod b hb;exact (r.real k b hk).1
 refine ⟨hdef, hsize, h2, h1, r.below.grown hg (by have := r.hs1; have := r.hs2; omega) hmge, λk hne => ?_, λk => ?_, λk b hb => ?_, hdist, r.old⟩
 ·rcases hk k with h | ⟨h, _⟩ | ⟨h, _⟩
  ·exact absurd h hne
  ·exact r.dom k (h ▸ hne)
  ·exact h
 ·rcases hk k with h | ⟨h, ht, hb, hs⟩ | ⟨_, h⟩
  ·show AVR _ _ _ _ (σ' k) _
   rw [h]; trivial
  ·show AVR _ _ _ _ (σ' k) ((tv a') k)
   rw [h, ht];refine (r.slots k).keep hm (λb hb' => hg.block b (r.real k b hb').2 (λe => hb b hb' e.symm)) hs
  ·exact h
 ·rcases hown k b hb with h | ⟨k', h⟩ | h
  ·exact ⟨(r.real k b h).1, by have := (r.real k b h).2; omega⟩
  ·exact ⟨(r.real k' b h).1, by have := (r.real k' b h).2; omega⟩
  ·exact ⟨by have := r.hs1; have := r.hs2; omega, h.2⟩

theorem World.grownBy_refl (w : World) (mod : Option Nat) : w.grownBy w mod := ⟨rfl, rfl, rfl, Nat.le_refl _, λ_ _ _ => rfl⟩

theorem R.weak (r : R D w0 N σ hs a w) (hk : ∀ k, σ' k = .dead ∨ σ' k = σ k) : R D w0 N σ' hs a w := by
 have hrb : ∀ k b, rb (σ' k) ((tv a) k) b -> rb (σ k) ((tv a) k) b ∧ True := by
  intro k b hb;rcases hk k with h | h
  ·rw [h] at hb; simp [rb] at hb
  ·rw [h] at hb; exact ⟨hb, trivial⟩
 have hsh : ∀ k, (σ' k).shape = none ∨ (σ' k).shape = (σ k).shape := by
  intro k;rcases hk k with h | h
  ·exact .inl (by rw [h]; rfl)
  ·exact .inr (by rw [h])
 refine r.next none (World.grownBy_refl w none) (by simp) r.defers r.size r.hs2 r.hs1 (λk b hb => .inl (hrb k b hb).1) (λk k' b hb hb' => r.dist k k' b (hrb k b hb).1 (hrb k' b hb').1) λk => ?_;rcases hk k with h | h
 ·exact .inl h
 ·exact .inr (.inl ⟨h, rfl, by simp, λs _ => ⟨rfl, hsh s⟩⟩)

theorem R.lower (r : R D w0 N σ hs a w) (h1 : w0.heap.size <= hs') (h2 : hs' <= w.heap.size) : R D w0 N σ hs' a w :=
 { r with hs1 := h1, hs2 := h2 }

def zn (σ : Nat -> AV) (d : Nat) : Nat -> AV := λk => bif (σ k).touches d then .dead else σ k

theorem R.setG (r : R D w0 N σ hs a w) (hg : w.grownBy w' none) (h1 : hs' <= w'.heap.size) (h2 : w0.heap.size <= hs') {d : Nat} (hd : d < N) {x : AV} {v : Value} (hx : x.free = true)
  (hav : AVR (okF D (zj σ (tv a)) w'.heap.size) w'.heap σ (tv a) x v) : R D w0 N (upd (zn σ d) d x) hs' (a.put (some d) v) w' := by
 have hT : ∀ k, tv (a.put (some d) v) k = if k = d then v else (tv a) k := λk => zeE a d v k (by rw [r.size]; exact hd)
 have hrb : ∀ k b, rb (upd (zn σ d) d x k) (tv (a.put (some d) v) k) b -> k ≠ d ∧ rb (σ k) ((tv a) k) b ∧ True := by
  intro k b hb;rw [hT] at hb
  by_cases hkd : k = d
  ·subst hkd; exact absurd (by simpa [upd] using hb) (zgW hx)
  ·simp only [upd, hkd, if_false, zn] at hb ⊢
   cases hto : (σ k).touches d
   ·rw [hto] at hb; simp only [cond_false] at hb ⊢; exact ⟨by trivial, hb, by trivial⟩
   ·rw [hto] at hb; simp [rb] at hb
 have hsh : ∀ k, k ≠ d -> (upd (zn σ d) d x k).shape = none ∨ (upd (zn σ d) d x k).shape = (σ k).shape := by
  intro k hkd;simp only [upd, hkd, if_false, zn]
  cases (σ k).touches d
  ·exact .inr rfl
  ·exact .inl rfl
 have how : ∀ b, zj (upd (zn σ d) d x) (tv (a.put (some d) v)) b -> zj σ (tv a) b := λb ⟨k, hk⟩ => ⟨k, (hrb k b hk).2.1⟩
 refine r.next none hg (by simp) (by rw [ki]; exact r.defers) (by rw [zbN]; exact r.size) h1 h2
  (λk b hb => .inl (hrb k b hb).2.1) (λk k' b hb hb' => r.dist k k' b (hrb k b hb).2.1 (hrb k' b hb').2.1) λk => ?_
 by_cases hkd : k = d
 ·subst hkd;refine .inr (.inr ⟨.inl hd, ?_⟩);rw [hT];simp only [if_true, upd]
  have hm : ∀ g b, okF D (zj σ (tv a)) w'.heap.size g b -> okF D (zj (upd (zn σ k) k x) (tv (a.put (some k) v))) w'.heap.size g b ∧ w'.heap[b]? = w'.heap[b]? :=
   λg b ⟨h1, h2, h3⟩ => ⟨⟨h1, λho => h2 (how b ho), h3⟩, rfl⟩
  cases x with
  | al s =>
   show v = tv _ s
   rw [hT]; by_cases hs : s = k
   ·simp [hs]
   ·simp only [hs, if_false]; exact hav
  | pl s i off =>
   by_cases hsk : s = k
   ·subst hsk;refine ⟨hav.1, λq hq => ?_⟩;simp [upd, AV.shape] at hq
   ·refine AVR.keep (x := .pl s i off) hav hm (λ_ _ => rfl) (λt ht => ?_);have hts : t = s := by simp only [AV.touches] at ht; exact (Nat.eq_of_beq_eq_true ht).symm
    subst hts;exact ⟨by rw [hT]; simp [hsk], hsh t hsk⟩
  | dead => trivial
  | pr b i => exact hav
  | sl b i n => exact hav
  | tab tb => cases hx
  | keep O U hw kk vv => cases hx
  | tupO i o vs => cases hx
  | v x => exact hav.mono hm
  | ownI e b xs => exact zK.congr hav λ_ => rfl
  | ownV e sz b n f => exact AVR.keep (x := .ownV e sz b n f) hav hm (λ_ _ => rfl) (by simp [AV.touches])
  | ownB b y => exact AVR.keep (x := .ownB b y) hav hm (λ_ _ => rfl) (by simp [AV.touches])
  | pv y off => exact AVR.keep (x := .pv y off) hav hm (λ_ _ => rfl) (by simp [AV.touches])
 ·cases hto : (σ k).touches d
  ·refine .inr (.inl ⟨by simp [upd, hkd, zn, hto], by rw [hT]; simp [hkd], by simp, λs hs => ?_⟩);have hsd : s ≠ d := λe => by rw [e] at hs; rw [hs] at hto; cases hto
   exact ⟨by rw [hT]; simp [hsd], hsh s hsd⟩
  ·exact .inl (by simp [upd, hkd, zn, hto])

theorem R.set (r : R D w0 N σ hs a w) {d : Nat} (hd : d < N) {x : AV} {v : Value} (hx : x.free = true)
  (hav : AVR (okF D (zj σ (tv a)) w.heap.size) w.heap σ (tv a) x v) : R D w0 N (upd (zn σ d) d x) hs (a.put (some d) v) w :=
 r.setG (World.grownBy_refl w none) r.hs2 r.hs1 hd hx hav

theorem R.setOwnG (r : R D w0 N σ hs a w) (mod : Option Nat) (hg : w.grownBy w' mod) (h1 : hs' <= w'.heap.size) (h2 : w0.heap.size <= hs') {d s : Nat} (hd : d < N) {x : AV} {v : Value}
  (hmod : ∀ b, mod = some b -> rb (σ s) ((tv a) s) b)
  (hown : ∀ b, rb x v b -> rb (σ s) ((tv a) s) b ∨ (w.heap.size <= b ∧ b < w'.heap.size))
  (hto : ∀ t, x.touches t = false)
  (hav : AVR (okF D (λb => zj σ (tv a) b ∨ rb x v b) w'.heap.size) w'.heap σ (tv a) x v) :
  R D w0 N (upd (zn (upd σ s .dead) d) d x) hs' (a.put (some d) v) w' := by
 have hT : ∀ k, tv (a.put (some d) v) k = if k = d then v else (tv a) k := λk => zeE a d v k (by rw [r.size]; exact hd)
 have hrb : ∀ k b, k ≠ d -> rb (upd (zn (upd σ s .dead) d) d x k) (tv (a.put (some d) v) k) b -> k ≠ s ∧ rb (σ k) ((tv a) k) b ∧ True := by
  intro k b hkd hb;rw [hT] at hb;simp only [upd, hkd, if_false, zn] at hb ⊢
  by_cases hks : k = s
  ·simp only [hks, if_true, AV.touches, cond_false] at hb; simp [rb] at hb
  ·simp only [hks, if_false] at hb ⊢
   cases hto : (σ k).touches d
   ·rw [hto] at hb; simp only [cond_false] at hb ⊢; exact ⟨by trivial, hb, by trivial⟩
   ·rw [hto] at hb; simp [rb] at hb
 have hsh : ∀ k, k ≠ d -> (upd (zn (upd σ s .dead) d) d x k).shape = none ∨ (upd (zn (upd σ s .dead) d) d x k).shape = (σ k).shape := by
  intro k hkd;simp only [upd, hkd, if_false, zn]
  by_cases hks : k = s
  ·simp only [hks, if_true, AV.touches, cond_false]; exact .inl rfl
  ·simp only [hks, if_false]
   cases (σ k).touches d
   ·exact .inr rfl
   ·exact .inl rfl
 have hrbd : ∀ b, rb (upd (zn (upd σ s .dead) d) d x d) (tv (a.put (some d) v) d) b -> rb x v b := by
  intro b hb; rw [hT] at hb; simpa [upd] using hb
 have hall : ∀ k b, rb (upd (zn (upd σ s .dead) d) d x k) (tv (a.put (some d) v) k) b -> (rb (σ k) ((tv a) k) b ∨ zj σ (tv a) b ∨ (w.heap.size <= b ∧ b < w'.heap.size)) := by
  intro k b hb
  by_cases hkd : k = d
  ·subst hkd;rcases hown b (hrbd b hb) with h | h
   ·exact .inr (.inl ⟨s, h⟩)
   ·exact .inr (.inr h)
  ·exact .inl (hrb k b hkd hb).2.1
 refine r.next mod hg (λb hb => ⟨s, hmod b hb⟩) (by rw [ki]; exact r.defers) (by rw [zbN]; exact r.size) h1 h2 hall ?_ λk => ?_
 ·intro k k' b hb hb'
  by_cases hkd : k = d
  ·by_cases hkd' : k' = d
   ·rw [hkd, hkd']
   ·exfalso
    subst hkd;obtain ⟨h3, h4, _⟩ := hrb k' b hkd' hb';rcases hown b (hrbd b hb) with h | h
    ·exact h3 (r.dist k' s b h4 h)
    ·have := (r.real k' b h4).2; omega
  ·by_cases hkd' : k' = d
   ·exfalso
    subst hkd';obtain ⟨h3, h4, _⟩ := hrb k b hkd hb;rcases hown b (hrbd b hb') with h | h
    ·exact h3 (r.dist k s b h4 h)
    ·have := (r.real k b h4).2; omega
   ·exact r.dist k k' b (hrb k b hkd hb).2.1 (hrb k' b hkd' hb').2.1
 ·by_cases hkd : k = d
  ·subst hkd;refine .inr (.inr ⟨.inl hd, ?_⟩);rw [hT];simp only [if_true, upd]
   have hm : ∀ g b, okF D (λb => zj σ (tv a) b ∨ rb x v b) w'.heap.size g b -> okF D (zj (upd (zn (upd σ s .dead) k) k x) (tv (a.put (some k) v))) w'.heap.size g b ∧ w'.heap[b]? = w'.heap[b]? := by
    rintro g b ⟨h3, h4, h5⟩;refine ⟨⟨h3, λ⟨k', hk'⟩ => ?_, h5⟩, rfl⟩
    by_cases hkk : k' = k
    ·subst hkk; exact h4 (.inr (hrbd b hk'))
    ·exact h4 (.inl ⟨k', (hrb k' b hkk hk').2.1⟩)
   exact hav.keep hm (λ_ _ => rfl) (λt ht => by rw [hto t] at ht; cases ht)
  ·by_cases hks : k = s
   ·refine .inl ?_;have h3 : ¬ s = d := λe => hkd (hks.trans e);subst hks;simp [upd, h3, zn, AV.touches]
   ·cases hto' : (σ k).touches d
    ·refine .inr (.inl ⟨by simp [upd, hkd, zn, hks, hto'], by rw [hT]; simp [hkd], λb hb e => ?_, λt ht => ?_⟩)
     ·exact hks (r.dist k s b hb (hmod b e))
     ·have htd : t ≠ d := λe => by rw [e] at ht; rw [ht] at hto'; cases hto'
      exact ⟨by rw [hT]; simp [htd], hsh t htd⟩
    ·exact .inl (by simp [upd, hkd, zn, hks, hto'])

theorem R.setOwn (r : R D w0 N σ hs a w) (mod : Option Nat) (hg : w.grownBy w' mod) (h1 : hs' <= w'.heap.size) (h2 : w0.heap.size <= hs') {d s : Nat} (hd : d < N) {x : AV} {v : Value}
  (hmod : ∀ b, mod = some b -> rb (σ s) ((tv a) s) b)
  (hown : ∀ b, rb x v b -> rb (σ s) ((tv a) s) b ∨ (w.heap.size <= b ∧ b < w'.heap.size))
  (hto : ∀ t, x.touches t = false)
  (hav : AVR (okF D (zj σ (tv a)) w.heap.size) w'.heap σ (tv a) x v) :
  R D w0 N (upd (zn (upd σ s .dead) d) d x) hs' (a.put (some d) v) w' := by
 refine r.setOwnG mod hg h1 h2 hd hmod hown hto (hav.keep (λg b hb => ⟨⟨Nat.lt_of_lt_of_le hb.1 hg.size, λh => ?_, hb.2.2⟩, rfl⟩) (λ_ _ => rfl) (λt ht => by rw [hto t] at ht; cases ht));rcases h with h | h
 ·exact hb.2.1 h
 ·rcases hown b h with h3 | h3
  ·exact hb.2.1 ⟨s, h3⟩
  ·have := hb.1; omega

theorem R.store (r : R D w0 N σ hs a w) {s b : Nat} (hg : w.grownBy w' (some b)) (hb : rb (σ s) ((tv a) s) b) {x : AV} (he : x.shape = (σ s).shape) (hq : x.shape ≠ none) (hto : ∀ t, x.touches t = false)
  (hz : w'.heap.size = w.heap.size)
  (hav : AVR (okF D (zj σ (tv a)) w.heap.size) w'.heap σ (tv a) x ((tv a) s)) (hs1 : s < N ∨ vt <= s) : R D w0 N (upd σ s x) hs a w' := by
 obtain ⟨q, hq⟩ : ∃ q, x.shape = some q := by
  cases hx : x.shape with
  | none => exact absurd hx hq
  | some q => exact ⟨q, rfl⟩
 have hrb : ∀ k b', rb (upd σ s x k) ((tv a) k) b' -> rb (σ k) ((tv a) k) b' ∧ True := by
  intro k b' h
  by_cases hk : k = s
  ·subst hk; simp only [upd, if_true] at h; rw [jv he (he ▸ hq)] at h; exact ⟨h, trivial⟩
  ·simp only [upd, hk, if_false] at h; exact ⟨h, trivial⟩
 have hsh : ∀ k, (upd σ s x k).shape = (σ k).shape := by
  intro k
  by_cases hk : k = s
  ·subst hk; simp only [upd, if_true]; exact he
  ·simp only [upd, hk, if_false]
 refine r.next (some b) hg (λb' e => by cases e; exact ⟨s, hb⟩) r.defers r.size (by rw [hz]; exact r.hs2) r.hs1 (λk b' h => .inl (hrb k b' h).1)
  (λk k' b' h h' => r.dist k k' b' (hrb k b' h).1 (hrb k' b' h').1) λk => ?_
 by_cases hk : k = s
 ·subst hk;refine .inr (.inr ⟨hs1, ?_⟩);simp only [upd, if_true]
  refine hav.keep (λg b' ⟨h3, h4, h5⟩ => ⟨⟨by rw [hz]; exact h3, λ⟨k', hk'⟩ => h4 ⟨k', (hrb k' b' hk').1⟩, h5⟩, rfl⟩) (λ_ _ => rfl) (λt ht => by rw [hto t] at ht; cases ht)
 ·refine .inr (.inl ⟨by simp [upd, hk], rfl, λb' h e => ?_, λt _ => ⟨rfl, .inr (hsh t)⟩⟩);cases e
  exact hk (r.dist k s b h hb)

theorem R.freezeA (r : R D w0 N σ hs a w) {s : Nat} {x : AV} (hs1 : s < N ∨ vt <= s) (hx : ∀ v b, ¬ rb x v b) (hq : x.shape = none) (hav : AVR (okF D (zj (upd σ s x) (tv a)) w.heap.size) w.heap (upd σ s x) (tv a) x ((tv a) s)) : R D w0 N (upd σ s x) hs a w := by
 have hrb : ∀ k b', rb (upd σ s x k) ((tv a) k) b' -> k ≠ s ∧ rb (σ k) ((tv a) k) b' ∧ True := by
  intro k b' h
  by_cases hk : k = s
  ·subst hk; simp only [upd, if_true] at h; exact (hx _ _ h).elim
  ·simp only [upd, hk, if_false] at h ⊢; exact ⟨by trivial, h, by trivial⟩
 refine r.next none (World.grownBy_refl w none) (by simp) r.defers r.size r.hs2 r.hs1 (λk b' h => .inl (hrb k b' h).2.1)
  (λk k' b' h h' => r.dist k k' b' (hrb k b' h).2.1 (hrb k' b' h').2.1) λk => ?_
 by_cases hk : k = s
 ·subst hk;refine .inr (.inr ⟨hs1, ?_⟩);have : upd σ k x k = x := by simp [upd]
  rw [this]; exact hav
 ·refine .inr (.inl ⟨by simp [upd, hk], rfl, by simp, λt _ => ⟨rfl, ?_⟩⟩)
  by_cases ht : t = s
  ·exact .inl (by simp [upd, ht, hq])
  ·exact .inr (by simp [upd, ht])
theorem R.freeze (r : R D w0 N σ hs a w) {s : Nat} {x : V} (hs1 : s < N ∨ vt <= s) (hav : AVR (okF D (zj (upd σ s (.v x)) (tv a)) w.heap.size) w.heap σ (tv a) (.v x) ((tv a) s)) : R D w0 N (upd σ s (.v x)) hs a w :=
 r.freezeA hs1 (λ_ _ h => h) rfl hav

theorem yn (tb : Nat -> Option (List Int)) (b : Nat) (xs : List Int) : z2 tb b xs b = some xs := by simp [z2]
theorem yH (tb : Nat -> Option (List Int)) {b c : Nat} (xs : List Int) (h : c ≠ b) : z2 tb b xs c = tb c := by simp [z2, h]

theorem R.toTab (r : R D w0 N σ hs a w) {s el b : Nat} {xs : List Int} {tb : Nat -> Option (List Int)} (hσ : σ s = .ownI el b xs) (hp : 0 < xs.length) (hs1 : s < N ∨ vt <= s) (ht : σ vt = .tab tb) :
  R D w0 N (upd (upd σ s (.v (.rf b xs.length))) vt (.tab (z2 tb b xs))) hs a w ∧ (∀ ok h, Rep ok h (.rf b xs.length) (tv a s)) ∧ s ≠ vt ∧
   ∀ c, zj (upd (upd σ s (.v (.rf b xs.length))) vt (.tab (z2 tb b xs))) (tv a) c -> zj σ (tv a) c := by
 have hsv : s ≠ vt := λe => by rw [e, ht] at hσ; cases hσ
 have h1 := r.slots s;rw [hσ] at h1;obtain ⟨h2, ⟨ad, h3, h4⟩ | ⟨cap, cur, h3, hh, hc, hm, hsz, htk⟩⟩ := h1
 ·omega
 have h3' : tv a s = .slice (some ⟨b, 0, none⟩) xs.length (cap + 1) := h3;have hrs : rb (σ s) (tv a s) b := by rw [hσ, h3']; rfl
 have hrep : ∀ ok h, Rep ok h (.rf b xs.length) (tv a s) := λok h => by rw [h3']; exact .rf b _ cap hc hm
 have hrb : ∀ k c, rb (upd (upd σ s (.v (.rf b xs.length))) vt (.tab (z2 tb b xs)) k) (tv a k) c -> (k = vt ∧ c = b) ∨ (k ≠ s ∧ rb (σ k) (tv a k) c ∧ True) := by
  intro k c h
  by_cases hk : k = vt
  ·subst hk;simp only [upd, if_true, rb] at h
   by_cases hcb : c = b
   ·exact .inl ⟨rfl, hcb⟩
   ·rw [yH _ _ hcb] at h;exact .inr ⟨Ne.symm hsv, by rw [ht]; exact h, trivial⟩
  ·by_cases hk2 : k = s
   ·subst hk2; simp [upd, hk, rb] at h
   ·simp only [upd, hk, hk2, if_false] at h
    exact .inr ⟨hk2, h, trivial⟩
 have how : ∀ k c, rb (upd (upd σ s (.v (.rf b xs.length))) vt (.tab (z2 tb b xs)) k) (tv a k) c -> rb (σ k) (tv a k) c ∨ zj σ (tv a) c := by
  intro k c h;rcases hrb k c h with ⟨_, rfl⟩ | ⟨_, h, _⟩
  ·exact .inr ⟨s, hrs⟩
  ·exact .inl h
 refine ⟨?_, hrep, hsv, λc ⟨k, hk⟩ => (how k c hk).elim (λh => ⟨k, h⟩) id⟩;refine r.next none (World.grownBy_refl w none) (by simp) r.defers r.size r.hs2 r.hs1 (λk c h => (how k c h).elim .inl λh => .inr (.inl h)) ?_ λk => ?_
 ·intro k k' c h h';rcases hrb k c h with ⟨rfl, rfl⟩ | ⟨h5, h6, _⟩ <;> rcases hrb k' c h' with ⟨rfl, h8⟩ | ⟨h7, h8, _⟩
  ·rfl
  ·exact absurd (r.dist k' s _ h8 hrs) h7
  ·subst h8; exact absurd (r.dist k s _ h6 hrs) h5
  ·exact r.dist k k' c h6 h8
 ·by_cases hk : k = vt
  ·subst hk;refine .inr (.inr ⟨.inr (Nat.le_refl _), ?_⟩);have e1 : upd (upd σ s (.v (.rf b xs.length))) vt (.tab (z2 tb b xs)) vt = .tab (z2 tb b xs) := by simp [upd]
   rw [e1];intro c ys hy
   by_cases hcb : c = b
   ·subst hcb;rw [yn] at hy;cases hy
    refine ⟨cur, el, hh, λj hj => ?_⟩;have h5 : (cur.toList.take (xs.length * 1))[j]? = (xs.map (Value.int .i64))[j]? := by rw [htk]
    rw [List.getElem?_take_of_lt (by omega)] at h5;rw [<- Array.getElem?_toList, h5];simp [hj]
   ·rw [yH _ _ hcb] at hy;have := r.slots vt;rw [ht] at this;exact this c ys hy
  ·by_cases hk2 : k = s
   ·subst hk2;refine .inr (.inr ⟨hs1, ?_⟩);have e1 : upd (upd σ k (.v (.rf b xs.length))) vt (.tab (z2 tb b xs)) k = .v (.rf b xs.length) := by simp [upd, hk]
    rw [e1];exact hrep _ _
   ·refine .inr (.inl ⟨by simp [upd, hk, hk2], rfl, by simp, λt _ => ⟨rfl, ?_⟩⟩)
    by_cases htv : t = vt
    ·subst htv; exact .inl (by simp [upd, AV.shape])
    ·by_cases hts : t = s
     ·subst hts; exact .inl (by simp [upd, htv, AV.shape])
     ·exact .inr (by simp [upd, htv, hts])

theorem R.storeT (r : R D w0 N σ hs a w) {b : Nat} {xs ys : List Int} {tb : Nat -> Option (List Int)} (hg : w.grownBy w' (some b)) (hz : w'.heap.size = w.heap.size) (ht : σ vt = .tab tb) (hb : tb b = some xs)
  (hw : ∃ cur e, w'.heap[b]? = some (.cells cur e (0, 0)) ∧ ∀ j, j < ys.length -> cur[j]? = some (.int .i64 (ys.getD j 0))) : R D w0 N (upd σ vt (.tab (z2 tb b ys))) hs a w' := by
 have hrv : rb (σ vt) (tv a vt) b := by rw [ht]; simp [rb, hb]
 have hrb : ∀ k c, rb (upd σ vt (.tab (z2 tb b ys)) k) (tv a k) c -> rb (σ k) (tv a k) c := by
  intro k c h
  by_cases hk : k = vt
  ·subst hk
   by_cases hcb : c = b
   ·subst hcb; exact hrv
   ·simp only [upd, if_true, rb] at h
    rw [yH _ _ hcb] at h;rw [ht]; exact h
  ·simpa [upd, hk] using h
 refine r.next (some b) hg (λc e => by cases e; exact ⟨vt, hrv⟩) r.defers r.size (by rw [hz]; exact r.hs2) r.hs1 (λk c h => .inl (hrb k c h)) (λk k' c h h' => r.dist k k' c (hrb k c h) (hrb k' c h')) λk => ?_
 by_cases hk : k = vt
 ·subst hk;refine .inr (.inr ⟨.inr (Nat.le_refl _), ?_⟩);have e1 : upd σ vt (.tab (z2 tb b ys)) vt = .tab (z2 tb b ys) := by simp [upd]
  rw [e1];intro c zs hy
  by_cases hcb : c = b
  ·subst hcb;rw [yn] at hy;cases hy
   exact hw
  ·rw [yH _ _ hcb] at hy;have := r.slots vt;rw [ht] at this;obtain ⟨cur, e, h1, h2⟩ := this c zs hy;have hlt : c < w.heap.size := (r.real vt c (by rw [ht]; simp [rb, hy])).2;exact ⟨cur, e, (hg.block c hlt (λe => hcb (by cases e; rfl))).trans h1, h2⟩
 ·refine .inr (.inl ⟨by simp [upd, hk], rfl, λc h e => ?_, λt _ => ⟨rfl, ?_⟩⟩)
  ·cases e; exact hk (r.dist k vt _ h hrv)
  ·by_cases htv : t = vt
   ·subst htv; exact .inl (by simp [upd, AV.shape])
   ·exact .inr (by simp [upd, htv])

end
open Go Go.RowKit

def okR (D : Nat -> Prop) (n : Nat) : OkB := λg b => b < n ∧ ¬ D b ∧ (match g with | none => True | some b' => b = b')

def Res (D : Nat -> Prop) (lo : Nat) (w' : World) (av : AV) (v : Value) : Prop :=
 av.isRes = true ∧ AVR (okR (λb => D b ∨ rb av v b) w'.heap.size) w'.heap (λ_ => .dead) (λ_ => undef) av v ∧ ∀ b, rb av v b -> lo <= b ∧ b < w'.heap.size

def xN (P : Program) (f : Nat) : Prop := ∃ fn, P.funcs[f]? = some fn ∧ fn.body.isSome = true ∧ (fn.name == "runtime.NumGoroutine") = false

def Fn (P : Program) (f : Nat) (xs : List V) (post : zfW) : Prop :=
 xN P f ∧
 ∀ (D : Nat -> Prop) (w : World) (vs : Array Value), (∀ b, D b -> b < w.heap.size) -> vs.size = xs.length ->
  (∀ j, j < xs.length -> Rep (okF D (λ_ => False) w.heap.size) w.heap (xs.getD j .nil) (vs.getD j undef)) ->
  Calls P f vs w λe w' => ∃ v av hi, e = .returned v ∧ hi <= w'.heap.size ∧ post w.heap.size hi av ∧ Below w.heap.size w w' ∧ Res D w.heap.size w' av v

def vd (xs : List V) (k : Nat) (x t : AV) (O U : Nat -> Prop) (hw : Array Obj) (v : Value) : Nat -> AV := λj =>
 if j = vk then .keep O U hw k v else if j = vt then t else if j = k then x else if j < xs.length then .v (xs.getD j .nil) else .dead
def yQ (n k : Nat) (av x t : AV) (O U : Nat -> Prop) (hw : Array Obj) (v : Value) : Nat -> AV := λj =>
 if j = vk then .keep O U hw k v else if j = vt then t else if j = k then x else if j = n then av else .dead

def MFn (P : Program) (f : Nat) (xs : List V) (k : Nat) (x t : AV) (post : Nat -> AV -> AV -> AV -> Prop) : Prop :=
 xN P f ∧
 ∀ (D : Nat -> Prop) (w0 : World) (hs : Nat) (w : World) (vs : Array Value) (O U : Nat -> Prop), vs.size = xs.length -> k < xs.length ->
  R D w0 vs.size (vd xs k x t O U w.heap (vs.getD k undef)) hs { tmps := vs, defers := [] } w ->
  Calls P f vs w λe w' => ∃ v av x' t' hs', e = .returned v ∧ hs <= hs' ∧ post hs' av x' t' ∧ v2 x x' ∧ t'.tabOk = true ∧ av.isRes = true ∧ (x' ≠ .dead -> av.fresh hs hs') ∧
   R D w0 (vs.size + 1) (yQ vs.size k av x' t' O U w.heap (vs.getD k undef)) hs' { tmps := vs.push v, defers := [] } w'

def ResT (D : Nat -> Prop) (lo : Nat) (w' : World) (x : V) (tb : Tab) (v : Value) : Prop :=
 Rep (okR (λb => D b ∨ tb b ≠ none) w'.heap.size) w'.heap x v ∧ (∀ b, tb b ≠ none -> lo <= b ∧ b < w'.heap.size) ∧
  ∀ b xs, tb b = some xs -> ∃ cur e, w'.heap[b]? = some (.cells cur e (0, 0)) ∧ ∀ j, j < xs.length -> cur[j]? = some (.int .i64 (xs.getD j 0))

def FnT (P : Program) (f : Nat) (xs : List V) (post : zkG) : Prop :=
 xN P f ∧
 ∀ (D : Nat -> Prop) (w : World) (vs : Array Value), (∀ b, D b -> b < w.heap.size) -> vs.size = xs.length ->
  (∀ j, j < xs.length -> Rep (okF D (λ_ => False) w.heap.size) w.heap (xs.getD j .nil) (vs.getD j undef)) ->
  Calls P f vs w λe w' => ∃ v x tb hi, e = .returned v ∧ hi <= w'.heap.size ∧ post w.heap.size hi x tb ∧ Below w.heap.size w w' ∧ ResT D w.heap.size w' x tb v

def kj : TypeDesc -> Bool
 | .struct _ | .array _ _ => true
 | _ => false

def xq (P : Program) (t : Nat) (ti : TI) : Prop :=
 ∃ i d, P.info? t = some i ∧ P.underlying t = some d ∧ i.size = ti.size ∧ i.bytes = ti.bytes ∧ ti.bytes <= 64 ∧ 0 < ti.size ∧
   (∃ z, i.zero = some z ∧ ∀ ok h, Rep ok h ti.zero z) ∧ ti.zero.flat = true ∧ ti.zero.cells.length = ti.size ∧
   match ti.kind with
   | .int k => d = .int k ∧ ti.size = 1 ∧ ti.zero = .int k 0 ∧ i.zero = some (.int k 0)
   | .bool => d = .bool ∧ ti.size = 1
   | .slice e => d = .slice e ∧ ti.size = 1
   | .cell => kj d = false ∧ ti.size = 1
   | .struct fs => ∃ fields : Array Field, d = .struct fields ∧ fields.toList.map (λf => (f.offset, f.type)) = fs ∧
       (∃ places, fields.toList.mapM (λf => (P.info? f.type).map λi => (f.offset, i.size)) = some places) ∧ ∃ cs, ti.zero = .agg cs

def zdM (P : Program) : TT -> Prop
 | [] => True
 | (t, ti) :: r => xq P t ti ∧ zdM P r

def EqOk (P : Program) (t n : Nat) : Prop := ∀ (w : World) (xs ys : List Int) (x y : Operand), xs.length = n -> ys.length = n ->
 ((eqGuard .neq t x y (.agg (xs.map (Value.int .i64)).toArray) (.agg (ys.map (Value.int .i64)).toArray)).run P w = .ok () w) ∧
  (binOp .neq t (.agg (xs.map (Value.int .i64)).toArray) (.agg (ys.map (Value.int .i64)).toArray)).run P w = .ok (.bool (decide (xs ≠ ys))) w

structure OkCx (P : Program) (cx : Cx) : Prop where
 fns : ∀ f xs post, cx.F f xs post -> Fn P f xs post
 mfns : ∀ f xs k x t post, cx.M f xs k x t post -> MFn P f xs k x t post
 tfns : ∀ f xs post, cx.T f xs post -> FnT P f xs post
 tt : zdM P cx.tt
 eqs : ∀ q ∈ cx.eqs, EqOk P q.1 q.2

theorem zf {P : Program} {tt : TT} (h : zdM P tt) {t : Nat} {C : TI -> Prop} (hc : zH tt t C) : ∃ ti, xq P t ti ∧ C ti := by
 induction tt with
 | nil => exact hc.elim
 | cons p r ih =>
  obtain ⟨k, x⟩ := p
  by_cases hk : k = t
  ·subst hk; simp only [zH, zQ, cond_true] at hc; exact ⟨x, h.1, hc⟩
  ·simp only [zH, yk hk, cond_false] at hc; exact ih h.2 hc

section
variable {D : Nat -> Prop} {w0 : World} {N : Nat} {σ : Nat -> AV} {hs : Nat} {a : Act} {w : World}

abbrev xO (D : Nat -> Prop) (σ : Nat -> AV) (a : Act) (w : World) : OkB := okF (λb => D b ∨ zj σ (tv a) b) (λ_ => False) w.heap.size

theorem zgX {g : Option Nat} {b : Nat} (h : okF D (zj σ (tv a)) w.heap.size g b) : xO D σ a w g b := by
 obtain ⟨h1, h2, h3⟩ := h;refine ⟨h1, λh => h, ?_⟩;cases g with
 | none => exact λh => h.elim h3 h2
 | some b' => exact h3

theorem Rep.arg {x : V} {v : Value} (h : Rep (okF D (zj σ (tv a)) w.heap.size) w.heap x v) : Rep (xO D σ a w) w.heap x v :=
 h.mono λ_ _ hb => ⟨zgX hb, rfl⟩

theorem zK.ints {ok : OkB} {h : Array Obj} {g : Option Nat} {e b : Nat} {xs : List Int} {v : Value} (o : zK h e 1 b xs.length v (xs.map (Value.int .i64)))
  (hok : ∀ c, v = .slice (some ⟨b, 0, none⟩) xs.length (c + 1) -> ok g b) : Rep ok h (.ints g xs) v := by
 obtain ⟨h1, ⟨ad, rfl, h2⟩ | ⟨cap, cur, rfl, hh, hc, hm, hsz, ht⟩⟩ := o
 ·have : xs = [] := List.eq_nil_of_length_eq_zero h2;subst this;exact .ints g [] ad 0 (Nat.le_refl _) (by simp [maxLen]) (λj hj => by simp at hj)
 ·refine .ints g xs _ (cap + 1) hc hm λj hj => ⟨b, 0, cur, e, (0, 0), rfl, hok cap rfl, hh, ?_⟩
  have h3 : (cur.toList.take (xs.length * 1))[j]? = (xs.map (Value.int .i64))[j]? := by rw [ht]
  rw [List.getElem?_take_of_lt (by omega)] at h3;rw [Nat.zero_add, <- Array.getElem?_toList, h3];simp [hj]

theorem zK.vals {ok ok' : OkB} {h : Array Obj} {g : Option Nat} {e b sz n : Nat} {f : Nat -> V} {v : Value} {cells : List Value} (o : zK h e sz b n v cells) (hE : v3 ok h sz n f cells)
  (hok : ∀ c, v = .slice (some ⟨b, 0, none⟩) n (c + 1) -> ok' g b) (hm' : ∀ g b, ok g b -> ok' g b) : Rep ok' h (.vals g sz n f) v := by
 have hpos : ∀ i j, i < n -> j < sz -> ∃ c, cells[i * sz + j]? = some c ∧ Rep ok' h (zW (f i) j) c := λi j hi hj => by
  obtain ⟨c, hc, hr⟩ := hE.2 i j hi hj;exact ⟨c, hc, hr.mono λg b hb => ⟨hm' g b hb, rfl⟩⟩
 obtain ⟨h1, ⟨ad, rfl, h2⟩ | ⟨cap, cur, rfl, hh, hc, hm, hsz, ht⟩⟩ := o
 ·subst h2;exact .vals g sz 0 f ad 0 (Nat.le_refl _) (by simp [maxLen]) (λi hi => by omega) (λi hi => by omega) (λ_ _ => undef) (λi j hi => by omega) (λi j hi => by omega)
 ·refine .vals g sz n f _ (cap + 1) hc hm (λi hi => (hE.1 i hi).1) (λi hi => (hE.1 i hi).2) (λi j => cells.getD (i * sz + j) undef) (λi j hi hj => ⟨b, 0, cur, e, (0, 0), rfl, hok cap rfl, hh, ?_⟩) (λi j hi hj => ?_)
  ·obtain ⟨c, hc', _⟩ := hpos i j hi hj
   have hlt : i * sz + j < n * sz := by
    have : (i + 1) * sz <= n * sz := Nat.mul_le_mul_right _ hi;rw [Nat.add_mul] at this; omega
   have h3 : (cur.toList.take (n * sz))[i * sz + j]? = cells[i * sz + j]? := by rw [ht]
   rw [List.getElem?_take_of_lt hlt] at h3;rw [Nat.zero_add, <- Array.getElem?_toList, h3, List.getD_eq_getElem?_getD, hc']; rfl
  ·obtain ⟨c, hc', hr⟩ := hpos i j hi hj;rw [List.getD_eq_getElem?_getD, hc']; exact hr

theorem yI (a : Act) (t : Nat) : a.eval (.tmp t) = tv a t := rfl

theorem ve {ok : OkB} {h : Array Obj} {c : Value} {C : V -> Prop} (hc : xg c C) : ∃ x, C x ∧ Rep ok h x c := by
 cases c with
 | bool b => cases b <;> exact ⟨_, hc, by constructor⟩
 | int k n => exact ⟨_, hc, .int k n⟩
 | slice a l c =>
  cases a with
  | some a => exact hc.elim
  | none => cases l with
   | succ l => exact hc.elim
   | zero => cases c with
    | succ c => exact hc.elim
    | zero => exact ⟨_, hc, .nil none⟩
 | _ => exact hc.elim

theorem R.argI (r : R D w0 N σ hs a w) {k : Nat} {e b : Nat} {xs : List Int} (h : σ k = .ownI e b xs) : Rep (xO D σ a w) w.heap (.ints (some b) xs) (tv a k) := by
 have h1 := r.slots k;have h2 := r.real k;rw [h] at h1 h2;exact zK.ints h1 λc hc => ⟨(h2 b (by rw [show a.tmps.getD k undef = _ from hc]; rfl)).2, λh => h, rfl⟩

theorem R.argV (r : R D w0 N σ hs a w) {k : Nat} {e sz b n : Nat} {f : Nat -> V} (h : σ k = .ownV e sz b n f) : Rep (xO D σ a w) w.heap (.vals (some b) sz n f) (tv a k) := by
 have h1 := r.slots k;have h2 := r.real k;rw [h] at h1 h2;obtain ⟨h0, cells, h3, h4⟩ := h1;exact zK.vals h3 h4 (λc hc => ⟨(h2 b (by rw [show a.tmps.getD k undef = _ from hc]; rfl)).2, λh => h, rfl⟩) (λg b hb => zgX hb)

theorem R.val (r : R D w0 N σ hs a w) {k : Nat} {x : V} (h : σ k = .v x) : Rep (okF D (zj σ (tv a)) w.heap.size) w.heap x (tv a k) := by
 have h1 := r.slots k;rw [h] at h1;exact h1

theorem zA {e : Env} (r : R D w0 N (get e) hs a w) {o : Operand} {C : V -> Prop} (hc : rdK e o C) : ∃ x, C x ∧ Rep (xO D (get e) a w) w.heap x (a.eval o) := by
 cases o with
 | tmp t =>
  simp only [rdK, zb] at hc
  rw [yI];cases h : get e t with
  | v x => rw [h] at hc; exact ⟨x, hc, (r.val h).arg⟩
  | ownI el b xs => rw [h] at hc; exact ⟨_, hc, r.argI h⟩
  | ownV el sz b n f => rw [h] at hc; exact ⟨_, hc, r.argV h⟩
  | al s =>
   rw [h] at hc;simp only at hc
   have h1 := r.slots t;rw [h] at h1;have h1' : tv a t = tv a s := h1;rw [h1'];cases h2 : get e s with
   | v x => rw [h2] at hc; exact ⟨x, hc, (r.val h2).arg⟩
   | ownI el b xs => rw [h2] at hc; exact ⟨_, hc, r.argI h2⟩
   | ownV el sz b n f => rw [h2] at hc; exact ⟨_, hc, r.argV h2⟩
   | _ => rw [h2] at hc; exact hc.elim
  | _ => rw [h] at hc; exact hc.elim
 | const c => exact ve hc
 | func f => exact ⟨_, hc, .func f [] #[] rfl (λj hj => by simp at hj)⟩
 | global g => exact hc.elim

theorem zf3 {own : Nat -> Prop} {n b : Nat} (gh : GM) (h1 : b < n) (h2 : ¬ own b) (h3 : ¬ D b) : okF D own n (gho gh b) b := by
 cases gh with
 | yes => exact ⟨h1, h2, rfl⟩
 | _ => exact ⟨h1, h2, h3⟩

theorem R.notD (r : R D w0 N σ hs a w) {k b : Nat} (h : rb (σ k) (tv a k) b) : ¬ D b := λhD => by
 have := r.old b hD; have := (r.real k b h).1; omega

theorem R.notOwn (r : R D w0 N σ hs a w) {k b : Nat} {x : V} (h : rb (σ k) (tv a k) b) : ¬ zj (upd σ k (.v x)) (tv a) b := by
 rintro ⟨k', hk'⟩
 by_cases hk : k' = k
 ·subst hk; simp [upd, rb] at hk'
 ·simp only [upd, hk, if_false] at hk'
  exact hk (r.dist k' k b hk' h)

theorem vH {k b : Nat} {x : V} (h : zj (upd σ k (.v x)) (tv a) b) : zj σ (tv a) b := by
 obtain ⟨k', hk'⟩ := h
 by_cases hk : k' = k
 ·subst hk; simp [upd, rb] at hk'
 ·simp only [upd, hk, if_false] at hk'; exact ⟨k', hk'⟩

theorem zgY {k : Nat} {x : V} {g : Option Nat} {b n : Nat} (h : okF D (zj σ (tv a)) n g b) : okF D (zj (upd σ k (.v x)) (tv a)) n g b :=
 ⟨h.1, λho => h.2.1 (vH ho), h.2.2⟩

theorem kL {e : Env} (r : R D w0 N (get e) hs a w) {gh : GM} {t : Nat} {C : Env -> V -> Prop} (hc : frK gh e t (get e t) C) :
  ∃ e' x, C e' x ∧ R D w0 N (get e') hs a w ∧ Rep (okF D (zj (get e') (tv a)) w.heap.size) w.heap x (tv a t) ∧ ∀ b, zj (get e') (tv a) b -> zj (get e) (tv a) b := by
 have hlt : get e t ≠ .dead -> t < N ∨ vt <= t := r.dom t;cases h : get e t with
 | v x => rw [h] at hc; exact ⟨e, x, hc, r, r.val h, λ_ h => h⟩
 | ownI el b xs =>
  rw [h] at hc
  by_cases hgm : gh = .mv
  ·subst hgm;simp only [frK, zr, zb] at hc
   obtain ⟨hp, hc⟩ := hc;cases hvt : get (put e t (.v (.rf b xs.length))) vt with
   | tab tb =>
    rw [hvt] at hc
    have hvt' : get e vt = .tab tb := by
     rw [zd] at hvt
     by_cases htv : vt = t
     ·rw [<- htv] at hvt; simp [upd] at hvt
     ·simpa [upd, htv] using hvt
    obtain ⟨h1, h2, h3, h4⟩ := r.toTab h hp (hlt (by rw [h]; simp)) hvt';refine ⟨_, _, hc, ?_, h2 _ _, ?_⟩
    ·rw [zd, zd]; exact h1
    ·rw [zd, zd]; exact h4
   | _ => rw [hvt] at hc; exact hc.elim
  by_cases hgt : gh = .mt
  ·subst hgt;simp only [frK, zr, zb] at hc
   cases hvt : get (put e t (.v (.rf b xs.length))) vt with
   | tab tb =>
    rw [hvt] at hc
    have htv : vt ≠ t := λhtv => by
     rw [zd, <- htv] at hvt; simp [upd] at hvt
    have hvt' : get e vt = .tab tb := by
     rw [zd] at hvt
     simpa [upd, htv] using hvt
    cases xs with
    | nil =>
     have hr : ∀ ok h, Rep ok h (.rf b 0) (tv a t) := by
      have h1 := r.slots t;rw [h] at h1;obtain ⟨_, ⟨ad, h3, _⟩ | ⟨cap, cur, h3, _, _, hm, _⟩⟩ := h1
      ·have h3 : tv a t = .slice ad 0 0 := h3;intro ok h; rw [h3]; exact .rf0 b ad 0 (by simp [maxLen])
      ·have h3 : tv a t = .slice (some ⟨b, 0, none⟩) 0 (cap + 1) := h3;intro ok h; rw [h3]; exact .rf0 b _ (cap + 1) hm
     have e1 : get (put (put e t (.v (.rf b 0))) vt (.tab tb)) = upd (get e) t (.v (.rf b 0)) := by
      rw [zd, zd]
      funext k
      by_cases hk : k = vt
      ·subst hk; simp [upd, htv, hvt']
      ·simp [upd, hk]
     refine ⟨_, _, hc, ?_, hr _ _, ?_⟩
     ·show R D w0 N (get (put (put e t (.v (.rf b 0))) vt (.tab tb))) hs a w
      rw [e1]; exact r.freeze (hlt (by rw [h]; simp)) (hr _ _)
     ·intro c hcc;have hcc : zj (get (put (put e t (.v (.rf b 0))) vt (.tab tb))) (tv a) c := hcc;rw [e1] at hcc; exact vH hcc
    | cons x l =>
     obtain ⟨h1, h2, h3, h4⟩ := r.toTab h (by simp) (hlt (by rw [h]; simp)) hvt';refine ⟨_, _, hc, ?_, h2 _ _, ?_⟩
     ·rw [zd, zd]; exact h1
     ·rw [zd, zd]; exact h4
   | _ => rw [hvt] at hc; exact hc.elim
  by_cases hgw : gh = .wh
  ·subst hgw;simp only [frK, zr] at hc
   have h1 := r.slots t;rw [h] at h1
   have hr : Rep (okF D (zj (upd (get e) t (.v (.wh el b xs))) (tv a)) w.heap.size) w.heap (.wh el b xs) (tv a t) :=
    .wh el b xs _ h1 λc hcc => by
     have hb : rb (get e t) (tv a t) b := by rw [h, show tv a t = _ from hcc]; rfl
     exact ⟨(r.real t b hb).2, r.notOwn hb, rfl⟩
   refine ⟨_, _, hc, ?_, ?_, ?_⟩
   ·rw [zd]; exact r.freeze (hlt (by rw [h]; simp)) hr
   ·rw [zd]; exact hr
   ·rw [zd]; exact λb hb => vH hb
  have hc' : yP e t (.v (.ints (gho gh b) xs)) (λe => C e (.ints (gho gh b) xs)) := by
   cases gh
   ·exact hc
   ·exact hc
   ·exact absurd rfl hgm
   ·exact hc
   ·exact absurd rfl hgt
   ·exact absurd rfl hgw
  simp only [zr] at hc'
  have h1 := r.slots t;rw [h] at h1
  have hr : Rep (okF D (zj (upd (get e) t (.v (.ints (gho gh b) xs))) (tv a)) w.heap.size) w.heap (.ints (gho gh b) xs) (tv a t) :=
   zK.ints h1 λc hcc => by
    have hb : rb (get e t) (tv a t) b := by rw [h, show tv a t = _ from hcc]; rfl
    exact zf3 gh (r.real t b hb).2 (r.notOwn hb) (r.notD hb)
  refine ⟨_, _, hc', ?_, ?_, ?_⟩
  ·rw [zd]; exact r.freeze (hlt (by rw [h]; simp)) hr
  ·rw [zd]; exact hr
  ·rw [zd]; exact λb hb => vH hb
 | ownV el sz b n f =>
  rw [h] at hc; simp only [frK, zr] at hc;have h1 := r.slots t;rw [h] at h1;obtain ⟨h0, cells, h3, h4⟩ := h1
  have hr : Rep (okF D (zj (upd (get e) t (.v (.vals (gho gh b) sz n f))) (tv a)) w.heap.size) w.heap (.vals (gho gh b) sz n f) (tv a t) :=
   zK.vals h3 h4 (λc hcc => by
    have hb : rb (get e t) (tv a t) b := by rw [h, show tv a t = _ from hcc]; rfl
    exact zf3 gh (r.real t b hb).2 (r.notOwn hb) (r.notD hb)) (λg b hb => zgY hb)
  refine ⟨_, _, hc, ?_, ?_, ?_⟩
  ·rw [zd]; exact r.freeze (hlt (by rw [h]; simp)) hr
  ·rw [zd]; exact hr
  ·rw [zd]; exact λb hb => vH hb
 | ownB b x =>
  rw [h] at hc; simp only [frK, zr] at hc;have h1 := r.slots t;rw [h] at h1;obtain ⟨h0, hf, cur, el, h3, h4⟩ := h1;have hb : rb (get e t) (tv a t) b := by rw [h]; rfl
  have hr : Rep (okF D (zj (upd (get e) t (.v (.box (gho gh b) x))) (tv a)) w.heap.size) w.heap (.box (gho gh b) x) (tv a t) := by
   have h0' : tv a t = .pointer (some ⟨b, 0, none⟩) := h0;rw [h0'];refine .box _ x b (zf3 gh (r.real t b hb).2 (r.notOwn hb) (r.notD hb)) hf cur el (0, 0) h3 (λj => cur.getD j undef) (λj hj => ?_) (λj hj => ?_)
   ·obtain ⟨c, hc, _⟩ := h4 j hj;rw [Array.getD_eq_getD_getElem?, hc]; rfl
   ·obtain ⟨c, hc, hr⟩ := h4 j hj;rw [Array.getD_eq_getD_getElem?, hc]; exact hr.mono λg b hb => ⟨zgY hb, rfl⟩
  refine ⟨_, _, hc, ?_, ?_, ?_⟩
  ·rw [zd]; exact r.freeze (hlt (by rw [h]; simp)) hr
  ·rw [zd]; exact hr
  ·rw [zd]; exact λb hb => vH hb
 | _ => rw [h] at hc; exact hc.elim

theorem vI {e : Env} (r : R D w0 N (get e) hs a w) {gh : GM} {o : Operand} {C : Env -> V -> Prop} (hc : cvK gh e o C) :
  ∃ e' x, C e' x ∧ R D w0 N (get e') hs a w ∧ Rep (okF D (zj (get e') (tv a)) w.heap.size) w.heap x (a.eval o) ∧ ∀ b, zj (get e') (tv a) b -> zj (get e) (tv a) b := by
 cases o with
 | tmp t =>
  simp only [cvK, zb] at hc
  rw [yI];have hd : ∀ C, frK gh e t (get e t) C -> ∃ e' x, C e' x ∧ R D w0 N (get e') hs a w ∧ Rep (okF D (zj (get e') (tv a)) w.heap.size) w.heap x (tv a t) ∧ ∀ b, zj (get e') (tv a) b -> zj (get e) (tv a) b := λC hc => kL r hc;cases h : get e t with
  | al s =>
   rw [h] at hc;simp only at hc
   have h1 := r.slots t;rw [h] at h1;have h1' : tv a t = tv a s := h1;rw [h1'];exact kL r hc
  | _ => rw [h] at hc; exact hd C (by rw [h]; exact hc)
 | const c =>
  obtain ⟨x, h1, h2⟩ := ve (C := C e) hc;exact ⟨e, x, h1, r, h2, λ_ h => h⟩
 | func f => exact ⟨e, _, hc, r, .func f [] #[] rfl (λj hj => by simp at hj), λ_ h => h⟩
 | global g => exact hc.elim

theorem yo {own own' : Nat -> Prop} (ho : ∀ b, own' b -> own b) {n : Nat} {g : Option Nat} {b : Nat} (h : okF D own n g b) : okF D own' n g b :=
 ⟨h.1, λh' => h.2.1 (ho b h'), h.2.2⟩

theorem zdb {gh : GM} : ∀ {os : List Operand} {e : Env} {C : Env -> List V -> Prop}, R D w0 N (get e) hs a w -> zkR gh e os C ->
  ∃ e' xs, C e' xs ∧ R D w0 N (get e') hs a w ∧ xs.length = os.length ∧ (∀ j, j < os.length -> Rep (okF D (zj (get e') (tv a)) w.heap.size) w.heap (xs.getD j .nil) ((os.map a.eval).getD j undef)) ∧
   ∀ b, zj (get e') (tv a) b -> zj (get e) (tv a) b
 | [], e, C, r, hc => ⟨e, [], hc, r, rfl, λj hj => by simp at hj, λ_ h => h⟩
 | o :: os, e, C, r, hc => by
  obtain ⟨e1, x, h1, r1, hr1, ho1⟩ := vI r hc;obtain ⟨e2, xs, h2, r2, hl, hr2, ho2⟩ := zdb r1 h1;refine ⟨e2, x :: xs, h2, r2, by simp [hl], λj hj => ?_, λb hb => ho1 b (ho2 b hb)⟩;cases j with
  | zero => exact hr1.mono λg b hb => ⟨yo ho2 hb, rfl⟩
  | succ j => simpa using hr2 j (by simpa using hj)

theorem vg {P : Program} {tt : TT} (ht : zdM P tt) {ok : OkB} {h : Array Obj} {t : Nat} {x : V} {v : Value} {C : V -> Prop} (hr : Rep ok h x v) (hc : xh tt t x C) : ∃ y, C y ∧ Rep ok h y v := by
 cases x with
 | nil =>
  simp only [xh] at hc
  obtain ⟨ti, h1, h2⟩ := zf ht hc;cases hr with
  | nil ad =>
   cases hk : ti.kind with
   | slice e =>
    rw [hk] at h2;obtain ⟨tj, h3, h4⟩ := zf ht h2
    have hv : ∀ (f : Nat -> V), Rep ok h (.vals none tj.size 0 f) (.slice ad 0 0) := λf =>
     .vals none tj.size 0 f ad 0 (Nat.le_refl _) (by simp [maxLen]) (λi hi => by omega) (λi hi => by omega) (λ_ _ => undef) (λi j hi => by omega) (λi j hi => by omega)
    cases hk' : tj.kind with
    | int k =>
     rw [hk'] at h4;cases k <;> first | exact ⟨_, h4, hv _⟩ | exact ⟨_, h4, .ints none [] ad 0 (Nat.le_refl _) (by simp [maxLen]) (λj hj => by simp at hj)⟩
    | _ => rw [hk'] at h4; exact ⟨_, h4, hv _⟩
   | _ => rw [hk] at h2; exact ⟨_, h2, .nil ad⟩
 | wh e b xs => cases hr with
  | wh _ _ _ _ ho hk' => exact ⟨_, hc, zK.ints ho hk'⟩
 | _ => exact ⟨_, hc, hr⟩

theorem km {P : Program} {tt : TT} (ht : zdM P tt) {e : Env} (r : R D w0 N (get e) hs a w) : ∀ {os : List Operand} {ts : List Nat} {C : List V -> Prop}, x9 tt e os ts C ->
  ∃ xs, C xs ∧ xs.length = os.length ∧ ∀ j, j < os.length -> Rep (xO D (get e) a w) w.heap (xs.getD j .nil) ((os.map a.eval).getD j undef)
 | [], ts, C, hc => ⟨[], hc, rfl, λj hj => by simp at hj⟩
 | o :: os, [], C, hc => hc.elim
 | o :: os, t :: ts, C, hc => by
  obtain ⟨x, h1, hr1⟩ := zA r (C := λx => xh tt t x λx => x9 tt e os ts λxs => C (x :: xs)) hc;obtain ⟨y, h2, hr2⟩ := vg ht hr1 h1;obtain ⟨xs, h3, hl, hr3⟩ := km ht r (C := λxs => C (y :: xs)) h2;refine ⟨y :: xs, h3, by simp [hl], λj hj => ?_⟩;cases j with
  | zero => exact hr2
  | succ j => simpa using hr3 j (by simpa using hj)

theorem xP {e : Env} (_r : R D w0 N (get e) hs a w) {C : Tab -> Prop} (hc : zan e C) : ∃ tb, get e vt = .tab tb ∧ C tb := by
 simp only [zan, zb] at hc
 cases h : get e vt with
 | tab tb => rw [h] at hc; exact ⟨tb, rfl, hc⟩
 | _ => rw [h] at hc; exact hc.elim

theorem zgZ {e : Env} (r : R D w0 N (get e) hs a w) {tb : Tab} (ht : get e vt = .tab tb) {b n : Nat} {v : Value} {ok : OkB} (hr : Rep ok w.heap (.rf b n) v) {xs : List Int} (hl : xs.length = n) (hx : xs ≠ [] -> tb b = some xs) :
  Rep (xO D (get e) a w) w.heap (.ints (some b) xs) v := by
 cases hr with
 | rf0 _ ad cap hm =>
  have : xs = [] := List.eq_nil_of_length_eq_zero hl;subst this;exact .ints _ [] ad cap (Nat.zero_le _) hm (λj hj => by simp at hj)
 | rf _ _ c hn hcc =>
  subst hl;refine .ints _ xs _ (c + 1) hn hcc λj hj => ?_;have hne : xs ≠ [] := λe => by subst e; simp at hj
  have hb := hx hne;have h1 := r.slots vt;rw [ht] at h1;obtain ⟨cur, el, h2, h3⟩ := h1 b xs hb;have hrl := (r.real vt b (by rw [ht]; simp [rb, hb])).2;exact ⟨b, 0, cur, el, (0, 0), rfl, ⟨hrl, λh => h, rfl⟩, h2, by rw [Nat.zero_add]; exact h3 j hj⟩

theorem zdc {tb : Tab} {x y : V} (h : deC tb x y) : y.cells.length = x.cells.length ∧ y.isCell = x.isCell ∧ y.flat = x.flat := by
 cases x with
 | rf b n => obtain ⟨xs, _, _, rfl⟩ := h; exact ⟨rfl, rfl, rfl⟩
 | _ => subst h; exact ⟨rfl, rfl, rfl⟩

theorem zdd {e : Env} (r : R D w0 N (get e) hs a w) {tb : Tab} (ht : get e vt = .tab tb) {x y : V} (h : deC tb x y) {v : Value} (hr : Rep (xO D (get e) a w) w.heap x v) : Rep (xO D (get e) a w) w.heap y v := by
 cases x with
 | rf b n => obtain ⟨xs, h1, h2, rfl⟩ := h; exact zgZ r ht hr h1 h2
 | _ => subst h; exact hr

theorem zde {tb : Tab} {x y : V} (h : deV tb x y) : y.cells.length = x.cells.length ∧ ∀ j, j < x.cells.length -> deC tb (x.cells.getD j .nil) (y.cells.getD j .nil) := by
 cases x with
 | agg cs => obtain ⟨ds, rfl, h1, h2⟩ := h; exact ⟨h1, h2⟩
 | rf b n =>
  obtain ⟨xs, h1, h2, rfl⟩ := h;refine ⟨rfl, λj hj => ?_⟩;obtain rfl : j = 0 := by simpa [V.cells] using hj
  exact ⟨xs, h1, h2, rfl⟩
 | _ =>
  have h := h;subst h;refine ⟨rfl, λj hj => ?_⟩;obtain rfl : j = 0 := by simpa [V.cells] using hj
  rfl
theorem ziG {tb : Tab} {x y : V} (h : deV tb x y) (hf : x.flat = true) : y.flat = true := by
 cases x with
 | agg cs =>
  obtain ⟨ds, rfl, h1, h2⟩ := h;simp only [V.flat, List.all_eq_true] at hf ⊢
  intro d hd;obtain ⟨j, hj, rfl⟩ := List.getElem_of_mem hd;have h3 := h2 j (by omega);rw [List.getD_eq_getElem?_getD, List.getD_eq_getElem?_getD, List.getElem?_eq_getElem hj, List.getElem?_eq_getElem (by omega)] at h3;have h5 := (zdc h3).2.1;have h6 := hf _ (List.getElem_mem (l := cs) (n := j) (by omega))
  simpa using h5.trans h6
 | rf b n => obtain ⟨xs, _, _, rfl⟩ := h; rfl
 | _ => have h := h; subst h; exact hf

theorem zas {e : Env} (r : R D w0 N (get e) hs a w) : ∀ {cs : List V} {C : List V -> Prop}, zao e cs C -> ∃ ds, C ds ∧ ds.length = cs.length ∧ ∀ j, j < cs.length -> ∃ tb, (get e vt = .tab tb ∨ ds.getD j .nil = cs.getD j .nil) ∧ deC tb (cs.getD j .nil) (ds.getD j .nil)
 | [], C, h => ⟨[], h, rfl, λj hj => by simp at hj⟩
 | x :: cs, C, h => by
  have go : zao e cs (λds => C (x :: ds)) -> (∀ tb, deC tb x x) -> ∃ ds, C ds ∧ ds.length = (x :: cs).length ∧ ∀ j, j < (x :: cs).length -> ∃ tb, (get e vt = .tab tb ∨ ds.getD j .nil = (x :: cs).getD j .nil) ∧ deC tb ((x :: cs).getD j .nil) (ds.getD j .nil) := by
   intro h hx;obtain ⟨ds, h1, h2, h3⟩ := zas r h;refine ⟨x :: ds, h1, by simp [h2], λj hj => ?_⟩;cases j with
   | zero => exact ⟨λ_ => none, .inr rfl, hx _⟩
   | succ j => simpa using h3 j (by simpa using hj)
  cases x with
  | rf b n =>
   obtain ⟨tb, ht, xs, ⟨h1, h2⟩, h3⟩ := xP r h;obtain ⟨ds, h4, h5, h6⟩ := zas r h3;refine ⟨.ints (some b) xs :: ds, h4, by simp [h5], λj hj => ?_⟩;cases j with
   | zero => exact ⟨tb, .inl ht, xs, h1, h2, rfl⟩
   | succ j => simpa using h6 j (by simpa using hj)
  | _ => exact go h λ_ => rfl

theorem ziH {e : Env} (r : R D w0 N (get e) hs a w) {x : V} {v : Value} {C : V -> Prop} (hr : Rep (xO D (get e) a w) w.heap x v) (hc : deK e x C) : ∃ y, C y ∧ Rep (xO D (get e) a w) w.heap y v := by
 cases x with
 | rf b n =>
  obtain ⟨tb, ht, xs, ⟨h1, h2⟩, h3⟩ := xP r hc;exact ⟨_, h3, zgZ r ht hr h1 h2⟩
 | agg cs =>
  obtain ⟨ds, h1, h2, h3⟩ := zas r hc;refine ⟨_, h1, ?_⟩;cases hr with
  | agg _ vs hl hf hrr =>
   refine .agg ds vs (by omega) ?_ λj hj => ?_
   ·simp only [List.all_eq_true] at hf ⊢
    intro d hd;obtain ⟨j, hj, rfl⟩ := List.getElem_of_mem hd;obtain ⟨tb, _, h4⟩ := h3 j (by omega);rw [List.getD_eq_getElem?_getD, List.getD_eq_getElem?_getD, List.getElem?_eq_getElem hj, List.getElem?_eq_getElem (by omega)] at h4;have h5 := (zdc h4).2.1;have h6 := hf _ (List.getElem_mem (l := cs) (n := j) (by omega))
    simpa using h5.trans h6
   ·obtain ⟨tb, h4, h5⟩ := h3 j (by omega);rcases h4 with h4 | h4
    ·exact zdd r h4 h5 (hrr j (by omega))
    ·rw [h4]; exact hrr j (by omega)
 | vals g sz n f =>
  obtain ⟨tb, ht, f', h1, h2⟩ := xP r hc;refine ⟨_, h2, ?_⟩;cases hr with
  | vals _ _ _ _ ad cap hcc hm hl hf c hx hrr =>
   refine .vals g sz n f' ad cap hcc hm (λi hi => by rw [(zde (h1 i hi)).1]; exact hl i hi) (λi hi => ziG (h1 i hi) (hf i hi)) c hx λi j hi hj => ?_;have h3 := (zde (h1 i hi)).2 j (by rw [hl i hi]; exact hj);exact zdd r ht h3 (hrr i j hi hj)
 | _ => exact ⟨_, hc, hr⟩

theorem zaV {P : Program} {tt : TT} (ht : zdM P tt) {e : Env} (r : R D w0 N (get e) hs a w) : ∀ {os : List Operand} {ts : List Nat} {C : List V -> Prop}, xA tt e os ts C ->
  ∃ xs, C xs ∧ xs.length = os.length ∧ ∀ j, j < os.length -> Rep (xO D (get e) a w) w.heap (xs.getD j .nil) ((os.map a.eval).getD j undef)
 | [], ts, C, hc => ⟨[], hc, rfl, λj hj => by simp at hj⟩
 | o :: os, [], C, hc => hc.elim
 | o :: os, t :: ts, C, hc => by
  obtain ⟨x, h1, hr1⟩ := zA r (C := λx => xh tt t x λx => deK e x λx => xA tt e os ts λxs => C (x :: xs)) hc;obtain ⟨y, h2, hr2⟩ := vg ht hr1 h1;obtain ⟨z, h4, hr4⟩ := ziH r hr2 h2;obtain ⟨xs, h3, hl, hr3⟩ := zaV ht r (C := λxs => C (z :: xs)) h4;refine ⟨z :: xs, h3, by simp [hl], λj hj => ?_⟩;cases j with
  | zero => exact hr4
  | succ j => simpa using hr3 j (by simpa using hj)

end
open Go Go.RowKit

section
variable {P : Program} {cx : Cx} {D : Nat -> Prop} {w0 : World} {N : Nat} {hs : Nat} {a : Act} {w w' : World} {K : S -> Prop} {next : Act -> World -> Prop} {Q : Exit -> Act -> World -> Prop} {o : Oper} {d : Nat} {e : Env}

abbrev Nx (D : Nat -> Prop) (w0 : World) (N : Nat) (K : S -> Prop) (next : Act -> World -> Prop) : Prop :=
 ∀ (s : S) a' w', R D w0 N (get s.env) s.hs a' w' -> K s -> next a' w'

theorem zk {v : Value} (ho : o.dst = some d) (h : (execOp a.eval o).run P w = .ok (.value v) w') (hn : next (a.put (some d) v) w') : o.wp P a w next Q := by
 unfold Oper.wp; rw [h, Oper.upon_value, ho]; exact hn

theorem yd (e : Env) (d : Nat) : get (vZ d e) = zn (get e) d := by rw [jw]; rfl

theorem kM (x : AV) : K1 K hs d e x = K ⟨put (vZ d e) d x, hs⟩ := by simp only [K1, jx, zr]

theorem zh (hx : Nx D w0 N K next) (r : R D w0 N (get e) hs a w) (hd : d < N) {x : AV} {v : Value} (hk : K1 K hs d e x) (hrb : x.free = true)
  (hav : AVR (okF D (zj (get e) (tv a)) w.heap.size) w.heap (get e) (tv a) x v) : next (a.put (some d) v) w := by
 rw [kM] at hk;refine hx _ _ _ ?_ hk;show R D w0 N (get (put (vZ d e) d x)) hs _ _
 rw [zd, yd];exact r.set hd hrb hav

theorem zj5 {hs' : Nat} (hx : Nx D w0 N K next) (r : R D w0 N (get e) hs a w) (hg : w.grownBy w' none) (h1 : hs' <= w'.heap.size) (h2 : w0.heap.size <= hs') (hd : d < N) {x : AV} {v : Value} (hk : K1 K hs' d e x) (hrb : x.free = true)
  (hav : AVR (okF D (zj (get e) (tv a)) w'.heap.size) w'.heap (get e) (tv a) x v) : next (a.put (some d) v) w' := by
 rw [kM] at hk;refine hx _ _ _ ?_ hk;show R D w0 N (get (put (vZ d e) d x)) hs' _ _
 rw [zd, yd];exact r.setG hg h1 h2 hd hrb hav

theorem zdf : ∀ e : Env, ∃ n, ∀ k, n <= k -> get e k = .dead
 | [] => ⟨0, λ_ _ => rfl⟩
 | (i, x) :: r => by
  obtain ⟨n, h⟩ := zdf r;refine ⟨n + i + 1, λk hk => ?_⟩;rw [z4, if_neg (by omega)];exact h k (by omega)
theorem zdg (e : Env) : ∃ s, upd (get e) s .dead = get e := by
 obtain ⟨n, h⟩ := zdf e;refine ⟨n, ?_⟩
 funext k; by_cases hk : k = n
 ·subst hk; simp [upd, h k (Nat.le_refl _)]
 ·simp [upd, hk]

theorem zj6 {hs' : Nat} (hx : Nx D w0 N K next) (r : R D w0 N (get e) hs a w) (hg : w.grownBy w' none) (h1 : hs' <= w'.heap.size) (h2 : w0.heap.size <= hs') (hd : d < N) {x : AV} {v : Value} (hk : K1 K hs' d e x)
  (hown : ∀ b, rb x v b -> w.heap.size <= b ∧ b < w'.heap.size) (hto : ∀ t, x.touches t = false)
  (hav : AVR (okF D (λb => zj (get e) (tv a) b ∨ rb x v b) w'.heap.size) w'.heap (get e) (tv a) x v) : next (a.put (some d) v) w' := by
 rw [kM] at hk;refine hx _ _ _ ?_ hk;show R D w0 N (get (put (vZ d e) d x)) hs' _ _
 rw [zd, yd];obtain ⟨s, hs1⟩ := zdg e;have := r.setOwnG (s := s) (d := d) (x := x) (v := v) none hg h1 h2 hd (by simp) (λb hb => .inr (hown b hb)) hto hav
 rwa [hs1] at this

theorem kn {hs' : Nat} (hx : Nx D w0 N K next) (r : R D w0 N (get e) hs a w) (hg : w.grownBy w' none) (h1 : hs' <= w'.heap.size) (h2 : w0.heap.size <= hs') (hd : d < N) {x : AV} {v : Value} (hk : K1 K hs' d e x)
  (hown : ∀ b, rb x v b -> w.heap.size <= b ∧ b < w'.heap.size) (hto : ∀ t, x.touches t = false)
  (hav : AVR (okF D (zj (get e) (tv a)) w.heap.size) w'.heap (get e) (tv a) x v) : next (a.put (some d) v) w' := by
 rw [kM] at hk;refine hx _ _ _ ?_ hk;show R D w0 N (get (put (vZ d e) d x)) hs' _ _
 rw [zd, yd];obtain ⟨s, hu⟩ := zdg e;have := r.setOwn (s := s) (d := d) (x := x) (v := v) none hg h1 h2 hd (by simp) (λb hb => .inr (hown b hb)) hto hav
 rwa [hu] at this

theorem Rep.bare {ok ok' : OkB} {h h' : Array Obj} {x : V} {v : Value} (r : Rep ok h x v) (hb : x.bare = true) : Rep ok' h' x v := by
 cases r <;> first | exact .tr | exact .fa | exact .bool _ | exact .int _ _ | simp [V.bare] at hb

theorem zf4 {x : Operand} (ho : o.dst = some d) (hop : o.op = .move x) (hd : d < N) (hx : Nx D w0 N K next) (r : R D w0 N (get e) hs a w)
  (h : zgS K d x e hs) : o.wp P a w next Q := by
 refine zk (w' := w) (v := a.eval x) ho (by simp [execOp, hop]) ?_;cases x with
 | tmp t =>
  simp only [zgS, zb] at h
  have hs1 := r.slots t;cases ht : get e t with
  | dead => rw [ht] at h; exact h.elim
  | v x => rw [ht] at h hs1; exact zh hx r hd h rfl hs1
  | al s => rw [ht] at h hs1; exact zh hx r hd h rfl hs1
  | pl s i off => rw [ht] at h hs1; exact zh hx r hd h rfl hs1
  | pv x off => rw [ht] at h hs1; exact zh hx r hd h rfl hs1
  | pr b i => rw [ht] at h hs1; exact zh hx r hd h rfl hs1
  | sl b i n => rw [ht] at h hs1; exact zh hx r hd h rfl hs1
  | tab tb => rw [ht] at h; exact h.elim
  | keep O U hw kk vv => rw [ht] at h; exact h.elim
  | _ => rw [ht] at h; exact zh hx r hd h rfl rfl
 | const c =>
  obtain ⟨x, h1, h2⟩ := ve (C := λx => K1 K hs d e (.v x)) h;exact zh hx r hd (x := .v x) h1 rfl h2
 | func f => exact zh hx r hd h rfl (.func f [] #[] rfl (λj hj => by simp at hj))
 | global g => exact h.elim

theorem zbO {x : Operand} (ho : o.dst = some d) (hop : o.op = .nilCheck x) (hd : d < N) (hx : Nx D w0 N K next) (r : R D w0 N (get e) hs a w)
  (h : zaq K d x e hs) : o.wp P a w next Q := by
 cases x with
 | tmp t =>
  simp only [zaq, zb] at h
  have hs1 := r.slots t
  have go : ∀ (x : AV) b oo, tv a t = .pointer (some ⟨b, oo, none⟩) -> K1 K hs d e x -> x.free = true -> AVR (okF D (zj (get e) (tv a)) w.heap.size) w.heap (get e) (tv a) x (tv a t) -> o.wp P a w next Q := λx b oo hv hk hf hav => by
   refine zk (w' := w) (v := tv a t) ho ?_ (zh hx r hd hk hf hav);have hev : a.eval (.tmp t) = .pointer (some ⟨b, oo, none⟩) := hv;simp [execOp, hop, hev, hv]
  have hbx : ∀ g y, get e t = .v (.box g y) -> ∃ b, tv a t = .pointer (some ⟨b, 0, none⟩) := λg y ht => by
   have hr := r.val ht;generalize tv a t = v at hr;cases hr with
   | box _ _ b => exact ⟨b, rfl⟩
  cases ht : get e t with
  | ownB b y => rw [ht] at h hs1; exact go (.al t) b 0 hs1.1 h rfl rfl
  | al s =>
   rw [ht] at h hs1;have hs1 : tv a t = tv a s := hs1;have hs2 := r.slots s;simp only at h
   cases hs3 : get e s with
   | ownB b y => rw [hs3] at h hs2; exact go (.al s) b 0 (hs1.trans hs2.1) h rfl hs1
   | v y =>
    rw [hs3] at h;cases y with
    | box g y =>
     have hr := r.val hs3;rw [<- hs1] at hr
     obtain ⟨b, hb⟩ : ∃ b, tv a t = .pointer (some ⟨b, 0, none⟩) := by
      generalize tv a t = v at hr;cases hr with
      | box _ _ b => exact ⟨b, rfl⟩
     exact go _ b 0 hb h rfl hr
    | _ => exact h.elim
   | _ => rw [hs3] at h; exact h.elim
  | v y =>
   rw [ht] at h hs1;cases y with
   | box g y => obtain ⟨b, hb⟩ := hbx g y ht; exact go _ b 0 hb h rfl hs1
   | _ => exact h.elim
  | pl s i off =>
   rw [ht] at h hs1;obtain ⟨b, oo, hb⟩ := hs1.1;exact go (.pl s i off) b oo hb h rfl hs1
  | pv y off =>
   rw [ht] at h hs1;obtain ⟨_, oo, ⟨b, hb⟩, _⟩ := hs1;exact go (.pv y off) b _ hb h rfl (by rw [<- ht]; exact r.slots t)
  | _ => rw [ht] at h; exact h.elim
 | _ => exact h.elim

theorem zdN {x : Operand} (ho : o.dst = some d) (hop : o.op = .assign x) (hd : d < N) (hx : Nx D w0 N K next) (r : R D w0 N (get e) hs a w)
  (h : kK cx K d x e hs) : o.wp P a w next Q := by
 refine zk (w' := w) (v := a.eval x) ho (by simp [execOp, hop]) ?_;cases x with
 | tmp t =>
  simp only [kK, zb, zr] at h
  have hs1 := r.slots t;have hrl := r.real t;rw [yI]
  have hmv : ∀ t x, get e t = x -> (∀ s, x.touches s = false) -> K1 K hs d (put e t .dead) x -> next (a.put (some d) (tv a t)) w := by
   intro t x ht hto hk;have hs1 := r.slots t;rw [kM] at hk;refine hx _ _ _ ?_ hk;show R D w0 N (get (put (vZ d (put e t .dead)) d x)) hs _ _
   rw [zd, yd, zd];have := r.setOwn (s := t) (d := d) (x := x) (v := tv a t) none (World.grownBy_refl w none) r.hs2 r.hs1 hd (by simp) (λb hb => .inl (by rw [ht]; exact hb)) hto (by rw [<- ht]; exact hs1);exact this
  cases ht : get e t with
  | dead => rw [ht] at h; exact h.elim
  | v x => rw [ht] at h hs1; exact zh hx r hd h rfl hs1
  | al u =>
   rw [ht] at h hs1;simp only at h
   have h1' : tv a t = tv a u := hs1;rw [h1']
   by_cases hgm : cx.gh = .tr
   ·rw [hgm] at h;simp only at h
    cases hu : get e u with
    | ownI el b xs => rw [hu] at h; exact hmv u _ hu (λ_ => rfl) h
    | ownV el sz b n f => rw [hu] at h; exact hmv u _ hu (λ_ => rfl) h
    | ownB b x => rw [hu] at h; exact hmv u _ hu (λ_ => rfl) h
    | v x => rw [hu] at h; exact zh hx r hd h rfl (r.val hu)
    | _ => rw [hu] at h; exact h.elim
   ·have h : frK cx.gh e u (get e u) (λe x => K1 K hs d e (.v x)) := by
     revert h hgm
     cases cx.gh <;> intro h hgm <;> first | exact absurd rfl hgm | exact absurd rfl h | exact hgm | exact h
    obtain ⟨e', x, hk, r', hr, _⟩ := kL r h;exact zh hx r' hd hk rfl hr
  | pl s i off => rw [ht] at h; exact h.elim
  | pv x off => rw [ht] at h; exact h.elim
  | pr b i => rw [ht] at h; exact h.elim
  | sl b i n => rw [ht] at h; exact h.elim
  | tab tb => rw [ht] at h; exact h.elim
  | keep O U hw kk vv => rw [ht] at h; exact h.elim
  | tupO i o vs => rw [ht] at h; exact h.elim
  | ownI el b xs => rw [ht] at h; exact hmv t _ ht (λ_ => rfl) h
  | ownV el sz b n f => rw [ht] at h; exact hmv t _ ht (λ_ => rfl) h
  | ownB b x => rw [ht] at h; exact hmv t _ ht (λ_ => rfl) h
 | const c =>
  by_cases hc : c = .pointer none
  ·subst hc;have h : K1 K hs d e .dead := h;exact zh hx r hd (x := .dead) h rfl trivial
  have h : xg c λx => K1 K hs d e (.v x) := by
   cases c with
   | pointer p =>
    cases p with
    | none => exact absurd rfl hc
    | some q => exact h
   | _ => exact h
  obtain ⟨x, h1, h2⟩ := ve (C := λx => K1 K hs d e (.v x)) h;exact zh hx r hd (x := .v x) h1 rfl h2
 | func f => exact zh hx r hd h rfl (.func f [] #[] rfl (λj hj => by simp at hj))
 | global g => exact h.elim

theorem xi {ok : OkB} {h : Array Obj} {x : V} {v : Value} {C : Bool -> Prop} (r : Rep ok h x v) (hc : zR x C) : ∃ b, v = .bool b ∧ C b ∧ x.bare = true := by
 cases r <;> first | exact ⟨_, rfl, hc, rfl⟩ | exact hc.elim

theorem y4 {ok : OkB} {h : Array Obj} {b : Bool} {v : Value} (r : Rep ok h (.bool b) v) : v = .bool b := by cases r; rfl
theorem xQ {ok : OkB} {h : Array Obj} {v : Value} (r : Rep ok h .tr v) : v = .bool true := by cases r; rfl
theorem xR {ok : OkB} {h : Array Obj} {v : Value} (r : Rep ok h .fa v) : v = .bool false := by cases r; rfl
theorem zJ {ok : OkB} {h : Array Obj} {k : IntKind} {n : Int} {v : Value} (r : Rep ok h (.int k n) v) : v = .int k n := by cases r; rfl

theorem zeF {x : Operand} {C : Option Bool -> Prop} (r : R D w0 N (get e) hs a w) (h : boK e x C) : ∃ p, C p ∧ ∀ b, p = some b -> a.eval x = .bool b := by
 have go : (rdK e x λy => zR y λb => C (some b)) -> ∃ p, C p ∧ ∀ b, p = some b -> a.eval x = .bool b := λh => by
  obtain ⟨vx, h1, h2⟩ := zA r h;obtain ⟨b, hb, h3, _⟩ := xi h2 h1;exact ⟨_, h3, λb' h => by cases h; exact hb⟩
 cases x with
 | tmp t =>
  simp only [boK, zb] at h
  cases ht : get e t with
  | v y =>
   rw [ht] at h;have hg := λh => go (by simp only [rdK, zb, ht]; exact h)
   match y, h, hg with
   | .tr, h, hg => exact hg h
   | .fa, h, hg => exact hg h
   | .bool _, h, hg => exact hg h
   | .tup [], h, _ => exact ⟨_, h, λb h => by cases h⟩
  | dead => rw [ht] at h; exact ⟨_, h, λb h => by cases h⟩
  | _ => rw [ht] at h; exact h.elim
 | const c => exact go h
 | _ => exact h.elim

theorem zf5 {c x y : Operand} (ho : o.dst = some d) (hop : o.op = .pick c x y) (hd : d < N) (hx : Nx D w0 N K next) (r : R D w0 N (get e) hs a w)
  (h : zkH K d c x y e hs) : o.wp P a w next Q := by
 obtain ⟨vc, h1, hr1⟩ := zA r h;cases vc with
 | tr =>
  have hv := xQ hr1;obtain ⟨vx, h2, hr2⟩ := zA r h1;obtain ⟨b, hb, h3, hbare⟩ := xi hr2 h2;refine zk (w' := w) (v := a.eval x) ho (by simp [execOp, hop, hv, asBool]) (zh hx r hd h3 rfl (hr2.bare hbare))
 | fa =>
  have hv := xR hr1;obtain ⟨vx, h2, hr2⟩ := zA r h1;obtain ⟨b, hb, h3, hbare⟩ := xi hr2 h2;refine zk (w' := w) (v := a.eval y) ho (by simp [execOp, hop, hv, asBool]) (zh hx r hd h3 rfl (hr2.bare hbare))
 | bool t =>
  have hv := y4 hr1;obtain ⟨p, h2, hp⟩ := zeF r h1;obtain ⟨q, h3, hq⟩ := zeF r h2;cases p with
  | some p => cases q with
   | some q => exact zk (w' := w) (v := .bool (bif t then p else q)) ho (by cases t <;> simp [execOp, hop, hv, asBool, hp _ rfl, hq _ rfl]) (zh hx r hd h3 rfl (.bool _))
   | none =>
    obtain ⟨rfl, h3⟩ := h3;exact zk (w' := w) (v := .bool p) ho (by simp [execOp, hop, hv, asBool, hp _ rfl]) (zh hx r hd h3 rfl (.bool _))
  | none => cases q with
   | some q =>
    obtain ⟨rfl, h3⟩ := h3;exact zk (w' := w) (v := .bool q) ho (by simp [execOp, hop, hv, asBool, hq _ rfl]) (zh hx r hd h3 rfl (.bool _))
   | none => exact h3.elim
 | _ => exact h1.elim

theorem zj7 {p : Int} (h : 0 <= p) (h' : p <= 9223372036854775807) : IntKind.i64.wrap ((BitVec.ofInt (IntKind.bits .i64) p &&& BitVec.ofInt (IntKind.bits .i64) 1).toNat : Nat) = p % 2 := by
 have h1 : (BitVec.ofInt (IntKind.bits .i64) p).toNat = p.toNat := by
  simp only [IntKind.bits, BitVec.toNat_ofInt]; omega
 have h2 : (BitVec.ofInt (IntKind.bits .i64) 1).toNat = 1 := by decide
 rw [BitVec.toNat_and, h1, h2, Nat.and_one_is_mod, IntKind.wrap_i64];omega

theorem jy {n : Int} (h : inR n) : IntKind.i64.wrap n = n := by rw [IntKind.wrap_i64]; obtain ⟨h1, h2⟩ := h; omega

theorem zat {op : BinOp} {x y : Operand} {tx ty : TypeId} (hcx : OkCx P cx) (ho : o.dst = some d) (hop : o.op = .binOp op tx x y ty) (hd : d < N) (hx : Nx D w0 N K next) (r : R D w0 N (get e) hs a w)
  {p q : Bool} (hvx : a.eval x = .bool p) (hvy : a.eval y = .bool q) (h : ziy cx.tt K d op tx p q e hs) : o.wp P a w next Q := by
 obtain ⟨ti, hti, h1⟩ := zf hcx.tt h;cases hk : ti.kind with
 | bool =>
  rw [hk] at h1;obtain ⟨i, dd, _, hu, _, _, _, _, _, _, _, hkk⟩ := hti;rw [hk] at hkk;obtain ⟨rfl, _⟩ := hkk;cases op with
  | eql => exact zk (w' := w) (v := .bool (p == q)) ho (by simp [execOp, hop, hvx, hvy, eqGuard_at_bool, run_eql_bool w tx p q hu]) (zh hx r hd h1 rfl (.bool _))
  | neq => exact zk (w' := w) (v := .bool (!(p == q))) ho (by simp [execOp, hop, hvx, hvy, eqGuard_at_bool, run_neq_bool w tx p q hu]) (zh hx r hd h1 rfl (.bool _))
  | _ => exact h1.elim
 | _ => rw [hk] at h1; exact h1.elim

theorem zeG {p : Int} {k : Nat} (h : inU p) (hk : k <= 64) : IntKind.u64.wrap ((BitVec.ofInt (IntKind.bits .u64) p &&& BitVec.ofInt (IntKind.bits .u64) ((2 ^ k - 1 : Nat) : Int)).toNat : Nat) = p % ((2 ^ k : Nat) : Int) := by
 have hle : 2 ^ k <= 2 ^ 64 := Nat.pow_le_pow_right (by decide) hk;have hpos : 0 < 2 ^ k := Nat.pow_pos (by decide)
 have h1 : (BitVec.ofInt (IntKind.bits .u64) p).toNat = p.toNat := by
  simp only [IntKind.bits, BitVec.toNat_ofInt]; unfold inU at h; omega
 have h2 : (BitVec.ofInt (IntKind.bits .u64) ((2 ^ k - 1 : Nat) : Int)).toNat = 2 ^ k - 1 := by
  simp only [IntKind.bits, BitVec.toNat_ofInt]; omega
 rw [BitVec.toNat_and, h1, h2, Nat.and_two_pow_sub_one_eq_mod];have e : ∀ n : Int, IntKind.u64.wrap n = n % 18446744073709551616 := λn => by simp [IntKind.wrap, IntKind.bits, IntKind.signed]
 have h3 : p.toNat % 2 ^ k < 2 ^ k := Nat.mod_lt _ hpos;rw [e]
 have h4 : ((p.toNat % 2 ^ k : Nat) : Int) = p % ((2 ^ k : Nat) : Int) := by
  rw [Int.natCast_emod, Int.toNat_of_nonneg h.1]
 rw [h4];refine Int.emod_eq_of_lt (Int.emod_nonneg _ (by omega)) ?_;have := Int.emod_lt_of_pos p (b := ((2 ^ k : Nat) : Int)) (by omega);omega

theorem zhA {op : BinOp} {x y : Operand} {tx ty : TypeId} {ky : IntKind} {p q : Int} (ho : o.dst = some d) (hop : o.op = .binOp op tx x y ty) (hd : d < N) (hx : Nx D w0 N K next) (r : R D w0 N (get e) hs a w)
  (hvx : a.eval x = .int .u64 p) (hvy : a.eval y = .int ky q) (h : u64K op ky p q λx => K1 K hs d e (.v x)) : o.wp P a w next Q := by
 have e9 : ∀ n : Int, IntKind.u64.wrap n = n % 18446744073709551616 := λn => by simp [IntKind.wrap, IntKind.bits, IntKind.signed]
 cases ky <;> first | exact h.elim | skip
 have key : ∀ v z, binOp op tx (.int .u64 p) (.int .u64 q) = pure v -> Rep (okF D (zj (get e) (tv a)) w.heap.size) w.heap z v -> K1 K hs d e (.v z) -> o.wp P a w next Q := by
  intro v z hb hr hK;exact zk (w' := w) (v := v) ho (by simp [execOp, hop, hvx, hvy, eqGuard_at_int, hb]) (zh hx r hd hK rfl hr)
 cases op with
 | add => exact key _ _ (by simp [binOp, Op.intArith, e9]) (.int _ _) h
 | mul => exact key _ _ (by simp [binOp, Op.intArith, e9]) (.int _ _) h
 | eql => exact key (.bool (decide (p = q))) _ (by simp [binOp, Op.intCmp, BEq.beq]) (.bool _) h
 | neq => exact key (.bool (decide (p ≠ q))) _ (by simp [binOp, Op.intCmp, bne, BEq.beq]) (.bool _) h
 | lss => exact key (.bool (decide (p < q))) _ (by simp [binOp, Op.intCmp]) (.bool _) h
 | leq => exact key (.bool (decide (p <= q))) _ (by simp [binOp, Op.intCmp]) (.bool _) h
 | gtr => exact key (.bool (decide (q < p))) _ (by simp [binOp, Op.intCmp]) (.bool _) h
 | geq => exact key (.bool (decide (q <= p))) _ (by simp [binOp, Op.intCmp]) (.bool _) h
 | and =>
  obtain ⟨⟨h1, h2⟩, h3⟩ := h;refine key _ _ ?_ (.int _ _) h3;simp only [binOp, Op.intBits]
  rcases h2 with rfl | rfl
  ·exact congrArg (λz => (pure (Value.int .u64 z) : Sem Value)) (zeG (k := 32) h1 (by decide))
  ·exact congrArg (λz => (pure (Value.int .u64 z) : Sem Value)) (zeG (k := 24) h1 (by decide))
 | shr =>
  obtain ⟨⟨h1, h2, h4⟩, h3⟩ := h;refine key _ _ ?_ (.int _ _) h3;have h5 : ¬ (64 <= q) := by omega
  simp [binOp]
 | _ => exact h.elim

theorem ko {ok : OkB} {h : Array Obj} : ∀ {cs : List V} {C : List Int -> Prop}, zgT cs C -> ∃ xs, C xs ∧ cs = xs.map (V.int .i64)
 | [], C, hc => ⟨[], hc, rfl⟩
 | c :: cs, C, hc => by
  cases c with
  | int k n =>
   cases k <;> first | exact hc.elim | skip
   obtain ⟨xs, h1, rfl⟩ := ko (ok := ok) (h := h) (C := λl => C (n :: l)) hc;exact ⟨n :: xs, h1, rfl⟩
  | _ => exact hc.elim
theorem zeH {ok : OkB} {h : Array Obj} {xs : List Int} {v : Value} (hr : Rep ok h (.agg (xs.map (V.int .i64))) v) : v = .agg (xs.map (Value.int .i64)).toArray := by
 cases hr with
 | agg _ vs hl hf hr =>
  congr 1
  refine Array.ext (by simpa using hl) λj h1 h2 => ?_;have hj : j < xs.length := by simpa using h2
  have h3 := hr j (by simpa using hj);have e1 : (xs.map (V.int .i64)).getD j .nil = .int .i64 xs[j] := by simp [List.getD_eq_getElem?_getD, hj]
  rw [e1] at h3;have h4 := zJ h3
  simpa [Array.getD, h1] using h4
theorem zhB {l : List (Nat × Nat)} {t : Nat} {C : Nat -> Prop} (h : zez l t C) : ∃ n, (t, n) ∈ l ∧ C n := by
 induction l with
 | nil => exact h.elim
 | cons q r ih =>
  obtain ⟨k, n⟩ := q
  by_cases hk : k = t
  ·subst hk; simp only [zez, zQ, cond_true] at h; exact ⟨n, List.mem_cons_self, h⟩
  ·simp only [zez, yk hk, cond_false] at h
   obtain ⟨n, h1, h2⟩ := ih h;exact ⟨n, List.mem_cons_of_mem _ h1, h2⟩
theorem zhC {op : BinOp} {x y : Operand} {tx ty : TypeId} {cs ds : List V} (hcx : OkCx P cx) (ho : o.dst = some d) (hop : o.op = .binOp op tx x y ty) (hd : d < N) (hx : Nx D w0 N K next) (r : R D w0 N (get e) hs a w)
  {ok : OkB} (hr1 : Rep ok w.heap (.agg cs) (a.eval x)) (hr2 : Rep ok w.heap (.agg ds) (a.eval y)) (h : eqAK cx K d op tx cs ds e hs) : o.wp P a w next Q := by
 cases op <;> first | exact h.elim | skip
 obtain ⟨n, h1, h2⟩ := zhB h;obtain ⟨xs, h3, rfl⟩ := ko (ok := ok) (h := w.heap) h2;obtain ⟨ys, ⟨⟨h4, h5⟩, h6⟩, rfl⟩ := ko (ok := ok) (h := w.heap) h3;obtain ⟨h7, h8⟩ := hcx.eqs _ h1 w xs ys x y h4 h5;refine zk (w' := w) (v := .bool (decide (xs ≠ ys))) ho ?_ (zh hx r hd h6 rfl (.bool _));simp only [execOp, hop, zeH hr1, zeH hr2, Sem.run_bind, h7, h8, Result.andThen_ok, Sem.run_pure]

theorem zeI {op : BinOp} {x y : Operand} {tx ty : TypeId} (hcx : OkCx P cx) (ho : o.dst = some d) (hop : o.op = .binOp op tx x y ty) (hd : d < N) (hx : Nx D w0 N K next) (r : R D w0 N (get e) hs a w)
  (h : zfZ cx K d op tx x y e hs) : o.wp P a w next Q := by
 obtain ⟨vx, h1, hr1⟩ := zA r h;obtain ⟨vy, h2, hr2⟩ := zA r h1;cases vx with
 | tr =>
  obtain ⟨q, hvy, h3, _⟩ := xi hr2 h2;exact zat hcx ho hop hd hx r (xQ hr1) hvy h3
 | fa =>
  obtain ⟨q, hvy, h3, _⟩ := xi hr2 h2;exact zat hcx ho hop hd hx r (xR hr1) hvy h3
 | bool p =>
  obtain ⟨q, hvy, h3, _⟩ := xi hr2 h2;exact zat hcx ho hop hd hx r (y4 hr1) hvy h3
 | int kx p =>
  cases kx <;> first | (cases vy <;> first | exact zhA ho hop hd hx r (zJ hr1) (zJ hr2) h2 | exact h2.elim) | skip
  cases vy with
  | int ky q =>
   have hvx := zJ hr1;have hvy := zJ hr2
   have key : ∀ v z, binOp op tx (.int .i64 p) (.int .i64 q) = pure v -> Rep (okF D (zj (get e) (tv a)) w.heap.size) w.heap z v -> ky = .i64 -> K1 K hs d e (.v z) -> o.wp P a w next Q := by
    intro v z hb hr hk hK;subst hk;exact zk (w' := w) (v := v) ho (by simp [execOp, hop, hvx, hvy, eqGuard_at_int, hb]) (zh hx r hd hK rfl hr)
   have main : ziw op .i64 p q (kfK op ky λx => K1 K hs d e (.v x)) -> o.wp P a w next Q := by
    clear h2;intro h2;cases op with
    | add => obtain ⟨h3, h4⟩ := h2; cases ky <;> first | exact h4.elim | exact key _ _ (by simp [binOp, Op.intArith, jy h3]) (.int _ _) rfl h4
    | sub => obtain ⟨h3, h4⟩ := h2; cases ky <;> first | exact h4.elim | exact key _ _ (by simp [binOp, Op.intArith, jy h3]) (.int _ _) rfl h4
    | mul => obtain ⟨h3, h4⟩ := h2; cases ky <;> first | exact h4.elim | exact key _ _ (by simp [binOp, Op.intArith, jy h3]) (.int _ _) rfl h4
    | rem => obtain ⟨h3, h4⟩ := h2; cases ky <;> first | exact h4.elim | exact key _ _ (by simp [binOp, Op.intDiv, h3]) (.int _ _) rfl h4
    | quo => obtain ⟨h3, h5, h4⟩ := h2; cases ky <;> first | exact h4.elim | exact key _ _ (by simp [binOp, Op.intDiv, h3, jy h5]) (.int _ _) rfl h4
    | eql => cases ky <;> first | exact h2.elim | exact key (.bool (decide (p = q))) _ (by simp [binOp, Op.intCmp, BEq.beq]) (.bool _) rfl h2
    | neq => cases ky <;> first | exact h2.elim | exact key (.bool (decide (p ≠ q))) _ (by simp [binOp, Op.intCmp, bne, BEq.beq]) (.bool _) rfl h2
    | lss => cases ky <;> first | exact h2.elim | exact key (.bool (decide (p < q))) _ (by simp [binOp, Op.intCmp]) (.bool _) rfl h2
    | leq => cases ky <;> first | exact h2.elim | exact key (.bool (decide (p <= q))) _ (by simp [binOp, Op.intCmp]) (.bool _) rfl h2
    | gtr => cases ky <;> first | exact h2.elim | exact key (.bool (decide (q < p))) _ (by simp [binOp, Op.intCmp]) (.bool _) rfl h2
    | geq => cases ky <;> first | exact h2.elim | exact key (.bool (decide (q <= p))) _ (by simp [binOp, Op.intCmp]) (.bool _) rfl h2
    | and =>
     obtain ⟨⟨h3, h3', h5⟩, h4⟩ := h2;subst h5;cases ky <;> first | exact h4.elim | skip
     refine key _ _ ?_ (.int _ _) rfl h4;simp only [binOp, Op.intBits]
     exact congrArg (λz => (pure (Value.int .i64 z) : Sem Value)) (zj7 h3 h3')
    | shr =>
     obtain ⟨⟨h3, h5⟩, h4⟩ := h2;subst h5;cases ky <;> first | exact h4.elim | skip
     ·refine key _ _ ?_ (.int _ _) rfl h4;simp [binOp, Op.shift, IntKind.bits, Int.fdiv_eq_ediv_of_nonneg]
     ·refine zk (w' := w) (v := .int .i64 (p / 2)) ho ?_ (zh hx r hd h4 rfl (.int _ _));simp [execOp, hop, hvx, hvy, eqGuard_at_int, binOp, Op.shift, IntKind.bits, Int.fdiv_eq_ediv_of_nonneg]
    | _ => exact h2.elim
   have h2 : zbD cx.wr op .i64 p q (kfK op ky λx => K1 K hs d e (.v x)) := h2;cases hw : cx.wr with
   | false => rw [hw] at h2; exact main h2
   | true =>
    rw [hw] at h2;have h2 : zgP op .i64 p q (kfK op ky λx => K1 K hs d e (.v x)) := h2;cases op with
    | add => cases ky <;> first | exact h2.elim | exact key _ _ (by simp [binOp, Op.intArith]) (.int _ _) rfl h2
    | _ => exact main h2
  | _ => exact h2.elim
 | agg cs => cases vy with
  | agg ds => exact zhC hcx ho hop hd hx r hr1 hr2 h2
  | _ => exact h2.elim
 | _ => exact h2.elim

end
open Go Go.RowKit

section
variable {P : Program} {cx : Cx} {D : Nat -> Prop} {w0 : World} {N : Nat} {hs : Nat} {a : Act} {w w' : World} {K : S -> Prop} {next : Act -> World -> Prop} {Q : Exit -> Act -> World -> Prop} {o : Oper} {d : Nat} {e : Env}

theorem zf6 {op : UnOp} {t : TypeId} {x : Operand} (ho : o.dst = some d) (hop : o.op = .unOp op t x) (hd : d < N) (hx : Nx D w0 N K next) (r : R D w0 N (get e) hs a w)
  (h : zkI K d op x e hs) : o.wp P a w next Q := by
 obtain ⟨vx, h1, hr1⟩ := zA r h;cases vx with
 | tr =>
  have hv := xQ hr1;cases op <;> first | exact h1.elim | exact zk (w' := w) (v := .bool false) ho (by simp [execOp, hop, hv, Op.unary]) (zh hx r hd h1 rfl .fa)
 | fa =>
  have hv := xR hr1;cases op <;> first | exact h1.elim | exact zk (w' := w) (v := .bool true) ho (by simp [execOp, hop, hv, Op.unary]) (zh hx r hd h1 rfl .tr)
 | bool b =>
  have hv := y4 hr1;cases op <;> first | exact h1.elim | exact zk (w' := w) (v := .bool (!b)) ho (by simp [execOp, hop, hv, Op.unary]) (zh hx r hd h1 rfl (.bool _))
 | int k n =>
  have hv := zJ hr1;cases op <;> first | exact h1.elim | skip
  cases k <;> first | exact h1.elim | skip
  obtain ⟨h2, h3⟩ := h1;refine zk (w' := w) (v := .int .i64 (-n)) ho ?_ (zh hx r hd h3 rfl (.int _ _));have hw : IntKind.i64.wrap (-n) = -n := jy h2;simp [execOp, hop, hv, Op.unary, Op.intArith, hw]
 | _ => cases op <;> exact h1.elim

theorem xq.und {t : Nat} {ti : TI} (h : xq P t ti) : ∃ i d, P.info? t = some i ∧ P.underlying t = some d ∧ i.size = ti.size ∧ i.bytes = ti.bytes := by
 obtain ⟨i, d, h1, h2, h3, h4, _⟩ := h; exact ⟨i, d, h1, h2, h3, h4⟩

theorem zcS (hcx : OkCx P cx) {s t : TypeId} {x : Operand} (ho : o.dst = some d) (hop : o.op = .convert s t x) (hd : d < N) (hx : Nx D w0 N K next) (r : R D w0 N (get e) hs a w)
  (h : zeA cx K d s t x e hs) : o.wp P a w next Q := by
 obtain ⟨vx, h1, hr1⟩ := zA r h;cases vx with
 | int k n =>
  have hv := zJ hr1;have e9 : ∀ n : Int, IntKind.u64.wrap n = n % 18446744073709551616 := λn => by simp [IntKind.wrap, IntKind.bits, IntKind.signed]
  cases k <;> first | exact h1.elim | skip
  case u64 =>
   obtain ⟨ts, hs1, h2⟩ := zf hcx.tt h1;obtain ⟨ti, hi1, h3⟩ := zf hcx.tt h2;cases hk : ti.kind with
   | int k' =>
    rw [hk] at h3;obtain ⟨is, ds, _, hus, _⟩ := hs1;obtain ⟨ii, di, _, hui, _, _, _, _, _, _, _, hkind⟩ := hi1;rw [hk] at hkind;cases k' <;> first | exact h3.elim | skip
    ·obtain ⟨⟨h4, h4'⟩, h5⟩ := h3;obtain ⟨rfl, _⟩ := hkind;refine zk (w' := w) (v := .int .i64 n) ho ?_ (zh hx r hd h5 rfl (.int _ _));simp only [execOp, hop, hv, convert, Sem.run_bind, run_underlying hus, run_underlying hui, Result.andThen_ok]
     cases ds <;> simp [Conv.intToInt, jy h4']
    ·obtain ⟨h4, h5⟩ := h3;obtain ⟨rfl, _⟩ := hkind;have hwr : IntKind.u64.wrap n = n := by rw [e9]; unfold inU at h4; omega
     refine zk (w' := w) (v := .int .u64 n) ho ?_ (zh hx r hd h5 rfl (.int _ _));simp only [execOp, hop, hv, convert, Sem.run_bind, run_underlying hus, run_underlying hui, Result.andThen_ok]
     cases ds <;> simp [Conv.intToInt, hwr]
   | _ => rw [hk] at h3; exact h3.elim
  case u8 =>
   obtain ⟨ts, hs1, h2⟩ := zf hcx.tt h1;obtain ⟨ti, hi1, h3⟩ := zf hcx.tt h2;cases hk : ti.kind with
   | int k' =>
    rw [hk] at h3;obtain ⟨is, ds, _, hus, _⟩ := hs1;obtain ⟨ii, di, _, hui, _, _, _, _, _, _, _, hkind⟩ := hi1;rw [hk] at hkind;cases k' <;> first | exact h3.elim | skip
    ·obtain ⟨h4, h5⟩ := h3;obtain ⟨rfl, _⟩ := hkind;have hwr : IntKind.i64.wrap n = n := jy ⟨by omega, by omega⟩;refine zk (w' := w) (v := .int .i64 n) ho ?_ (zh hx r hd h5 rfl (.int _ _));simp only [execOp, hop, hv, convert, Sem.run_bind, run_underlying hus, run_underlying hui, Result.andThen_ok]
     cases ds <;> simp [Conv.intToInt, hwr]
    ·obtain ⟨h4, h5⟩ := h3;obtain ⟨rfl, _⟩ := hkind;have hwr : IntKind.u64.wrap n = n := by rw [e9]; omega
     refine zk (w' := w) (v := .int .u64 n) ho ?_ (zh hx r hd h5 rfl (.int _ _));simp only [execOp, hop, hv, convert, Sem.run_bind, run_underlying hus, run_underlying hui, Result.andThen_ok]
     cases ds <;> simp [Conv.intToInt, hwr]
   | _ => rw [hk] at h3; exact h3.elim
  obtain ⟨ts, hs1, h2⟩ := zf hcx.tt h1;obtain ⟨ti, hi1, h3⟩ := zf hcx.tt h2;obtain ⟨is, ds, _, hus, _⟩ := hs1;obtain ⟨ii, di, _, hui, _, _, _, _, _, _, _, hkind⟩ := hi1;cases hk : ti.kind with
  | int k' =>
   rw [hk] at h3 hkind;cases k' <;> first | exact h3.elim | skip
   ·obtain ⟨h4, h5⟩ := h3;obtain ⟨rfl, _⟩ := hkind;refine zk (w' := w) (v := .int .i64 n) ho ?_ (zh hx r hd h5 rfl (.int _ _));simp only [execOp, hop, hv, convert, Sem.run_bind, run_underlying hus, run_underlying hui, Result.andThen_ok]
    cases ds <;> simp [Conv.intToInt, jy h4]
   ·obtain ⟨⟨h4, h4'⟩, h5⟩ := h3;obtain ⟨rfl, _⟩ := hkind
    have hwr : IntKind.u64.wrap n = n := by
     have := h4'.2;have e : IntKind.u64.wrap n = n % 18446744073709551616 := by simp [IntKind.wrap, IntKind.bits, IntKind.signed]
     rw [e]; unfold inR at h4'; omega
    refine zk (w' := w) (v := .int .u64 n) ho ?_ (zh hx r hd h5 rfl (.int _ _));simp only [execOp, hop, hv, convert, Sem.run_bind, run_underlying hus, run_underlying hui, Result.andThen_ok]
    cases ds <;> simp [Conv.intToInt, hwr]
  | _ => rw [hk] at h3; exact h3.elim
 | _ => exact h1.elim

theorem zeJ (hcx : OkCx P cx) {t ty : TypeId} {x : Operand} (ho : o.dst = some d) (hop : o.op = .binOp .eql t x (.const (.slice none 0 0)) ty) (hd : d < N) (hx : Nx D w0 N K next) (r : R D w0 N (get e) hs a w)
  (h : ziz cx K d t x e hs) : o.wp P a w next Q := by
 obtain ⟨ti, hti, h1⟩ := zf hcx.tt h;obtain ⟨i, dd, h2, h3, _, _, _, _, _, _, _, hkind⟩ := hti;cases hk : ti.kind with
 | slice el =>
  rw [hk] at h1 hkind;obtain ⟨rfl, _⟩ := hkind;obtain ⟨vx, h4, hr⟩ := zA r h1
  have run : ∀ ad n c, a.eval x = .slice ad n c -> (execOp a.eval o).run P w = .ok (.value (.bool ad.isNone)) w := by
   intro ad n c hv;have hg : eqGuard .eql t x (.const (.slice none 0 0)) (.slice ad n c) (.slice none 0 0) = pure () := rfl
   have he : (Op.equal t (.slice ad n c) (.slice none 0 0)).run P w = .ok ad.isNone w := by
    have h9 : Op.equal t (.slice ad n c) (.slice none 0 0) = Op.equalIn (9999 + 1) t (.slice ad n c) (.slice none 0 0) := rfl;rw [h9, Op.equalIn, Sem.run_bind, run_underlying h3, Result.andThen_ok];cases ad <;> rfl
   have hcst : a.eval (.const (.slice none 0 0)) = .slice none 0 0 := rfl;simp only [execOp, hop, hv, hcst, hg, binOp, Sem.run_bind, Sem.run_pure, Result.andThen_ok, he]
  cases vx with
  | ints g xs =>
   generalize hvv : a.eval x = vv at hr;cases hr with
   | ints g xs ad cap hc hm hxs =>
    refine zk ho (run _ _ _ hvv) (zh hx r hd (h4 ad.isNone λhn => ?_) rfl (.bool _));cases xs with
    | nil => rfl
    | cons z zs =>
     obtain ⟨b, oo, _, _, _, h5, _⟩ := hxs 0 (by simp);subst h5; simp at hn
  | vals g sz n f =>
   generalize hvv : a.eval x = vv at hr;cases hr with
   | vals g sz n f ad cap hc hm hl hf c hxs hrr =>
    refine zk ho (run _ _ _ hvv) (zh hx r hd (h4 ad.isNone λhn => ?_) rfl (.bool _));rcases Nat.eq_zero_or_pos n with h0 | h0
    ·exact .inl h0
    ·rcases Nat.eq_zero_or_pos sz with h1 | h1
     ·exact .inr h1
     ·obtain ⟨b, oo, _, _, _, h5, _⟩ := hxs 0 0 h0 h1;subst h5; simp at hn
  | nil =>
   generalize hvv : a.eval x = vv at hr;cases hr with
   | nil ad => exact zk ho (run _ _ _ hvv) (zh hx r hd (h4 ad.isNone) rfl (.bool _))
  | _ => exact h4.elim
 | _ => rw [hk] at h1; exact h1.elim

theorem zg0 {ok : OkB} {h : Array Obj} {cs : List V} {v : Value} (r : Rep ok h (.agg cs) v) :
  ∃ vs : Array Value, v = .agg vs ∧ vs.size = cs.length ∧ cs.all V.isCell = true ∧ ∀ j, j < cs.length -> Rep ok h (cs.getD j .nil) (vs.getD j undef) := by
 cases r with
 | agg cs vs hl hf hr => exact ⟨vs, rfl, hl, hf, hr⟩

theorem zj8 {ok : OkB} {h : Array Obj} {cs : List V} {v : Value} (r : Rep ok h (.tup cs) v) :
  ∃ vs : Array Value, v = .tuple vs ∧ vs.size = cs.length ∧ ∀ j, j < cs.length -> Rep ok h (cs.getD j .nil) (vs.getD j undef) := by
 cases r with
 | tup cs vs hl hr => exact ⟨vs, rfl, hl, hr⟩

theorem z5 {α : Type} {l : List α} {i : Nat} {y : α} {r : List α} {z : α} (h : l.drop i = y :: r) : i < l.length ∧ l.getD i z = y ∧ l[i]? = some y := by
 have h1 : (l.drop i)[0]? = some y := by rw [h]; rfl
 rw [List.getElem?_drop, Nat.add_zero] at h1;refine ⟨?_, by rw [List.getD_eq_getElem?_getD, h1]; rfl, h1⟩;rcases Nat.lt_or_ge i l.length with h' | h'
 ·exact h'
 ·rw [List.getElem?_eq_none h'] at h1; cases h1

theorem ziI {o : AV} (h : o.isLst = true) {v : Value} {b : Nat} : rb o v b ↔ rb1 o v b := by
 cases o with
 | ownI e c xs => cases v with
  | slice ad l k => cases ad <;> cases k <;> exact Iff.rfl
  | _ => exact Iff.rfl
 | ownV e sz c n f => cases v with
  | slice ad l k => cases ad <;> cases k <;> exact Iff.rfl
  | _ => exact Iff.rfl
 | _ => cases h
theorem zj9 {o : AV} (h : o.isLst = true) {ok : OkB} {hp : Array Obj} {σ : Nat -> AV} {τ : Nat -> Value} {v : Value} (hr : AVO ok hp o v) : AVR ok hp σ τ o v := by
 cases o with
 | ownI e c xs => exact hr
 | ownV e sz c n f => exact hr
 | _ => cases h
theorem zeK {o : AV} (h : o.isLst = true) (t : Nat) : o.touches t = false := by
 cases o with
 | ownI e c xs => rfl
 | ownV e sz c n f => rfl
 | _ => cases h
theorem zbP {t s i j : Nat} {q : AV} {vs : List V} (ho : o.dst = some d) (hop : o.op = .extract (.tmp t) i) (hd : d < N) (hx : Nx D w0 N K next) (r : R D w0 N (get e) hs a w) (hts : tv a t = tv a s) (hs1 : get e s = .tupO j q vs)
  (h : zgU K d s i j q vs e hs) : o.wp P a w next Q := by
 have h1 := r.slots s;rw [hs1] at h1;obtain ⟨us, h2, h3, h4, h5, h6⟩ := h1;have h2 : tv a s = .tuple us := h2
 have hrun : ∀ (h8 : i < vs.length), (execOp a.eval o).run P w = .ok (.value (us.getD i undef)) w := λh8 => by
  have h9 : i < us.size := by omega
  simp [execOp, hop, yI, hts, h2, Instr.extract, Array.getD, h9]
 unfold zgU at h
 by_cases hij : i = j
 ·subst hij;simp only [zQ, cond_true, zr] at h
  obtain ⟨hl, h⟩ := h;have hown : ∀ b, rb q (us.getD i undef) b -> rb (get e s) (tv a s) b := λb hb => by rw [hs1, h2]; exact (ziI hl).1 hb
  have r1 := r.setOwn (s := s) (d := d) (x := q) (v := us.getD i undef) none (World.grownBy_refl w none) r.hs2 r.hs1 hd (by simp) (λb hb => .inl (hown b hb)) (zeK hl) (zj9 hl h6);refine zk (w' := w) (v := us.getD i undef) ho (hrun h4) ?_;rw [kM] at h;refine hx _ _ _ ?_ h;show R D w0 N (get (put (vZ d (put e s (.tupO i .dead vs))) d q)) hs _ _
  rw [zd, yd, zd]
  by_cases hsd : s = d
  ·have e1 : upd (zn (upd (get e) s (.tupO i .dead vs)) d) d q = upd (zn (upd (get e) s .dead) d) d q := by
    funext k
    by_cases hk : k = d
    ·simp [upd, hk]
    ·simp [upd, zn, hk, hsd]
   rw [e1]; exact r1
  ·have e1 : upd (zn (upd (get e) s (.tupO i .dead vs)) d) d q = upd (upd (zn (upd (get e) s .dead) d) d q) s (.tupO i .dead vs) := by
    funext k
    by_cases hk : k = s
    ·subst hk; simp [upd, zn, hsd, AV.touches]
    ·by_cases hk2 : k = d
     ·simp [upd, hk2, Ne.symm hsd]
     ·simp [upd, zn, hk, hk2]
   rw [e1];have hrb : ∀ v b, ¬ rb (.tupO i .dead vs) v b := λv b h => by cases v <;> exact h.elim
   refine r1.freezeA (r.dom s (by rw [hs1]; simp)) hrb rfl ?_;have hts2 : tv (a.put (some d) (us.getD i undef)) s = .tuple us := by rw [zeE _ _ _ _ (by rw [r.size]; exact hd), if_neg hsd]; exact h2
   rw [hts2];refine ⟨us, rfl, h3, h4, λk hk hki => (h5 k hk hki).mono λg b hb => ⟨yo (λc ⟨z, hz⟩ => ?_) hb, rfl⟩, trivial⟩
   by_cases hzs : z = s
   ·subst hzs; simp only [upd, if_true] at hz; exact (hrb _ _ hz).elim
   ·simp only [upd, hzs, if_false] at hz
    rw [zeE _ _ _ _ (by rw [r.size]; exact hd)] at hz
    by_cases hzd : z = d
    ·simp only [hzd, if_true] at hz; exact ⟨s, hown c hz⟩
    ·simp only [hzd, if_false, zn] at hz
     refine ⟨z, ?_⟩
     revert hz
     cases AV.touches d (upd (get e) s .dead z) <;> intro hz
     ·simpa [upd, hzs] using hz
     ·exact hz.elim
 ·simp only [yk hij, cond_false] at h
  cases hdr : vs.drop i with
  | nil => rw [hdr] at h; exact h.elim
  | cons y l =>
   rw [hdr] at h;obtain ⟨hlt, hg, _⟩ := z5 (z := V.nil) hdr;have hr := h5 i hlt hij;rw [hg] at hr;exact zk (w' := w) (v := us.getD i undef) ho (hrun hlt) (zh hx r hd h rfl hr)

theorem zcT {t i : Nat} (ho : o.dst = some d) (hop : o.op = .extract (.tmp t) i) (hd : d < N) (hx : Nx D w0 N K next) (r : R D w0 N (get e) hs a w)
  (h : zbH K d t i e hs) : o.wp P a w next Q := by
 simp only [zbH, zb] at h
 cases ht : get e t with
 | v x =>
  rw [ht] at h;cases x with
  | tup vs =>
   have hv := r.val ht;obtain ⟨ws, h1, h2, h3⟩ := zj8 hv;simp only at h
   cases hdr : vs.drop i with
   | nil => rw [hdr] at h; exact h.elim
   | cons y l =>
    rw [hdr] at h;obtain ⟨hlt, hg, _⟩ := z5 (z := V.nil) hdr;have hr := h3 i hlt;rw [hg] at hr;have hlt' : i < ws.size := by omega
    refine zk (w' := w) (v := ws.getD i undef) ho ?_ (zh hx r hd h rfl hr);simp [execOp, hop, yI, h1, Instr.extract, Array.getD, hlt']
  | _ => exact h.elim
 | tupO j q vs => rw [ht] at h; exact zbP ho hop hd hx r rfl ht h
 | al s =>
  have h1 := r.slots t;rw [ht] at h1 h;have h1 : tv a t = tv a s := h1;simp only at h
  cases hs1 : get e s with
  | tupO j q vs => rw [hs1] at h; exact zbP ho hop hd hx r h1 hs1 h
  | _ => rw [hs1] at h; exact h.elim
 | _ => rw [ht] at h; exact h.elim

theorem zbs {ok : OkB} {h : Array Obj} {x : V} {v : Value} {C : Int -> Prop} (r : Rep ok h x v) (hc : zfX x C) : ∃ a n cap, v = .slice a n cap ∧ C (n : Int) := by
 cases r with
 | wh e b xs _ ho hk =>
  rcases ho.2 with ⟨ad, rfl, h0⟩ | ⟨c, cur, rfl, _⟩
  ·exact ⟨_, _, _, rfl, by rw [<- h0]; exact hc⟩
  ·exact ⟨_, _, _, rfl, hc⟩
 | _ => first | exact hc.elim | exact ⟨_, _, _, rfl, hc⟩

theorem zhD (hcx : OkCx P cx) {t : Nat} {x : Operand} (ho : o.dst = some d) (hop : o.op = .call ⟨.builtin .len, #[x], #[t]⟩) (hd : d < N) (hx : Nx D w0 N K next) (r : R D w0 N (get e) hs a w)
  (h : zf1 cx K d t x e hs) : o.wp P a w next Q := by
 obtain ⟨ti, hti, h1⟩ := zf hcx.tt h;obtain ⟨i, dd, h2, h3, _, _, _, _, _, _, _, hkind⟩ := hti;cases hk : ti.kind with
 | slice el =>
  rw [hk] at h1 hkind;obtain ⟨rfl, _⟩ := hkind;obtain ⟨vx, h4, hr⟩ := zA r h1;obtain ⟨ad, n, cap, hv, h5⟩ := zbs hr h4;refine zk (w' := w) (v := goInt n) ho ?_ (zh hx r hd h5 rfl (.int _ _));simp [execOp, hop, resolve, invoke, builtin, Builtin.len_, run_underlying h3, hv]
 | _ => rw [hk] at h1; exact h1.elim

theorem zhE {ts : Array TypeId} {x y : Operand} (ho : o.dst = some d) (hop : o.op = .call ⟨.builtin .max, #[x, y], ts⟩) (hd : d < N) (hx : Nx D w0 N K next) (r : R D w0 N (get e) hs a w)
  (h : maxK K d x y e hs) : o.wp P a w next Q := by
 obtain ⟨vx, h1, hr1⟩ := zA r h;obtain ⟨vy, h2, hr2⟩ := zA r h1;cases vx with
 | int kx p =>
  cases kx <;> first | exact h2.elim | skip
  cases vy with
  | int ky q =>
   cases ky <;> first | exact h2.elim | skip
   have hvx := zJ hr1;have hvy := zJ hr2;refine zk (w' := w) (v := .int .i64 (max p q)) ho ?_ (zh hx r hd h2 rfl (.int _ _));have : (if q > p then q else p) = max p q := by split <;> omega
   simp [execOp, hop, resolve, invoke, builtin, Builtin.max_, Builtin.max2, hvx, hvy]
   omega
  | _ => exact h2.elim
 | _ => exact h2.elim

theorem zhF {ts : Array TypeId} {x y : Operand} (ho : o.dst = some d) (hop : o.op = .call ⟨.builtin .min, #[x, y], ts⟩) (hd : d < N) (hx : Nx D w0 N K next) (r : R D w0 N (get e) hs a w)
  (h : minK K d x y e hs) : o.wp P a w next Q := by
 obtain ⟨vx, h1, hr1⟩ := zA r h;obtain ⟨vy, h2, hr2⟩ := zA r h1;cases vx with
 | int kx p =>
  cases kx <;> first | exact h2.elim | skip
  cases vy with
  | int ky q =>
   cases ky <;> first | exact h2.elim | skip
   have hvx := zJ hr1;have hvy := zJ hr2;refine zk (w' := w) (v := .int .i64 (min p q)) ho ?_ (zh hx r hd h2 rfl (.int _ _));simp [execOp, hop, resolve, invoke, builtin, Builtin.min_, Builtin.min2, hvx, hvy]
   omega
  | _ => exact h2.elim
 | _ => exact h2.elim

theorem zbQ {f : Nat} {caps : List Operand} (ho : o.dst = some d) (hop : o.op = .makeFunc (.func f) #[] ⟨caps⟩) (hd : d < N) (hx : Nx D w0 N K next) (r : R D w0 N (get e) hs a w)
  (h : zc9 cx K d f caps e hs) : o.wp P a w next Q := by
 obtain ⟨e', xs, h1, r', hl, hr, _⟩ := zdb r h;refine zk (w' := w) (v := .func (.func f) #[] (caps.map a.eval).toArray) ho (by simp [execOp, hop, Instr.makeFunc]) (zh hx r' hd h1 rfl ?_);refine .func f xs _ (by simp [hl]) λj hj => ?_;have := hr j (by omega)
 simpa [Array.getD_eq_getD_getElem?, List.getD_eq_getElem?_getD] using this

theorem zbR {x : Operand} {C : List V -> Prop} (h : zhz e x C) : ∃ t cs, x = .tmp t ∧ get e t = .v (.agg cs) ∧ C cs := by
 cases x with
 | tmp t =>
  simp only [zhz, zb] at h
  cases hg : get e t with
  | v y =>
   rw [hg] at h;cases y with
   | agg cs => exact ⟨t, cs, rfl, hg, h⟩
   | _ => exact h.elim
  | _ => rw [hg] at h; exact h.elim
 | _ => exact h.elim

theorem zeL (hcx : OkCx P cx) {t k : Nat} {x : Operand} (ho : o.dst = some d) (hop : o.op = .field t x k) (hd : d < N) (hx : Nx D w0 N K next) (r : R D w0 N (get e) hs a w)
  (h : zf0 cx K d t x k e hs) : o.wp P a w next Q := by
 obtain ⟨ti, hti, h1⟩ := zf hcx.tt h;obtain ⟨i, dd, h2, h3, _, _, _, _, _, _, _, hkind⟩ := hti;cases hk : ti.kind with
 | struct fs =>
  rw [hk] at h1 hkind;obtain ⟨fields, rfl, hfs, _⟩ := hkind;simp only at h1
  cases hdr : fs.drop k with
  | nil => rw [hdr] at h1; exact h1.elim
  | cons p l =>
   obtain ⟨off, ft⟩ := p;rw [hdr] at h1;obtain ⟨hlt, _, hg⟩ := z5 (z := (0, 0)) hdr;obtain ⟨tj, htj, h4⟩ := zf hcx.tt h1;obtain ⟨j, dj, hj1, hj2, hj3, _, _, _, _, _, _, hkj⟩ := htj;obtain ⟨t0, cs, rfl, hgt, h5⟩ := zbR h4;have hr := r.val hgt;obtain ⟨vs, hv, hvl, hcell, hvr⟩ := zg0 hr;have hv' : a.eval (.tmp t0) = .agg vs := hv
   have hf : ∃ f, fields[k]? = some f ∧ f.offset = off ∧ f.type = ft := by
    rw [<- hfs, List.getElem?_map] at hg;cases hq : fields.toList[k]? with
    | none => rw [hq] at hg; cases hg
    | some f =>
     rw [hq] at hg;simp only [Option.map_some, Option.some.injEq, Prod.mk.injEq] at hg
     exact ⟨f, by rw [<- Array.getElem?_toList]; exact hq, hg.1, hg.2⟩
   obtain ⟨f, hf1, hf2, hf3⟩ := hf;cases hkk : tj.kind with
   | struct fs' => rw [hkk] at h5; exact h5.elim
   | _ =>
    have hagg : kj dj = false := by
     rw [hkk] at hkj
     first | exact hkj.1 | (obtain ⟨rfl, _⟩ := hkj; rfl)
    rw [hkk] at h5;simp only [z3, hkk, zbC] at h5
    cases hcd : cs.drop off with
    | nil => rw [hcd] at h5; exact h5.elim
    | cons c l' =>
     rw [hcd] at h5;have h6 := h5;obtain ⟨hlt2, hg2, _⟩ := z5 (z := V.nil) hcd;have hrc := hvr off hlt2;rw [hg2] at hrc;have hlt3 : off < vs.size := by omega
     refine zk (w' := w) (v := vs.getD off undef) ho ?_ (zh hx r hd h6 rfl hrc)
     have ha : (isAgg f.type).run P w = .ok false w := by
      simp only [isAgg, hf3, Sem.run_bind, run_underlying hj2, Result.andThen_ok]
      cases dj <;> first | rfl | simp [kj] at hagg
     simp [execOp, hop, Instr.field, run_underlying h3, hf1, hv', asAgg, part, ha, hf2, hlt3, Array.getD]
 | _ => rw [hk] at h1; exact h1.elim

end
open Go Go.RowKit

section
variable {P : Program} {cx : Cx} {D : Nat -> Prop} {w0 : World} {N : Nat} {hs : Nat} {a : Act} {w w' : World} {K : S -> Prop} {next : Act -> World -> Prop} {Q : Exit -> Act -> World -> Prop} {o : Oper} {d : Nat} {e : Env}

theorem zG {ok : OkB} {h : Array Obj} {x : V} {v : Value} (r : Rep ok h x v) (hf : x.flat = true) :
  v.cells.size = x.cells.length ∧ ∀ j, j < x.cells.length -> ∃ c, v.cells[j]? = some c ∧ Rep ok h (zW x j) c ∧ c.oneCell' = true := by
 cases r with
 | agg cs vs hl hall hr =>
  refine ⟨hl, λj hj => ?_⟩;have hj' : j < vs.size := by rw [hl]; exact hj
  have := hr j hj;rw [Array.getD_eq_getD_getElem?, Array.getElem?_eq_getElem hj'] at this;refine ⟨vs[j], by simp [Value.cells, hj'], this, this.oneCell ?_⟩;have hc := j6 (x := .agg cs) hf hj;exact hc
 | tup cs vs hl hr => simp [V.flat] at hf
 | wh e b xs _ ho hk =>
  have key : ∀ u : Value, u.cells = #[u] -> u.oneCell' = true -> Rep ok h (.wh e b xs) u -> u.cells.size = 1 ∧ ∀ j, j < 1 -> ∃ c, u.cells[j]? = some c ∧ Rep ok h (zW (.wh e b xs) j) c ∧ c.oneCell' = true := λu h1 h2 h3 =>
   ⟨by rw [h1]; rfl, λj hj => by
    obtain rfl : j = 0 := by omega
    exact ⟨u, by rw [h1]; rfl, h3, h2⟩⟩
  rcases ho.2 with ⟨ad, rfl, h0⟩ | ⟨c, cur, rfl, h0⟩
  ·exact key _ rfl rfl (.wh e b xs _ ho hk)
  ·exact key _ rfl rfl (.wh e b xs _ ho hk)
 | _ =>
  refine ⟨rfl, λj hj => ?_⟩;simp only [V.cells, List.length_cons, List.length_nil] at hj
  have : j = 0 := by omega
  subst this;refine ⟨_, rfl, ?_, rfl⟩;simp only [zW, V.cells, List.getD_cons_zero]
  first | exact .tr | exact .fa | exact .bool _ | exact .int _ _ | exact .nil _ | exact .ints _ _ _ _ ‹_› ‹_› ‹_› | exact .vals _ _ _ _ _ _ ‹_› ‹_› ‹_› ‹_› _ ‹_› ‹_› | exact .box _ _ _ ‹_› ‹_› _ _ _ ‹_› _ ‹_› ‹_› | exact .rf _ _ _ ‹_› ‹_› | exact .rf0 _ _ _ ‹_› | exact .func _ _ _ ‹_› ‹_›

theorem grownBy_alloc (w : World) (ob : Obj) : w.grownBy (w.alloc ob) none := World.grownBy_alloc w ob none

theorem xq.zero {t : Nat} {ti : TI} (h : xq P t ti) : ∃ i z, P.info? t = some i ∧ i.zero = some z ∧ i.size = ti.size ∧ i.bytes = ti.bytes ∧ (∀ ok h, Rep ok h ti.zero z) ∧ ti.zero.flat = true ∧ ti.zero.cells.length = ti.size := by
 obtain ⟨i, d, h1, h2, h3, h4, _, _, ⟨z, h5, h6⟩, h7, h8, _⟩ := h;exact ⟨i, z, h1, h5, h3, h4, h6, h7, h8⟩

theorem zbS {t : TypeId} {x : V} {v : Value} (hx : Nx D w0 N K next) (r : R D w0 N (get e) hs a w) (hd : d < N) (hr : Rep (okF D (zj (get e) (tv a)) w.heap.size) w.heap x v) (hf : x.flat = true)
  (h : va hs True λb hs' => K1 K hs' d e (.ownB b x)) : next (a.put (some d) (.pointer (some ⟨w.heap.size, 0, none⟩))) (w.alloc (.cells v.cells t)) := by
 have hk := h w.heap.size (w.heap.size + 1) (by have := r.hs2; omega) (λ_ => ⟨r.hs2, by omega⟩);refine kn (w' := w.alloc (.cells v.cells t)) hx r (grownBy_alloc w _) (by simp) (by have := r.hs1; have := r.hs2; omega) hd hk (λb hb => ?_) (λ_ => rfl) ?_
 ·simp only [rb] at hb; subst hb; simp
 ·obtain ⟨hsz, hc⟩ := zG hr hf;refine ⟨rfl, hf, v.cells, t, heap_alloc_new w _, λj hj => ?_⟩;obtain ⟨c, h1, h2, _⟩ := hc j hj;exact ⟨c, h1, h2.mono λg b hb => ⟨hb, Below.heap_alloc w _ _ hb.1⟩⟩

theorem zeM (hcx : OkCx P cx) {t : TypeId} (ho : o.dst = some d) (hop : o.op = .alloc t) (hd : d < N) (hx : Nx D w0 N K next) (r : R D w0 N (get e) hs a w)
  (h : ziA cx K d t e hs) : o.wp P a w next Q := by
 obtain ⟨ti, hti, h1⟩ := zf hcx.tt h;obtain ⟨i, z, h2, h3, _, _, h5, h6, _⟩ := xq.zero hti;refine zk (w' := w.alloc (.cells z.cells t)) (v := .pointer (some ⟨w.heap.size, 0, none⟩)) ho ?_ (zbS hx r hd (h5 _ _) h6 h1);simp [execOp, hop, Instr.alloc, zeroValue, typeInfo, h2, h3, newVar, newRow]

theorem zhG (hcx : OkCx P cx) {t : TypeId} {x : Operand} (ho : o.dst = some d) (hop : o.op = .box t x) (hd : d < N) (hx : Nx D w0 N K next) (r : R D w0 N (get e) hs a w)
  (h : boxK cx K d t x e hs) : o.wp P a w next Q := by
 obtain ⟨e', y, h1, r', hr, _⟩ := vI r h;obtain ⟨z, ⟨hf, h2⟩, hr2⟩ := vg hcx.tt hr h1;refine zk (w' := w.alloc (.cells (a.eval x).cells t)) (v := .pointer (some ⟨w.heap.size, 0, none⟩)) ho ?_ (zbS hx r' hd hr2 hf h2);simp [execOp, hop, Instr.box, newVar, newRow]

theorem xj {i j sz n : Nat} (hi : i < n) (hj : j < sz) : i * sz + j < n * sz := by
 have : (i + 1) * sz <= n * sz := Nat.mul_le_mul_right _ hi;rw [Nat.add_mul] at this; omega

theorem zcU (z : Array Value) (n k : Nat) (hk : k < n) : (madeCells z n)[k]? = some z[k % z.size]! := by
 simp [madeCells, hk]

theorem zbh (hcx : OkCx P cx) {t : TypeId} {l c : Operand} (ho : o.dst = some d) (hop : o.op = .makeSlice t l c) (hd : d < N) (hx : Nx D w0 N K next) (r : R D w0 N (get e) hs a w)
  (h : zbG cx K d t l c e hs) : o.wp P a w next Q := by
 obtain ⟨vl, h1, hr1⟩ := zA r h;obtain ⟨vc, h2, hr2⟩ := zA r h1;cases vl with
 | int kl n =>
  cases kl <;> first | exact h2.elim | skip
  cases vc with
  | int kc m =>
   cases kc <;> first | exact h2.elim | skip
   obtain ⟨rfl, h3⟩ := h2;have hvl := zJ hr1;have hvc := zJ hr2;obtain ⟨ti, hti, h4⟩ := zf hcx.tt h3;obtain ⟨i, dd, hi1, hi2, _, _, _, _, _, _, _, hkind⟩ := hti;cases hk : ti.kind with
   | slice el =>
    rw [hk] at h4 hkind;obtain ⟨rfl, _⟩ := hkind;obtain ⟨tj, htj, ⟨hn0, hn1⟩, h5⟩ := zf hcx.tt h4;have htj' := htj;obtain ⟨j, dj, hj1, hj2, hj3, hj4, hj5, hj6, ⟨z, hz1, hz2⟩, hz3, hz4, hkj⟩ := htj;obtain ⟨p, rfl⟩ : ∃ p : Nat, n = (p : Int) := ⟨n.toNat, by omega⟩
    have hb : (j.bytes : Int) * (p : Int) <= 281474976710656 := by
     have h1 : j.bytes * p <= 64 * 1000000000 := Nat.mul_le_mul (by omega) (by omega);have h2 : ((j.bytes * p : Nat) : Int) <= 281474976710656 := by omega
     rwa [Int.natCast_mul] at h2
    have hrun := run_make (P := P) w t el j z hi2 hj1 hz1 .i64 .i64 p p (by omega) (Int.le_refl _) hb (by omega);simp only [Int.toNat_natCast] at hrun h5
    have hzc := zG (hz2 (λ_ _ => False) #[]) hz3;refine zk (w' := w.alloc (.cells (madeCells z.cells (p * j.size)) el)) (v := .slice (some ⟨w.heap.size, 0, none⟩) p p) ho (by simp [execOp, hop, hvl, hvc, hrun]) ?_;have hst := h5 w.heap.size (w.heap.size + 1) (by have := r.hs2; omega) (λ_ => ⟨r.hs2, by omega⟩)
    have hown : ∀ cells, cells = (madeCells z.cells (p * j.size)).toList -> zK (w.alloc (.cells (madeCells z.cells (p * j.size)) el)).heap el j.size w.heap.size p (.slice (some ⟨w.heap.size, 0, none⟩) p p) cells := by
     rintro _ rfl;refine ⟨by simp [madeCells], ?_⟩;cases p with
     | zero => exact .inl ⟨_, rfl, rfl⟩
     | succ p =>
      refine .inr ⟨p, _, rfl, heap_alloc_new w _, Nat.le_refl _, by simp [maxLen]; omega, by simp [madeCells], ?_⟩;exact List.take_of_length_le (by simp [madeCells])
    have hcell : ∀ k, k < p * j.size -> ∃ c, (madeCells z.cells (p * j.size)).toList[k]? = some c ∧ ∃ jj, jj = k % j.size ∧ z.cells[jj]? = some c := by
     intro k hk;have hsz : z.cells.size = j.size := by rw [hzc.1, hz4, hj3]
     have hlt : k % j.size < z.cells.size := by rw [hsz]; exact Nat.mod_lt _ (by omega)
     refine ⟨z.cells[k % z.cells.size]!, by rw [Array.getElem?_toList, zcU _ _ _ hk], k % j.size, rfl, ?_⟩;rw [hsz, Array.getElem?_eq_getElem hlt, getElem!_pos z.cells _ hlt]
    have hgen : K1 K (w.heap.size + 1) d e (.ownV el tj.size w.heap.size p (λ_ => tj.zero)) -> next (a.put (some d) (.slice (some ⟨w.heap.size, 0, none⟩) p p)) (w.alloc (.cells (madeCells z.cells (p * j.size)) el)) := by
     intro hst;refine kn (w' := w.alloc _) hx r (grownBy_alloc w _) (by simp) (by have := r.hs1; have := r.hs2; omega) hd hst (λb hb => ?_) (λ_ => rfl) ?_
     ·cases p <;> simp only [rb] at hb
      subst hb; simp
     ·refine ⟨by omega, _, by rw [<- hj3]; exact hown _ rfl, λi _ => ⟨hz4, hz3⟩, λi jj hi hjj => ?_⟩;obtain ⟨c, hc1, k, hk1, hk2⟩ := hcell (i * j.size + jj) (xj hi (by omega));have hk3 : k = jj := by rw [hk1, Nat.mul_add_mod_self_right, Nat.mod_eq_of_lt (by omega)]
      subst hk3;refine ⟨c, by rw [<- hj3]; exact hc1, ?_⟩;obtain ⟨c', hc2, hc3, _⟩ := (zG (hz2 (okF D (zj (get e) (tv a)) w.heap.size) (w.alloc (.cells (madeCells z.cells (p * j.size)) el)).heap) hz3).2 k (by omega);rw [hk2] at hc2;cases hc2
      exact hc3
    cases hkk : tj.kind with
    | int kk =>
     rw [hkk] at hst hkj;cases kk <;> first | exact hgen hst | skip
     obtain ⟨_, hs1, _, hzz⟩ := hkj;have hz' : z = .int .i64 0 := by rw [hz1] at hzz; cases hzz; rfl
     subst hz';have hj1 : j.size = 1 := by omega
     refine kn (w' := w.alloc _) hx r (grownBy_alloc w _) (by simp) (by have := r.hs1; have := r.hs2; omega) hd hst (λb hb => ?_) (λ_ => rfl) ?_
     ·cases p <;> simp only [rb] at hb
      subst hb; simp
     ·show zK _ el 1 _ _ _ _
      rw [List.length_replicate];rw [<- hj1];refine hown _ ?_;apply List.ext_getElem?;intro k
      by_cases hk : k < p
      ·obtain ⟨c, hc1, k', hk1, hk2⟩ := hcell k (by rw [hj1]; omega);rw [hc1];have : k' = 0 := by rw [hk1, hj1]; omega
       subst this;simp only [Value.cells, List.getElem?_toArray, List.getElem?_cons_zero] at hk2
       rw [<- hk2];simp [hk]
      ·rw [List.getElem?_eq_none (by simp; omega), List.getElem?_eq_none (by simp [madeCells, hj1]; omega)]
    | _ => rw [hkk] at hst; exact hgen hst
   | _ => rw [hk] at h4; exact h4.elim
  | _ => exact h2.elim
 | _ => exact h2.elim

end
open Go Go.RowKit

section
variable {P : Program} {cx : Cx} {D : Nat -> Prop} {w0 : World} {N : Nat} {hs : Nat} {a : Act} {w w' : World} {K : S -> Prop} {next : Act -> World -> Prop} {Q : Exit -> Act -> World -> Prop} {o : Oper} {d : Nat} {e : Env}

theorem jz {gh : GM} : ∀ {ps : List (Nat × Operand)} {e : Env} {C : Env -> List (Nat × V) -> Prop}, R D w0 N (get e) hs a w -> zbE gh e ps C ->
  ∃ e' xs, C e' xs ∧ R D w0 N (get e') hs a w ∧ xs.map (·.1) = ps.map (·.1) ∧
   (∀ j, j < ps.length -> Rep (okF D (zj (get e') (tv a)) w.heap.size) w.heap ((xs.map (·.2)).getD j .nil) ((ps.map λp => a.eval p.2).getD j undef)) ∧
   ∀ b, zj (get e') (tv a) b -> zj (get e) (tv a) b
 | [], e, C, r, hc => ⟨e, [], hc, r, rfl, λj hj => by simp at hj, λ_ h => h⟩
 | (i, o) :: os, e, C, r, hc => by
  obtain ⟨e1, x, h1, r1, hr1, ho1⟩ := vI r hc;obtain ⟨e2, xs, h2, r2, hl, hr2, ho2⟩ := jz r1 h1;refine ⟨e2, (i, x) :: xs, h2, r2, by simp [hl], λj hj => ?_, λb hb => ho1 b (ho2 b hb)⟩;cases j with
  | zero => exact hr1.mono λg b hb => ⟨yo ho2 hb, rfl⟩
  | succ j => simpa using hr2 j (by simpa using hj)

theorem zbT {ok : OkB} {h : Array Obj} : ∀ {xs : List (Nat × V)} {k : Nat} {C : List Int -> Prop} {vs : List Value}, xp xs k C -> vs.length = xs.length ->
  (∀ j, j < xs.length -> Rep ok h ((xs.map (·.2)).getD j .nil) (vs.getD j undef)) -> ∃ l, C l ∧ vs = l.map (Value.int .i64) ∧ xs.map (·.1) = List.range' k l.length
 | [], k, C, vs, hc, hl, _ => ⟨[], hc, List.eq_nil_of_length_eq_zero hl, rfl⟩
 | (i, x) :: xs, k, C, [], hc, hl, hr => by simp at hl
 | (i, x) :: xs, k, C, v :: vs, hc, hl, hr => by
  cases x with
  | int kk n =>
   cases kk <;> first | exact hc.elim | skip
   simp only [xp] at hc
   by_cases hik : i = k
   ·subst hik;rw [zQ, cond_true] at hc;obtain ⟨l, h1, h2, h3⟩ := zbT (vs := vs) hc (by simpa using hl) (λj hj => by simpa using hr (j + 1) (by simpa using hj));have hv : v = .int .i64 n := zJ (by simpa using hr 0 (by simp));exact ⟨n :: l, h1, by rw [hv, h2]; rfl, by simp [h3, List.range'_succ]⟩
   ·rw [yk hik, cond_false] at hc; exact hc.elim
  | _ => exact hc.elim

theorem kq : ∀ {xs : List (Nat × V)} {k : Nat} {C : List V -> Prop}, y3 xs k C -> ∃ l, C l ∧ xs.map (·.2) = l ∧ xs.map (·.1) = List.range' k l.length
 | [], k, C, hc => ⟨[], hc, rfl, rfl⟩
 | (i, x) :: xs, k, C, hc => by
  simp only [y3] at hc
  by_cases hik : i = k
  ·subst hik;rw [zQ, cond_true] at hc;obtain ⟨l, h1, h2, h3⟩ := kq hc;exact ⟨x :: l, h1, by simp [h2], by simp [h3, List.range'_succ]⟩
  ·rw [yk hik, cond_false] at hc; exact hc.elim

def spl (cs : Array Value) (off : Nat) (vs : Array Value) : Array Value := vs.zipIdx.foldl (λcs (c, j) => cs.setIfInBounds (off + j) c) cs

theorem zau (off : Nat) : ∀ (vs : List Value) (m : Nat) (cs : Array Value),
   ((vs.zipIdx m).foldl (λcs (p : Value × Nat) => cs.setIfInBounds (off + p.2) p.1) cs).size = cs.size ∧
   ∀ k, ((vs.zipIdx m).foldl (λcs (p : Value × Nat) => cs.setIfInBounds (off + p.2) p.1) cs)[k]? = if off + m <= k ∧ k < off + m + vs.length ∧ k < cs.size then vs[k - (off + m)]? else cs[k]?
 | [], m, cs => ⟨rfl, λk => by
     rw [if_neg (by simp; omega)]; rfl⟩
 | v :: vs, m, cs => by
   obtain ⟨h1, h2⟩ := zau off vs (m + 1) (cs.setIfInBounds (off + m) v);have hsz : (cs.setIfInBounds (off + m) v).size = cs.size := Array.size_setIfInBounds;rw [hsz] at h1;simp only [hsz] at h2
   simp only [List.zipIdx_cons, List.foldl_cons]
   refine ⟨h1, λk => ?_⟩;rw [h2];simp only [Array.getElem?_setIfInBounds, List.length_cons]
   by_cases hk : k < cs.size
   · by_cases h3 : off + m = k
     · subst h3
       rw [if_neg (by omega), if_pos rfl, if_pos hk, if_pos ⟨by omega, by omega, by omega⟩]; simp
     · by_cases h4 : off + (m + 1) <= k ∧ k < off + (m + 1) + vs.length
       · rw [if_pos ⟨h4.1, h4.2, hk⟩, if_pos (by omega)]
         obtain ⟨q, hq⟩ : ∃ q, k - (off + m) = q + 1 := ⟨k - (off + m) - 1, by omega⟩
         rw [hq, List.getElem?_cons_succ, show k - (off + (m + 1)) = q by omega]
       · rw [if_neg (by omega), if_neg h3, if_neg (by omega)]
   · have hn : ∀ p q : Prop, ¬ (p ∧ q ∧ k < cs.size) := λp q h => hk h.2.2
     rw [if_neg (hn _ _), if_neg (hn _ _), Array.getElem?_eq_none (by omega)]
     split
     · split <;> first | rfl | (exfalso; omega)
     · rfl

theorem zbU (cs : Array Value) (off : Nat) (vs : Array Value) : (spl cs off vs).size = cs.size := by
 have := (zau off vs.toList 0 cs).1;unfold spl;rw [<- Array.foldl_toList, Array.toList_zipIdx];exact this
theorem zdO (cs : Array Value) (off : Nat) (vs : Array Value) (k : Nat) : (spl cs off vs)[k]? = if off <= k ∧ k < off + vs.size ∧ k < cs.size then vs[k - off]? else cs[k]? := by
 have := (zau off vs.toList 0 cs).2 k;unfold spl;rw [<- Array.foldl_toList, Array.toList_zipIdx]
 simpa using this

theorem zdh {place : Nat -> Option (Nat × Nat)} {cells : Array Value} {i off : Nat} {v : Value} {rest : List (Nat × Value)} (hp : place i = some (off, v.cells.size)) (hle : off + v.cells.size <= cells.size) :
  Instr.fill place cells ((i, v) :: rest) = Instr.fill place (spl cells off v.cells) rest := by
 have : ¬ (cells.size < off + v.cells.size) := by omega
 simp [Instr.fill, hp, this, spl]

theorem zdi (sz : Nat) : ∀ (vs : List Value) (k : Nat) (cells : Array Value), (∀ v ∈ vs, v.cells.size = sz) -> (k + vs.length) * sz <= cells.size ->
  ∃ out, Instr.fill (λi => some (i * sz, sz)) cells ((List.range' k vs.length).zip vs) = some out ∧ out.size = cells.size ∧
   (∀ j, j < k * sz -> out[j]? = cells[j]?) ∧ ∀ i j, i < vs.length -> j < sz -> out[(k + i) * sz + j]? = (vs.getD i undef).cells[j]?
 | [], k, cells, _, _ => ⟨cells, rfl, rfl, λ_ _ => rfl, λi j hi => by simp at hi⟩
 | v :: vs, k, cells, hv, hle => by
  have hvs : v.cells.size = sz := hv v (by simp)
  have hk1 : k * sz + sz <= cells.size := by
   have : (k + 1) * sz <= (k + (vs.length + 1)) * sz := Nat.mul_le_mul_right _ (by omega);rw [Nat.add_mul] at this;simp only [List.length_cons] at hle
   omega
  obtain ⟨out, h1, h2, h3, h4⟩ := zdi sz vs (k + 1) (spl cells (k * sz) v.cells) (λu hu => hv u (by simp [hu])) (by rw [zbU, show k + 1 + vs.length = k + (vs.length + 1) by omega]; simpa using hle);have hkk : (k + 1) * sz = k * sz + sz := by rw [Nat.add_mul]; omega
  refine ⟨out, ?_, by rw [h2, zbU], λj hj => ?_, λi j hi hj => ?_⟩
  ·rw [List.length_cons, List.range'_succ, List.zip_cons_cons, zdh (off := k * sz) (by simp [hvs]) (by omega)];exact h1
  ·rw [h3 j (by omega), zdO, if_neg (by omega)]
  ·cases i with
   | zero =>
    rw [Nat.add_zero, h3 (k * sz + j) (by omega), zdO, if_pos (by omega)];simp
   | succ i =>
    have := h4 i j (by simpa using hi) hj;rw [show k + (i + 1) = k + 1 + i by omega, this];simp

theorem zkU {ps : List (Nat × Operand)} {ev : Operand -> Value} {n : Nat} (h : ps.map (·.1) = List.range' 0 n) : (ps.map λp => (p.1, ev p.2)) = (List.range' 0 n).zip (ps.map λp => ev p.2) := by
 rw [<- h, List.zip_map', ]

theorem zf7 : ∀ (l : List V) (i : Nat), nth l i = l.getD i .nil
 | [], i => by simp [nth]
 | x :: l, 0 => by simp [nth]
 | x :: l, i + 1 => by simpa [nth] using zf7 l i

theorem zbV {t el : TypeId} {j : TypeInfo} {z : Value} {n sz : Nat} {parts : Array (Nat × Value)} {out : Array Value} (h2 : P.underlying t = some (.slice el)) (hj : P.info? el = some j) (hz : j.zero = some z) (hsz : j.size = sz) (hbig : n * sz <= 10000) (h0 : 0 < sz)
  (hf : Instr.fill (λi => some (i * sz, sz)) ((Array.range (n * sz)).map (z.cells[· % z.cells.size]!)) parts.toList = some out) :
  (Instr.buildSlice t n parts).run P w = .ok (.slice (some ⟨w.heap.size, 0, none⟩) n n) (w.alloc (.cells out el)) := by
 subst hsz;have hb : ¬ (16777216 < n * j.size) := by omega
 by_cases hn : n = 0
 ·subst hn;simp only [Nat.zero_mul] at hf
  have he : ∀ f : Nat -> Value, (Array.range 0).map f = #[] := by simp [Array.range]
  rw [he] at hf;simp only [Instr.buildSlice, Sem.run_bind, run_underlying h2, Result.andThen_ok, sizeOf, typeInfo, run_program, hj, Sem.run_pure, Nat.zero_mul, if_true, he]
  simp [hf, newRow]
 ·have hnz : ¬ (n * j.size = 0) := λh0 => by rcases Nat.mul_eq_zero.1 h0 with h | h <;> omega
  simp only [Instr.buildSlice, Sem.run_bind, run_underlying h2, Result.andThen_ok, sizeOf, typeInfo, run_program, hj, Sem.run_pure, hb, hnz, zeroValue, hz, if_false, hf]
  simp [newRow]

theorem zav (hcx : OkCx P cx) {t n : Nat} {ps : List (Nat × Operand)} (ho : o.dst = some d) (hop : o.op = .buildSlice t n ⟨ps⟩) (hd : d < N) (hx : Nx D w0 N K next) (r : R D w0 N (get e) hs a w)
  (h : js cx K d t n ps e hs) : o.wp P a w next Q := by
 obtain ⟨ti, hti, h4⟩ := zf hcx.tt h;obtain ⟨i, dd, hi1, hi2, _, _, _, _, _, _, _, hkind⟩ := hti;cases hk : ti.kind with
 | slice el =>
  rw [hk] at h4 hkind;obtain ⟨rfl, _⟩ := hkind;obtain ⟨tj, htj, h5⟩ := zf hcx.tt h4;obtain ⟨j, dj, hj1, hj2, hj3, hj4, hj5, hj6, ⟨z, hz1, hz2⟩, hz3, hz4, hkj⟩ := htj;obtain ⟨e', xs, h6, r', hl, hr, _⟩ := jz r h5;have hlen : xs.length = ps.length := by have := congrArg List.length hl; simpa using this
  have hzc := zG (hz2 (λ_ _ => False) #[]) hz3
  -- the model's own way
  have key : ∀ (ws : List V), xs.map (·.2) = ws -> ws.length = n -> n * tj.size <= 10000 -> xs.map (·.1) = List.range' 0 n -> (∀ x ∈ ws, x.cells.length = tj.size ∧ x.flat = true) ->
    ∃ out : Array Value, (execOp a.eval o).run P w = .ok (.value (.slice (some ⟨w.heap.size, 0, none⟩) n n)) (w.alloc (.cells out el)) ∧ out.size = n * tj.size ∧
     ∀ i jj, i < n -> jj < tj.size -> ∃ c, out[i * tj.size + jj]? = some c ∧ Rep (okF D (zj (get e') (tv a)) w.heap.size) w.heap (zW (ws.getD i .nil) jj) c := by
   intro ws hws hwl hbig hidx hcells;have hpl : ps.length = n := by have := congrArg List.length hidx; simp at this; omega
   have hval : ∀ k, k < n -> (((ps.map λp => a.eval p.2).getD k undef).cells.size = tj.size) ∧ ∀ jj, jj < tj.size -> ∃ c, ((ps.map λp => a.eval p.2).getD k undef).cells[jj]? = some c ∧ Rep (okF D (zj (get e') (tv a)) w.heap.size) w.heap (zW (ws.getD k .nil) jj) c := by
    intro k hk;have h7 := hr k (by omega);rw [hws] at h7
    have hmem : ws.getD k .nil ∈ ws := by
     rw [List.getD_eq_getElem?_getD, List.getElem?_eq_getElem (by omega)]; exact List.getElem_mem _
    obtain ⟨hc1, hc2⟩ := hcells _ hmem;obtain ⟨hs1, hs2⟩ := zG h7 hc2;rw [hc1] at hs1 hs2;exact ⟨hs1, λjj hjj => by obtain ⟨c, h8, h9, _⟩ := hs2 jj hjj; exact ⟨c, h8, h9⟩⟩
   have hall : ∀ v ∈ (ps.map λp => a.eval p.2), v.cells.size = tj.size := by
    intro v hv;obtain ⟨k, hk, rfl⟩ := List.getElem_of_mem hv;have := (hval k (by simpa [hpl] using hk)).1
    rwa [List.getD_eq_getElem?_getD, List.getElem?_eq_getElem hk] at this
   obtain ⟨out, ho1, ho2, _, ho4⟩ := zdi tj.size (ps.map λp => a.eval p.2) 0 ((Array.range (n * tj.size)).map (z.cells[· % z.cells.size]!)) hall (by simp [hpl]);refine ⟨out, ?_, by rw [ho2]; simp, λi jj hi hjj => ?_⟩
   ·rw [hl] at hidx;have hz0 := zkU (ev := a.eval) hidx;rw [List.length_map, hpl, <- hz0] at ho1;have hrun := zbV (P := P) (w := w) (parts := (ps.map λp => (p.1, a.eval p.2)).toArray) hi2 hj1 hz1 hj3 hbig hj6 ho1;simp [execOp, hop, hrun]
   ·obtain ⟨c, h8, h9⟩ := (hval i hi).2 jj hjj;have := ho4 i jj (by simpa [hpl] using hi) hjj;rw [Nat.zero_add] at this;exact ⟨c, by rw [this]; exact h8, h9⟩
  have hownS : ∀ (out : Array Value) sz cells, cells = out.toList -> out.size = n * sz -> n <= 10000 -> zK (w.alloc (.cells out el)).heap el sz w.heap.size n (.slice (some ⟨w.heap.size, 0, none⟩) n n) cells := by
   rintro out sz _ rfl hsz hn;refine ⟨by simpa using hsz, ?_⟩;cases n with
   | zero => exact .inl ⟨_, rfl, rfl⟩
   | succ p =>
    refine .inr ⟨p, _, rfl, heap_alloc_new w _, Nat.le_refl _, by simp [maxLen]; omega, hsz, ?_⟩;exact List.take_of_length_le (by simp [hsz])
  have hn1 : n * tj.size <= 10000 -> n <= 10000 := λhb => by
   have : n * 1 <= n * tj.size := Nat.mul_le_mul_left _ (by omega);omega
  have hrb : ∀ (x : AV), (∃ xs, x = .ownI el w.heap.size xs) ∨ (∃ sz f, x = .ownV el sz w.heap.size n f) -> ∀ b, rb x (.slice (some ⟨w.heap.size, 0, none⟩) n n) b -> b = w.heap.size := by
   rintro x (⟨xs, rfl⟩ | ⟨sz, f, rfl⟩) b hb <;> cases n <;> simp_all [rb]
  have hgen : ∀ l, xs.map (·.2) = l -> xs.map (·.1) = List.range' 0 l.length -> (l.length = n ∧ n * tj.size <= 10000 ∧ ∀ x ∈ l, x.cells.length = tj.size ∧ x.flat = true) ∧
    va hs (0 < n ∨ n = 0) (λb hs' => K1 K hs' d e' (.ownV el tj.size b n (nth l))) -> o.wp P a w next Q := by
   rintro l hws hidx ⟨⟨hwl, hb, hc⟩, hst⟩;obtain ⟨out, ho1, ho2, ho3⟩ := key l hws hwl hb (by rw [<- hwl]; exact hidx) hc;have hst := hst w.heap.size (w.heap.size + 1) (by have := r.hs2; omega) (λ_ => ⟨r.hs2, by omega⟩);refine zk ho ho1 (kn hx r' (grownBy_alloc w _) (by simp) (by have := r.hs1; have := r.hs2; omega) hd hst (λb hb => ?_) (λ_ => rfl) ?_)
   ·have := hrb _ (.inr ⟨_, _, rfl⟩) b hb; subst this; simp
   ·refine ⟨by omega, _, hownS out tj.size _ rfl ho2 (hn1 hb), λi hi => ?_, λi jj hi hjj => ?_⟩
    ·rw [zf7]
     have hmem : l.getD i .nil ∈ l := by
      rw [List.getD_eq_getElem?_getD, List.getElem?_eq_getElem (by omega)]; exact List.getElem_mem _
     exact hc _ hmem
    ·obtain ⟨c, h8, h9⟩ := ho3 i jj hi hjj;rw [zf7];exact ⟨c, by rw [Array.getElem?_toList]; exact h8, h9.mono λg b hb => ⟨hb, Below.heap_alloc w _ _ hb.1⟩⟩
  cases hkk : tj.kind with
  | int kk =>
   rw [hkk] at h6 hkj
   have hv : y3 xs 0 (λl => (l.length = n ∧ n * tj.size <= 10000 ∧ (∀ x ∈ l, x.cells.length = tj.size ∧ x.flat = true)) ∧ va hs (0 < n ∨ n = 0) λb hs' => K1 K hs' d e' (.ownV el tj.size b n (nth l))) -> o.wp P a w next Q := λh6 => by
    obtain ⟨l, h7, h8, h9⟩ := kq h6;exact hgen l h8 h9 h7
   cases kk <;> first | exact hv h6 | skip
   obtain ⟨_, hs1, _, hzz⟩ := hkj;obtain ⟨l, ⟨⟨hln, hb⟩, hst⟩, h8, h9⟩ := zbT (vs := ps.map λp => a.eval p.2) h6 (by simpa using hlen.symm) (λj hj => hr j (by omega));have hxl : xs.length = n := by have := congrArg List.length h9; simp at this; omega
   have hlv : ∀ k, k < n -> Rep (okF D (zj (get e') (tv a)) w.heap.size) w.heap ((xs.map (·.2)).getD k .nil) (.int .i64 (l.getD k 0)) := by
    intro k hk;have := hr k (by omega);rw [h8] at this
    have h3 : (l.map (Value.int .i64)).getD k undef = .int .i64 (l.getD k 0) := by
     rw [List.getD_eq_getElem?_getD, List.getD_eq_getElem?_getD, List.getElem?_map, List.getElem?_eq_getElem (by omega : k < l.length)]; rfl
    rwa [h3] at this
   have hint : ∀ k, k < n -> (xs.map (·.2)).getD k .nil = .int .i64 (l.getD k 0) := by
    intro k hk;have h3 := hlv k hk
    have : ∀ y, Rep (okF D (zj (get e') (tv a)) w.heap.size) w.heap y (.int .i64 (l.getD k 0)) -> y = .int .i64 (l.getD k 0) := by
     intro y hy;cases hy with
     | wh e b xs _ ho hk => rcases ho.2 with ⟨_, h, _⟩ | ⟨_, _, h, _⟩ <;> cases h
     | _ => rfl
    exact this _ h3
   obtain ⟨out, ho1, ho2, ho3⟩ := key (xs.map (·.2)) rfl (by simpa using hxl) hb (by rw [<- hln]; exact h9) (λx hx => by
    obtain ⟨k, hk, rfl⟩ := List.getElem_of_mem hx;have hk' : k < n := by simpa [hxl] using hk
    have := hint k hk';rw [List.getD_eq_getElem?_getD, List.getElem?_eq_getElem hk] at this;rw [show (xs.map (·.2))[k] = _ from this];exact ⟨by rw [hs1]; rfl, rfl⟩)
   have hst := hst w.heap.size (w.heap.size + 1) (by have := r.hs2; omega) (λ_ => ⟨r.hs2, by omega⟩);refine zk ho ho1 (kn hx r' (grownBy_alloc w _) (by simp) (by have := r.hs1; have := r.hs2; omega) hd hst (λb hb => ?_) (λ_ => rfl) ?_)
   ·have := hrb _ (.inl ⟨_, rfl⟩) b hb; subst this; simp
   ·show zK _ el 1 _ _ _ _
    rw [hln, <- hs1];refine hownS out tj.size _ ?_ ho2 (hn1 hb);apply List.ext_getElem?;intro k
    by_cases hk : k < n
    ·obtain ⟨c, h10, h11⟩ := ho3 k 0 hk (by omega);rw [hint k hk] at h11;have hc := zJ h11;subst hc;rw [show out.toList[k]? = out[k * tj.size + 0]? by rw [Array.getElem?_toList, hs1]; simp, h10];rw [List.getElem?_map, List.getElem?_eq_getElem (by omega : k < l.length), List.getD_eq_getElem?_getD, List.getElem?_eq_getElem (by omega : k < l.length)]
     rfl
    ·rw [List.getElem?_eq_none (by simp; omega), List.getElem?_eq_none (by simp [ho2, hs1]; omega)]
  | _ =>
   rw [hkk] at h6;obtain ⟨l, h7, h8, h9⟩ := kq h6;exact hgen l h8 h9 h7
 | _ => rw [hk] at h4; exact h4.elim

end
open Go Go.RowKit

section
variable {P : Program} {cx : Cx} {D : Nat -> Prop} {w0 : World} {N : Nat} {hs : Nat} {a : Act} {w w' : World} {K : S -> Prop} {next : Act -> World -> Prop} {Q : Exit -> Act -> World -> Prop} {o : Oper} {d : Nat} {e : Env}

theorem zeN {α β : Type} {f : α -> Option β} : ∀ {l : List α} {r : List β} {i : Nat} {x : α}, l.mapM f = some r -> l[i]? = some x -> ∃ y, f x = some y ∧ r[i]? = some y
 | [], r, i, x, h, hx => by simp at hx
 | z :: l, r, i, x, h, hx => by
  simp only [List.mapM_cons, Option.bind_eq_bind, Option.pure_def] at h
  cases hz : f z with
  | none => simp [hz] at h
  | some y =>
   cases hl : l.mapM f with
   | none => simp [hz, hl] at h
   | some ys =>
    simp [hz, hl] at h
    subst h;cases i with
    | zero => simp at hx; subst hx; exact ⟨y, hz, rfl⟩
    | succ i => obtain ⟨y', h1, h2⟩ := zeN hl (by simpa using hx); exact ⟨y', h1, by simpa using h2⟩

def zaW (ok : OkB) (h : Array Obj) (cs : List V) (vs : Array Value) : Prop :=
 vs.size = cs.length ∧ cs.all V.isCell = true ∧ ∀ j, j < cs.length -> ∃ c, vs[j]? = some c ∧ Rep ok h (cs.getD j .nil) c

theorem zaW.toRep {ok : OkB} {h : Array Obj} {cs : List V} {vs : Array Value} (r : zaW ok h cs vs) : Rep ok h (.agg cs) (.agg vs) := by
 refine .agg cs vs r.1 r.2.1 λj hj => ?_;obtain ⟨c, h1, h2⟩ := r.2.2 j hj;rw [Array.getD_eq_getD_getElem?, h1]; exact h2

theorem zaw {x : V} (hf : x.flat = true) : x.cells.all V.isCell = true := by
 cases x <;> simp_all [V.flat, V.cells, V.isCell]

theorem zaW.set {ok : OkB} {h : Array Obj} {cs : List V} {vs : Array Value} (r : zaW ok h cs vs) {off : Nat} {x : V} {v : Value} (hr : Rep ok h x v) (hf : x.flat = true) (hle : off + x.cells.length <= cs.length) :
  zaW ok h (cs.take off ++ x.cells ++ cs.drop (off + x.cells.length)) (spl vs off v.cells) := by
 obtain ⟨hsz, hc⟩ := zG hr hf;have hlen : (cs.take off ++ x.cells ++ cs.drop (off + x.cells.length)).length = cs.length := by simp; omega
 refine ⟨by rw [zbU, hlen, r.1], ?_, λj hj => ?_⟩
 ·simp only [List.all_append, Bool.and_eq_true]
  refine ⟨⟨?_, zaw hf⟩, ?_⟩
  ·exact List.all_eq_true.2 λy hy => List.all_eq_true.1 r.2.1 y (List.mem_of_mem_take hy)
  ·exact List.all_eq_true.2 λy hy => List.all_eq_true.1 r.2.1 y (List.mem_of_mem_drop hy)
 ·rw [hlen] at hj;rw [zdO, hsz, r.1]
  by_cases h1 : off <= j ∧ j < off + x.cells.length
  ·rw [if_pos ⟨h1.1, h1.2, hj⟩];obtain ⟨c, h2, h3, _⟩ := hc (j - off) (by omega);refine ⟨c, h2, ?_⟩;rw [List.getD_eq_getElem?_getD, List.append_assoc, List.getElem?_append_right (by simp; omega), List.getElem?_append_left (by simp; omega)];rw [zW, List.getD_eq_getElem?_getD] at h3
   rwa [show (j - (cs.take off).length) = j - off by simp; omega]
  ·rw [if_neg (by omega)];obtain ⟨c, h2, h3⟩ := r.2.2 j hj;refine ⟨c, h2, ?_⟩;rw [List.getD_eq_getElem?_getD] at h3 ⊢
   by_cases h4 : j < off
   ·rwa [List.append_assoc, List.getElem?_append_left (by simp; omega), List.getElem?_take_of_lt h4]
   ·rw [List.getElem?_append_right (by simp; omega), List.getElem?_drop]
    rwa [show off + x.cells.length + (j - (cs.take off ++ x.cells).length) = j by simp; omega]

theorem zbW {tt : TT} (ht : zdM P tt) {ok : OkB} {h : Array Obj} {fields : Array Field} {places : List (Nat × Nat)} (hp : fields.toList.mapM (λf => (P.info? f.type).map λi => (f.offset, i.size)) = some places) :
  ∀ {xs : List (Nat × V)} {cs : List V} {vs : Array Value} {ps : List (Nat × Value)} {C : V -> Prop}, zaW ok h cs vs -> xs.map (·.1) = ps.map (·.1) ->
   (∀ j, j < xs.length -> Rep ok h ((xs.map (·.2)).getD j .nil) ((ps.map (·.2)).getD j undef)) -> zgQ tt (fields.toList.map λf => (f.offset, f.type)) (.agg cs) xs C ->
   ∃ cs' vs', C (.agg cs') ∧ zaW ok h cs' vs' ∧ Instr.fill (places.toArray[·]?) vs ps = some vs'
 | [], cs, vs, [], C, r, _, _, hc => ⟨cs, vs, hc, r, rfl⟩
 | [], cs, vs, p :: ps, C, r, he, _, hc => by simp at he
 | x :: xs, cs, vs, [], C, r, he, _, hc => by simp at he
 | (i, x) :: xs, cs, vs, (i', v) :: ps, C, r, he, hr, hc => by
  simp only [List.map_cons, List.cons.injEq] at he
  obtain ⟨rfl, he⟩ := he;simp only [zgQ] at hc
  cases hdr : (fields.toList.map λf => (f.offset, f.type)).drop i with
  | nil => rw [hdr] at hc; exact hc.elim
  | cons q l =>
   obtain ⟨off, ft⟩ := q;rw [hdr] at hc;obtain ⟨tj, htj, h1⟩ := zf ht hc;obtain ⟨j, dj, hj1, hj2, hj3, hj4⟩ := xq.und htj;obtain ⟨_, _, hg⟩ := z5 (z := (0, 0)) hdr;rw [List.getElem?_map] at hg;cases hq : fields.toList[i]? with
   | none => rw [hq] at hg; cases hg
   | some f =>
    rw [hq] at hg;simp only [Option.map_some, Option.some.injEq, Prod.mk.injEq] at hg
    obtain ⟨hg1, hg2⟩ := hg;obtain ⟨y, hy1, hy2⟩ := zeN hp hq;rw [hg2, hj1] at hy1;simp only [Option.map_some, Option.some.injEq] at hy1
    by_cases hcond : (Nat.beq x.cells.length tj.size && x.flat && Nat.ble (off + x.cells.length) (V.agg cs).cells.length) = true
    ·rw [hcond, cond_true] at h1;simp only [Bool.and_eq_true] at hcond
     obtain ⟨⟨hc1, hc2⟩, hc3⟩ := hcond;have hc1 := Nat.eq_of_beq_eq_true hc1;have hc3 : off + x.cells.length <= cs.length := Nat.le_of_ble_eq_true hc3;have hrx : Rep ok h x v := by simpa using hr 0 (by simp)
     have hvs := (zG hrx hc2).1;obtain ⟨cs', vs', h2, h3, h4⟩ := zbW ht hp (r.set hrx hc2 hc3) he (λj hj => by simpa using hr (j + 1) (by simpa using hj)) h1;refine ⟨cs', vs', h2, h3, ?_⟩;rw [zdh (off := off) ?_ ?_]
     ·exact h4
     ·rw [List.getElem?_toArray, hy2, <- hy1, hg1, hj3, hvs, hc1]
     ·rw [hvs, r.1]; exact hc3
    ·have : (Nat.beq x.cells.length tj.size && x.flat && Nat.ble (off + x.cells.length) (V.agg cs).cells.length) = false := Bool.eq_false_iff.2 hcond;rw [this] at h1; exact h1.elim

theorem zeO (hcx : OkCx P cx) {t : Nat} {ps : List (Nat × Operand)} (ho : o.dst = some d) (hop : o.op = .build t ⟨ps⟩) (hd : d < N) (hx : Nx D w0 N K next) (r : R D w0 N (get e) hs a w)
  (h : ziB cx K d t ps e hs) : o.wp P a w next Q := by
 obtain ⟨ti, hti, h4⟩ := zf hcx.tt h;obtain ⟨i, dd, hi1, hi2, hi3, _, _, _, ⟨z, hz1, hz2⟩, hz3, hz4, hkind⟩ := hti;cases hk : ti.kind with
 | struct fs =>
  rw [hk] at h4 hkind;obtain ⟨fields, rfl, rfl, ⟨places, hp⟩, ⟨cs, hcs⟩⟩ := hkind;obtain ⟨e', xs, h6, r', hl, hr, _⟩ := jz r h4;have hlen : xs.length = ps.length := by have := congrArg List.length hl; simpa using this
  rw [hcs] at h6 hz2 hz3
  have hzc : zaW (okF D (zj (get e') (tv a)) w.heap.size) w.heap cs z.cells := by
   obtain ⟨vs, hv, h1, h2, h3⟩ := zg0 (hz2 (okF D (zj (get e') (tv a)) w.heap.size) w.heap);subst hv;refine ⟨h1, h2, λj hj => ⟨vs.getD j undef, ?_, h3 j hj⟩⟩;rw [Array.getD_eq_getD_getElem?];simp only [Value.cells]
   rw [Array.getElem?_eq_getElem (by omega)]; rfl
  obtain ⟨cs', vs', h7, h8, h9⟩ := zbW hcx.tt hp (ps := ps.map λp => (p.1, a.eval p.2)) hzc (by rw [hl]; simp) (λj hj => by
   have := hr j (by omega);rw [List.map_map];exact this) h6
  refine zk (w' := w) (v := .agg vs') ho ?_ (zh hx r' hd h7 rfl h8.toRep)
  have hb : P.built t (ps.map λp => (p.1, a.eval p.2)) = some vs' := by
   simp only [Program.built, hi1, hi2, hz1, hp]; exact h9
  have hrun := run_build (P := P) w t (ps.map λp => (p.1, a.eval p.2)).toArray vs' (by simpa using hb);simp [execOp, hop, hrun]
 | _ => rw [hk] at h4; exact h4.elim

theorem R.ownB (r : R D w0 N (get e) hs a w) {k b : Nat} {x : V} (h : get e k = .ownB b x) : tv a k = .pointer (some ⟨b, 0, none⟩) := by
 have := r.slots k; rw [h] at this; exact this.1

theorem ziJ {ok : OkB} {h : Array Obj} {g : Option Nat} {y : V} {v : Value} {σ : Nat -> AV} {τ : Nat -> Value} (r : Rep ok h (.box g y) v) : ∃ b, v = .pointer (some ⟨b, 0, none⟩) ∧ y.flat = true ∧
  ∀ off, AVR ok h σ τ (.pv y off) (.pointer (some ⟨b, off, none⟩)) := by
 cases r with
 | box g y b hb hf cur el fr hh c hx hr =>
  refine ⟨b, rfl, hf, λoff => ⟨hf, 0, ⟨b, by rw [Nat.zero_add]⟩, λj hj => ⟨b, g, cur, el, fr, c j, by rw [Nat.zero_add], hb, hh, by rw [Nat.zero_add]; exact hx j hj, hr j hj⟩⟩⟩

theorem yp (b off n : Nat) : ({ block := b, off := off, spot := none } : Addr).add n = ⟨b, off + n, none⟩ := by
 unfold Addr.add; split <;> simp_all

theorem zcV {t ft k off : Nat} {fs l : List (Nat × Nat)} {ti tj : TI} {b o' : Nat} (hti : xq P t ti) (hk : ti.kind = .struct fs) (hdr : fs.drop k = (off, ft) :: l) (htj : xq P ft tj) :
  (Instr.fieldAt t (.pointer (some ⟨b, o', none⟩)) k).run P w = .ok (.pointer (some ⟨b, o' + off, none⟩)) w := by
 obtain ⟨i, dd, hi1, hi2, hi3, _, _, _, _, _, _, hkind⟩ := hti;rw [hk] at hkind;obtain ⟨fields, rfl, rfl, _, _⟩ := hkind;obtain ⟨j, dj, hj1, hj2, hj3, _, _, hj6, _⟩ := htj;obtain ⟨_, _, hg⟩ := z5 (z := (0, 0)) hdr;rw [List.getElem?_map] at hg;cases hq : fields.toList[k]? with
 | none => rw [hq] at hg; cases hg
 | some f =>
  rw [hq] at hg;simp only [Option.map_some, Option.some.injEq, Prod.mk.injEq] at hg
  obtain ⟨hg1, hg2⟩ := hg;have hf : fields[k]? = some f := by rw [<- Array.getElem?_toList]; exact hq
  have hsz : ¬ (j.size = 0) := by omega
  have hso : (sizeOf f.type).run P w = .ok j.size w := by simp [sizeOf, typeInfo, hg2, hj1]
  simp only [Instr.fieldAt, Sem.run_bind, run_underlying hi2, Result.andThen_ok, hf, Instr.sureAddr, Sem.run_pure, fieldPlace, hso, hsz, if_false, yp, hg1]

theorem zbi (hcx : OkCx P cx) {t aa k : Nat} (ho : o.dst = some d) (hop : o.op = .fieldAddr t (.tmp aa) k) (hd : d < N) (hx : Nx D w0 N K next) (r : R D w0 N (get e) hs a w)
  (h : kf cx K d t aa k e hs) : o.wp P a w next Q := by
 obtain ⟨ti, hti, h4⟩ := zf hcx.tt h;cases hk : ti.kind with
 | struct fs =>
  rw [hk] at h4;simp only at h4
  cases hdr : fs.drop k with
  | nil => rw [hdr] at h4; exact h4.elim
  | cons q l =>
   obtain ⟨off, ft⟩ := q;rw [hdr] at h4;obtain ⟨tj, htj, h5⟩ := zf hcx.tt h4;simp only [zb] at h5
   have hrun : ∀ b o', (Instr.fieldAt t (.pointer (some ⟨b, o', none⟩)) k).run P w = .ok (.pointer (some ⟨b, o' + off, none⟩)) w := λb o' => zcV hti hk hdr htj
   have hgo : ∀ b o', tv a aa = .pointer (some ⟨b, o', none⟩) -> (execOp a.eval o).run P w = .ok (.value (.pointer (some ⟨b, o' + off, none⟩))) w := by
    intro b o' hv;simp [execOp, hop, yI, hv, hrun]
   have hsl := r.slots aa;cases hav : get e aa with
   | pl s ix oo =>
    rw [hav] at h5 hsl;obtain ⟨⟨b, o', hb⟩, h6⟩ := hsl;refine zk ho (hgo b o' hb) (zh hx r hd h5 rfl ⟨⟨b, _, rfl⟩, λq hq => ⟨(h6 q hq).1, λb' hb' => ?_⟩⟩);have h7 : a.tmps.getD aa undef = _ := (h6 q hq).2 b' hb';rw [hb] at h7;simp only [Value.pointer.injEq, Option.some.injEq, Addr.mk.injEq, and_true] at h7 ⊢
    exact ⟨h7.1, by omega⟩
   | pv y oo =>
    rw [hav] at h5 hsl;obtain ⟨hf, o1, ⟨b, hb⟩, h6⟩ := hsl;refine zk ho (hgo b (o1 + oo) hb) (zh hx r hd h5 rfl ⟨hf, o1, ⟨b, by rw [Nat.add_assoc]⟩, λj hj => ?_⟩);obtain ⟨b', g, cur, el, fr, c, h7, h8⟩ := h6 j hj
    have hbb : b' = b := by
     have : tv a aa = _ := hb;rw [show a.tmps.getD aa undef = tv a aa from rfl, this] at h7
     simpa using h7.symm
    subst hbb;exact ⟨b', g, cur, el, fr, c, by rw [Nat.add_assoc], h8⟩
   | ownB b x =>
    rw [hav] at h5;refine zk ho (hgo b 0 (r.ownB hav)) (zh hx r hd h5 rfl ⟨⟨b, _, rfl⟩, λq hq => ?_⟩);have hq' : q = (true, b, 1, 0) := by rw [hav] at hq; simpa [AV.shape] using hq.symm
    subst hq';refine ⟨by simp, λb' hb' => ?_⟩;rw [hav] at hb';obtain rfl : b' = b := hb';simp
   | v x =>
    rw [hav] at h5;cases x with
    | box g y =>
     obtain ⟨b, hb, hf, hp⟩ := ziJ (σ := get e) (τ := tv a) (r.val hav);refine zk ho (hgo b 0 hb) (zh hx r hd h5 rfl ?_);rw [Nat.zero_add]; exact hp off
    | _ => exact h5.elim
   | al s =>
    rw [hav] at h5 hsl;simp only at h5
    have hts : tv a aa = tv a s := hsl;cases has : get e s with
    | ownB b x =>
     rw [has] at h5;refine zk ho (hgo b 0 (hts.trans (r.ownB has))) (zh hx r hd h5 rfl ⟨⟨b, _, rfl⟩, λq hq => ?_⟩);have hq' : q = (true, b, 1, 0) := by rw [has] at hq; simpa [AV.shape] using hq.symm
     subst hq';refine ⟨by simp, λb' hb' => ?_⟩;rw [has] at hb';obtain rfl : b' = b := hb';simp
    | v x =>
     rw [has] at h5;cases x with
     | box g y =>
      obtain ⟨b, hb, hf, hp⟩ := ziJ (σ := get e) (τ := tv a) (r.val has);refine zk ho (hgo b 0 (hts.trans hb)) (zh hx r hd h5 rfl ?_);rw [Nat.zero_add]; exact hp off
     | _ => exact h5.elim
    | _ => rw [has] at h5; exact h5.elim
   | _ => rw [hav] at h5; exact h5.elim
 | _ => rw [hk] at h4; exact h4.elim

end
open Go Go.RowKit

section
variable {P : Program} {cx : Cx} {D : Nat -> Prop} {w0 : World} {N : Nat} {hs : Nat} {a : Act} {w w' : World} {K : S -> Prop} {next : Act -> World -> Prop} {Q : Exit -> Act -> World -> Prop} {o : Oper} {d : Nat} {e : Env}

def Mem (ok : OkB) (w : World) (x : V) (b o : Nat) : Prop :=
 ∀ j, j < x.cells.length -> ∃ c, w.cell? ⟨b, o + j, none⟩ = some c ∧ Rep ok w.heap (zW x j) c

theorem yw {w : World} {b k : Nat} {cur : Array Value} {el : TypeId} {fr : Nat × Nat} {c : Value} (h : w.heap[b]? = some (.cells cur el fr)) (hc : cur[k]? = some c) : w.cell? ⟨b, k, none⟩ = some c := by
 rw [cell_of_row w b k cur el fr h]; exact hc

theorem jR {t : TypeId} {dd : TypeDesc} {b k : Nat} {c : Value} (hu : P.underlying t = some dd) (hd : kj dd = false) (hc : w.cell? ⟨b, k, none⟩ = some c) : (loadVar t ⟨b, k, none⟩).run P w = .ok c w := by
 have ha : (isAgg t).run P w = .ok false w := by
  simp only [isAgg, Sem.run_bind, run_underlying hu, Result.andThen_ok]
  cases dd <;> first | rfl | simp [kj] at hd
 simp [loadVar, ha, hc]

theorem zhH {t : TypeId} {i : TypeInfo} {fields : Array Field} {b k : Nat} {cs : List Value} (hi : P.info? t = some i) (hu : P.underlying t = some (.struct fields)) (hl : cs.length = i.size)
  (hc : ∀ j v, cs[j]? = some v -> w.cell? ⟨b, k + j, none⟩ = some v) : (loadVar t ⟨b, k, none⟩).run P w = .ok (.agg cs.toArray) w := by
 have ha : (isAgg t).run P w = .ok true w := by
  simp only [isAgg, Sem.run_bind, run_underlying hu, Result.andThen_ok]; rfl
 have hl' := run_loadCells_list (P := P) w ⟨b, k, none⟩ cs (λj v hv => by rw [yp]; exact hc j v hv);rw [hl] at hl';simp [loadVar, ha, sizeOf, typeInfo, hi, hl']

theorem zbX {t : Nat} {ti : TI} (hti : xq P t ti) {ok : OkB} {x : V} {off b oo : Nat} {C : V -> Prop} (hf : x.flat = true) (hm : Mem ok w x b oo) (hc : z3 ti x off C) :
  ∃ y v, C y ∧ (loadVar t ⟨b, oo + off, none⟩).run P w = .ok v w ∧ Rep ok w.heap y v := by
 obtain ⟨i, dd, hi1, hi2, hi3, _, _, hpos, _, _, _, hkind⟩ := hti
 have one : kj dd = false -> ∀ C : V -> Prop, zbC x off C -> ∃ y v, C y ∧ (loadVar t ⟨b, oo + off, none⟩).run P w = .ok v w ∧ Rep ok w.heap y v := by
  intro hd C hc
  have hnag : ∀ x : V, x.cells = [x] -> Mem ok w x b oo -> (bif Nat.beq off 0 then C x else False) -> ∃ y v, C y ∧ (loadVar t ⟨b, oo + off, none⟩).run P w = .ok v w ∧ Rep ok w.heap y v := by
   intro x hx hm hc
   by_cases h0 : off = 0
   ·subst h0;rw [zQ, cond_true] at hc;obtain ⟨c, h1, h2⟩ := hm 0 (by rw [hx]; simp);rw [zW, hx] at h2;exact ⟨x, c, hc, jR hi2 hd h1, h2⟩
   ·rw [yk h0, cond_false] at hc; exact hc.elim
  cases x with
  | agg cs =>
   unfold zbC at hc;simp only at hc
   cases hdr : cs.drop off with
   | nil => rw [hdr] at hc; exact hc.elim
   | cons c l =>
    rw [hdr] at hc;obtain ⟨hlt, hg, _⟩ := z5 (z := V.nil) hdr;obtain ⟨v, h1, h2⟩ := hm off hlt;rw [zW, V.cells, hg] at h2;exact ⟨c, v, hc, jR hi2 hd h1, h2⟩
  | tup vs => simp [V.flat] at hf
  | _ => exact hnag _ rfl hm hc
 cases hk : ti.kind with
 | struct fs =>
  rw [hk] at hkind;obtain ⟨fields, rfl, _⟩ := hkind;have hall := zaw hf
  have two : off + ti.size <= x.cells.length -> ∃ v, (loadVar t ⟨b, oo + off, none⟩).run P w = .ok v w ∧ Rep ok w.heap (.agg ((x.cells.drop off).take ti.size)) v := by
   intro hle
   have hcs : ∀ j, j < ti.size -> ∃ c, w.cell? ⟨b, oo + off + j, none⟩ = some c ∧ Rep ok w.heap (zW x (off + j)) c := λj hj => by
    obtain ⟨c, h1, h2⟩ := hm (off + j) (by omega);exact ⟨c, by rw [Nat.add_assoc]; exact h1, h2⟩
   have hgd : ∀ j, j < ti.size -> w.cell? ⟨b, oo + off + j, none⟩ = some ((w.cell? ⟨b, oo + off + j, none⟩).getD undef) := λj hj => by
    obtain ⟨c, h1, _⟩ := hcs j hj; rw [h1]; rfl
   refine ⟨_, zhH (cs := (List.range ti.size).map λj => (w.cell? ⟨b, oo + off + j, none⟩).getD undef) hi1 hi2 (by simp [hi3]) (λj v hv => ?_), ?_⟩
   ·by_cases hj : j < ti.size
    ·simp [hj] at hv; rw [hgd j hj]; simp [hv]
    ·simp [hj] at hv
   ·refine .agg _ _ (by simp; omega) ?_ λj hj => ?_
    ·exact List.all_eq_true.2 λy hy => List.all_eq_true.1 hall y (List.mem_of_mem_drop (List.mem_of_mem_take hy))
    ·have hj' : j < ti.size := by simp at hj; omega
     obtain ⟨c, h1, h2⟩ := hcs j hj';rw [List.getD_eq_getElem?_getD, List.getElem?_take_of_lt hj', List.getElem?_drop];rw [zW, List.getD_eq_getElem?_getD] at h2;simp [Array.getD_eq_getD_getElem?, hj', h1, h2]
  have three : ∀ C : V -> Prop, (bif Nat.beq off 0 && Nat.beq x.cells.length ti.size then zdI x C
    else (off + ti.size <= x.cells.length) ∧ C (.agg ((x.cells.drop off).take ti.size))) -> ∃ y v, C y ∧ (loadVar t ⟨b, oo + off, none⟩).run P w = .ok v w ∧ Rep ok w.heap y v := by
   intro C hc;cases hcond : (Nat.beq off 0 && Nat.beq x.cells.length ti.size)
   ·rw [hcond, cond_false] at hc;obtain ⟨v, h2, h3⟩ := two hc.1;exact ⟨_, v, hc.2, h2, h3⟩
   ·rw [hcond, cond_true] at hc;simp only [Bool.and_eq_true] at hcond
    have h0 := Nat.eq_of_beq_eq_true hcond.1;have h1 := Nat.eq_of_beq_eq_true hcond.2;obtain ⟨v, h2, h3⟩ := two (by omega)
    obtain ⟨cs, hcs, hC⟩ : ∃ cs, x = .agg cs ∧ C (.agg cs) := by
     cases x <;> first | exact hc.elim | exact ⟨_, rfl, hc⟩
    refine ⟨.agg cs, v, hC, h2, ?_⟩;rw [hcs] at h3 h1;simp only [V.cells] at h1 h3
    rwa [<- h1, h0, List.drop_zero, List.take_length] at h3
  unfold z3 at hc;rw [hk] at hc;exact three C hc
 | int k => rw [hk] at hkind; obtain ⟨rfl, _⟩ := hkind; unfold z3 at hc; rw [hk] at hc; exact one rfl C hc
 | bool => rw [hk] at hkind; obtain ⟨rfl, _⟩ := hkind; unfold z3 at hc; rw [hk] at hc; exact one rfl C hc
 | slice el => rw [hk] at hkind; obtain ⟨rfl, _⟩ := hkind; unfold z3 at hc; rw [hk] at hc; exact one rfl C hc
 | cell => rw [hk] at hkind; unfold z3 at hc; rw [hk] at hc; exact one hkind.1 C hc

theorem zbY (r : R D w0 N (get e) hs a w) {k b : Nat} {x : V} (h : get e k = .ownB b x) : Mem (okF D (zj (get e) (tv a)) w.heap.size) w x b 0 ∧ x.flat = true := by
 have := r.slots k;rw [h] at this;obtain ⟨_, hf, cur, el, h1, h2⟩ := this;refine ⟨λj hj => ?_, hf⟩;obtain ⟨c, h3, h4⟩ := h2 j hj;exact ⟨c, yw h1 (by rw [Nat.zero_add]; exact h3), h4⟩

theorem zka {ok : OkB} {g : Option Nat} {y : V} {v : Value} (r : Rep ok w.heap (.box g y) v) : ∃ b, v = .pointer (some ⟨b, 0, none⟩) ∧ y.flat = true ∧ Mem ok w y b 0 := by
 cases r with
 | box g y b hb hf cur el fr hh c hx hr => exact ⟨b, rfl, hf, λj hj => ⟨c j, yw hh (by rw [Nat.zero_add]; exact hx j hj), hr j hj⟩⟩

theorem zK.real {h : Array Obj} {el sz b n i : Nat} {v : Value} {cells : List Value} (o : zK h el sz b n v cells) (hi : i < n) :
  ∃ cap cur, v = .slice (some ⟨b, 0, none⟩) n (cap + 1) ∧ h[b]? = some (.cells cur el (0, 0)) ∧ n <= cap + 1 ∧ cap + 1 <= maxLen ∧ cur.size = (cap + 1) * sz ∧ cur.toList.take (n * sz) = cells := by
 rcases o.2 with ⟨_, _, h2⟩ | h2
 ·omega
 ·exact h2

theorem vJ {L cells : List Value} {m k : Nat} (h : L.take m = cells) (hk : k < m) : L[k]? = cells[k]? := by
 rw [<- h, List.getElem?_take_of_lt hk]

theorem zf8 (hcx : OkCx P cx) {t aa : Nat} (ho : o.dst = some d) (hop : o.op = .load t (.tmp aa)) (hd : d < N) (hx : Nx D w0 N K next) (r : R D w0 N (get e) hs a w)
  (h : zbq cx K d t aa e hs) : o.wp P a w next Q := by
 simp only [zbq, zb, zc8] at h
 obtain ⟨ti, hti, h1⟩ := zf hcx.tt h
 have fin : ∀ {x : V} {b oo off : Nat}, tv a aa = .pointer (some ⟨b, oo + off, none⟩) -> x.flat = true -> Mem (okF D (zj (get e) (tv a)) w.heap.size) w x b oo -> z3 ti x off (λx => K1 K hs d e (.v x)) -> o.wp P a w next Q := by
  intro x b oo off hv hf hm hp;obtain ⟨y, v, h2, h3, h4⟩ := zbX hti hf hm hp;refine zk (w' := w) (v := v) ho ?_ (zh hx r hd h2 rfl h4);simp [execOp, hop, yI, hv, Instr.loadAt, Instr.sureAddr, h3]
 have hsl := r.slots aa
 have hob : ∀ k b x, get e k = .ownB b x -> tv a aa = tv a k -> z3 ti x 0 (λx => K1 K hs d e (.v x)) -> o.wp P a w next Q := by
  intro k b x hk ht hp;obtain ⟨hm, hf⟩ := zbY r hk;exact fin (b := b) (oo := 0) (off := 0) (ht.trans (r.ownB hk)) hf hm hp
 have hbx : ∀ k g x, get e k = .v (.box g x) -> tv a aa = tv a k -> z3 ti x 0 (λx => K1 K hs d e (.v x)) -> o.wp P a w next Q := by
  intro k g x hk ht hp;obtain ⟨b, hb, hf, hm⟩ := zka (r.val hk);exact fin (b := b) (oo := 0) (off := 0) (ht.trans hb) hf hm hp
 cases hav : get e aa with
 | pv x off =>
  rw [hav] at h1 hsl;obtain ⟨hf, oo, ⟨b, hb⟩, h6⟩ := hsl;refine fin (b := b) (oo := oo) (off := off) hb hf (λj hj => ?_) h1;obtain ⟨b', g, cur, el, fr, c, h7, h8, h9, h10, h11⟩ := h6 j hj
  have hbb : b' = b := by
   rw [show a.tmps.getD aa undef = _ from hb] at h7
   simpa using h7.symm
  subst hbb;exact ⟨c, yw h9 h10, h11⟩
 | v x =>
  rw [hav] at h1;cases x with
  | box g y => exact hbx aa g y hav rfl h1
  | _ => exact h1.elim
 | ownB b x => rw [hav] at h1; exact hob aa b x hav rfl h1
 | al s =>
  rw [hav] at h1 hsl;simp only at h1
  cases has : get e s with
  | ownB b x => rw [has] at h1; exact hob s b x has hsl h1
  | v x =>
   rw [has] at h1;cases x with
   | box g y => exact hbx s g y has hsl h1
   | _ => exact h1.elim
  | _ => rw [has] at h1; exact h1.elim
 | pl s ix off =>
  rw [hav] at h1 hsl;simp only at h1
  obtain ⟨_, h6⟩ := hsl;have hss := r.slots s;cases has : get e s with
  | ownI el b xs =>
   rw [has] at h1 h6 hss;obtain ⟨hlt, hptr⟩ := h6 _ rfl;obtain ⟨cap, cur, hv, hh, hn, hm, hsz, htk⟩ := hss.real hlt;have hp := hptr b (by rw [show (λi => a.tmps.getD i undef) s = _ from hv]; rfl);simp only at hlt hp
   cases hk : ti.kind with
   | int k =>
    rw [hk] at h1;cases k <;> first | exact h1.elim | skip
    obtain ⟨i, dd, hi1, hi2, _, _, _, _, _, _, _, hkind⟩ := hti;rw [hk] at hkind;obtain ⟨rfl, _⟩ := hkind
    by_cases h0 : off = 0
    case neg => simp only [yk h0, cond_false] at h1
    subst h0;simp only [zQ, cond_true] at h1
    have hc : w.cell? ⟨b, ix * 1 + 0, none⟩ = some (.int .i64 (xs.getD ix 0)) := by
     have h3 := vJ htk (k := ix) (by omega);rw [Array.getElem?_toList] at h3;refine yw hh ?_;rw [show ix * 1 + 0 = ix by omega, h3, List.getElem?_map, List.getElem?_eq_getElem hlt, List.getD_eq_getElem?_getD, List.getElem?_eq_getElem hlt]
     rfl
    have hrun := jR (P := P) hi2 rfl hc;refine zk (w' := w) (v := .int .i64 (xs.getD ix 0)) ho ?_ (zh hx r hd h1 rfl (.int _ _));have hp' : tv a aa = _ := hp;simp only [execOp, hop, yI, hp', Instr.loadAt, Instr.sureAddr, Sem.run_bind, Sem.run_pure, Result.andThen_ok, hrun]
   | _ => rw [hk] at h1; exact h1.elim
  | ownV el sz b n f =>
   rw [has] at h1 h6 hss;obtain ⟨hlt, hptr⟩ := h6 _ rfl;obtain ⟨hsz0, cells, hO, hE⟩ := hss;obtain ⟨cap, cur, hv, hh, hn, hm, hsz, htk⟩ := hO.real hlt;have hp := hptr b (by rw [show (λi => a.tmps.getD i undef) s = _ from hv]; rfl);simp only at hlt hp
   refine fin (x := f ix) (b := b) (oo := ix * sz) (off := off) hp (hE.1 ix hlt).2 (λj hj => ?_) h1;rw [(hE.1 ix hlt).1] at hj;obtain ⟨c, h7, h8⟩ := hE.2 ix j hlt hj;have := vJ htk (xj hlt hj);exact ⟨c, yw hh (by rw [<- Array.getElem?_toList, this]; exact h7), h8⟩
  | ownB b x =>
   rw [has] at h1 h6;obtain ⟨_, hptr⟩ := h6 _ rfl;have hp := hptr b rfl;obtain ⟨hm, hf⟩ := zbY r has;refine fin (b := b) (oo := 0) (off := off) ?_ hf hm h1
   simpa using hp
  | _ => rw [has] at h1; exact h1.elim
 | pr b ix =>
  rw [hav] at h1 hsl;have hv : tv a aa = .pointer (some ⟨b, ix, none⟩) := hsl;cases hk : ti.kind with
  | int kk =>
   rw [hk] at h1;cases kk <;> first | exact h1.elim | skip
   obtain ⟨i, dd, hi1, hi2, _, _, _, _, _, _, _, hkind⟩ := hti;rw [hk] at hkind;obtain ⟨rfl, _⟩ := hkind;cases hvt : get e vt with
   | tab tb =>
    rw [hvt] at h1;obtain ⟨xs, h2, h3, h4⟩ := h1;have ht := r.slots vt;rw [hvt] at ht;obtain ⟨cur, el, h5, h6⟩ := ht b xs h2;have hrun := jR (P := P) hi2 rfl (yw h5 (h6 ix h3));refine zk (w' := w) (v := .int .i64 (xs.getD ix 0)) ho ?_ (zh hx r hd h4 rfl (.int _ _));simp only [execOp, hop, yI, hv, Instr.loadAt, Instr.sureAddr, Sem.run_bind, Sem.run_pure, Result.andThen_ok, hrun]
   | _ => rw [hvt] at h1; exact h1.elim
  | _ => rw [hk] at h1; exact h1.elim
 | _ => rw [hav] at h1; exact h1.elim

theorem v4 {α : Type} {L vs : List α} {p k : Nat} (h : p + vs.length <= L.length) : (L.take p ++ vs ++ L.drop (p + vs.length))[k]? = if p <= k ∧ k < p + vs.length then vs[k - p]? else L[k]? := by
 by_cases h1 : k < p
 ·rw [if_neg (by omega), List.append_assoc, List.getElem?_append_left (by simp; omega), List.getElem?_take_of_lt h1]
 ·by_cases h2 : k < p + vs.length
  ·rw [if_pos ⟨by omega, h2⟩, List.append_assoc, List.getElem?_append_right (by simp; omega), List.getElem?_append_left (by simp; omega)]
   congr 1; simp; omega
  ·rw [if_neg (by omega), List.getElem?_append_right (by simp; omega), List.getElem?_drop]
   congr 1; simp; omega

theorem yx (w : World) (b : Nat) (cs : Array Value) : w.grownBy (w.setRow b cs) (some b) :=
 ⟨rfl, rfl, rfl, by simp [World.setRow], λk _ hk => setRow_other w b k _ (λe => hk (by rw [e]))⟩

theorem y5 {x y : V} {off : Nat} (hx : x.flat = true) (hy : y.flat = true) (hy0 : 0 < y.cells.length) (hle : off + y.cells.length <= x.cells.length) :
  (zP x off y).cells = x.cells.take off ++ y.cells ++ x.cells.drop (off + y.cells.length) ∧ (zP x off y).flat = true := by
 have hn : x.cells = [x] -> zP x off y = y -> (zP x off y).cells = x.cells.take off ++ y.cells ++ x.cells.drop (off + y.cells.length) ∧ (zP x off y).flat = true := by
  intro h1 h2;rw [h2];rw [h1] at hle ⊢;simp only [List.length_cons, List.length_nil] at hle
  have h4 : off = 0 := by omega
  have h5 : y.cells.length = 1 := by omega
  refine ⟨?_, hy⟩;rw [h4, h5]; simp
 cases x with
 | agg cs =>
  refine ⟨rfl, ?_⟩;simp only [zP, V.flat, List.all_append, Bool.and_eq_true]
  refine ⟨⟨?_, zaw hy⟩, ?_⟩
  ·exact List.all_eq_true.2 λz hz => List.all_eq_true.1 hx z (List.mem_of_mem_take hz)
  ·exact List.all_eq_true.2 λz hz => List.all_eq_true.1 hx z (List.mem_of_mem_drop hz)
 | tup vs => simp [V.flat] at hx
 | _ => exact hn rfl rfl

theorem jm {x y : V} {off j : Nat} (hx : x.flat = true) (hy : y.flat = true) (hy0 : 0 < y.cells.length) (hle : off + y.cells.length <= x.cells.length) :
  zW (zP x off y) j = if off <= j ∧ j < off + y.cells.length then zW y (j - off) else zW x j := by
 have h := (y5 hx hy hy0 hle).1;unfold zW;rw [h, List.getD_eq_getElem?_getD, v4 hle]
 split <;> simp [List.getD_eq_getElem?_getD]

theorem jn {x y : V} {off : Nat} (hx : x.flat = true) (hy : y.flat = true) (hy0 : 0 < y.cells.length) (hle : off + y.cells.length <= x.cells.length) :
  (zP x off y).cells.length = x.cells.length := by
 rw [(y5 hx hy hy0 hle).1]; simp; omega

theorem v5 {t : TypeId} {i : TypeInfo} {b oo : Nat} {v : Value} {cur : Array Value} {el : TypeId} (hi : P.info? t = some i) (hsz : v.cells.size = i.size) (hh : w.heap[b]? = some (.cells cur el (0, 0))) (hle : oo + v.cells.size <= cur.size) (h1 : ∀ u ∈ v.cells.toList, u.oneCell' = true) :
  (storeVar t ⟨b, oo, none⟩ v).run P w = .ok () (w.setRow b (cur.toList.take oo ++ v.cells.toList ++ cur.toList.drop (oo + v.cells.size)).toArray) := by
 have hst := run_storeCells_at P b oo el v.cells.toList 0 cur w hh (by simpa using hle) h1;simp only [Nat.add_zero, Array.length_toList] at hst
 simp [storeVar, sizeOf, typeInfo, hi, hsz, hst]

theorem kN {t : TypeId} {aa : Nat} {x : Operand} {b oo : Nat} {w' : World} (ho : o.dst = none) (hop : o.op = .store t (.tmp aa) x) (hv : tv a aa = .pointer (some ⟨b, oo, none⟩))
  (hr : (storeVar t ⟨b, oo, none⟩ (a.eval x)).run P w = .ok () w') (hn : next a w') : o.wp P a w next Q := by
 unfold Oper.wp
 have : (execOp a.eval o).run P w = .ok .skip w' := by
  simp [execOp, hop, yI, hv, Instr.storeAt, Instr.sureAddr, hr]
 rw [this, Oper.upon_skip, ho];exact hn

theorem yq (w : World) (b : Nat) (cs : Array Value) : (w.setRow b cs).heap.size = w.heap.size := by simp [World.setRow]

theorem xS {own : Nat -> Prop} {b : Nat} {cs : Array Value} (hown : own b) {ok : OkB} (hok : ok = okF D own w.heap.size) {x : V} {v : Value} (r : Rep ok w.heap x v) : Rep ok (w.setRow b cs).heap x v :=
 r.mono λg b' hb => ⟨hb, by
  subst hok;exact setRow_other w b b' _ (λe => hb.2.1 (e ▸ hown))⟩

theorem zeP (hcx : OkCx P cx) {t aa : Nat} {x : Operand} (ho : o.dst = none) (hop : o.op = .store t (.tmp aa) x) (hx : Nx D w0 N K next) (r : R D w0 N (get e) hs a w)
  (h : zbK cx K t aa x e hs) : o.wp P a w next Q := by
 obtain ⟨e', y, h1, r', hr, _⟩ := vI r h;obtain ⟨ti, hti, h2⟩ := zf hcx.tt h1;obtain ⟨i, dd, hi1, hi2, hi3, hi4⟩ := xq.und hti;have hpos : 0 < ti.size := by obtain ⟨_, _, _, _, _, _, _, hp, _⟩ := hti; exact hp
 cases hsz : Nat.beq y.cells.length ti.size
 ·rw [hsz, cond_false] at h2; exact h2.elim
 rw [hsz, cond_true, zb] at h2;have hysz := Nat.eq_of_beq_eq_true hsz
 have hone : y.flat = true -> ∀ u ∈ (a.eval x).cells.toList, u.oneCell' = true := λhf u hu => by
  obtain ⟨k, hk, rfl⟩ := List.getElem_of_mem hu;obtain ⟨h3, h4⟩ := zG hr hf;obtain ⟨c, h5, _, h6⟩ := h4 k (by simpa [h3] using hk);have : (a.eval x).cells.toList[k]? = some c := by rw [Array.getElem?_toList]; exact h5
  rw [List.getElem?_eq_getElem hk] at this;cases this
  exact h6
 -- the row behind the store
 have hrow : ∀ (cur : Array Value) (p : Nat) (k : Nat), y.flat = true -> p + y.cells.length <= cur.size ->
   (cur.toList.take p ++ (a.eval x).cells.toList ++ cur.toList.drop (p + (a.eval x).cells.size)).toArray[k]? = if p <= k ∧ k < p + y.cells.length then (a.eval x).cells[k - p]? else cur[k]? := by
  intro cur p k hf hle;have h3 := (zG hr hf).1;rw [List.getElem?_toArray, h3, <- h3, <- Array.length_toList, v4 (by simp [h3]; omega), Array.length_toList, h3];simp [Array.getElem?_toList]
 -- a box
 have hbox : ∀ k b z off, get e' k = .ownB b z -> tv a aa = .pointer (some ⟨b, off, none⟩) -> off + y.cells.length <= z.cells.length -> y.flat = true -> K ⟨put e' k (.ownB b (zP z off y)), hs⟩ -> o.wp P a w next Q := by
  intro k b z off hk hp hle hf hK;have hsl := r'.slots k;rw [hk] at hsl;obtain ⟨hv, hzf, cur, el, hh, hcs⟩ := hsl
  have hcl : off + y.cells.length <= cur.size := by
   have hz0 : 0 < z.cells.length := by omega
   obtain ⟨c, hc, _⟩ := hcs (z.cells.length - 1) (by omega)
   have : z.cells.length - 1 < cur.size := by
    rcases Nat.lt_or_ge (z.cells.length - 1) cur.size with h | h
    ·exact h
    ·rw [Array.getElem?_eq_none h] at hc; cases hc
   omega
  have hsz3 := (zG hr hf).1;have hrun := v5 (P := P) (t := t) (oo := off) (v := a.eval x) hi1 (by rw [hsz3, hysz, hi3]) hh (by rw [hsz3]; exact hcl) (hone hf);refine kN ho hop hp hrun (hx _ _ _ ?_ hK);show R D w0 N (get (put e' k _)) hs a _
  rw [zd];have hrb : rb (get e' k) (tv a k) b := by rw [hk]; rfl
  refine r'.store (yx w b _) hrb (by rw [hk]; rfl) (by simp [AV.shape]) (λ_ => rfl) (yq _ _ _) ?_ (r'.dom k (by rw [hk]; simp));refine ⟨hv, (y5 hzf hf (by omega) hle).2, _, el, setRow_heap w b cur _ el (0, 0) hh, λj hj => ?_⟩;rw [jn hzf hf (by omega) hle] at hj;rw [hrow cur off j hf hcl, jm hzf hf (by omega) hle];have hown : zj (get e') (tv a) b := ⟨k, hrb⟩
  by_cases hjj : off <= j ∧ j < off + y.cells.length
  ·rw [if_pos hjj, if_pos hjj];obtain ⟨c, h5, h6, _⟩ := (zG hr hf).2 (j - off) (by omega);exact ⟨c, h5, xS hown rfl h6⟩
  ·rw [if_neg hjj, if_neg hjj];obtain ⟨c, h5, h6⟩ := hcs j hj;exact ⟨c, h5, xS hown rfl h6⟩
 have hsla := r'.slots aa
 -- a box by its own address
 have hboxb : ∀ k, tv a aa = tv a k -> zdJ (λe => K ⟨e, hs⟩) e' k (get e' k) y -> o.wp P a w next Q := by
  intro k ht hst;cases hk : get e' k with
  | ownB b z =>
   rw [hk] at hst;obtain ⟨⟨hle, hf⟩, hst⟩ := hst;rw [zr] at hst;exact hbox k b z 0 hk (ht.trans (r'.ownB hk)) (by omega) hf hst
  | _ => rw [hk] at hst; exact hst.elim
 cases hav : get e' aa with
 | pl s ix off =>
  rw [hav] at h2 hsla;obtain ⟨_, h6⟩ := hsla;simp only [zap, zbF, zb] at h2
  have hss := r'.slots s;cases has : get e' s with
  | ownI el b xs =>
   rw [has] at h2 h6 hss;obtain ⟨hlt, hptr⟩ := h6 _ rfl;obtain ⟨cap, cur, hv, hh, hn, hm, hcsz, htk⟩ := zK.real hss hlt;have hp := hptr b (by rw [show (λi => a.tmps.getD i undef) s = _ from hv]; rfl);simp only at hlt hp
   cases y with
   | int k n =>
    cases k <;> first | exact h2.elim | skip
    simp only at h2
    by_cases h0 : off = 0
    case neg => simp only [yk h0, cond_false] at h2
    subst h0;simp only [zQ, cond_true, zr] at h2
    have hsz3 := (zG hr rfl).1;have hv' := zJ hr;have hle : ix * 1 + 0 + 1 <= cur.size := by rw [hcsz]; omega
    have hrun := v5 (P := P) (t := t) (oo := ix * 1 + 0) (v := a.eval x) hi1 (by rw [hsz3, hysz, hi3]) hh (by rw [hsz3]; exact hle) (hone rfl);refine kN ho hop hp hrun (hx _ _ _ ?_ h2);show R D w0 N (get (put e' s _)) hs a _
    rw [zd];have hrb : rb (get e' s) (tv a s) b := by rw [has, show tv a s = _ from hv]; rfl
    refine r'.store (yx w b _) hrb (by rw [has]; simp [AV.shape]) (by simp [AV.shape]) (λ_ => rfl) (yq _ _ _) ?_ (r'.dom s (by rw [has]; simp));show zK _ el 1 b _ _ _
    rw [List.length_set];refine ⟨by simp, .inr ⟨cap, _, hv, setRow_heap w b cur _ el (0, 0) hh, hn, hm, ?_, ?_⟩⟩
    ·rw [hsz3]; simp [hsz3, V.cells]; omega
    ·apply List.ext_getElem?;intro k
     by_cases hk : k < xs.length
     ·rw [List.getElem?_take_of_lt (by omega), <- List.getElem?_toArray, hrow cur _ k rfl hle, List.getElem?_map, List.getElem?_set];have h7 := vJ htk (k := k) (by omega);rw [Array.getElem?_toList] at h7
      by_cases hki : k = ix
      ·subst hki;rw [if_pos ⟨by omega, by simp [V.cells]⟩, if_pos rfl, if_pos hk, hv'];simp [Value.cells]
      ·rw [if_neg (by simp [V.cells]; omega), if_neg (Ne.symm hki), h7, List.getElem?_map]
     ·rw [List.getElem?_eq_none (by simp; omega), List.getElem?_eq_none (by simp; omega)]
   | _ => exact h2.elim
  | ownV el sz b n f =>
   rw [has] at h2 h6 hss;obtain ⟨⟨hle, hf⟩, hh', hh1, hh2, h2⟩ := h2;rw [zr] at h2;obtain ⟨hlt, hptr⟩ := h6 _ rfl;obtain ⟨hsz0, cells, hO, hE⟩ := hss;obtain ⟨cap, cur, hv, hh, hn, hm, hcsz, htk⟩ := hO.real hlt;have hp := hptr b (by rw [show (λi => a.tmps.getD i undef) s = _ from hv]; rfl);simp only at hlt hp
   have hsz3 := (zG hr hf).1;have hix := xj hlt (show off < sz by omega)
   have hle2 : ix * sz + off + y.cells.length <= cur.size := by
    have h7 : (ix + 1) * sz <= (cap + 1) * sz := Nat.mul_le_mul_right _ (by omega);rw [Nat.add_mul] at h7;rw [hcsz]; omega
   have hrun := v5 (P := P) (t := t) (oo := ix * sz + off) (v := a.eval x) hi1 (by rw [hsz3, hysz, hi3]) hh (by rw [hsz3]; exact hle2) (hone hf);refine kN ho hop hp hrun (hx _ _ _ ?_ h2);show R D w0 N (get (put e' s _)) hs a _
   rw [zd];have hrb : rb (get e' s) (tv a s) b := by rw [has, show tv a s = _ from hv]; rfl
   have hown : zj (get e') (tv a) b := ⟨s, hrb⟩
   refine r'.store (yx w b _) hrb (by rw [has]; simp [AV.shape]) (by simp [AV.shape]) (λ_ => rfl) (yq _ _ _) ?_ (r'.dom s (by rw [has]; simp));have hgood := hE.1 ix hlt;have hle3 : off + y.cells.length <= (f ix).cells.length := by rw [hgood.1]; exact hle
   refine ⟨hsz0, (cur.toList.take (ix * sz + off) ++ (a.eval x).cells.toList ++ cur.toList.drop (ix * sz + off + (a.eval x).cells.size)).take (n * sz), ⟨?_, .inr ⟨cap, _, hv, setRow_heap w b cur _ el (0, 0) hh, hn, hm, ?_, ?_⟩⟩, ?_, ?_⟩
   ·have h7 : n * sz <= (cap + 1) * sz := Nat.mul_le_mul_right _ hn;simp [hsz3, hcsz]; omega
   ·simp [hsz3]; omega
   ·simp
   ·intro i hi
    by_cases hii : i = ix
    ·subst hii; rw [hh1]; exact ⟨by rw [jn hgood.2 hf (by omega) hle3]; exact hgood.1, (y5 hgood.2 hf (by omega) hle3).2⟩
    ·rw [hh2 i hi hii]; exact hE.1 i hi
   ·intro i j hi hj;have hij := xj hi hj;rw [List.getElem?_take_of_lt hij, <- List.getElem?_toArray, hrow cur _ _ hf hle2];obtain ⟨c, h8, h9⟩ := hE.2 i j hi hj;have h7 := vJ htk hij;rw [Array.getElem?_toList] at h7
    by_cases hii : i = ix
    ·subst hii;rw [hh1, jm hgood.2 hf (by omega) hle3]
     by_cases hjj : off <= j ∧ j < off + y.cells.length
     ·rw [if_pos ⟨by omega, by omega⟩, if_pos hjj];obtain ⟨c', h10, h11, _⟩ := (zG hr hf).2 (j - off) (by omega);refine ⟨c', ?_, xS hown rfl h11⟩;rw [show i * sz + j - (i * sz + off) = j - off by omega]; exact h10
     ·rw [if_neg (by omega), if_neg hjj];exact ⟨c, h7.trans h8, xS hown rfl h9⟩
    ·rw [hh2 i hi hii, if_neg ?_]
     ·exact ⟨c, h7.trans h8, xS hown rfl h9⟩
     ·rintro ⟨h12, h13⟩;rcases Nat.lt_or_gt_of_ne hii with h14 | h14
      ·have : (i + 1) * sz <= ix * sz := Nat.mul_le_mul_right _ h14;rw [Nat.add_mul] at this; omega
      ·have : (ix + 1) * sz <= i * sz := Nat.mul_le_mul_right _ h14;rw [Nat.add_mul] at this; omega
  | ownB b z =>
   rw [has] at h2 h6;obtain ⟨⟨hle, hf⟩, h2⟩ := h2;rw [zr] at h2;obtain ⟨_, hptr⟩ := h6 _ rfl;have hp := hptr b rfl;exact hbox s b z off has (by simpa using hp) hle hf h2
  | _ => rw [has] at h2; exact h2.elim
 | al s =>
  rw [hav] at h2 hsla;simp only [zap, zb] at h2
  exact hboxb s hsla h2
 | dead => rw [hav] at h2; exact h2.elim
 | v y => rw [hav] at h2; exact h2.elim
 | ownI el b xs => rw [hav] at h2; exact h2.elim
 | ownV el sz b n f => rw [hav] at h2; exact h2.elim
 | ownB b z => exact hboxb aa rfl (by rw [hav] at h2 ⊢; exact h2)
 | pv y off => rw [hav] at h2; exact h2.elim
 | sl b i n => rw [hav] at h2; exact h2.elim
 | tab tb => rw [hav] at h2; exact h2.elim
 | keep O U hw kk vv => rw [hav] at h2; exact h2.elim
 | tupO i o vs => rw [hav] at h2; exact h2.elim
 | pr b ix =>
  rw [hav] at h2 hsla;have hv : tv a aa = .pointer (some ⟨b, ix, none⟩) := hsla;simp only [zap, zb] at h2
  cases y with
  | int k n =>
   cases k <;> first | exact h2.elim | skip
   simp only at h2
   cases hvt : get e' vt with
   | tab tb =>
    rw [hvt] at h2;obtain ⟨xs, h3, h4, h5⟩ := h2;rw [zr] at h5;have ht := r'.slots vt;rw [hvt] at ht;obtain ⟨cur, el, hh, h6⟩ := ht b xs h3;have hsz3 := (zG hr rfl).1;have hv' := zJ hr
    have hlt : ix < cur.size := by
     have h7 := h6 ix h4;exact (Array.getElem?_eq_some_iff.1 h7).1
    have hle : ix + 1 <= cur.size := hlt;have hrun := v5 (P := P) (t := t) (oo := ix) (v := a.eval x) hi1 (by rw [hsz3, hysz, hi3]) hh (by rw [hsz3]; exact hle) (hone rfl);refine kN ho hop hv hrun (hx _ _ _ ?_ h5);show R D w0 N (get (put e' vt _)) hs a _
    rw [zd];refine r'.storeT (yx w b _) (yq _ _ _) hvt h3 ⟨_, el, setRow_heap w b cur _ el (0, 0) hh, λj hj => ?_⟩;rw [List.length_set] at hj;rw [hrow cur ix j rfl hle]
    by_cases hji : j = ix
    ·subst hji;rw [if_pos ⟨by omega, by simp [V.cells]⟩, hv'];simp [Value.cells, List.getD_eq_getElem?_getD, hj]
    ·rw [if_neg (by simp [V.cells]; omega), h6 j hj];simp [List.getD_eq_getElem?_getD, Ne.symm hji]
   | _ => rw [hvt] at h2; exact h2.elim
  | _ => exact h2.elim

end
end Go.Proofs.Ytffhmebkkbfaeaa
