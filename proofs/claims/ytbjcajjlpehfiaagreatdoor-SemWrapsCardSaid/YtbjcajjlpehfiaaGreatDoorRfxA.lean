/- What is defined here: an evaluator for translated Go code over a heap of its own numbering, written for the kernel to run. No condition. Nothing is proved here. -/
import Derived.Calls
import Derived.Orders
import Derived.LoopN
set_option linter.unusedVariables false
namespace Go.Rfx
open Go

/-- numbers as paths: e = 0, l k = 2k+1, r k = 2k+2 -/
inductive K where
  | e
  | l (k : K)
  | r (k : K)
  deriving DecidableEq, Inhabited, Repr

inductive T (α : Type) where
  | leaf
  | node (l : T α) (v : Option α) (r : T α)

/-- whose nil is asked for: a pointer's, a slice's, a map's, a function's, an interface's -/
inductive NK where
  | p
  | s
  | m
  | f
  | w
  deriving DecidableEq, Inhabited, Repr

/-- a slice's capacity: known; not known, of elements of so many cells -/
inductive Cp where
  | x (n : Nat)
  | o (sz : Nat)
  deriving DecidableEq, Inhabited, Repr

/-- numbers that are not known: a variable; a sum; a product, wrapped; times a power of two; the same, wrapped; by a power of two -/
inductive Ex where
  | v (n : Nat)
  | ad (x y : Ex)
  | wm (x y : Ex)
  | sl (x : Ex) (n : Nat)
  | ws (x : Ex) (n : Nat)
  | sr (x : Ex) (n : Nat)
  deriving Inhabited, Repr

/-- values: undefined; bool; int; string; pointer; slices (block, offset, length, capacity if it is known); maps; functions; interfaces; aggregates; tuples -/
inductive V where
  | u
  | b (x : Bool)
  | i (k : IntKind) (n : Int)
  | s (l : List Nat)
  | p (i : K) (o : Nat)
  | pn
  | sl (i : K) (o n : Nat) (c : Cp)
  | sn
  | m (i : K)
  | mn
  | f (f : K) (fs cs : List V)
  | fn
  | w (t : Nat) (v : V)
  | wn
  | a (l : List V)
  | t (l : List V)
  | y (lo hi : Int) (e : Ex)
  deriving Inhabited, Repr

/-- blocks: cells (read only?; can its address be compared?), maps -/
inductive B where
  | c (l : List V) (ro cl : Bool)
  | m (es : List (V × V))
  deriving Inhabited, Repr

inductive H where
  | mk (t : T B) (nx : K)

noncomputable section
-- BEGIN PRIM
def K.succ (k : K) : K := K.rec (motive := fun _ => K) (.l .e) (fun k _ => .r k) (fun _ ih => .l ih) k
def K.eq (k : K) : K → Bool :=
  K.rec (motive := fun _ => K → Bool) (fun b => K.casesOn b true (fun _ => false) (fun _ => false)) (fun _ ih b => K.casesOn b false ih (fun _ => false)) (fun _ ih b => K.casesOn b false (fun _ => false) ih) k
def T.get {α : Type} (k : K) : T α → Option α :=
  K.rec (motive := fun _ => T α → Option α) (fun t => T.casesOn t none (fun _ v _ => v)) (fun _ ih t => T.casesOn t none (fun l _ _ => ih l)) (fun _ ih t => T.casesOn t none (fun _ _ r => ih r)) k
/-- a tree in its head form handed on -/
def T.fc {α β : Type} (t : T α) (k : T α → β) : β := T.casesOn t (k .leaf) (fun l v r => k (.node l v r))
def T.put {α : Type} (x : Option α) (k : K) : T α → T α :=
  K.rec (motive := fun _ => T α → T α)
    (fun t => T.casesOn t (.node .leaf x .leaf) (fun l _ r => .node l x r))
    (fun _ ih t => T.casesOn t (T.fc (ih .leaf) fun l => .node l none .leaf) (fun l v r => T.fc (ih l) fun l => .node l v r))
    (fun _ ih t => T.casesOn t (T.fc (ih .leaf) fun r => .node .leaf none r) (fun l v r => T.fc (ih r) fun r => .node l v r)) k
/-- a number in its head form handed on -/
def nF {β : Type} (n : Nat) (k : Nat → β) : β := Nat.casesOn n (k 0) (fun m => k (Nat.succ m))
def iF {β : Type} (n : Int) (k : Int → β) : β := Int.casesOn n (fun n => nF n fun n => k (Int.ofNat n)) (fun n => nF n fun n => k (Int.negSucc n))
/-- a list with its whole spine handed on -/
def lF {α β : Type} (l : List α) : (List α → β) → β := List.rec (motive := fun _ => (List α → β) → β) (fun k => k []) (fun a _ ih k => ih fun r => k (a :: r)) l
def nth {α : Type} (l : List α) : Nat → Option α :=
  List.rec (motive := fun _ => Nat → Option α) (fun _ => none) (fun a _ ih n => Nat.casesOn n (some a) ih) l
/-- the first n; none: there are fewer -/
def takeL {α : Type} (l : List α) : Nat → Option (List α) :=
  List.rec (motive := fun _ => Nat → Option (List α)) (fun n => Nat.casesOn n (some []) (fun _ => none))
    (fun a _ ih n => Nat.casesOn n (some []) (fun m => Option.casesOn (ih m) none fun r => some (a :: r))) l
def dropL {α : Type} (l : List α) : Nat → List α :=
  List.rec (motive := fun _ => Nat → List α) (fun _ => []) (fun a r ih n => Nat.casesOn n (a :: r) ih) l
/-- these in the place of as many from the n-th on; none: there are fewer -/
def overL {α : Type} (vs : List α) (l : List α) : Nat → Option (List α) :=
  List.rec (motive := fun _ => Nat → Option (List α))
    (fun n => Nat.casesOn n (List.casesOn vs (some []) (fun _ _ => none)) (fun _ => none))
    (fun a r ih n => Nat.casesOn n
      (List.rec (motive := fun _ => List α → Option (List α)) (fun l => some l) (fun v _ ihv l => List.casesOn l none (fun _ r => Option.casesOn (ihv r) none fun r => some (v :: r))) vs (a :: r))
      (fun m => Option.casesOn (ih m) none fun r => some (a :: r))) l
def eqL (a : List Nat) : List Nat → Bool :=
  List.rec (motive := fun _ => List Nat → Bool) (fun b => List.casesOn b true (fun _ _ => false)) (fun x _ ih b => List.casesOn b false (fun y r => Bool.casesOn (Nat.beq x y) false (ih r))) a
def appL {α : Type} (a b : List α) : List α := List.rec (motive := fun _ => List α) b (fun x _ ih => x :: ih) a
def lenL {α : Type} (l : List α) : Nat := List.rec (motive := fun _ => Nat) 0 (fun _ _ ih => Nat.succ ih) l
-- END PRIM

def ob {α β : Type} (o : Option α) (k : α → Option β) : Option β := Option.casesOn o none k
def T.set {α : Type} (x : α) (k : K) (t : T α) : T α := T.put (some x) k t
def T.del {α : Type} (k : K) (t : T α) : T α := T.put none k t

section
variable {β : Type}
def V.bK (v : V) (d : β) (k : Bool → β) : β :=
  V.casesOn v d k (fun _ _ => d) (fun _ => d) (fun _ _ => d) d (fun _ _ _ _ => d) d (fun _ => d) d (fun _ _ _ => d) d (fun _ _ => d) d (fun _ => d) (fun _ => d) (fun _ _ _ => d)
def V.iK (v : V) (d : β) (k : IntKind → Int → β) : β :=
  V.casesOn v d (fun _ => d) k (fun _ => d) (fun _ _ => d) d (fun _ _ _ _ => d) d (fun _ => d) d (fun _ _ _ => d) d (fun _ _ => d) d (fun _ => d) (fun _ => d) (fun _ _ _ => d)
def V.sK (v : V) (d : β) (k : List Nat → β) : β :=
  V.casesOn v d (fun _ => d) (fun _ _ => d) k (fun _ _ => d) d (fun _ _ _ _ => d) d (fun _ => d) d (fun _ _ _ => d) d (fun _ _ => d) d (fun _ => d) (fun _ => d) (fun _ _ _ => d)
def V.pK (v : V) (d : β) (k : K → Nat → β) : β :=
  V.casesOn v d (fun _ => d) (fun _ _ => d) (fun _ => d) k d (fun _ _ _ _ => d) d (fun _ => d) d (fun _ _ _ => d) d (fun _ _ => d) d (fun _ => d) (fun _ => d) (fun _ _ _ => d)
def V.slK (v : V) (d z : β) (k : K → Nat → Nat → Cp → β) : β :=
  V.casesOn v d (fun _ => d) (fun _ _ => d) (fun _ => d) (fun _ _ => d) d k z (fun _ => d) d (fun _ _ _ => d) d (fun _ _ => d) d (fun _ => d) (fun _ => d) (fun _ _ _ => d)
def V.mK (v : V) (d z : β) (k : K → β) : β :=
  V.casesOn v d (fun _ => d) (fun _ _ => d) (fun _ => d) (fun _ _ => d) d (fun _ _ _ _ => d) d k z (fun _ _ _ => d) d (fun _ _ => d) d (fun _ => d) (fun _ => d) (fun _ _ _ => d)
def V.fK (v : V) (d : β) (k : K → List V → List V → β) : β :=
  V.casesOn v d (fun _ => d) (fun _ _ => d) (fun _ => d) (fun _ _ => d) d (fun _ _ _ _ => d) d (fun _ => d) d k d (fun _ _ => d) d (fun _ => d) (fun _ => d) (fun _ _ _ => d)
def V.aK (v : V) (d : β) (k : List V → β) : β :=
  V.casesOn v d (fun _ => d) (fun _ _ => d) (fun _ => d) (fun _ _ => d) d (fun _ _ _ _ => d) d (fun _ => d) d (fun _ _ _ => d) d (fun _ _ => d) d k (fun _ => d) (fun _ _ _ => d)
def V.tK (v : V) (d : β) (k : List V → β) : β :=
  V.casesOn v d (fun _ => d) (fun _ _ => d) (fun _ => d) (fun _ _ => d) d (fun _ _ _ _ => d) d (fun _ => d) d (fun _ _ _ => d) d (fun _ _ => d) d (fun _ => d) k (fun _ _ _ => d)
/-- is it nil? -/
def V.nK (nk : NK) (v : V) (d y n : β) : β :=
  NK.casesOn nk
    (V.casesOn v d (fun _ => d) (fun _ _ => d) (fun _ => d) (fun _ _ => n) y (fun _ _ _ _ => d) d (fun _ => d) d (fun _ _ _ => d) d (fun _ _ => d) d (fun _ => d) (fun _ => d) (fun _ _ _ => d))
    (V.casesOn v d (fun _ => d) (fun _ _ => d) (fun _ => d) (fun _ _ => d) d (fun _ _ _ _ => n) y (fun _ => d) d (fun _ _ _ => d) d (fun _ _ => d) d (fun _ => d) (fun _ => d) (fun _ _ _ => d))
    (V.casesOn v d (fun _ => d) (fun _ _ => d) (fun _ => d) (fun _ _ => d) d (fun _ _ _ _ => d) d (fun _ => n) y (fun _ _ _ => d) d (fun _ _ => d) d (fun _ => d) (fun _ => d) (fun _ _ _ => d))
    (V.casesOn v d (fun _ => d) (fun _ _ => d) (fun _ => d) (fun _ _ => d) d (fun _ _ _ _ => d) d (fun _ => d) d (fun _ _ _ => n) y (fun _ _ => d) d (fun _ => d) (fun _ => d) (fun _ _ _ => d))
    (V.casesOn v d (fun _ => d) (fun _ _ => d) (fun _ => d) (fun _ _ => d) d (fun _ _ _ _ => d) d (fun _ => d) d (fun _ _ _ => d) d (fun _ _ => n) y (fun _ => d) (fun _ => d) (fun _ _ _ => d))
/-- a value's cells; a value of one cell alone -/
def V.cK (v : V) (k : List V → β) (k1 : V → β) (d : β) : β :=
  V.casesOn v d (fun x => k1 (.b x)) (fun x n => k1 (.i x n)) (fun l => k1 (.s l)) (fun i o => k1 (.p i o)) (k1 .pn) (fun i o n c => k1 (.sl i o n c)) (k1 .sn) (fun i => k1 (.m i)) (k1 .mn) (fun f a c => k1 (.f f a c)) (k1 .fn) (fun t v => k1 (.w t v)) (k1 .wn) k (fun _ => d) (fun lo hi e => k1 (.y lo hi e))
def V.yK (v : V) (d : β) (k : Int → Int → Ex → β) : β :=
  V.casesOn v d (fun _ => d) (fun _ _ => d) (fun _ => d) (fun _ _ => d) d (fun _ _ _ _ => d) d (fun _ => d) d (fun _ _ _ => d) d (fun _ _ => d) d (fun _ => d) (fun _ => d) k
end

/-- operands: a slot, a constant -/
inductive A where
  | t (k : K)
  | c (v : V)
  deriving Inhabited, Repr

/-- how a map's keys are told apart -/
inductive KK where
  | i
  | s
  | p
  deriving DecidableEq, Inhabited, Repr

/-- operations that do not look into memory -/
inductive P where
  | mv (x : A)
  | pick (c x y : A)
  | bi (op : BinOp) (x y : A)
  | bs (op : BinOp) (x y : A)
  | bb (ne : Bool) (x y : A)
  | bn (nk : NK) (ne : Bool) (x y : A)
  | be (ne : Bool) (ks : List KK) (x y : A)
  | ng (x : A)
  | no (x : A)
  | xo (x : A)
  | cv (k : IntKind) (x : A)
  | cs (x : A)
  | wi (t : Nat) (x : A)
  | mf (f : K) (fs cs : List A)
  | ss (x : A) (lo hi : Option A)
  | sl (sz : Nat) (x : A) (lo hi mx : Option A)
  | fa (off : Nat) (x : A)
  | fd (ag : Bool) (n off : Nat) (x : A)
  | ia (sz : Nat) (x i : A)
  | iaa (len sz : Nat) (x i : A)
  | ix (x i : A)
  | ex (n : Nat) (x : A)
  | ln (x : A)
  | ls (x : A)
  | mm (mx : Bool) (x y : A)
  | bd (z : List V) (ps : List (Nat × Nat × A))
  | nc (x : A)
  | bad
  deriving Inhabited, Repr

/-- operations that look into memory -/
inductive Rd where
  | ld (ag : Bool) (n : Nat) (x : A)
  | lk (kk : KK) (z : V) (ok : Bool) (x i : A)
  | lm (x : A)
  | bs (x : A)
  deriving Inhabited, Repr

/-- operations that make a block -/
inductive Al where
  | bx (x : A)
  | sl (sz n : Nat) (z : List V) (ps : List (Nat × Nat × A))
  | mm
  | ms (sz : Nat) (z : List V) (n c : A)
  | sb (x : A)
  deriving Inhabited, Repr

/-- operations that do more -/
inductive E where
  | st (n : Nat) (a x : A)
  | mu (kk : KK) (m i x : A)
  | ap (sz : Nat) (s x : A)
  | ca (f : K) (as : List A)
  | cv (f : A) (as : List A)
  deriving Inhabited, Repr

inductive O where
  | p (o : P)
  | r (o : Rd)
  | a (o : Al)
  | e (o : E)
  deriving Inhabited, Repr

/-- an operation: where its value goes, under what it is done -/
inductive CO where
  | mk (d : Option K) (g : Option (K × Bool)) (o : O)
  deriving Inhabited, Repr

/-- a step of a region whose order is open: operation k is done, or asked again; with a block hidden -/
inductive St where
  | mk (k : Nat) (chk hid : Bool) (c : CO)
  deriving Inhabited, Repr

inductive C where
  | skip
  | rg (l : List CO)
  | dr (n : Nat) (lo : Option A) (l : List St)
  | d2 (n : Nat) (l m : List St)
  | seq (x y : C)
  | cond (c : A) (x y : C)
  | block (id : Nat) (x : C)
  | loop (x : C)
  | exit (id : Nat)
  | ret
  | bad
  deriving Inhabited, Repr

inductive Rs where
  | t (k : K)
  | c (k : K) (ag : Bool) (n : Nat)
  deriving Inhabited, Repr

inductive CF where
  | mk (body : C) (res : List Rs)
  deriving Inhabited, Repr

/-- what an operation comes to; what code comes to -/
inductive OR where
  | err
  | ok (v : V) (h : H)
inductive R where
  | err
  | n (f : T V) (h : H)
  | x (id : Nat) (f : T V) (h : H)
  | t (f : T V) (h : H)

section
variable (F : T V)
def gA (a : A) : Option V := A.casesOn a (fun k => T.get k F) some
def gAs (l : List A) : Option (List V) := List.rec (motive := fun _ => Option (List V)) (some []) (fun a _ ih => ob (gA F a) fun v => ob ih fun r => some (v :: r)) l
def gO (o : Option A) : Option (Option V) := Option.casesOn o (some none) fun a => ob (gA F a) fun v => some (some v)
end

/-! ### numbers -/
def ilt (x y : Int) : Bool := Int.casesOn x (fun a => Int.casesOn y (fun b => Nat.blt a b) (fun _ => false)) (fun a => Int.casesOn y (fun _ => true) (fun b => Nat.blt b a))
def ieq (x y : Int) : Bool := Int.casesOn x (fun a => Int.casesOn y (fun b => Nat.beq a b) (fun _ => false)) (fun a => Int.casesOn y (fun _ => false) (fun b => Nat.beq a b))
/-- x - y of Nats -/
def nsub (x y : Nat) : Int := Bool.casesOn (Nat.blt x y) (Int.ofNat (Nat.sub x y)) (Int.negSucc (Nat.sub (Nat.sub y x) 1))
def iadd (x y : Int) : Int := Int.casesOn x (fun a => Int.casesOn y (fun b => Int.ofNat (Nat.add a b)) (fun b => nsub a (Nat.succ b))) (fun a => Int.casesOn y (fun b => nsub b (Nat.succ a)) (fun b => Int.negSucc (Nat.succ (Nat.add a b))))
def ineg (x : Int) : Int := Int.casesOn x (fun a => nsub 0 a) (fun a => Int.ofNat (Nat.succ a))
def wrp (k : IntKind) (n : Int) : Int :=
  IntKind.casesOn k (k.wrap n) (k.wrap n) (k.wrap n)
    (Int.casesOn n (fun m => Bool.casesOn (Nat.blt m 9223372036854775808) (k.wrap n) (Int.ofNat m)) (fun m => Bool.casesOn (Nat.blt m 9223372036854775808) (k.wrap n) (Int.negSucc m)))
    (Int.casesOn n (fun m => Int.ofNat (Nat.mod m 256)) (fun _ => k.wrap n)) (k.wrap n) (k.wrap n)
    (Int.casesOn n (fun m => Int.ofNat (Nat.mod m 18446744073709551616)) (fun _ => k.wrap n))
/-- a number as a value, its kind beside it -/
def vI (k : IntKind) (n : Int) : Option V := iF (wrp k n) fun n => some (.i k n)
def vB (b : Bool) : Option V := Bool.casesOn b (some (.b false)) (some (.b true))
def eqK (a b : IntKind) : Bool := decide (a = b)
def bits (op : BinOp) (k : IntKind) (x y : Int) : Option Int :=
  match op with
  | .and => some ((BitVec.ofInt k.bits x &&& BitVec.ofInt k.bits y).toNat : Int)
  | .or => some ((BitVec.ofInt k.bits x ||| BitVec.ofInt k.bits y).toNat : Int)
  | .xor => some ((BitVec.ofInt k.bits x ^^^ BitVec.ofInt k.bits y).toNat : Int)
  | .andNot => some ((BitVec.ofInt k.bits x &&& ~~~BitVec.ofInt k.bits y).toNat : Int)
  | _ => none
def shN (k : IntKind) (y : Int) : Nat := min y.toNat k.bits
def biS (op : BinOp) (k : IntKind) (x y : Int) : Option V :=
  Bool.casesOn (ilt y 0) (match op with
  | .shl => vI k (x * (2 ^ shN k y : Nat))
  | .shr => iF (x.fdiv (2 ^ shN k y : Nat)) fun n => some (.i k n)
  | _ => none) none
def biD (op : BinOp) (k : IntKind) (x y : Int) : Option V :=
  Bool.casesOn (ieq y 0) (match op with
  | .quo => vI k (x.tdiv y)
  | .rem => iF (x.tmod y) fun n => some (.i k n)
  | _ => none) none
def biA (op : BinOp) (k : IntKind) (x y : Int) : Option V :=
  match op with
  | .add => vI k (iadd x y)
  | .sub => vI k (iadd x (ineg y))
  | .mul => vI k (x * y)
  | .quo | .rem => biD op k x y
  | .and | .or | .xor | .andNot => ob (bits op k x y) fun n => vI k n
  | .eql => vB (ieq x y)
  | .neq => vB (Bool.not (ieq x y))
  | .lss => vB (ilt x y)
  | .leq => vB (Bool.not (ilt y x))
  | .gtr => vB (ilt y x)
  | .geq => vB (Bool.not (ilt x y))
  | _ => none
def isSh (op : BinOp) : Bool := match op with | .shl | .shr => true | _ => false
def biI (op : BinOp) (k : IntKind) (x : Int) (k' : IntKind) (y : Int) : Option V :=
  Bool.casesOn (isSh op) (Bool.casesOn (eqK k k') none (biA op k x y)) (biS op k x y)
/-- are two such numbers one? -/
def Ex.eq (a : Ex) : Ex → Bool :=
  Ex.rec (motive := fun _ => Ex → Bool)
    (fun n b => Ex.casesOn b (fun m => Nat.beq n m) (fun _ _ => false) (fun _ _ => false) (fun _ _ => false) (fun _ _ => false) (fun _ _ => false))
    (fun _ _ ix iy b => Ex.casesOn b (fun _ => false) (fun x y => Bool.casesOn (ix x) false (iy y)) (fun _ _ => false) (fun _ _ => false) (fun _ _ => false) (fun _ _ => false))
    (fun _ _ ix iy b => Ex.casesOn b (fun _ => false) (fun _ _ => false) (fun x y => Bool.casesOn (ix x) false (iy y)) (fun _ _ => false) (fun _ _ => false) (fun _ _ => false))
    (fun _ n ix b => Ex.casesOn b (fun _ => false) (fun _ _ => false) (fun _ _ => false) (fun x m => Bool.casesOn (ix x) false (Nat.beq n m)) (fun _ _ => false) (fun _ _ => false))
    (fun _ n ix b => Ex.casesOn b (fun _ => false) (fun _ _ => false) (fun _ _ => false) (fun _ _ => false) (fun x m => Bool.casesOn (ix x) false (Nat.beq n m)) (fun _ _ => false))
    (fun _ n ix b => Ex.casesOn b (fun _ => false) (fun _ _ => false) (fun _ _ => false) (fun _ _ => false) (fun _ _ => false) (fun x m => Bool.casesOn (ix x) false (Nat.beq n m))) a
def yV (lo hi : Int) (e : Ex) : Option V := iF lo fun lo => iF hi fun hi => some (.y lo hi e)
def yFull (e : Ex) : Option V := some (.y (Int.negSucc 9223372036854775807) (Int.ofNat 9223372036854775807) e)
def yShl (lo hi : Int) (e : Ex) (n : Nat) : Option V :=
  Bool.casesOn (ilt lo 0) (Bool.casesOn (ilt (hi * (2 ^ n : Nat)) 9223372036854775808) (yFull (.ws e n)) (yV (lo * (2 ^ n : Nat)) (hi * (2 ^ n : Nat)) (.sl e n))) (yFull (.ws e n))
def ySr (lo hi : Int) (e : Ex) (n : Nat) : Option V := yV (lo.fdiv (2 ^ n : Nat)) (hi.fdiv (2 ^ n : Nat)) (.sr e n)
def yShr (lo hi : Int) (e : Ex) (n : Nat) : Option V :=
  Ex.casesOn e (fun _ => ySr lo hi e n) (fun _ _ => ySr lo hi e n) (fun _ _ => ySr lo hi e n)
    (fun x m => Bool.casesOn (Nat.beq m n) (ySr lo hi e n) (yV (lo.fdiv (2 ^ n : Nat)) (hi.fdiv (2 ^ n : Nat)) x)) (fun _ _ => ySr lo hi e n) (fun _ _ => ySr lo hi e n)
def biYS (op : BinOp) (lo hi : Int) (e : Ex) (c : Int) : Option V :=
  Bool.casesOn (ilt c 0) (nF (shN .i64 c) fun n => match op with
    | .shl => yShl lo hi e n
    | .shr => yShr lo hi e n
    | _ => none) none
/-- one is not known -/
def biY (op : BinOp) (lo hi : Int) (e : Ex) (k : IntKind) (c : Int) : Option V :=
  Bool.casesOn (isSh op) (Bool.casesOn (eqK .i64 k) none (match op with
    | .lss => Bool.casesOn (ilt hi c) (Bool.casesOn (ilt lo c) (some (.b false)) none) (some (.b true))
    | .geq => Bool.casesOn (ilt hi c) (Bool.casesOn (ilt lo c) (some (.b true)) none) (some (.b false))
    | .gtr => Bool.casesOn (ilt c lo) (Bool.casesOn (ilt c hi) (some (.b false)) none) (some (.b true))
    | .leq => Bool.casesOn (ilt c lo) (Bool.casesOn (ilt c hi) (some (.b true)) none) (some (.b false))
    | _ => none)) (biYS op lo hi e c)
/-- both are not known -/
def biYY (op : BinOp) (lo hi : Int) (e : Ex) (lo' hi' : Int) (e' : Ex) : Option V :=
  match op with
  | .add => Bool.casesOn (ilt (iadd lo lo') (Int.negSucc 9223372036854775807)) (Bool.casesOn (ilt (iadd hi hi') 9223372036854775808) none (yV (iadd lo lo') (iadd hi hi') (.ad e e'))) none
  | .mul => yFull (.wm e e')
  | _ => none
def biV (op : BinOp) (v w : V) : Option V :=
  v.yK (v.iK none fun k a => w.iK none fun k' b => biI op k a k' b) fun lo hi e => w.yK (w.iK none fun k c => biY op lo hi e k c) fun lo' hi' e' => biYY op lo hi e lo' hi' e'
def biT (op : BinOp) (x y : List Nat) : Option V :=
  match op with
  | .eql => vB (eqL x y)
  | .neq => vB (Bool.not (eqL x y))
  | .add => Bool.casesOn (Nat.ble (Nat.add (lenL x) (lenL y)) 1000000) none (lF (appL x y) fun l => some (.s l))
  | _ => none

/-! ### values without memory -/
section
variable (F : T V)
def pPick (c x y : A) : Option V := ob (gA F c) fun v => v.bK none fun b => Bool.casesOn b (gA F y) (gA F x)
def pBi (op : BinOp) (x y : A) : Option V := ob (gA F x) fun v => ob (gA F y) fun w => biV op v w
def pBs (op : BinOp) (x y : A) : Option V := ob (gA F x) fun v => v.sK none fun a => ob (gA F y) fun w => w.sK none fun b => biT op a b
def xorB (a b : Bool) : Bool := Bool.casesOn a b (Bool.not b)
def pBb (ne : Bool) (x y : A) : Option V := ob (gA F x) fun v => v.bK none fun a => ob (gA F y) fun w => w.bK none fun b => vB (xorB ne (Bool.not (xorB a b)))
/-- one of the two is nil -/
def pBn (nk : NK) (ne : Bool) (x y : A) : Option V :=
  ob (gA F x) fun v => ob (gA F y) fun w => V.nK nk v none (V.nK nk w none (vB (Bool.not ne)) (vB ne)) (V.nK nk w none (vB ne) none)
def eqV (kk : KK) (v w : V) : Option Bool :=
  KK.casesOn kk (v.yK (v.iK none fun k a => w.iK none fun k' b => Bool.casesOn (eqK k k') none (some (ieq a b))) fun _ _ e => w.yK none fun _ _ e' => Bool.casesOn (Ex.eq e e') none (some true))
    (v.sK none fun a => w.sK none fun b => some (eqL a b)) (v.bK none fun a => w.bK none fun b => some (Bool.not (xorB a b)))
/-- two structs of plain cells -/
def eqVs (ks : List KK) : List V → List V → Option Bool :=
  List.rec (motive := fun _ => List V → List V → Option Bool) (fun a b => List.casesOn a (List.casesOn b (some true) (fun _ _ => none)) (fun _ _ => none))
    (fun k _ ih a b => List.casesOn a none fun x a => List.casesOn b none fun y b => ob (eqV k x y) fun q => Bool.casesOn q (some false) (ih a b)) ks
def pBe (ne : Bool) (ks : List KK) (x y : A) : Option V :=
  ob (gA F x) fun v => v.aK none fun a => ob (gA F y) fun w => w.aK none fun b => ob (eqVs ks a b) fun q => vB (xorB ne q)
def pNg (x : A) : Option V := ob (gA F x) fun v => v.iK none fun k a => vI k (ineg a)
def pNo (x : A) : Option V := ob (gA F x) fun v => v.bK none fun a => vB (Bool.not a)
def pXo (x : A) : Option V := ob (gA F x) fun v => v.iK none fun k a => vI k ((BitVec.ofInt k.bits (if k.signed then -1 else k.max) ^^^ BitVec.ofInt k.bits a).toNat : Int)
def pCv (k : IntKind) (x : A) : Option V := ob (gA F x) fun v => v.iK none fun _ a => vI k a
def pWi (t : Nat) (x : A) : Option V := ob (gA F x) fun v => some (.w t v)
def pMf (f : K) (fs cs : List A) : Option V := ob (gAs F fs) fun a => ob (gAs F cs) fun c => some (.f f a c)
/-- a bound: a number from lo to hi -/
def bnd (v : V) (lo hi : Nat) : Option Nat :=
  v.iK none fun _ n => Int.casesOn n (fun n => Bool.casesOn (Nat.ble lo n) none (Bool.casesOn (Nat.ble n hi) none (some n))) (fun _ => none)
def bndO (o : Option V) (d lo hi : Nat) : Option Nat := Option.casesOn o (some d) fun v => bnd v lo hi
def pSs (x : A) (lo hi : Option A) : Option V :=
  ob (gA F x) fun v => v.sK none fun s => ob (gO F lo) fun lo => ob (gO F hi) fun hi =>
  ob (bndO hi (lenL s) 0 (lenL s)) fun h => ob (bndO lo 0 0 h) fun l => ob (takeL (dropL s l) (Nat.sub h l)) fun r => some (.s r)
def nV {β : Type} (n : Nat) (k : Nat → β) : β := nF n k
def slV (i : K) (o n : Nat) (c : Cp) : Option V :=
  nF o fun o => nF n fun n => Cp.casesOn c (fun c => nF c fun c => some (.sl i o n (.x c))) (fun z => some (.sl i o n (.o z)))
/-- l, h, m of a slice -/
def slI (sz : Nat) (i : K) (o n : Nat) (c : Cp) (lo hi mx : Option V) : Option V :=
  Cp.casesOn c
    (fun c => ob (bndO mx c 0 c) fun m => ob (Option.casesOn hi (Option.casesOn mx (some n) fun _ => none) fun hi => bnd hi 0 m) fun h => ob (bndO lo 0 0 h) fun l =>
      Bool.casesOn (Nat.beq m l) (slV i (Nat.add o (Nat.mul l sz)) (Nat.sub h l) (.x (Nat.sub m l))) (slV i o (Nat.sub h l) (.x (Nat.sub m l))))
    -- of a capacity that is not known: n at least
    (fun z => Bool.casesOn (Nat.beq sz z) none (Option.casesOn mx
      (ob (bndO hi n 0 n) fun h => ob (bndO lo 0 0 h) fun l => Bool.casesOn (Nat.beq l 0) (Bool.casesOn (Nat.blt l n) none (slV i (Nat.add o (Nat.mul l sz)) (Nat.sub h l) (.o z))) (slV i o h (.o z)))
      (fun mx => ob (bnd mx 0 n) fun m => ob (Option.casesOn hi none fun hi => bnd hi 0 m) fun h => ob (bndO lo 0 0 h) fun l =>
        Bool.casesOn (Nat.beq m l) (slV i (Nat.add o (Nat.mul l sz)) (Nat.sub h l) (.x (Nat.sub m l))) (slV i o (Nat.sub h l) (.x (Nat.sub m l))))))
/-- of nil: nothing but zeros -/
def slZ (lo hi mx : Option V) : Option V :=
  ob (bndO mx 0 0 0) fun _ => ob (Option.casesOn hi (Option.casesOn mx (some 0) fun _ => none) fun hi => bnd hi 0 0) fun _ => ob (bndO lo 0 0 0) fun _ => some .sn
def pSl (sz : Nat) (x : A) (lo hi mx : Option A) : Option V :=
  ob (gA F x) fun v => ob (gO F lo) fun lo => ob (gO F hi) fun hi => ob (gO F mx) fun mx => v.slK none (slZ lo hi mx) fun i o n c => slI sz i o n c lo hi mx
def pFa (off : Nat) (x : A) : Option V := ob (gA F x) fun v => v.pK none fun i o => nF (Nat.add o off) fun o => some (.p i o)
def pFd (ag : Bool) (n off : Nat) (x : A) : Option V :=
  ob (gA F x) fun v => v.aK none fun l => Bool.casesOn ag (nth l off) (ob (takeL (dropL l off) n) fun r => some (.a r))
def pIa (sz : Nat) (x i : A) : Option V :=
  ob (gA F x) fun v => ob (gA F i) fun w => w.iK none fun _ j => Int.casesOn j (fun j => v.slK none none fun i o n _ => Bool.casesOn (Nat.blt j n) none (nF (Nat.add o (Nat.mul j sz)) fun o => some (.p i o))) (fun _ => none)
def pIaa (len sz : Nat) (x i : A) : Option V :=
  ob (gA F x) fun v => ob (gA F i) fun w => w.iK none fun _ j => Int.casesOn j (fun j => v.pK none fun i o => Bool.casesOn (Nat.blt j len) none (nF (Nat.add o (Nat.mul j sz)) fun o => some (.p i o))) (fun _ => none)
def pIx (x i : A) : Option V :=
  ob (gA F x) fun v => v.sK none fun s => ob (gA F i) fun w => w.iK none fun _ j => Int.casesOn j (fun j => ob (nth s j) fun c => some (.i .u8 (Int.ofNat c))) (fun _ => none)
def pEx (n : Nat) (x : A) : Option V := ob (gA F x) fun v => v.tK none fun l => nth l n
def pLn (x : A) : Option V := ob (gA F x) fun v => v.slK none (some (.i .i64 (Int.ofNat 0))) fun _ _ n _ => some (.i .i64 (Int.ofNat n))
def pLs (x : A) : Option V := ob (gA F x) fun v => v.sK none fun s => nF (lenL s) fun n => some (.i .i64 (Int.ofNat n))
def pCs (x : A) : Option V := ob (gA F x) fun v => v.sK none fun s => some (.s s)
def pMm (mx : Bool) (x y : A) : Option V :=
  ob (gA F x) fun v => v.iK none fun k a => ob (gA F y) fun w => w.iK none fun k' b => Bool.casesOn mx (Bool.casesOn (ilt b a) (some (.i k a)) (some (.i k b))) (Bool.casesOn (ilt a b) (some (.i k a)) (some (.i k b)))
/-- a value of one cell -/
def V.one (v : V) : Bool := v.cK (fun _ => false) (fun _ => true) false
def ones (l : List V) : Bool := List.rec (motive := fun _ => Bool) true (fun v _ ih => Bool.casesOn v.one false ih) l
/-- a value's cells -/
def cells (v : V) : Option (List V) := v.cK some (fun v => some [v]) none
def fillP (ps : List (Nat × Nat × A)) : List V → Option (List V) :=
  List.rec (motive := fun _ => List V → Option (List V)) some (fun p _ ih l => ob (gA F p.2.2) fun v => ob (cells v) fun c => Bool.casesOn (Nat.beq (lenL c) p.2.1) none (ob (overL c l p.1) ih)) ps
def pBd (z : List V) (ps : List (Nat × Nat × A)) : Option V := ob (fillP F ps z) fun l => some (.a l)
def pNc (x : A) : Option V := ob (gA F x) fun v => v.pK (v.fK none fun f a c => some (.f f a c)) fun i o => some (.p i o)
def evP (o : P) : Option V :=
  P.casesOn o (gA F) (pPick F) (pBi F) (pBs F) (pBb F) (pBn F) (pBe F) (pNg F) (pNo F) (pXo F) (pCv F) (pCs F) (pWi F) (pMf F) (pSs F) (pSl F) (pFa F) (pFd F) (pIa F) (pIaa F) (pIx F) (pEx F) (pLn F) (pLs F) (pMm F) (pBd F) (pNc F) none
end

/-! ### memory -/
def H.t (h : H) : T B := H.casesOn h fun t _ => t
def H.nx (h : H) : K := H.casesOn h fun _ n => n
def H.get (h : H) (k : K) : Option B := H.casesOn h fun t _ => T.get k t
def bC {β : Type} (b : B) (d : β) (k : List V → Bool → Bool → β) : β := B.casesOn b k (fun _ => d)
def bM {β : Type} (b : B) (d : β) (k : List (V × V) → β) : β := B.casesOn b (fun _ _ _ => d) k

/-- can this pointer be told from others? -/
def clear (h : H) (i : K) : Bool := Option.casesOn (h.get i) false fun b => bC b false fun _ _ cl => cl
def keyEq (h : H) (kk : KK) (v w : V) : Option Bool :=
  KK.casesOn kk (v.iK none fun k a => w.iK none fun k' b => Bool.casesOn (eqK k k') none (some (ieq a b))) (v.sK none fun a => w.sK none fun b => some (eqL a b))
    (v.pK none fun i o => w.pK none fun j q => Bool.casesOn (clear h i) none (Bool.casesOn (clear h j) none (some (Bool.casesOn (K.eq i j) false (Nat.beq o q)))))
def find (h : H) (kk : KK) (k : V) (es : List (V × V)) : Option (Option V) :=
  List.rec (motive := fun _ => Option (Option V)) (some none) (fun e _ ih => ob (keyEq h kk k e.1) fun q => Bool.casesOn q ih (some (some e.2))) es
def upd (h : H) (kk : KK) (k x : V) (es : List (V × V)) : Option (List (V × V)) :=
  List.rec (motive := fun _ => Option (List (V × V))) (some [(k, x)]) (fun e r ih => ob (keyEq h kk k e.1) fun q => Bool.casesOn q (ob ih fun r => some (e :: r)) (some ((k, x) :: r))) es
def okKey (kk : KK) (k : V) : Bool := KK.casesOn kk (k.iK false fun _ _ => true) (k.sK false fun _ => true) (k.pK false fun _ _ => true)

section
variable (F : T V) (h : H)
def loadC (i : K) (o n : Nat) : Option (List V) := ob (h.get i) fun b => bC b none fun l _ _ => takeL (dropL l o) n
def rLd (ag : Bool) (n : Nat) (x : A) : Option V :=
  ob (gA F x) fun v => v.pK none fun i o => ob (h.get i) fun b => bC b none fun l _ _ => Bool.casesOn ag (nth l o) (ob (takeL (dropL l o) n) fun r => some (.a r))
def okV (ok : Bool) (v : V) (q : Bool) : V := Bool.casesOn ok v (.t [v, .b q])
def rLk (kk : KK) (z : V) (ok : Bool) (x i : A) : Option V :=
  ob (gA F x) fun v => ob (gA F i) fun k => Bool.casesOn (okKey kk k) none (v.mK none (some (okV ok z false)) fun m => ob (h.get m) fun b => bM b none fun es => ob (find h kk k es) fun r => Option.casesOn r (some (okV ok z false)) fun v => some (okV ok v true))
def rLm (x : A) : Option V := ob (gA F x) fun v => v.mK none (some (.i .i64 (Int.ofNat 0))) fun m => ob (h.get m) fun b => bM b none fun es => nF (lenL es) fun n => some (.i .i64 (Int.ofNat n))
def byteOf (v : V) : Option Nat := v.iK none fun k n => Bool.casesOn (eqK k .u8) none (Int.casesOn n (fun n => Bool.casesOn (Nat.blt n 256) none (some n)) (fun _ => none))
def bytesOf (l : List V) : Option (List Nat) := List.rec (motive := fun _ => Option (List Nat)) (some []) (fun v _ ih => ob (byteOf v) fun n => ob ih fun r => some (n :: r)) l
def rBs (x : A) : Option V := ob (gA F x) fun v => v.slK none (some (.s [])) fun i o n _ => ob (loadC h i o n) fun l => ob (bytesOf l) fun r => some (.s r)
def evR (o : Rd) : Option V := Rd.casesOn o (rLd F h) (rLk F h) (rLm F h) (rBs F h)
end

/-- so many times these -/
def repL {α : Type} (z : List α) (n : Nat) : List α := Nat.rec (motive := fun _ => List α) [] (fun _ ih => appL z ih) n
section
variable (F : T V) (nid : K)
def aBx (x : A) : Option (V × B) := ob (gA F x) fun v => ob (cells v) fun l => some (.p nid 0, .c l false true)
def aSl (sz n : Nat) (z : List V) (ps : List (Nat × Nat × A)) : Option (V × B) :=
  ob (fillP F ps (repL z n)) fun l => some (.sl nid 0 n (.x n), .c l false true)
def aMs (sz : Nat) (z : List V) (n c : A) : Option (V × B) :=
  ob (gA F c) fun w => ob (bnd w 0 1000000) fun c => ob (gA F n) fun v => ob (bnd v 0 c) fun n => nF n fun n => nF c fun c => lF (repL z c) fun l => some (.sl nid 0 n (.x c), .c l false true)
def byteV (n : Nat) : V := .i .u8 (Int.ofNat n)
def bytesV (l : List Nat) : List V := List.rec (motive := fun _ => List V) [] (fun n _ ih => byteV n :: ih) l
def aSb (x : A) : Option (V × B) := ob (gA F x) fun v => v.sK none fun s => nF (lenL s) fun n => lF (bytesV s) fun l => some (.sl nid 0 n (.o 1), .c l false false)
def evA (o : Al) : Option (V × B) := Al.casesOn o (aBx F nid) (aSl F nid) (some (.m nid, .m [])) (aMs F nid) (aSb F nid)
end

def hF {β : Type} (t : T B) (nx : K) (k : H → β) : β := T.fc t fun t => k (.mk t nx)
def H.set (h : H) (i : K) (b : B) : H := H.casesOn h fun t nx => hF (T.set b i t) nx fun h => h
def H.del (h : H) (i : K) : H := H.casesOn h fun t nx => hF (T.del i t) nx fun h => h

def okO (o : Option OR) : OR := Option.casesOn o .err fun r => r
section
variable (cl : K → List V → H → OR) (F : T V) (nid : K) (h : H)
def eSt (n : Nat) (a x : A) : OR :=
  okO (ob (gA F a) fun v => v.pK none fun i o => ob (gA F x) fun w => ob (cells w) fun c => Bool.casesOn (Nat.beq (lenL c) n) none <| Bool.casesOn (ones c) none
    (ob (h.get i) fun b => bC b none fun l ro cl => Bool.casesOn ro (ob (overL c l o) fun l => some (.ok .u (h.set i (.c l false cl)))) none))
def eMu (kk : KK) (m i x : A) : OR :=
  okO (ob (gA F m) fun v => v.mK none none fun j => ob (gA F i) fun k => ob (gA F x) fun x => Bool.casesOn (okKey kk k) none (ob (h.get j) fun b => bM b none fun es => ob (upd h kk k x es) fun es => some (.ok .u (h.set j (.m es)))))
/-- what is appended -/
def news (sz : Nat) (v : V) : Option (Nat × List V) :=
  v.slK (v.sK none fun s => Bool.casesOn (Nat.beq sz 1) none (nF (lenL s) fun n => lF (bytesV s) fun l => some (n, l))) (some (0, [])) fun i o n _ => ob (loadC h i o (Nat.mul n sz)) fun l => some (n, l)
def ap0 (sz m : Nat) (l : List V) : OR := .ok (.sl nid 0 m (.o sz)) (h.set nid (.c l false true))
def apI (sz m : Nat) (l : List V) (i : K) (o n : Nat) (c : Cp) : OR :=
  okO (ob (h.get i) fun b => bC b none fun cs ro cl => Cp.casesOn c
    (fun c => Bool.casesOn (Nat.ble (Nat.add n m) c)
      (ob (takeL (dropL cs o) (Nat.mul n sz)) fun old => nF (Nat.add n m) fun q => lF (appL old l) fun r => some (.ok (.sl nid 0 q (.o sz)) (h.set nid (.c r false true))))
      (Bool.casesOn ro (ob (overL l cs (Nat.add o (Nat.mul n sz))) fun cs => nF (Nat.add n m) fun q => some (.ok (.sl i o q (.x c)) (h.set i (.c cs false cl)))) none))
    (fun z => Bool.casesOn (Nat.beq o 0) none (Bool.casesOn ro (Bool.casesOn cl none (Bool.casesOn (Nat.beq sz z) none (Bool.casesOn (Nat.beq (lenL cs) (Nat.mul n sz)) none
      (nF (Nat.add n m) fun q => lF (appL cs l) fun r => some (.ok (.sl nid 0 q (.o sz)) ((h.del i).set nid (.c r false true))))))) none)))
def eAp (sz : Nat) (s x : A) : OR :=
  okO (ob (gA F s) fun v => ob (gA F x) fun w => ob (news h sz w) fun p => Bool.casesOn (Nat.ble p.1 100000) none <| Bool.casesOn (ones p.2) none (Bool.casesOn (Nat.beq p.1 0)
    (v.slK none (some (ap0 nid h sz p.1 p.2)) fun i o n c => Bool.casesOn (Nat.ble n 100000) none (some (apI nid h sz p.1 p.2 i o n c)))
    (v.slK none (some (.ok .sn h)) fun i o n c => Cp.casesOn c (fun q => Bool.casesOn (Nat.ble n q) none (some (.ok (.sl i o n (.x q)) h))) (fun z => some (.ok (.sl i o n (.o z)) h)))))
def eCa (f : K) (as : List A) : OR := Option.casesOn (gAs F as) .err fun l => cl f l h
def eCv (f : A) (as : List A) : OR := Option.casesOn (gA F f) .err fun v => v.fK .err fun f a c => Option.casesOn (gAs F as) .err fun l => cl f (appL a (appL l c)) h
def evE (o : E) : OR := E.casesOn o (eSt F h) (eMu F h) (eAp F nid h) (eCa cl F h) (eCv cl F h)
end

def vO (o : Option V) (h : H) : OR := Option.casesOn o .err fun v => .ok v h
def evO (cl : K → List V → H → OR) (F : T V) (nid : K) (h : H) (o : O) : OR :=
  O.casesOn o (fun o => vO (evP F o) h) (fun o => vO (evR F h o) h) (fun o => Option.casesOn (evA F nid o) .err fun r => .ok r.1 (h.set nid r.2)) (evE cl F nid h)

/-- is it done? -/
def want (F : T V) (g : Option (K × Bool)) : Option Bool :=
  Option.casesOn g (some true) fun p => ob (T.get p.1 F) fun v => v.bK (some false) fun b => some (Bool.not (xorB b p.2))
def putD {β : Type} (d : Option K) (v : V) (F : T V) (k : T V → β) : β := Option.casesOn d (k F) fun d => T.fc (T.set v d F) k

def ev1 (cl : K → List V → H → OR) (F : T V) (nid : K) (h : H) (c : CO) (k : T V → H → R) : R :=
  CO.casesOn c fun d g o => Option.casesOn (want F g) .err fun q => Bool.casesOn q (putD d .u F fun F => k F h) (OR.casesOn (evO cl F nid h o) .err fun v h => putD d v F fun F => k F h)
def H.up (h : H) : H := H.casesOn h fun t nx => .mk t nx.succ
/-- the operations in the text's order -/
def evL (cl : K → List V → H → OR) (l : List CO) : T V → H → R :=
  List.rec (motive := fun _ => T V → H → R) .n (fun c _ ih F h => ev1 cl F h.nx h.up c ih) l
def kAdd (k : K) (n : Nat) : K := Nat.rec (motive := fun _ => K) k (fun _ ih => ih.succ) n
/-- so many numbers are set aside -/
def H.bump (h : H) (n : Nat) : H := H.casesOn h fun t nx => .mk t (kAdd nx n)

/-- are two values one? -/
def eqF (n : Nat) : V → V → Bool :=
  Nat.rec (motive := fun _ => V → V → Bool) (fun _ _ => false) (fun _ ih v w =>
    let ls : List V → List V → Bool := fun a => List.rec (motive := fun _ => List V → Bool) (fun b => List.casesOn b true (fun _ _ => false)) (fun x _ ihl b => List.casesOn b false (fun y b => Bool.casesOn (ih x y) false (ihl b))) a
    V.casesOn v (V.casesOn w true (fun _ => false) (fun _ _ => false) (fun _ => false) (fun _ _ => false) false (fun _ _ _ _ => false) false (fun _ => false) false (fun _ _ _ => false) false (fun _ _ => false) false (fun _ => false) (fun _ => false) (fun _ _ _ => false))
      (fun a => w.bK false fun b => Bool.not (xorB a b)) (fun k a => w.iK false fun k' b => Bool.casesOn (eqK k k') false (ieq a b)) (fun a => w.sK false fun b => eqL a b)
      (fun i o => w.pK false fun j q => Bool.casesOn (K.eq i j) false (Nat.beq o q)) (V.nK .p w false true false)
      (fun i o n c => w.slK false false fun j q m d => Bool.casesOn (K.eq i j) false (Bool.casesOn (Nat.beq o q) false (Bool.casesOn (Nat.beq n m) false
        (Cp.casesOn c (fun c => Cp.casesOn d (fun d => Nat.beq c d) (fun _ => false)) (fun c => Cp.casesOn d (fun _ => false) (fun d => Nat.beq c d))))))
      (V.nK .s w false true false) (fun i => w.mK false false fun j => K.eq i j) (V.nK .m w false true false)
      (fun f a c => w.fK false fun g b d => Bool.casesOn (K.eq f g) false (Bool.casesOn (ls a b) false (ls c d))) (V.nK .f w false true false)
      (fun t x => V.casesOn w false (fun _ => false) (fun _ _ => false) (fun _ => false) (fun _ _ => false) false (fun _ _ _ _ => false) false (fun _ => false) false (fun _ _ _ => false) false (fun u y => Bool.casesOn (Nat.beq t u) false (ih x y)) false (fun _ => false) (fun _ => false) (fun _ _ _ => false))
      (V.nK .w w false true false) (fun a => w.aK false fun b => ls a b) (fun a => w.tK false fun b => ls a b)
      (fun lo hi e => w.yK false fun lo' hi' e' => Bool.casesOn (ieq lo lo') false (Bool.casesOn (ieq hi hi') false (Ex.eq e e')))) n

/-- a map's entries as values -/
def esV (l : List (V × V)) : List V := List.rec (motive := fun _ => List V) [] (fun e _ ih => e.1 :: e.2 :: ih) l
/-- with one block hidden -/
def hide (F : T V) (lo : Option A) (h : H) (k : H → (H → H) → R) : R :=
  Option.casesOn lo .err fun a => Option.casesOn (gA F a) .err fun v =>
    let go : K → R := fun m => Option.casesOn (h.get m) .err fun b => k (h.del m) (fun h => h.set m b)
    v.pK (v.mK .err .err go) fun m _ => go m
def chkR (F : T V) (h : H) (d : Option K) (o : O) (r : R) : R :=
  O.casesOn o (fun _ => .err) (fun o => Option.casesOn (evR F h o) .err fun v => Option.casesOn d .err fun d => Option.casesOn (T.get d F) .err fun w => Bool.casesOn (eqF 12 v w) .err r) (fun _ => .err) (fun _ => .err)
def bR (r : R) (k : T V → H → R) : R := R.casesOn r .err k .x .t
def evS (cl : K → List V → H → OR) (nx : K) (lo : Option A) (s : St) (F : T V) (h : H) : R :=
  St.casesOn s fun k chk hid c => Bool.casesOn chk
    (Bool.casesOn hid (ev1 cl F (kAdd nx k) h c .n) (hide F lo h fun h' back => bR (ev1 cl F (kAdd nx k) h' c .n) fun F h => .n F (back h)))
    (CO.casesOn c fun d g o => Option.casesOn (want F g) .err fun q => Bool.casesOn q (.n F h) (Bool.casesOn hid (chkR F h d o (.n F h)) (hide F lo h fun h' _ => chkR F h' d o (.n F h))))
def evD (cl : K → List V → H → OR) (nx : K) (lo : Option A) (l : List St) : T V → H → R :=
  List.rec (motive := fun _ => T V → H → R) .n (fun s _ ih F h => bR (evS cl nx lo s F h) ih) l

/-- are two trees one? -/
def eqT {α : Type} (e : α → α → Bool) (s : T α) : T α → Bool :=
  T.rec (motive := fun _ => T α → Bool) (fun t => T.casesOn t true fun _ _ _ => false)
    (fun _ v _ il ir t => T.casesOn t false fun l' v' r' => Bool.casesOn (il l') false (Bool.casesOn (Option.casesOn v (Option.casesOn v' true fun _ => false) fun x => Option.casesOn v' false fun y => e x y) false (ir r'))) s
def eqB (a b : B) : Bool :=
  B.casesOn a (fun l ro cl => B.casesOn b (fun l' ro' cl' => Bool.casesOn (xorB ro ro') (Bool.casesOn (xorB cl cl') (eqF 30 (.a l) (.a l')) false) false) (fun _ => false))
    (fun es => B.casesOn b (fun _ _ _ => false) fun es' => eqF 30 (.a (esV es)) (.a (esV es')))
def eqH (g h : H) : Bool := H.casesOn g fun t nx => H.casesOn h fun t' nx' => Bool.casesOn (K.eq nx nx') false (eqT eqB t t')
/-- two plans, and both come to one end -/
def evD2 (cl : K → List V → H → OR) (nx : K) (l m : List St) (F : T V) (h : H) : R :=
  bR (evD cl nx none l F h) fun F1 h1 => bR (evD cl nx none m F h) fun F2 h2 => Bool.casesOn (eqT (eqF 30) F1 F2) .err (Bool.casesOn (eqH h1 h2) .err (.n F1 h1))
def loopF (n : Nat) (b : T V → H → R) : T V → H → R :=
  Nat.rec (motive := fun _ => T V → H → R) (fun _ _ => .err) (fun _ ih F h => bR (b F h) ih) n
def condR (F : T V) (c : A) (x y : R) : R := Option.casesOn (gA F c) .err fun v => v.bK .err fun b => Bool.casesOn b y x
def exR (id : Nat) (r : R) : R := R.casesOn r .err .n (fun j F h => Bool.casesOn (Nat.beq id j) (.x j F h) (.n F h)) .t
def evC (cl : K → List V → H → OR) (n : Nat) (c : C) : T V → H → R :=
  C.rec (motive := fun _ => T V → H → R) .n (evL cl) (fun m lo l F h => evD cl h.nx lo l F (h.bump m)) (fun n l m F h => evD2 cl h.nx l m F (h.bump n)) (fun _ _ ix iy F h => bR (ix F h) iy)
    (fun c _ _ ix iy F h => condR F c (ix F h) (iy F h)) (fun id _ ix F h => exR id (ix F h)) (fun _ ix F h => loopF n ix F h) (fun id F h => .x id F h) .t (fun _ _ => .err) c

def frame (l : List V) : K → T V → T V := List.rec (motive := fun _ => K → T V → T V) (fun _ F => F) (fun v _ ih k F => T.fc (T.set v k F) fun F => ih k.succ F) l
def resV (F : T V) (h : H) (r : Rs) : Option V := Rs.casesOn r (fun k => T.get k F) (fun k ag n => rLd F h ag n (.t k))
def resVs (F : T V) (h : H) (l : List Rs) : Option (List V) := List.rec (motive := fun _ => Option (List V)) (some []) (fun r _ ih => ob (resV F h r) fun v => ob ih fun l => some (v :: l)) l
def res (F : T V) (h : H) (l : List Rs) : OR :=
  Option.casesOn (resVs F h l) .err fun vs => List.casesOn vs (.ok .u h) fun v r => List.casesOn r (.ok v h) fun _ _ => .ok (.t vs) h
def evB (cl : K → List V → H → OR) (n : Nat) (c : CF) (as : List V) (h : H) : OR :=
  CF.casesOn c fun body rs => R.casesOn (evC cl n body (frame as .e .leaf) h) .err (fun F h => res F h rs) (fun _ _ _ => .err) (fun F h => res F h rs)
/-- what stands in a function's place: its code; a function on the evaluator's own values -/
inductive FS where
  | c (c : CF)
  | h (f : List V → H → OR)
def evF (pr : T FS) (n : Nat) (d : Nat) : K → List V → H → OR :=
  Nat.rec (motive := fun _ => K → List V → H → OR) (fun _ _ _ => .err)
    (fun _ ih f as h => Option.casesOn (T.get f pr) .err fun s => FS.casesOn s (fun c => evB ih n c as h) (fun g => g as h)) d
end
end Go.Rfx
