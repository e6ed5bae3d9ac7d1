/- What is defined here: how a translated Go function becomes code of the evaluator, and what a plan for a region whose order is open must keep. No condition. Nothing is proved here. -/
import Derived.Test.YtbjcajjlpehfiaaGreatDoorRfxA
set_option linter.unusedVariables false
namespace Go.Rfx
open Go

def K.ofNatF : Nat → Nat → K
  | 0, _ => .e
  | f + 1, n => if n = 0 then .e else if n % 2 = 1 then .l (K.ofNatF f ((n - 1) / 2)) else .r (K.ofNatF f ((n - 2) / 2))
def K.of (n : Nat) : K := K.ofNatF 24 n
def K.num : K → Nat
  | .e => 0
  | .l k => 2 * k.num + 1
  | .r k => 2 * k.num + 2

/-- a value without memory -/
def cV : Nat → Value → Option V
  | 0, _ => none
  | n + 1, v =>
    match v with
    | .bool b => some (.b b)
    | .int k n => some (.i k n)
    | .string s => some (.s (s.data.toList.map UInt8.toNat))
    | .pointer none => some .pn
    | .slice none 0 0 => some .sn
    | .map none => some .mn
    | .nilFunc => some .fn
    | .nilIface => some .wn
    | .func (.func f) a c => if (K.of f).num = f then if a.size = 0 then if c.size = 0 then some (.f (K.of f) [] []) else none else none else none
    | .agg cs => (cs.toList.mapM (cV n)).map .a
    | .tuple vs => if vs.size = 0 then some .u else none
    | _ => none
def cK (n : Nat) : Option K := if (K.of n).num = n then some (K.of n) else none
def cA (p : Program) : Operand → Option A
  | .tmp t => (cK t).map .t
  | .const v => (cV 8 v).map .c
  | .global g => if g < p.globals.size then (cK g).map fun k => .c (.p k 0) else none
  | .func f => (cK f).map fun k => .c (.f k [] [])
def cAs (p : Program) (l : Array Operand) : Option (List A) := l.toList.mapM (cA p)
def cAo (p : Program) : Option Operand → Option (Option A)
  | none => some none
  | some x => (cA p x).map some

/-- a value's cells, whatever it is -/
def flatV : V → List V
  | .a l => l
  | v => [v]

section
variable (p : Program)
def tInfo (t : TypeId) : Option TypeInfo := p.info? t
def tSize (t : TypeId) : Option Nat := (p.info? t).map (·.size)
def tAgg (t : TypeId) : Option Bool := (p.underlying t).map fun d => match d with | .struct _ | .array _ _ => true | _ => false
def tZero (t : TypeId) : Option (List V) :=
  (p.info? t).bind fun i => i.zero.bind fun z => (cV 8 z).bind fun c => if (flatV c).length = i.size then some (flatV c) else none
/-- the zero value itself -/
def tZeroV (t : TypeId) : Option V := do
  let i ← p.info? t
  let z ← i.zero
  cV 8 z
def kkOf (t : TypeId) : Option KK :=
  match p.underlying t with
  | some (.int _) => some .i
  | some .string => some .s
  | some (.pointer e) => match p.info? e with | some i => if i.size = 0 then none else some .p | none => none
  | _ => none
/-- the parts of a value: where each lies, how many cells it has -/
def parts (pl : Nat → Option (Nat × Nat)) : List (Nat × Operand) → Option (List (Nat × Nat × A))
  | [] => some []
  | (i, x) :: r => do
    let q ← pl i
    let a ← cA p x
    let r ← parts pl r
    some ((q.1, q.2, a) :: r)
def fKind (t : TypeId) : Option KK :=
  match p.underlying t with
  | some (.int _) => some .i
  | some .string => some .s
  | some .bool => some .p
  | _ => none
/-- how the fields of a struct of plain cells are told apart; one cell each, none skipped -/
def eqKinds : Nat → List Field → Option (List KK)
  | _, [] => some []
  | i, f :: r => (fKind p f.type).bind fun k => if f.name = "_" ∨ f.offset ≠ i then none else (eqKinds (i + 1) r).map fun r => k :: r
def isNilC : Operand → Bool
  | .const .nilIface => true
  | _ => false
def neOf : BinOp → Option Bool
  | .eql => some false
  | .neq => some true
  | _ => none
def cBin (op : BinOp) (t : TypeId) (x y : Operand) (a b : A) : Option P :=
  match p.underlying t with
  | some (.int _) => some (.bi op a b)
  | some .string => some (.bs op a b)
  | some .bool => (neOf op).map fun n => .bb n a b
  | some (.pointer _) => (neOf op).map fun n => .bn .p n a b
  | some (.slice _) => (neOf op).map fun n => .bn .s n a b
  | some (.map _ _) => (neOf op).map fun n => .bn .m n a b
  | some (.func ..) => (neOf op).map fun n => .bn .f n a b
  | some (.interface _) => if isNilC x || isNilC y then (neOf op).map fun n => .bn .w n a b else none
  | some (.struct fs) => if p.eqGuardType p.depth t || p.stoodInHeld t then none else (eqKinds p 0 fs.toList).bind fun ks => (neOf op).map fun n => .be n ks a b
  | _ => none
def okFunc (f : FuncId) : Bool :=
  match p.funcs[f]? with
  | some fn => fn.body.isSome && !(fn.name == "runtime.NumGoroutine")
  | none => false
def sizeIs (t : TypeId) (n : Nat) : Bool := match p.info? t with | some i => i.size == n | none => false
def bytesFit (t : TypeId) : Bool := match p.info? t with | some i => decide (i.bytes ≤ 65536) && i.zero.isSome | none => false
def cLen (t : TypeId) (a : A) : Option O :=
  match p.underlying t with
  | some .string => some (.p (.ls a))
  | some (.slice _) => some (.p (.ln a))
  | some (.map _ _) => some (.r (.lm a))
  | _ => none
def isSeq (d : TypeDesc) : Bool := match d with | .slice _ | .string => true | _ => false
def cApp (t u : TypeId) (a b : A) : Option O :=
  match p.underlying t with
  | some (.slice e) => (p.underlying u).bind fun d => (tSize p e).bind fun n => if bytesFit p e && isSeq d && (tZero p e).isSome then some (.e (.ap n a b)) else none
  | _ => none
def cCall (c : Call) : Option O :=
  match c.callee with
  | .value (.func f) => (cK f).bind fun k => (cAs p c.args).bind fun as => some (.e (.ca k as))
  | .value x => (cA p x).bind fun a => (cAs p c.args).bind fun as => some (.e (.cv a as))
  | .builtin .len =>
    match c.argTypes.toList, c.args.toList with
    | t :: _, x :: _ => (cA p x).bind fun a => cLen p t a
    | _, _ => none
  | .builtin .append =>
    match c.argTypes.toList, c.args.toList with
    | [t, u], [s, x] => (cA p s).bind fun a => (cA p x).bind fun b => cApp p t u a b
    | _, _ => none
  | .builtin .max => match c.args.toList with | [x, y] => (cA p x).bind fun a => (cA p y).bind fun b => some (.p (.mm true a b)) | _ => none
  | .builtin .min => match c.args.toList with | [x, y] => (cA p x).bind fun a => (cA p y).bind fun b => some (.p (.mm false a b)) | _ => none
  | _ => none

def isU8 (t : TypeId) : Bool := match p.underlying t with | some (.int k) => k == .u8 | _ => false
def cOp (o : Op) : Option O :=
  match o with
  | .move x | .assign x => do some (.p (.mv (← cA p x)))
  | .pick c a b => do some (.p (.pick (← cA p c) (← cA p a) (← cA p b)))
  | .alloc t => do some (.a (.bx (.c (← tZeroV p t))))
  | .box _ x => do some (.a (.bx (← cA p x)))
  | .build t ps => do
    let z ← tZero p t
    match p.underlying t with
    | some (.struct fs) => do
      let sz ← fs.toList.mapM fun f => (tSize p f.type).map fun n => (f.offset, n)
      let q ← parts p (fun i => sz[i]?) ps.toList
      some (.p (.bd z q))
    | _ => none
  | .buildSlice t n ps =>
    match p.underlying t with
    | some (.slice e) => do
      let sz ← tSize p e
      let z ← tZero p e
      let q ← parts p (fun i => some (i * sz, sz)) ps.toList
      if n * sz ≤ 16777216 then some (.a (.sl sz n z q)) else none
    | _ => none
  | .load t x => do
    let g ← tAgg p t
    let n ← tSize p t
    some (.r (.ld g n (← cA p x)))
  | .store t x y => do
    let n ← tSize p t
    some (.e (.st n (← cA p x) (← cA p y)))
  | .nilCheck x => do some (.p (.nc (← cA p x)))
  | .binOp op t x y _ => do (cBin p op t x y (← cA p x) (← cA p y)).map .p
  | .unOp .neg _ x => do some (.p (.ng (← cA p x)))
  | .unOp .not _ x => do some (.p (.no (← cA p x)))
  | .unOp .xor _ x => do some (.p (.xo (← cA p x)))
  | .convert s d x => do
    let a ← cA p x
    match p.underlying s, p.underlying d with
    | some (.int _), some (.int k) => some (.p (.cv k a))
    | some .string, some .string => some (.p (.cs a))
    | some .string, some (.slice e) => if isU8 p e then some (.a (.sb a)) else none
    | some (.slice e), some .string => if isU8 p e then some (.r (.bs a)) else none
    | _, _ => none
  | .makeInterface t x => match p.underlying t with
    | some (.interface _) => none
    | some _ => do some (.p (.wi t (← cA p x)))
    | none => none
  | .makeFunc (.func f) a c => do some (.p (.mf (← cK f) (← cAs p a) (← cAs p c)))
  | .makeMap t none => some (.a .mm)
  | .makeSlice t n c =>
    match p.underlying t with
    | some (.slice e) => if bytesFit p e then do
      let sz ← tSize p e
      let z ← tZero p e
      some (.a (.ms sz z (← cA p n) (← cA p c))) else none
    | _ => none
  | .slice t x lo hi mx =>
    match p.underlying t with
    | some .string => match mx with
      | none => do some (.p (.ss (← cA p x) (← cAo p lo) (← cAo p hi)))
      | some _ => none
    | some (.slice e) => do
      let sz ← tSize p e
      some (.p (.sl sz (← cA p x) (← cAo p lo) (← cAo p hi) (← cAo p mx)))
    | _ => none
  | .fieldAddr t x i =>
    match p.underlying t with
    | some (.struct fs) => do
      let f ← fs[i]?
      let n ← tSize p f.type
      if n = 0 then none else some (.p (.fa f.offset (← cA p x)))
    | _ => none
  | .field t x i =>
    match p.underlying t with
    | some (.struct fs) => do
      let f ← fs[i]?
      let n ← tSize p f.type
      let g ← tAgg p f.type
      some (.p (.fd g n f.offset (← cA p x)))
    | _ => none
  | .indexAddr t x i =>
    match p.underlying t with
    | some (.slice e) => do
      let n ← tSize p e
      some (.p (.ia n (← cA p x) (← cA p i)))
    | some (.array len e) => do
      let n ← tSize p e
      some (.p (.iaa len n (← cA p x) (← cA p i)))
    | _ => none
  | .index t x i =>
    match p.underlying t with
    | some .string => do some (.p (.ix (← cA p x) (← cA p i)))
    | _ => none
  | .lookup t x i ok =>
    match p.underlying t with
    | some (.map k e) => do
      let kk ← kkOf p k
      let z ← tZeroV p e
      some (.r (.lk kk z ok (← cA p x) (← cA p i)))
    | _ => none
  | .mapUpdate t m k x | .insert t m k x =>
    match p.underlying t with
    | some (.map kt _) => do
      let kk ← kkOf p kt
      some (.e (.mu kk (← cA p m) (← cA p k) (← cA p x)))
    | _ => none
  | .extract x i => do some (.p (.ex i (← cA p x)))
  | .call c => cCall p c
  | _ => none

def cDst (nt : Nat) : Option Tmp → Option (Option K)
  | none => some none
  | some d => if d < nt then (cK d).map some else none
def cGd (nt : Nat) (ops : List Oper) : Option (Nat × Bool) → Option (Option (K × Bool))
  | none => some none
  | some (j, w) => (ops[j]?).bind fun q => q.dst.bind fun t => if t < nt then (cK t).map fun k => some (k, w) else none
/-- an operation that is not served fails where it is come to -/
def cO (nt : Nat) (ops : List Oper) (o : Oper) : Option CO :=
  (cDst nt o.dst).bind fun d => (cGd nt ops o.guard).bind fun g => some (.mk d g ((cOp p o.op).getD (.p .bad)))
end

/-! ### plans -/
/-- what stands ahead of each operation, as a number's digits -/
def masks (ops : List Oper) : List Nat :=
  ops.foldl (fun acc o => acc ++ [(o.after.toList.filter (Region.binds .any)).foldl (fun s e => s ||| 2 ^ e.on ||| acc.getD e.on 0) 0]) []
def bit (m i : Nat) : Bool := (m >>> i) % 2 == 1
def isE : O → Bool | .e _ => true | _ => false
def isR : O → Bool | .r _ => true | _ => false
def isAl : O → Bool | .a _ => true | _ => false
def oOf : CO → O | .mk _ _ o => o
/-- a store, a map's entry: where it goes -/
def locA : O → Option A
  | .e (.st _ a _) => some a
  | .e (.mu _ m _ _) => some m
  | _ => none

section
variable (ms : List Nat) (cs : List CO)
def pre (i j : Nat) : Bool := bit (ms.getD j 0) i
def unord (i j : Nat) : Bool := i != j && !pre ms i j && !pre ms j i
def kind (f : O → Bool) (i : Nat) : Bool := match cs[i]? with | some c => f (oOf c) | none => false
def effs : List Nat := (List.range cs.length).filter (kind cs isE)
/-- the effect that need not stand in a row with all others -/
def loose : Option Nat := (effs cs).find? fun i => (effs cs).any (unord ms i)
abbrev PS := List (Nat × Bool × Bool)
def has (k : Nat) (l : PS) : Bool := l.any fun s => s.1 == k && !s.2.1
def hidF (k : Nat) (l : PS) : Bool := match loose ms cs with | some i => has i l && unord ms i k | none => false
def addX (k : Nat) (l : PS) : PS :=
  let l := (List.range cs.length).foldl (fun l i => if pre ms i k && !has i l then l ++ [(i, false, hidF ms cs i l)] else l) l
  if has k l then l else l ++ [(k, false, hidF ms cs k l)]
/-- the effects, in a row -/
def effsO : List Nat := (List.range (effs cs).length).flatMap fun n => (effs cs).filter fun e => ((effs cs).filter fun q => pre ms q e).length == n
def mkPlan : PS :=
  let l := (effsO ms cs).foldl (fun l e =>
    let l := (List.range cs.length).foldl (fun l r => if kind cs isR r && unord ms r e && !(effs cs).any (fun q => pre ms q r && !has q l) then addX ms cs r l else l) l
    let l := addX ms cs e l
    let q := (List.range cs.length).filter fun r => kind cs isR r && has r l && unord ms r e
    l ++ q.map fun r => (r, true, hidF ms cs r l)) ([] : PS)
  (List.range cs.length).foldl (fun l i => addX ms cs i l) l
end

/-- a plan with a hidden block is left out -/
def hides (l : List (Nat × Bool × Bool)) : Bool := l.any fun s => s.2.2
/-- two effects whose order is open -/
def pairL (ms : List Nat) (cs : List CO) : Option (Nat × Nat) := (loose ms cs).bind fun i => ((effs cs).find? fun j => unord ms i j).map fun j => (i, j)
/-- i ahead of j -/
def joinM (ms : List Nat) (i j : Nat) : List Nat := (List.range ms.length).map fun k => if k == j || pre ms j k then ms.getD k 0 ||| 2 ^ i ||| ms.getD i 0 else ms.getD k 0
def stsOf (cs : List CO) (pl : List (Nat × Bool × Bool)) : Option (List St) := pl.mapM fun s => (cs[s.1]?).map fun c => St.mk s.1 s.2.1 s.2.2 c
def cD (nt : Nat) (p : Program) (ops : List Oper) : Option C := do
  let cs ← ops.mapM (cO p nt ops)
  let ms := masks ops
  match pairL ms cs with
  | none =>
    let pl := mkPlan ms cs
    if hides pl then some .bad else (stsOf cs pl).map fun l => .dr cs.length none l
  | some (i, j) =>
    let pl := mkPlan (joinM ms i j) cs
    let pm := mkPlan (joinM ms j i) cs
    if hides pl || hides pm then some .bad else (stsOf cs pl).bind fun l => (stsOf cs pm).map fun m => .d2 cs.length l m
def cC (nt : Nat) (p : Program) : Code → Option C
  | .skip => some .skip
  | .region _ ops false => (ops.toList.mapM (cO p nt ops.toList)).map .rg
  | .region _ ops true => cD nt p ops.toList
  | .seq a b => do some (.seq (← cC nt p a) (← cC nt p b))
  | .cond c a b => do some (.cond (← cA p c) (← cC nt p a) (← cC nt p b))
  | .block id b => do some (.block id (← cC nt p b))
  | .loop b => do some (.loop (← cC nt p b))
  | .exit id => some (.exit id)
  | .ret => some .ret
  | _ => some .bad
def cRs (p : Program) : ResultVar → Option Rs
  | .tmp t => (cK t).map .t
  | .cell a t => do some (.c (← cK a) (← tAgg p t) (← tSize p t))
def cF (p : Program) (fn : Func) : Option CF := do
  let b ← fn.body
  let c ← cC fn.ntmps p b
  let r ← fn.results.toList.mapM (cRs p)
  some (.mk c r)
end Go.Rfx
