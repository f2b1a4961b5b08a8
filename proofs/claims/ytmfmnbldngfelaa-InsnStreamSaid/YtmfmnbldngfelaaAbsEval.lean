/- The abstract evaluator: code, calls; and the translation of loaded code into compiled operations. Definitions alone. -/
import Derived.Test.YtmfmnbldngfelaaAbsDefs
namespace Go.Proofs.Ytmfmnbldngfelaa.Abs
open Go

variable {R : Type}

/-! ### Code -/

inductive AC where
  | skip
  | ops (sc : Bool) (l : List AOp)
  | seq (a b : AC)
  | cond (t : AX) (a b : AC)
  | block (id : Nat) (c : AC)
  | loop (kin kout : Nat) (c : AC)
  | exit (id : Nat)
  | ret
  | mask (m : Nat)
  | join (m : Nat)
  | bad

/-- A result: a slot's value, or what lies in the box at a slot. -/
inductive RV where
  | tmp (t : Nat) | cell (t : Nat) (s : VS)

structure AFn where
  nt : Nat
  res : List RV
  body : AC

inductive AE where
  | normal | exit (id : Nat) | ret

def put (env : List SV) (d : Option Nat) (x : SV) : List SV := match d with | none => env | some d => env.set d x
def upd (env : List SV) (u : Up) : List SV := match u with | none => env | some (d, cs) => env.set d (.box cs)

def noG (d : Nat) : List (Nat × Bool) → Bool
  | [] => true
  | (t, _) :: l => (!(Nat.beq d t)) && noG d l

/-- May slot d be written: no guard speaks of it, and, where a box is made, no address within its box is about. -/
def envOk (bx : Bool) (d : Nat) : List SV → Bool
  | [] => true
  | .g gs _ _ :: l => noG d gs && envOk bx d l
  | .lref gs _ e _ :: l => noG d gs && (match bx with | true => !(Nat.beq d e) | false => true) && envOk bx d l
  | _ :: l => envOk bx d l

def isBoxS : SV → Bool
  | .box _ => true
  | _ => false

def gsOf : SV → List (Nat × Bool)
  | .g gs _ _ => gs
  | .lref gs _ _ _ => gs
  | _ => []

def dstOk (dst : Option Nat) (sv : SV) (env : List SV) : Bool :=
  match dst with
  | none => !(isBoxS sv)
  | some d => envOk (isBoxS sv) d env && noG d (gsOf sv) && (!(isBoxS (env.getD d .any))) && Nat.blt d env.length

def bcOf : SV → Bool
  | .g _ bc _ => bc
  | .lref _ bc _ _ => bc
  | _ => true

/-- Has the operation that wrote slot g been carried out? -/
def asked (ρ : Nat → SV) (g : Option Nat) : Bool := match g with | none => true | some d => bcOf (ρ d)

open Classical in
noncomputable def reChk (ρ : Nat → SV) (h h' : Heap) (up : Up) : List Re → Option R → Option R
  | [], K => K
  | .load n t g :: l, K => match ρ t with
    | .box cs => (match up with
      | none => reChk ρ h h' up l K
      | some (d, cs') => if Nat.beq d t = true then chkC (asked ρ g = true → (cs'.drop 0).take n = (cs.drop 0).take n) (reChk ρ h h' up l K) else reChk ρ h h' up l K)
    | .lref _ _ e off => (match up with
      | none => reChk ρ h h' up l K
      | some (d, cs') => if Nat.beq d e = true then (match boxAt ρ e with
          | some cs => chkC (asked ρ g = true → (cs'.drop off).take n = (cs.drop off).take n) (reChk ρ h h' up l K)
          | none => chkC (asked ρ g = true → False) (reChk ρ h h' up l K)) else reChk ρ h h' up l K)
    | .g _ _ (.ptr (some a)) => chkC (asked ρ g = true → ldN h' a n = ldN h a n) (reChk ρ h h' up l K)
    | _ => chkC (asked ρ g = true → False) (reChk ρ h h' up l K)
  | .blk t :: l, K => match ρ t with
    | .g _ _ (.ptr (some a)) => chkC (h'[a.b]? = h[a.b]?) (reChk ρ h h' up l K)
    | .g _ _ (.sl (.pos a) _) => chkC (h'[a.b]? = h[a.b]?) (reChk ρ h h' up l K)
    | .g _ _ (.map (some b)) => chkC (h'[b]? = h[b]?) (reChk ρ h h' up l K)
    | _ => none
  | .sl t g :: l, K => match ρ t with
    | .g _ _ (.sl (.pos a) _) => chkC (asked ρ g = true → h'[a.b]? = h[a.b]?) (reChk ρ h h' up l K)
    | _ => reChk ρ h h' up l K

noncomputable def stepOp (C : FuncId → List AV → Heap → Res) (o : AOp) (σ : St) (K : St → Option R) : Option R :=
  match guardOf (fun t => σ.env.getD t .any) o.guard with
  | none => none
  | some (gs, bc) => opK C (fun t => σ.env.getD t .any) σ.ah gs bc o.k fun sv h up =>
      match dstOk o.dst sv σ.env with
      | true => reChk (fun t => σ.env.getD t .any) σ.ah h up o.re (K ⟨upd (put σ.env o.dst sv) up, h⟩)
      | false => none

noncomputable def evalOps (C : FuncId → List AV → Heap → Res) : List AOp → St → (St → Option R) → Option R
  | [], σ, K => K σ
  | o :: l, σ, K => stepOp C o σ fun σ' => evalOps C l σ' K

def scrubE : List SV → List SV
  | [] => []
  | .g (_ :: _) _ _ :: l => .any :: scrubE l
  | .lref (_ :: _) _ _ _ :: l => .any :: scrubE l
  | x :: l => x :: scrubE l

def scrub (sc : Bool) (σ : St) : St := match sc with | true => ⟨scrubE σ.env, σ.ah⟩ | false => σ

def restrE (m : Nat) : Nat → List SV → List SV
  | _, [] => []
  | i, x :: l => (match Nat.testBit m i with | true => x | false => .any) :: restrE m (i + 1) l

def restr (m : Nat) (σ : St) : St := ⟨restrE m 0 σ.env, σ.ah⟩

def loopN (B : St → (AE → St → Option R) → Option R) (kin kout : Nat) : Nat → St → (AE → St → Option R) → Option R
  | 0, _, _ => none
  | k + 1, σ, Q => B (restr kin σ) fun x σ' => match x with
    | .normal => loopN B kin kout k σ' Q
    | .exit id => Q (.exit id) (restr kout σ')
    | .ret => Q .ret σ'

noncomputable def evalCode (C : FuncId → List AV → Heap → Res) (k : Nat) : AC → St → (AE → St → Option R) → Option R
  | .skip, σ, Q => Q .normal σ
  | .ops sc l, σ, Q => evalOps C l σ fun σ' => Q .normal (scrub sc σ')
  | .seq a b, σ, Q => evalCode C k a σ fun x σ' => match x with
    | .normal => evalCode C k b σ' Q
    | .exit id => Q (.exit id) σ'
    | .ret => Q .ret σ'
  | .cond t a b, σ, Q => match getV [] (fun t => σ.env.getD t .any) t with
    | some (.bool c) => if c = true then evalCode C k a σ Q else evalCode C k b σ Q
    | _ => none
  | .block id c, σ, Q => evalCode C k c σ fun x σ' => match x with
    | .normal => Q .normal σ'
    | .exit j => (match Nat.beq j id with | true => Q .normal σ' | false => Q (.exit j) σ')
    | .ret => Q .ret σ'
  | .loop kin kout c, σ, Q => loopN (evalCode C k c) kin kout k σ Q
  | .exit id, σ, Q => Q (.exit id) σ
  | .ret, σ, Q => Q .ret σ
  | .mask m, σ, Q => Q .normal (restr m σ)
  | .join m, σ, Q => Q .normal (restr m σ)
  | .bad, _, _ => none

/-! ### Compilation -/

theorem evalCode_seq {C : FuncId → List AV → Heap → Res} {k : Nat} {a b : AC} {σ : St} {Q : AE → St → Option R} : evalCode C k (.seq a b) σ Q = evalCode C k a σ fun x σ' => match x with
    | .normal => evalCode C k b σ' Q
    | .exit id => Q (.exit id) σ'
    | .ret => Q .ret σ' := rfl

def ofCell : Value → Option AV
  | .int k n => some (.int k n)
  | .bool b => some (.bool b)
  | .string s => some (.str s)
  | .pointer none => some (.ptr none)
  | .slice none 0 0 => some (.sl .nil 0)
  | .map none => some (.map none)
  | .nilFunc => some .nilFn
  | .nilIface => some .nilIface
  | _ => none

def ofCells : List Value → Option (List AV)
  | [] => some []
  | v :: l => match ofCell v, ofCells l with
    | some a, some r => some (a :: r)
    | _, _ => none

def ofVal : Value → Option AV
  | .agg cs => match ofCells cs.toList with
    | some l => some (.agg l)
    | none => none
  | v => ofCell v

def csOf : Value → Option CS
  | .int k _ => some (.int k)
  | .bool _ => some .bool
  | .string _ => some .str
  | .pointer _ => some .ptr
  | .slice _ _ _ => some .sl
  | .map _ => some .map
  | .nilFunc => some .fn
  | .nilIface => some .iface
  | _ => none

def csOfs : List Value → Option (List CS)
  | [] => some []
  | v :: l => match csOf v, csOfs l with
    | some a, some r => some (a :: r)
    | _, _ => none

def isAggD : TypeDesc → Bool
  | .struct _ => true
  | .array _ _ => true
  | _ => false

def zeroOf (P : Program) (t : TypeId) : Option (List AV) :=
  match P.info? t with
  | some i => match i.zero with
    | some z => (match ofCells z.cells.toList with
      | some l => if l.length = i.size then some l else none
      | none => none)
    | none => none
  | none => none

def sizeOfT (P : Program) (t : TypeId) : Option Nat :=
  match P.info? t with
  | some i => some i.size
  | none => none

def bytesOfT (P : Program) (t : TypeId) : Option Nat :=
  match P.info? t with
  | some i => some i.bytes
  | none => none

def vsOf (P : Program) (t : TypeId) : Option VS :=
  match P.info? t, P.underlying t with
  | some i, some d => match i.zero with
    | some z => match isAggD d with
      | true => if i.size ≤ 15 then (match csOfs z.cells.toList with
          | some l => if l.length = i.size then some (.agg l) else none
          | none => none) else some (.raw i.size)
      | false => if i.size = 1 then (match csOf z with
          | some c => some (.cell c)
          | none => none) else none
    | none => none
  | _, _ => none

def vsOfs (P : Program) : List TypeId → Option (List VS)
  | [] => some []
  | t :: l => match vsOf P t, vsOfs P l with
    | some a, some r => some (a :: r)
    | _, _ => none

/-- The shapes of what a call of this type yields. -/
def resOf (P : Program) (t : TypeId) : Option (List VS) :=
  match P.underlying t with
  | some (.tuple ts) => vsOfs P ts.toList
  | some _ => (match vsOf P t with | some s => some [s] | none => none)
  | none => none

def zeroV (P : Program) (t : TypeId) : AV :=
  match P.info? t with
  | some i => match i.zero with
    | some z => (ofVal z).getD .opq
    | none => .opq
  | none => .opq

def cX : Operand → Option AX
  | .tmp t => some (.tmp t)
  | .const v => match ofVal v with
    | some a => some (.c a)
    | none => none
  | .func f => some (.c (.fn f [] []))
  | .global _ => none

def cXs : List Operand → Option (List AX)
  | [] => some []
  | x :: l => match cX x, cXs l with
    | some a, some r => some (a :: r)
    | _, _ => none

def cXo : Option Operand → Option (Option AX)
  | none => some none
  | some x => match cX x with
    | some a => some (some a)
    | none => none

def cParts (pl : Nat → Option (Nat × Nat)) : List (Nat × Operand) → Option (List (Nat × Nat × AX))
  | [] => some []
  | (i, x) :: l => match pl i, cX x, cParts pl l with
    | some (off, n), some a, some r => some ((off, n, a) :: r)
    | _, _, _ => none

def cPartsS (es : Nat) : Nat → List (Nat × Operand) → Option (List (Nat × AX))
  | _, [] => some []
  | j, (i, x) :: l => if i = j then (match cX x, cPartsS es (j + 1) l with
    | some a, some r => some ((i * es, a) :: r)
    | _, _ => none) else none

def isZero : Option Operand → Bool
  | some (.const (.int _ n)) => decide (n = 0)
  | _ => false

def flatFields (P : Program) (sz : TypeId → Option (List Bool)) : List Field → Nat → Option (List Bool)
  | [], _ => some []
  | f :: l, n => match sz f.type with
    | some m => if f.offset = n ∧ f.name ≠ "_" ∧ sizeOfT P f.type = some m.length then (match flatFields P sz l (n + m.length) with
        | some r => some (m ++ r)
        | none => none) else none
    | none => none

/-- The cells of a type of numbers and truth values, laid without gaps: true where a truth value lies. -/
def flatShape (P : Program) : Nat → TypeId → Option (List Bool)
  | 0, _ => none
  | d + 1, t => match P.underlying t with
    | some .bool => some [true]
    | some (.int _) => some [false]
    | some (.struct fs) => if P.stoodInHeld t = true then none else flatFields P (flatShape P d) fs.toList 0
    | _ => none

def tkOf (P : Program) (t : TypeId) : Option TK :=
  match P.underlying t with
  | some .bool => some .bool
  | some (.pointer _) => some .ptr
  | some (.slice _) => some .sl
  | some (.struct _) => (match flatShape P 9 t with
    | some sh => if P.eqGuardType P.depth t = false then some (.agg sh) else none
    | none => none)
  | some (.array _ _) => none
  | some (.interface _) => none
  | some _ => some .other
  | none => none

/-- Are all fields' sizes known? -/
def sizesOk (P : Program) : List Field → Bool
  | [] => true
  | f :: l => (sizeOfT P f.type).isSome && sizesOk P l

def cOp (P : Program) (loc : Nat) (o : Oper) : Option AK :=
  match o.op with
  | .move x => match cX x with | some a => some (.move a) | none => none
  | .assign x => match cX x with | some a => some (.move a) | none => none
  | .pick c a b => match cX c, cX a, cX b with
    | some c, some a, some b => some (.pick c a b)
    | _, _, _ => none
  | .alloc t => match zeroOf P t, o.dst with
    | some z, some d => some (match Nat.testBit loc d with | true => .allocL z | false => .allocH z)
    | _, _ => none
  | .box _ x => match cX x, o.dst with
    | some a, some d => some (match Nat.testBit loc d with | true => .boxL a | false => .boxH a)
    | _, _ => none
  | .build t ps => match zeroOf P t, P.underlying t with
    | some z, some (.struct fs) => if sizesOk P fs.toList = false then none else (match cParts (fun i => match fs[i]? with
        | some f => (match sizeOfT P f.type with | some n => some (f.offset, n) | none => none)
        | none => none) ps.toList with
      | some r => some (.build z r)
      | none => none)
    | some z, some (.array _ e) => (match sizeOfT P e with
      | some n => (match cParts (fun i => some (i * n, n)) ps.toList with | some r => some (.build z r) | none => none)
      | none => none)
    | _, _ => none
  | .buildSlice t len ps => match P.underlying t with
    | some (.slice e) => (match zeroOf P e, sizeOfT P e, cPartsS ((sizeOfT P e).getD 0) 0 ps.toList with
      | some z, some n, some r => if r.length = len ∧ len * n ≤ 16777216 ∧ 0 < n then some (.buildSl (repl len z) n r) else none
      | _, _, _ => none)
    | _ => none
  | .load t a => match vsOf P t, cX a with
    | some s, some x => some (.load s x)
    | _, _ => none
  | .store t a v => match sizeOfT P t, cX a, cX v with
    | some n, some x, some y => some (.store n x y)
    | _, _, _ => none
  | .nilCheck x => match cX x with | some a => some (.nilCheck a) | none => none
  | .binOp op t x y _ => match cX x, cX y, tkOf P t with
    | some a, some b, some tk => some (.bin tk op a b)
    | _, _, _ => none
  | .unOp op _ x => match cX x with | some a => some (.un op a) | none => none
  | .convert s d x => match P.underlying s, P.underlying d, cX x with
    | some (.int _), some (.int k), some a => some (.conv k a)
    | _, _, _ => none
  | .makeFunc (.func f) first cap => match cXs first.toList, cXs cap.toList with
    | some a, some b => some (.makeFn f a b)
    | _, _ => none
  | .makeMap _ none => some .makeMap
  | .makeSlice t l c => match P.underlying t with
    | some (.slice e) => (match zeroOf P e, bytesOfT P e, cX l, cX c with
      | some z, some n, some a, some b => if 0 < z.length ∧ 0 < n then some (.makeSl z n a b) else none
      | _, _, _, _ => none)
    | _ => none
  | .slice t x lo hi mx => match P.underlying t with
    | some (.slice e) => (match sizeOfT P e, cX x with
      | some n, some a => if n = 0 then none else (match mx with
        | none => (match cXo lo, cXo hi with
          | some l, some h => some (.slice n a l h)
          | _, _ => none)
        | some m => if isZero hi && isZero mx && (lo.isNone || isZero lo) then some (.sliceZ a) else (match cXo lo, cXo hi, cX m with
          | some (some l), some (some h), some m => some (.slice3 n a l h m)
          | _, _, _ => none))
      | _, _ => none)
    | _ => none
  | .fieldAddr s x f => match P.underlying s, cX x with
    | some (.struct fs), some a => (match fs[f]? with
      | some fd => (match sizeOfT P fd.type with | some n => if 0 < n then some (.fieldAddr fd.offset a) else none | none => none)
      | none => none)
    | _, _ => none
  | .field s x f => match P.underlying s, cX x with
    | some (.struct fs), some a => (match fs[f]? with
      | some fd => (match vsOf P fd.type with | some v => some (.field fd.offset v a) | none => none)
      | none => none)
    | _, _ => none
  | .indexAddr t x i => match P.underlying t, cX x, cX i with
    | some (.slice e), some a, some b => (match sizeOfT P e with | some n => some (.indexAddr n a b) | none => none)
    | some (.array len e), some a, some b => (match sizeOfT P e with | some n => some (.indexArr len n a b) | none => none)
    | _, _, _ => none
  | .index t x i => match P.underlying t, cX x, cX i with
    | some (.array len e), some a, some b => (match sizeOfT P e, vsOf P e with | some n, some s => some (.index len n s a b) | _, _ => none)
    | some .string, some a, some b => some (.indexS a b)
    | _, _, _ => none
  | .lookup t m k ok => match P.underlying t, cX m, cX k with
    | some (.map kt e), some a, some b => (match P.underlying kt, vsOf P e with
      | some (.int _), some (.cell c) => some (.lookup (zeroV P e) (.cell c) ok a b)
      | _, _ => none)
    | _, _, _ => none
  | .mapUpdate t m k x => match P.underlying t, cX m, cX k, cX x with
    | some (.map kt _), some a, some b, some c => (match P.underlying kt with
      | some (.int _) => some (.mapUpdate a b c)
      | _ => none)
    | _, _, _, _ => none
  | .extract x i => match cX x with | some a => some (.extract a i) | none => none
  | .call c => match c.callee with
    | .value f => match cX f, cXs c.args.toList, resOf P o.type with
      | some (.c (.fn f [] [])), some as, some rs => some (.call f as rs (zeroV P o.type))
      | some f, some as, some rs => some (.callV f as rs (zeroV P o.type))
      | _, _, _ => none
    | .invoke _ _ => none
    | .builtin b => match b, cXs c.args.toList, c.argTypes.toList with
      | .len, some [a], [t] => (match P.underlying t with
        | some (.slice _) => some (.lenSl a)
        | some .string => some (.lenStr a)
        | some (.map _ _) => some (.lenMap a)
        | some (.array n _) => some (.lenArr n)
        | _ => none)
      | .append, some [a, b], [t, u] => (match P.underlying t, P.underlying u with
        | some (.slice e), some (.slice _) => (match zeroOf P e, sizeOfT P e, bytesOfT P e with
          | some z, some n, some m => if 0 < n ∧ 0 < m then some (.append z n m a b) else none
          | _, _, _ => none)
        | _, _ => none)
      | .copy, some [a, b], [t, u] => (match P.underlying t, P.underlying u with
        | some (.slice e), some (.slice _) => (match sizeOfT P e with | some n => some (.copy n a b) | none => none)
        | _, _ => none)
      | .clear, some [a], [t] => (match P.underlying t with
        | some (.slice e) => (match zeroOf P e with | some z => if 0 < z.length ∧ flatL z = true then some (.clear z a) else none | none => none)
        | _ => none)
      | .min, some as, t :: _ => (match P.underlying t with | some (.int .i64) => some (.mm false as) | _ => none)
      | .max, some as, t :: _ => (match P.underlying t with | some (.int .i64) => some (.mm true as) | _ => none)
      | _, _, _ => none
  | _ => none

/-! #### Slots -/

def opTmps : List Operand → List Nat
  | [] => []
  | .tmp t :: l => t :: opTmps l
  | _ :: l => opTmps l

def setB (m d : Nat) : Nat := Nat.lor m (2 ^ d)
def clrB (m d : Nat) : Nat := match Nat.testBit m d with | true => m - 2 ^ d | false => m

def setBs (m : Nat) : List Nat → Nat
  | [] => m
  | d :: l => setBs (setB m d) l

/-- The slot that the guard of an operation reads. -/
def gSlot (ops : List Oper) (o : Oper) : Option (Option (Nat × Bool)) :=
  match o.guard with
  | none => some none
  | some (j, w) => match ops[j]? with
    | some g => match g.dst with
      | some t => some (some (t, w))
      | none => none
    | none => none

def readsOf (ops : List Oper) (o : Oper) : List Nat :=
  (match gSlot ops o with | some (some (t, _)) => [t] | _ => []) ++ opTmps o.op.operands.toList

/-- Live slots ahead of a region, from those behind it. -/
def lvOps (ops : List Oper) : List Oper → Nat → Nat
  | [], m => m
  | o :: l, m =>
    let m' := lvOps ops l m
    setBs (match o.dst with | some d => clrB m' d | none => m') (readsOf ops o)

def lookX (X : List (Nat × Nat)) (id : Nat) : Nat :=
  match X with
  | [] => 0
  | (j, m) :: X => match Nat.beq j id with | true => m | false => lookX X id

def lv (rt : Nat) : Code → Nat → List (Nat × Nat) → Nat
  | .skip, n, _ => n
  | .region _ ops _, n, _ => lvOps ops.toList ops.toList n
  | .seq a b, n, X => lv rt a (lv rt b n X) X
  | .cond c a b, n, X => setBs (Nat.lor (lv rt a n X) (lv rt b n X)) (opTmps [c])
  | .block id c, n, X => lv rt c n ((id, n) :: X)
  | .loop c, _, X => lv rt c (lv rt c 0 X) X
  | .exit id, _, X => lookX X id
  | .ret, _, _ => rt
  | _, n, _ => n

/-! #### Slots that are boxes of the frame: their address goes nowhere -/

/-- The operands of an operation that are no mere address: what stands there gets away. -/
def awayOps : Op → List Operand
  | .load _ _ => []
  | .store _ _ v => [v]
  | .fieldAddr _ _ _ => []
  | .indexAddr _ _ i => [i]
  | o => o.operands.toList

def isBoxOp : Op → Bool
  | .box _ _ => true
  | .alloc _ => true
  | _ => false

def regsOf : Code → List (List Oper)
  | .region _ ops _ => [ops.toList]
  | .seq a b => regsOf a ++ regsOf b
  | .cond _ a b => regsOf a ++ regsOf b
  | .block _ c => regsOf c
  | .loop c => regsOf c
  | _ => []

def condsOf : Code → List Operand
  | .seq a b => condsOf a ++ condsOf b
  | .cond c a b => c :: (condsOf a ++ condsOf b)
  | .block _ c => condsOf c
  | .loop c => condsOf c
  | _ => []

def awayAll : List Oper → Nat → Nat
  | [], m => m
  | o :: l, m => awayAll l (setBs m (opTmps (awayOps o.op)))

/-- One pass: a base whose derived address gets away gets away. -/
def awayPass : List Oper → Nat → Nat
  | [], m => m
  | o :: l, m =>
    let m := awayPass l m
    match o.op, o.dst with
    | .fieldAddr _ (.tmp x) _, some d => (match Nat.testBit m d with | true => setB m x | false => m)
    | .indexAddr _ (.tmp x) _, some d => (match Nat.testBit m d with | true => setB m x | false => m)
    | _, _ => m

def boxSlots : List Oper → Nat → Nat
  | [], m => m
  | o :: l, m => boxSlots l (match isBoxOp o.op, o.dst with | true, some d => setB m d | _, _ => m)

def otherSlots : List Oper → Nat → Nat
  | [], m => m
  | o :: l, m => otherSlots l (match isBoxOp o.op, o.dst with | false, some d => setB m d | _, _ => m)

def resSlots : List ResultVar → List Nat
  | [] => []
  | .tmp t :: l => t :: resSlots l
  | .cell _ _ :: l => resSlots l

/-- The slots that hold boxes of the frame, as bits. -/
def locOf (fn : Func) (c : Code) : Nat :=
  let os := (regsOf c).flatten
  let away := setBs (awayAll os 0) (opTmps (condsOf c) ++ resSlots fn.results.toList)
  let away := awayPass os (awayPass os (awayPass os away))
  let bad := Nat.lor away (otherSlots os (2 ^ fn.params.size - 1))
  let b := boxSlots os 0
  Nat.land b (Nat.xor (Nat.lor b bad) bad)

/-! #### Regions -/

def cOper (P : Program) (loc : Nat) (ops : List Oper) (o : Oper) (re : List Re) : Option AOp :=
  match gSlot ops o, cOp P loc o with
  | some g, some k => some ⟨o.dst, k, g, re⟩
  | _, _ => none

def cOpers (P : Program) (loc : Nat) (ops : List Oper) : List Oper → Option (List AOp)
  | [] => some []
  | o :: l => match cOper P loc ops o [], cOpers P loc ops l with
    | some a, some r => some (a :: r)
    | _, _ => none

def dsts : List Oper → List Nat
  | [] => []
  | o :: l => match o.dst with | some d => d :: dsts l | none => dsts l

def nodupB : List Nat → Nat → Bool
  | [], _ => true
  | d :: l, m => (!(Nat.testBit m d)) && nodupB l (setB m d)

def anyGuard : List Oper → Bool
  | [] => false
  | o :: l => o.guard.isSome || anyGuard l

/-- Direct dependences, closed: for each operation all that must come ahead of it, as bits. -/
def depTab : List Oper → List Nat → List Nat
  | [], acc => acc
  | o :: l, acc => depTab l (acc ++ [o.after.toList.foldl (fun m e => match Region.binds .any e with
      | true => Nat.lor (setB m e.on) (acc.getD e.on 0)
      | false => m) 0])

/-- Operations that turn the heap or a box, and calls. -/
def isM : AK → Bool
  | .store _ _ _ | .call _ _ _ _ | .callV _ _ _ _ | .append _ _ _ _ _ | .copy _ _ _ | .mapUpdate _ _ _ | .clear _ _ => true
  | .lookup _ _ _ _ _ | .lenMap _ => true
  | _ => false

def pickNext (deps : List Nat) (done : Nat) (want : Nat → Bool) : List Nat → Option Nat
  | [] => none
  | i :: l => match (!(Nat.testBit done i)) && (Nat.beq (Nat.land (deps.getD i 0) done) (deps.getD i 0)) && want i with
    | true => some i
    | false => pickNext deps done want l

def isMAt (as : List AOp) (i : Nat) : Bool := match as[i]? with | some a => isM a.k | none => false

def orderGo (deps : List Nat) (as : List AOp) (idx : List Nat) : Nat → Nat → List Nat
  | 0, _ => []
  | n + 1, done =>
    match pickNext deps done (fun i => !(isMAt as i)) idx with
    | some i => i :: orderGo deps as idx n (setB done i)
    | none => match pickNext deps done (fun _ => true) idx with
      | some i => i :: orderGo deps as idx n (setB done i)
      | none => []

/-- An operation of a drawn region: its number, what it is compiled to, and whether all behind it wait for it. -/
structure Item where
  i : Nat
  a : AOp
  bar : Bool

def aoRd (a : AOp) : List Nat := (match a.guard with | some (t, _) => [t] | none => []) ++ akTmps a.k

def hits (d : Option Nat) (l : List Nat) : Bool := match d with | some d => l.any (Nat.beq d) | none => false
def sameD (d e : Option Nat) : Bool := match d, e with | some d, some e => Nat.beq d e | _, _ => false

/-- Two operations touch one slot, and one of them writes it. -/
def clash (p q : AOp) : Bool := hits p.dst (aoRd q) || sameD p.dst q.dst || hits q.dst (aoRd p)

/-- What an operation ahead of one that may turn the memory asks for behind it. -/
def reOf (a : AOp) : List Re :=
  match a.k with
  | .load s (.tmp x) => [.load s.size x (match a.guard with | none => none | some _ => a.dst)]
  | .slice _ _ none none => []
  | .slice _ (.tmp x) _ _ => [.sl x (match a.guard with | none => none | some _ => a.dst)]
  | .slice3 _ (.tmp x) _ _ _ => [.sl x (match a.guard with | none => none | some _ => a.dst)]
  | .boxH _ | .allocH _ | .buildSl _ _ _ | .makeMap | .makeSl _ _ _ _ => (match a.dst with | some d => [.blk d] | none => [])
  | _ => []

def resAll (dep : Nat) : List Item → List Re
  | [] => []
  | p :: l => (match Nat.testBit dep p.i with
    | true => []
    | false => reOf p.a) ++ resAll dep l

def mkItems (deps : List Nat) (as : List AOp) : List Item → List Nat → Option (List Item)
  | _, [] => some []
  | ahead, i :: l => match as[i]? with
    | none => none
    | some a =>
      let bar := isM a.k || hits a.dst (aoRd a) || ahead.any fun p => hits a.dst (aoRd p.a) || sameD a.dst p.a.dst
      let it : Item := ⟨i, ⟨a.dst, a.k, a.guard, match bar with | true => resAll (deps.getD i 0) ahead | false => []⟩, bar⟩
      match mkItems deps as (ahead ++ [it]) l with
      | some r => some (it :: r)
      | none => none

/-- A pair of the order, p ahead of q. -/
def pairOk (deps : List Nat) (p q : Item) : Bool :=
  (!(Nat.testBit (deps.getD p.i 0) q.i)) && (!(Nat.beq p.i q.i)) &&
  (Nat.testBit (deps.getD q.i 0) p.i || ((!p.bar) && !(clash p.a q.a))) &&
  (q.bar || !(hits q.a.dst (aoRd p.a) || sameD p.a.dst q.a.dst))

/-- Operations whose operand must be a slot. -/
def plainK : AK → Bool
  | .slice _ (.c _) _ _ => false
  | .slice3 _ (.c _) _ _ _ => false
  | .load (.agg []) _ => false
  | .load (.raw 0) _ => false
  | _ => true

/-- Operations that make a block, and do nothing else. -/
def isB : AK → Bool
  | .boxH _ | .allocH _ | .buildSl _ _ _ | .makeMap | .makeSl _ _ _ _ => true
  | _ => false

def selfOk (q : Item) : Bool := (q.bar || !(hits q.a.dst (aoRd q.a))) && (!(isM q.a.k) || q.bar) && plainK q.a.k && (!(isB q.a.k) || q.a.dst.isSome)

/-- All that binds an operation lies among those ahead of it. -/
def edgeOk (ahead : List Item) (o : Oper) : Bool := o.after.toList.all fun e => !(Region.binds .any e) || ahead.any fun p => Nat.beq p.i e.on

def edgesOk (ops : List Oper) : List Item → List Item → Bool
  | _, [] => true
  | ahead, p :: l => (match ops[p.i]? with | some o => edgeOk ahead o | none => false) && edgesOk ops (ahead ++ [p]) l

def itemsOk (deps : List Nat) : List Item → Bool
  | [] => true
  | p :: l => (l.all fun q => pairOk deps p q) && selfOk p && itemsOk deps l

def itemsA : List Item → List AOp
  | [] => []
  | p :: l => p.a :: itemsA l

def cItems (P : Program) (loc : Nat) (ops : List Oper) : Option (List Item) :=
  match cOpers P loc ops ops with
  | none => none
  | some as =>
    let deps := depTab ops []
    match mkItems deps as [] (orderGo deps as (List.range ops.length) ops.length 0) with
    | none => none
    | some l => match itemsOk deps l && edgesOk ops [] l && (List.range ops.length).all fun i => l.any fun p => Nat.beq p.i i with
      | true => some l
      | false => none

def cRegion (P : Program) (loc : Nat) (ops : List Oper) (draw : Bool) : Option (Bool × List AOp) :=
  match draw with
  | false => match cOpers P loc ops ops with
    | some l => some (anyGuard ops, l)
    | none => none
  | true => match cItems P loc ops with
    | some l => some (anyGuard ops, itemsA l)
    | none => none

/-- May compiled code come to an exit? -/
def acExit (id : Nat) : AC → Bool
  | .seq a b => acExit id a || acExit id b
  | .cond _ a b => acExit id a || acExit id b
  | .block _ c => acExit id c
  | .loop _ _ c => acExit id c
  | .exit j => Nat.beq j id
  | _ => false

/-- May compiled code come to its end? -/
def acEnds : AC → Bool
  | .seq a b => acEnds a && acEnds b
  | .cond _ a b => acEnds a || acEnds b
  | .block id c => acEnds c || acExit id c
  | .loop _ _ _ => false
  | .exit _ => false
  | .ret => false
  | .bad => false
  | _ => true

def acExits (id : Nat) : AC → Nat
  | .seq a b => acExits id a + acExits id b
  | .cond _ a b => acExits id a + acExits id b
  | .block _ c => acExits id c
  | .loop _ _ c => acExits id c
  | .exit j => (match Nat.beq j id with | true => 1 | false => 0)
  | _ => 0

/-- Do several ways lead behind a block? -/
def acMany (id : Nat) (c : AC) : Bool := Nat.ble 2 (acExits id c + (match acEnds c with | true => 1 | false => 0))

/-- Behind a branch or a block: do ways meet there? -/
def meet (b : Bool) (n : Nat) : AC := match b with | true => .join n | false => .mask n

def cCode (P : Program) (loc rt : Nat) : Code → Nat → List (Nat × Nat) → AC
  | .skip, _, _ => .skip
  | .region _ ops draw, _, _ => match cRegion P loc ops.toList draw with
    | some (sc, l) => .ops sc l
    | none => .bad
  | .seq a b, n, X => .seq (cCode P loc rt a (lv rt b n X) X) (cCode P loc rt b n X)
  | .cond c a b, n, X => match cX c with
    | some t => .seq (.cond t (cCode P loc rt a n X) (cCode P loc rt b n X)) (meet (acEnds (cCode P loc rt a n X) && acEnds (cCode P loc rt b n X)) n)
    | none => .bad
  | .block id c, n, X => .seq (.block id (cCode P loc rt c n ((id, n) :: X))) (meet (acMany id (cCode P loc rt c n ((id, n) :: X))) n)
  | .loop c, _, X =>
    let l := lv rt c (lv rt c 0 X) X
    .loop l (X.foldl (fun m p => Nat.lor m p.2) 0) (cCode P loc rt c l X)
  | .exit id, _, X => .seq (.mask (lookX X id)) (.exit id)
  | .ret, _, _ => .seq (.mask rt) .ret
  | _, _, _ => .bad

def resRV (P : Program) : List ResultVar → Option (List RV)
  | [] => some []
  | .tmp t :: l => (match resRV P l with | some r => some (.tmp t :: r) | none => none)
  | .cell a t :: l => (match vsOf P t, resRV P l with | some s, some r => some (.cell a s :: r) | _, _ => none)

def rvSlots : List RV → List Nat
  | [] => []
  | .tmp t :: l => t :: rvSlots l
  | .cell t _ :: l => t :: rvSlots l

def cFn (P : Program) (f : FuncId) : Option AFn :=
  match P.funcs[f]? with
  | none => none
  | some fn => match fn.body, resRV P fn.results.toList with
    | some c, some rs => if fn.name = "runtime.NumGoroutine" then none else
        let loc := locOf fn c
        let rt := setBs 0 (rvSlots rs)
        some ⟨fn.ntmps, rs, cCode P loc rt c rt []⟩
    | _, _ => none

noncomputable def retG (σ : St) : List RV → (List AV → Res) → Res
  | [], K => K []
  | .tmp t :: l, K => match getV [] (fun t => σ.env.getD t .any) (.tmp t) with
    | some a => retG σ l fun as => K (a :: as)
    | none => none
  | .cell t s :: l, K => opA (fun t => σ.env.getD t .any) σ.ah [] true (.load s (.tmp t)) fun sv => match sv with
    | .g _ _ a => retG σ l fun as => K (a :: as)
    | _ => none

noncomputable def retV (rs : List RV) (σ : St) : Res :=
  retG σ rs fun l => match l with
    | [a] => some (a, σ.ah)
    | l => some (.tup l, σ.ah)

def initEnv : List AV → Nat → List SV
  | [], n => List.replicate n .any
  | a :: l, n => .v a :: initEnv l (n - 1)

noncomputable def runFn (C : FuncId → List AV → Heap → Res) (k : Nat) (fn : AFn) (args : List AV) (ah : Heap) : Res :=
  evalCode C k fn.body ⟨initEnv args fn.nt, ah⟩ fun x σ => match x with
    | .normal => retV fn.res σ
    | .ret => retV fn.res σ
    | .exit _ => none

/-- Functions whose answer is given: each must be shown to be what their code comes to. -/
abbrev Prims := FuncId → Option (List AV → Heap → Res)

noncomputable def evalF (P : Program) (T : Prims) : Nat → FuncId → List AV → Heap → Res
  | 0, _, _, _ => none
  | k + 1, f, args, ah => match T f with
    | some p => p args ah
    | none => match cFn P f with
      | none => none
      | some fn => runFn (evalF P T k) k fn args ah

end Go.Proofs.Ytmfmnbldngfelaa.Abs
