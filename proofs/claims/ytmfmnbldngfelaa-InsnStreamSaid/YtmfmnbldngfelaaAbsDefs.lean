/- An abstract evaluator over the loaded code: values, a heap of blocks with versions, compiled operations. Definitions alone. -/
import GoSem.Step
import Derived.Laws.Entries
namespace Go.Proofs.Ytmfmnbldngfelaa.Abs
open Go

/-- An address: block, version of the block, cell. -/
structure Ad where
  b : Nat
  v : Nat
  o : Nat

/-- Where a slice begins: nil; an address; none is known (an empty slice behind a cut); an empty slice without capacity that is not nil. -/
inductive SA where
  | nil | pos (a : Ad) | lost | z

inductive AV where
  | int (k : IntKind) (n : Int)
  | bool (b : Bool)
  | str (s : ByteArray)
  | ptr (a : Option Ad)
  | sl (a : SA) (len : Nat)
  | map (r : Option Nat)
  | fn (f : FuncId) (first cap : List AV)
  | nilFn
  | nilIface
  | agg (cs : List AV)
  | tup (vs : List AV)
  | opq
  deriving Inhabited

inductive Mode where
  | ro | fix | grow (es : Nat)
  deriving DecidableEq

inductive Blk where
  | gone
  | cells (c : List AV) (m : Mode) (v : Nat)
  | map (es : List (AV × AV))

abbrev Heap := List Blk

/-- What a slot holds: nothing known; a value, under guards (slot, what it must be) that together come to 'bc'; a box of the frame; an address within one. -/
inductive SV where
  | any
  | g (gs : List (Nat × Bool)) (bc : Bool) (x : AV)
  | box (cs : List AV)
  | lref (gs : List (Nat × Bool)) (bc : Bool) (d off : Nat)

def SV.v (x : AV) : SV := .g [] true x

structure St where
  env : List SV
  ah : Heap

abbrev Up := Option (Nat × List AV)

/-! ### Cells of the heap -/

/-- May a value lie in one cell? -/
def flatA : AV → Bool
  | .agg _ | .tup _ | .opq => false
  | _ => true

def flatL : List AV → Bool
  | [] => true
  | x :: l => flatA x && flatL l

def ld1 (h : Heap) (a : Ad) : Option AV :=
  match h[a.b]? with
  | some (.cells c _ v) => if a.v = v then (match c[a.o]? with
      | some x => if flatA x = true then some x else none
      | none => none) else none
  | _ => none

def ldN (h : Heap) (a : Ad) (n : Nat) : Option (List AV) :=
  match h[a.b]? with
  | some (.cells c _ v) => if a.v = v ∧ a.o + n ≤ c.length ∧ flatL ((c.drop a.o).take n) = true then some ((c.drop a.o).take n) else none
  | _ => none

def splice : Nat → List AV → List AV → List AV
  | _, [], cs => cs
  | _, _ :: _, [] => []
  | 0, v :: vs, _ :: cs => v :: splice 0 vs cs
  | n + 1, v :: vs, c :: cs => c :: splice n (v :: vs) cs

def st1 (h : Heap) (a : Ad) (x : AV) : Option Heap :=
  match h[a.b]? with
  | some (.cells c m v) => if a.v = v ∧ m ≠ .ro ∧ a.o < c.length then some (h.set a.b (.cells (c.set a.o x) m v)) else none
  | _ => none

def stN (h : Heap) (a : Ad) (xs : List AV) : Option Heap :=
  match h[a.b]? with
  | some (.cells c m v) => if a.v = v ∧ m ≠ .ro ∧ a.o + xs.length ≤ c.length then some (h.set a.b (.cells (splice a.o xs c) m v)) else none
  | _ => none

def Ad.add (a : Ad) (n : Nat) : Ad := ⟨a.b, a.v, a.o + n⟩

def SA.isNil : SA → Bool
  | .nil => true
  | _ => false

/-- The address behind a cut at cell k that leaves m elements. -/
def adS (a : SA) (k m : Nat) : SA :=
  match a with
  | .pos a => (match m with
    | 0 => .lost
    | _ => .pos (a.add k))
  | a => a

def adP : SA → Option Ad
  | .pos a => some a
  | _ => none

/-! ### Shapes -/

inductive CS where
  | int (k : IntKind) | bool | str | ptr | sl | map | fn | iface
  deriving DecidableEq

inductive VS where
  | cell (c : CS) | agg (l : List CS) | raw (n : Nat)

def VS.size : VS → Nat
  | .cell _ => 1 | .agg l => l.length | .raw n => n

def rI (k : IntKind) : AV → Option Int
  | .int k' n => if k' = k then some n else none
  | _ => none
def rB : AV → Option Bool
  | .bool b => some b
  | _ => none
def rS : AV → Option ByteArray
  | .str s => some s
  | _ => none
def rP : AV → Option (Option Ad)
  | .ptr a => some a
  | _ => none
def rL : AV → Option (SA × Nat)
  | .sl a n => some (a, n)
  | _ => none
def rM : AV → Option (Option Nat)
  | .map r => some r
  | _ => none
def rA : AV → Option (List AV)
  | .agg l => some l
  | _ => none
def rT (n : Nat) : AV → Option (List AV)
  | .tup l => if l.length = n then some l else none
  | _ => none

/-- A result that is wanted only where the guard holds. -/
noncomputable def gb {α R : Type} (bc : Bool) (m : Option α) (d : α) (K : α → Option R) : Option R :=
  @Option.rec α (fun _ => Option R) (@Bool.rec (fun _ => Option R) (K d) none bc) K m

def chk {R : Type} (p : Prop) [Decidable p] (K : Option R) : Option R := if p then K else none

variable {R : Type}

noncomputable def rdC (c : CS) (m : Option AV) (bc : Bool) (K : AV → Option R) : Option R :=
  match c with
  | .int k => gb bc (m.bind (rI k)) 0 fun n => K (.int k n)
  | .bool => gb bc (m.bind rB) false fun b => K (.bool b)
  | .str => gb bc (m.bind rS) ByteArray.empty fun s => K (.str s)
  | .ptr => gb bc (m.bind rP) none fun a => K (.ptr a)
  | .sl => gb bc (m.bind rL) (.nil, 0) fun p => K (.sl p.1 p.2)
  | .map => gb bc (m.bind rM) none fun r => K (.map r)
  | .fn => gb bc m .nilFn K
  | .iface => gb bc m .nilIface K

noncomputable def rdL (l : List AV) (bc : Bool) : List CS → Nat → (List AV → Option R) → Option R
  | [], _, K => K []
  | c :: cs, i, K => rdC c l[i]? bc fun a => rdL l bc cs (i + 1) fun as => K (a :: as)

/-- The value of a shape, out of the cells from 'off' on of a list. -/
noncomputable def rdV (s : VS) (l : Option (List AV)) (bc : Bool) (K : AV → Option R) : Option R :=
  match s with
  | .cell c => gb bc l [] fun l => rdC c l[0]? bc K
  | .agg cs => gb bc l [] fun l => rdL l bc cs 0 fun as => K (.agg as)
  | .raw _ => gb bc l [] fun l => K (.agg l)

/-- What comes back from a call, by the results' shapes. -/
noncomputable def rdW (s : VS) (v : AV) (bc : Bool) (K : AV → Option R) : Option R :=
  match s with
  | .cell c => rdC c (some v) bc K
  | .agg cs => gb bc (rA v) [] fun l => chk (bc = true → l.length = cs.length) (rdL l bc cs 0 fun as => K (.agg as))
  | .raw n => gb bc (rA v) [] fun l => chk (bc = true → l.length = n) (K (.agg l))

noncomputable def rdWs (l : List AV) (bc : Bool) : List VS → Nat → (List AV → Option R) → Option R
  | [], _, K => K []
  | s :: ss, i, K => rdW s (l.getD i .opq) bc fun a => rdWs l bc ss (i + 1) fun as => K (a :: as)

noncomputable def rdRes (ss : List VS) (v : AV) (bc : Bool) (K : AV → Option R) : Option R :=
  match ss with
  | [s] => rdW s v bc K
  | ss => gb bc (rT ss.length v) [] fun l => rdWs l bc ss 0 fun as => K (.tup as)

/-! ### Operands -/

inductive AX where
  | tmp (t : Nat)
  | c (v : AV)

def allIn (gs gs' : List (Nat × Bool)) : Bool := gs.all fun x => gs'.any fun y => Nat.beq x.1 y.1 && (x.2 == y.2)

def getV (gs : List (Nat × Bool)) (ρ : Nat → SV) : AX → Option AV
  | .c v => some v
  | .tmp t => match ρ t with
    | .g gs' _ x => if allIn gs' gs = true then some x else none
    | _ => none

def getVs (gs : List (Nat × Bool)) (ρ : Nat → SV) : List AX → Option (List AV)
  | [] => some []
  | x :: xs => match getV gs ρ x with
    | some a => match getVs gs ρ xs with
      | some as => some (a :: as)
      | none => none
    | none => none

def lit (w b : Bool) : Bool := match w with | true => b | false => !b
def andB (a b : Bool) : Bool := match a with | true => b | false => false

/-- The guards under which an operation is carried out, and what they come to. -/
def guardOf (ρ : Nat → SV) : Option (Nat × Bool) → Option (List (Nat × Bool) × Bool)
  | none => some ([], true)
  | some (t, w) => match ρ t with
    | .g gs bc (.bool b) => some ((t, w) :: gs, andB bc (lit w b))
    | _ => none

/-! ### Operations -/

/-- The kind of type at which two values are compared. -/
inductive TK where
  | bool | ptr | sl | agg (sh : List Bool) | other

inductive AK where
  | move (x : AX)
  | pick (c a b : AX)
  | boxL (x : AX)
  | allocL (z : List AV)
  | boxH (x : AX)
  | allocH (z : List AV)
  | build (z : List AV) (parts : List (Nat × Nat × AX))
  | buildSl (z : List AV) (es : Nat) (parts : List (Nat × AX))
  | load (s : VS) (x : AX)
  | store (n : Nat) (x y : AX)
  | nilCheck (x : AX)
  | bin (tk : TK) (op : BinOp) (x y : AX)
  | un (op : UnOp) (x : AX)
  | conv (k : IntKind) (x : AX)
  | makeFn (f : FuncId) (first cap : List AX)
  | makeMap
  | makeSl (z : List AV) (bytes : Nat) (len cap : AX)
  | slice (es : Nat) (x : AX) (lo hi : Option AX)
  | slice3 (es : Nat) (x : AX) (lo hi mx : AX)
  | clear (z : List AV) (x : AX)
  | indexS (x i : AX)
  | sliceZ (x : AX)
  | fieldAddr (off : Nat) (x : AX)
  | field (off : Nat) (s : VS) (x : AX)
  | indexAddr (es : Nat) (x i : AX)
  | indexArr (len es : Nat) (x i : AX)
  | index (len es : Nat) (s : VS) (x i : AX)
  | lookup (z : AV) (s : VS) (ok : Bool) (m k : AX)
  | mapUpdate (m k x : AX)
  | extract (x : AX) (i : Nat)
  | call (f : FuncId) (args : List AX) (rs : List VS) (z : AV)
  | callV (f : AX) (args : List AX) (rs : List VS) (z : AV)
  | lenSl (x : AX)
  | lenStr (x : AX)
  | lenMap (x : AX)
  | lenArr (n : Nat)
  | append (z : List AV) (es bytes : Nat) (x y : AX)
  | copy (es : Nat) (x y : AX)
  | mm (max : Bool) (xs : List AX)

/-- What must not have turned behind an operation: what a load ahead of it read; a block made ahead of it. -/
inductive Re where
  | load (n : Nat) (x : Nat) (g : Option Nat)
  | blk (t : Nat)
  | sl (t : Nat) (g : Option Nat)

def axT : AX → List Nat
  | .tmp t => [t]
  | .c _ => []
def axTs : List AX → List Nat
  | [] => []
  | x :: l => axT x ++ axTs l
def axTo : Option AX → List Nat
  | none => []
  | some x => axT x
def partTs : List (Nat × Nat × AX) → List Nat
  | [] => []
  | p :: l => axT p.2.2 ++ partTs l
def partTs' : List (Nat × AX) → List Nat
  | [] => []
  | p :: l => axT p.2 ++ partTs' l

/-- The slots that an operation reads. -/
def akTmps : AK → List Nat
  | .move x | .boxL x | .boxH x | .load _ x | .nilCheck x | .un _ x | .conv _ x | .clear _ x | .sliceZ x | .fieldAddr _ x | .field _ _ x | .extract x _ | .lenSl x | .lenStr x | .lenMap x => axT x
  | .pick c a b => axT c ++ axT a ++ axT b
  | .allocL _ | .allocH _ | .makeMap | .lenArr _ => []
  | .build _ ps => partTs ps
  | .buildSl _ _ ps => partTs' ps
  | .store _ x y | .bin _ _ x y | .indexS x y | .indexAddr _ x y | .indexArr _ _ x y | .index _ _ _ x y | .append _ _ _ x y | .copy _ x y | .makeSl _ _ x y | .lookup _ _ _ x y => axT x ++ axT y
  | .makeFn _ a b => axTs a ++ axTs b
  | .slice _ x lo hi => axT x ++ axTo lo ++ axTo hi
  | .slice3 _ x lo hi mx => axT x ++ axT lo ++ axT hi ++ axT mx
  | .mapUpdate m k x => axT m ++ axT k ++ axT x
  | .call _ as _ _ => axTs as
  | .callV f as _ _ => axT f ++ axTs as
  | .mm _ xs => axTs xs

structure AOp where
  dst : Option Nat
  k : AK
  guard : Option (Nat × Bool)
  re : List Re

/-- An address as a place: in the heap, or in a box of the frame. -/
inductive Place where
  | heap (a : Ad) | loc (d off : Nat)

def cellsOf : AV → List AV
  | .agg cs => cs
  | a => [a]

abbrev Res := Option (AV × Heap)

/-- A slice's cells, read. -/
def ldSl (h : Heap) (a : SA) (n : Nat) : Option (List AV) :=
  match n with
  | 0 => some []
  | n => match a with
    | .pos a => ldN h a n
    | _ => none

def repl (n : Nat) (z : List AV) : List AV :=
  match z with
  | [x] => List.replicate n x
  | z => (List.replicate n z).flatten

/-- append: what a slice with further cells comes to: in the cells that are known to be there, in place; else under a new version. -/
def apnd (h : Heap) (x : AV) (es bytes : Nat) (ys : List AV) (n : Nat) : Option (AV × Heap) :=
  match x with
  | .sl a len => match n with
    | 0 => some (.sl a len, h)
    | n => match a with
      | .nil => if len = 0 ∧ n * bytes ≤ 70368744177664 then some (.sl (.pos ⟨h.length, 0, 0⟩) n, h ++ [.cells ys (.grow es) 0]) else none
      | .z => if len = 0 ∧ n * bytes ≤ 70368744177664 then some (.sl (.pos ⟨h.length, 0, 0⟩) n, h ++ [.cells ys (.grow es) 0]) else none
      | .lost => none
      | .pos a => match h[a.b]? with
        | some (.cells c (.grow e) v) =>
          if a.v = v ∧ e = es ∧ a.o + len * es ≤ c.length ∧ (len + n) * bytes ≤ 70368744177664 then
            if a.o + (len + n) * es ≤ c.length then
              some (.sl (.pos a) (len + n), h.set a.b (.cells (splice (a.o + len * es) ys c) (.grow es) v))
            else if flatL ((c.drop a.o).take (len * es)) = true then
              some (.sl (.pos ⟨a.b, v + 1, 0⟩) (len + n), h.set a.b (.cells ((c.drop a.o).take (len * es) ++ ys) (.grow es) (v + 1)))
            else none
          else none
        | _ => none
  | _ => none

/-- Are there 'hi' elements behind a slice's address? -/
def hiOk (h : Heap) (a : SA) (n es : Nat) (hi : Int) : Prop :=
  hi ≤ n ∨ ∃ p c v, a = .pos p ∧ h[p.b]? = some (.cells c (.grow es) v) ∧ p.v = v ∧ p.o + hi.toNat * es ≤ c.length

/-- Is the block's own element size, where it has one, this one? -/
def esOk (h : Heap) (a : SA) (es : Nat) : Prop :=
  ∀ p, a = .pos p → ∃ b, h[p.b]? = some b ∧ ∀ c e v, b = .cells c (.grow e) v → e = es

open Classical in
noncomputable def chkC {R : Type} (p : Prop) (K : Option R) : Option R := if p then K else none

def rdInts : List AV → Option (List Int)
  | [] => some []
  | .int .i64 n :: l => match rdInts l with | some r => some (n :: r) | none => none
  | _ :: _ => none

def foldMM (max : Bool) : Int → List Int → Int
  | a, [] => a
  | a, b :: l => foldMM max (match max with | true => (if a < b then b else a) | false => (if b < a then b else a)) l

def binInt (bc : Bool) (op : BinOp) (k : IntKind) (x y : Int) (K : AV → Option R) : Option R :=
  match op with
  | .add => K (.int k (k.wrap (x + y)))
  | .sub => K (.int k (k.wrap (x - y)))
  | .mul => K (.int k (k.wrap (x * y)))
  | .quo => chk (bc = true → y ≠ 0) (K (.int k (k.wrap (x.tdiv y))))
  | .rem => chk (bc = true → y ≠ 0) (K (.int k (x.tmod y)))
  | .and => K (.int k (Go.bits .and k x y))
  | .or => K (.int k (Go.bits .or k x y))
  | .xor => K (.int k (Go.bits .xor k x y))
  | .andNot => K (.int k (Go.bits .andNot k x y))
  | .eql => K (.bool (decide (x = y)))
  | .neq => K (.bool (!decide (x = y)))
  | .lss => K (.bool (decide (x < y)))
  | .leq => K (.bool (decide (x ≤ y)))
  | .gtr => K (.bool (decide (y < x)))
  | .geq => K (.bool (decide (y ≤ x)))
  | _ => none

def shInt (bc : Bool) (op : BinOp) (k : IntKind) (x y : Int) (K : AV → Option R) : Option R :=
  match op with
  | .shl => chk (bc = true → 0 ≤ y) (K (.int k (k.wrap (x * 2 ^ (min y.toNat k.bits)))))
  | .shr => chk (bc = true → 0 ≤ y) (K (.int k (x.fdiv (2 ^ (min y.toNat k.bits)))))
  | _ => none

/-- Equality of two values of flat cells: numbers and truth values, cell by cell. -/
def eqCells : List Bool → List AV → List AV → Option Bool
  | [], [], [] => some true
  | false :: sh, .int j x :: l, .int k y :: r => if j = k then (match eqCells sh l r with | some b => some (decide (x = y) && b) | none => none) else none
  | true :: sh, .bool x :: l, .bool y :: r => (match eqCells sh l r with | some b => some ((x == y) && b) | none => none)
  | _, _, _ => none

def isShift : BinOp → Bool
  | .shl | .shr => true
  | _ => false

noncomputable def binOpA (tk : TK) (bc : Bool) (op : BinOp) (x y : AV) (K : AV → Option R) : Option R :=
  match x, y with
  | .int k a, .int k' b => match isShift op with
    | true => shInt bc op k a b K
    | false => if k = k' then binInt bc op k a b K else none
  | .str a, .str b => match op with
    | .eql => K (.bool (a.toList == b.toList))
    | .neq => K (.bool (!(a.toList == b.toList)))
    | _ => none
  | .bool a, .bool b => match tk with
    | .bool => match op with
      | .eql => K (.bool (a == b))
      | .neq => K (.bool (!(a == b)))
      | _ => none
    | _ => none
  | .ptr a, .ptr b => match tk with
    | .ptr => match b with
      | none => match op with
        | .eql => K (.bool a.isNone)
        | .neq => K (.bool (!a.isNone))
        | _ => none
      | some _ => match a with
        | none => match op with
          | .eql => K (.bool false)
          | .neq => K (.bool true)
          | _ => none
        | some _ => none
    | _ => none
  | .sl a _, .sl .nil 0 => match tk with
    | .sl => match op with
      | .eql => K (.bool a.isNil)
      | .neq => K (.bool (!a.isNil))
      | _ => none
    | _ => none
  | .agg a, .agg b => match tk with
    | .agg sh => match op with
      | .eql => gb bc (eqCells sh a b) false fun r => K (.bool r)
      | .neq => gb bc (eqCells sh a b) false fun r => K (.bool (!r))
      | _ => none
    | _ => none
  | _, _ => none

noncomputable def place (gs : List (Nat × Bool)) (ρ : Nat → SV) (x : AX) (bc : Bool) (K : Place → Option R) : Option R :=
  match x with
  | .c _ => none
  | .tmp t => match ρ t with
    | .box _ => K (.loc t 0)
    | .lref gs' _ d off => if allIn gs' gs = true then K (.loc d off) else none
    | _ => match getV gs ρ x with
      | some (.ptr a) => gb bc a ⟨0, 0, 0⟩ fun a => K (.heap a)
      | _ => none

def boxAt (ρ : Nat → SV) (d : Nat) : Option (List AV) :=
  match ρ d with
  | .box cs => some cs
  | _ => none

def mapFind (k : AV) : List (AV × AV) → Option (Option AV)
  | [] => some none
  | (k', v) :: l => match k, k' with
    | .int i x, .int j y => if i = j then (if x = y then some (some v) else mapFind k l) else none
    | _, _ => none

def mapPut (k x : AV) : List (AV × AV) → Option (List (AV × AV))
  | [] => some [(k, x)]
  | (k', v) :: l => match k, k' with
    | .int i a, .int j b => if i = j then (if a = b then some ((k, x) :: l) else (match mapPut k x l with | some r => some ((k', v) :: r) | none => none)) else none
    | _, _ => none

def buildGo : List AV → List (Nat × Nat × List AV) → Option (List AV)
  | z, [] => some z
  | z, (off, n, vs) :: ps => if vs.length = n ∧ off + n ≤ z.length then buildGo (splice off vs z) ps else none

def solid : AV → Bool
  | .opq => false
  | _ => true

def getParts (gs : List (Nat × Bool)) (ρ : Nat → SV) : List (Nat × Nat × AX) → Option (List (Nat × Nat × List AV))
  | [] => some []
  | (off, n, x) :: ps => match getV gs ρ x, getParts gs ρ ps with
    | some a, some r => (match solid a with | true => some ((off, n, cellsOf a) :: r) | false => none)
    | _, _ => none

/-- Operations that read, at most. -/
noncomputable def opA (ρ : Nat → SV) (ah : Heap) (gs : List (Nat × Bool)) (bc : Bool) (k : AK) (ret : SV → Option R) : Option R :=
  match k with
  | .move x => match getV gs ρ x with
    | some a => ret (.g gs bc a)
    | none => none
  | .pick c a b => match c with
    | .c _ => none
    | .tmp t => match getV gs ρ (.tmp t) with
      | some (.bool bv) => match getV ((t, true) :: gs) ρ a, getV ((t, false) :: gs) ρ b with
        | some (.bool x), some (.bool y) => ret (.g gs bc (.bool (if bv = true then x else y)))
        | some x, some y => if bv = true then ret (.g gs bc x) else ret (.g gs bc y)
        | _, _ => none
      | _ => none
  | .build z ps => match getParts gs ρ ps with
    | some vs => gb bc (buildGo z vs) z fun cs => ret (.g gs bc (.agg cs))
    | none => none
  | .load s x => place gs ρ x bc fun
    | .heap a => match s with
      | .cell c => rdC c (ld1 ah a) bc fun v => ret (.g gs bc v)
      | .agg l => rdV (.agg l) (ldN ah a l.length) bc fun v => ret (.g gs bc v)
      | .raw n => rdV (.raw n) (ldN ah a n) bc fun v => ret (.g gs bc v)
    | .loc d off => match boxAt ρ d with
      | none => none
      | some cs => match s with
        | .cell c => rdC c cs[off]? bc fun v => ret (.g gs bc v)
        | .agg l => chk (bc = true → off + l.length ≤ cs.length) (rdL cs bc l off fun as => ret (.g gs bc (.agg as)))
        | .raw n => chk (bc = true → off + n ≤ cs.length) (ret (.g gs bc (.agg ((cs.drop off).take n))))
  | .nilCheck x => match x with
    | .c _ => none
    | .tmp t => match ρ t with
      | .box _ => ret (.lref gs bc t 0)
      | .lref gs' _ d off => if allIn gs' gs = true then ret (.lref gs bc d off) else none
      | .g gs' _ a => if allIn gs' gs = true then (match a with
        | .ptr a => gb bc a ⟨0, 0, 0⟩ fun a => ret (.g gs bc (.ptr (some a)))
        | .fn f a b => ret (.g gs bc (.fn f a b))
        | _ => none) else none
      | .any => none
  | .bin tk op x y => match getV gs ρ x, getV gs ρ y with
    | some a, some b => binOpA tk bc op a b fun v => ret (.g gs bc v)
    | _, _ => none
  | .un op x => match op, getV gs ρ x with
    | .not, some (.bool b) => ret (.g gs bc (.bool (!b)))
    | .neg, some (.int k n) => ret (.g gs bc (.int k (k.wrap (0 - n))))
    | .xor, some (.int k n) => ret (.g gs bc (.int k (Go.bits .xor k (if k.signed = true then -1 else k.max) n)))
    | _, _ => none
  | .conv k x => match getV gs ρ x with
    | some (.int _ n) => ret (.g gs bc (.int k (k.wrap n)))
    | _ => none
  | .makeFn f first cap => match getVs gs ρ first, getVs gs ρ cap with
    | some a, some b => ret (.g gs bc (.fn f a b))
    | _, _ => none
  | .slice es x lo hi => match getV gs ρ x with
    | some (.sl a n) => match lo, hi with
      | none, none => ret (.g gs bc (.sl a n))
      | none, some hi => (match getV gs ρ hi with
        | some (.int .i64 h) => chkC (bc = true → 0 ≤ h ∧ hiOk ah a n es h) (ret (.g gs bc (.sl a h.toNat)))
        | _ => none)
      | some lo, none => (match getV gs ρ lo with
        | some (.int .i64 l) => chkC (bc = true → 0 ≤ l ∧ l ≤ n ∧ esOk ah a es) (ret (.g gs bc (.sl (adS a (l.toNat * es) (n - l.toNat)) (n - l.toNat))))
        | _ => none)
      | some lo, some hi => (match getV gs ρ lo, getV gs ρ hi with
        | some (.int .i64 l), some (.int .i64 h) => chkC (bc = true → 0 ≤ l ∧ l ≤ h ∧ hiOk ah a n es h ∧ esOk ah a es)
            (ret (.g gs bc (.sl (adS a (l.toNat * es) (h.toNat - l.toNat)) (h.toNat - l.toNat))))
        | _, _ => none)
    | _ => none
  | .slice3 es x lo hi mx => match getV gs ρ x, getV gs ρ lo, getV gs ρ hi, getV gs ρ mx with
    | some (.sl a n), some (.int .i64 l), some (.int .i64 h), some (.int .i64 m) =>
      chkC (bc = true → 0 ≤ l ∧ l ≤ h ∧ h ≤ m ∧ hiOk ah a n es m) (ret (.g gs bc .opq))
    | _, _, _, _ => none
  | .sliceZ x => match getV gs ρ x with
    | some (.sl a _) => ret (.g gs bc (.sl (match a with | .nil => .nil | _ => .z) 0))
    | _ => none
  | .fieldAddr off x => place gs ρ x bc fun
    | .heap a => ret (.g gs bc (.ptr (some (a.add off))))
    | .loc d o => ret (.lref gs bc d (o + off))
  | .field off s x => match getV gs ρ x with
    | some (.agg cs) => match s with
      | .cell c => rdC c cs[off]? bc fun v => ret (.g gs bc v)
      | .agg l => chk (bc = true → off + l.length ≤ cs.length) (rdL cs bc l off fun as => ret (.g gs bc (.agg as)))
      | .raw n => chk (bc = true → off + n ≤ cs.length) (ret (.g gs bc (.agg ((cs.drop off).take n))))
    | _ => none
  | .indexAddr es x i => match getV gs ρ x, getV gs ρ i with
    | some (.sl a n), some (.int _ i) =>
      chk (bc = true → 0 ≤ i ∧ i < n) (gb bc (adP a) ⟨0, 0, 0⟩ fun a => ret (.g gs bc (.ptr (some (a.add (i.toNat * es))))))
    | _, _ => none
  | .indexArr len es x i => match getV gs ρ i with
    | some (.int _ i) => place gs ρ x bc fun
      | .heap a => chk (bc = true → 0 ≤ i ∧ i < len) (ret (.g gs bc (.ptr (some (a.add (i.toNat * es))))))
      | .loc d o => chk (bc = true → 0 ≤ i ∧ i < len) (ret (.lref gs bc d (o + i.toNat * es)))
    | _ => none
  | .index len es s x i => match getV gs ρ x, getV gs ρ i with
    | some (.agg cs), some (.int _ i) => chk (bc = true → 0 ≤ i ∧ i < len) (match s with
      | .cell c => rdC c cs[i.toNat * es]? bc fun v => ret (.g gs bc v)
      | _ => none)
    | _, _ => none
  | .indexS x i => match getV gs ρ x, getV gs ρ i with
    | some (.str s), some (.int _ i) => gb bc (if 0 ≤ i then s[i.toNat]? else none) 0 fun b => ret (.g gs bc (.int .u8 b.toNat))
    | _, _ => none
  | .lookup z s ok m k => match getV gs ρ m, getV gs ρ k with
    | some (.map r), some a => gb bc (match r with
        | none => some none
        | some r => match ah[r]? with
          | some (.map es) => mapFind a es
          | _ => none) none fun f =>
        rdW s (f.getD z) bc fun v => match ok with
          | true => ret (.g gs bc (.tup [v, .bool f.isSome]))
          | false => ret (.g gs bc v)
    | _, _ => none
  | .extract x i => match getV gs ρ x with
    | some (.tup vs) => match vs[i]? with
      | some a => ret (.g gs bc a)
      | none => none
    | _ => none
  | .lenSl x => match getV gs ρ x with
    | some (.sl _ n) => ret (.g gs bc (.int .i64 n))
    | _ => none
  | .lenStr x => match getV gs ρ x with
    | some (.str s) => ret (.g gs bc (.int .i64 s.size))
    | _ => none
  | .lenMap x => match getV gs ρ x with
    | some (.map r) => gb bc (match r with
        | none => some 0
        | some r => match ah[r]? with
          | some (.map es) => some es.length
          | _ => none) 0 fun n => ret (.g gs bc (.int .i64 n))
    | _ => none
  | .lenArr n => ret (.g gs bc (.int .i64 n))
  | .mm mx xs => match getVs gs ρ xs with
    | some (.int .i64 a :: l) => gb bc (rdInts l) [] fun l => ret (.g gs bc (.int .i64 (foldMM mx a l)))
    | _ => none
  | _ => none

/-- Operations that make a box of the frame. -/
noncomputable def opX (ρ : Nat → SV) (k : AK) (ret : List AV → Option R) : Option R :=
  match k with
  | .boxL x => match getV [] ρ x with
    | some a => (match solid a with | true => ret (cellsOf a) | false => none)
    | none => none
  | .allocL z => ret z
  | _ => none

/-- Operations that make a block, and do nothing else: its address, given its number, and the block. -/
noncomputable def opB (ρ : Nat → SV) (k : AK) (n : Nat) (ret : AV → Blk → Option R) : Option R :=
  match k with
  | .boxH x => match getV [] ρ x with
    | some a => (match solid a with | true => ret (.ptr (some ⟨n, 0, 0⟩)) (.cells (cellsOf a) .fix 0) | false => none)
    | none => none
  | .allocH z => ret (.ptr (some ⟨n, 0, 0⟩)) (.cells z .fix 0)
  | .buildSl z es ps => match getParts [] ρ (ps.map fun p => (p.1, es, p.2)) with
    | some vs => (buildGo z vs).bind fun cs => ret (.sl (.pos ⟨n, 0, 0⟩) ps.length) (.cells cs (.grow es) 0)
    | none => none
  | .makeMap => ret (.map (some n)) (.map [])
  | .makeSl z bytes len cap => match getV [] ρ len, getV [] ρ cap with
    | some (.int .i64 l), some (.int .i64 c) =>
      chk (0 ≤ l ∧ l ≤ c ∧ c * bytes ≤ 70368744177664)
        (ret (.sl (.pos ⟨n, 0, 0⟩) l.toNat) (.cells (repl l.toNat z) (.grow z.length) 0))
    | _, _ => none
  | _ => none

/-- Operations that turn the heap or a box. -/
noncomputable def opM (ρ : Nat → SV) (ah : Heap) (k : AK) (ret : AV → Heap → Up → Option R) : Option R :=
  match k with
  | .store n x y => match getV [] ρ y with
    | some a => place [] ρ x true fun
      | .heap p => match n with
        | 1 => (match cellsOf a with
          | [x] => chk (flatA x = true) ((st1 ah p x).bind fun h => ret (.tup []) h none)
          | _ => none)
        | n => chk ((cellsOf a).length = n ∧ flatL (cellsOf a) = true) ((stN ah p (cellsOf a)).bind fun h => ret (.tup []) h none)
      | .loc d off => match boxAt ρ d with
        | none => none
        | some cs => match n with
          | 1 => (match cellsOf a with
            | [x] => chk (flatA x = true ∧ off < cs.length) (ret (.tup []) ah (some (d, cs.set off x)))
            | _ => none)
          | n => chk ((cellsOf a).length = n ∧ flatL (cellsOf a) = true ∧ off + n ≤ cs.length) (ret (.tup []) ah (some (d, splice off (cellsOf a) cs)))
    | none => none
  | .clear z x => match getV [] ρ x with
    | some (.sl a n) => (match n with
      | 0 => some ah
      | n => match a with
        | .pos p => stN ah p (repl n z)
        | _ => none).bind fun h => ret (.tup []) h none
    | _ => none
  | .mapUpdate m k x => match getV [] ρ m, getV [] ρ k, getV [] ρ x with
    | some (.map (some r)), some a, some v => (match ah[r]? with
      | some (.map es) => (match mapPut a v es with | some es' => some (ah.set r (.map es')) | none => none)
      | _ => none).bind fun h => ret (.tup []) h none
    | _, _, _ => none
  | .append _ es bytes x y => match getV [] ρ x, getV [] ρ y with
    | some a, some (.sl p n) => (ldSl ah p (n * es)).bind fun ys => (apnd ah a es bytes ys n).bind fun r => gb true (rL r.1) (.nil, 0) fun p => ret (.sl p.1 p.2) r.2 none
    | _, _ => none
  | .copy es x y => match getV [] ρ x, getV [] ρ y with
    | some (.sl p n), some (.sl q m) =>
      (ldSl ah q (min m n * es)).bind fun ys => (match min m n * es with
        | 0 => some ah
        | _ => match p with
          | .pos p => stN ah p ys
          | _ => none).bind fun h => ret (.int .i64 (min m n : Nat)) h none
    | _, _ => none
  | _ => none

/-- Calls: the function and its arguments. -/
noncomputable def opF (ρ : Nat → SV) (gs : List (Nat × Bool)) (k : AK) (ret : FuncId → List AV → List VS → AV → Option R) : Option R :=
  match k with
  | .call f args rs z => match getVs gs ρ args with
    | some as => ret f as rs z
    | none => none
  | .callV f args rs z => match getV gs ρ f, getVs gs ρ args with
    | some (.fn f first cap), some as => ret f (first ++ as ++ cap) rs z
    | _, _ => none
  | _ => none

/-- One operation: the value that it yields, the heap, the box that it writes. -/
noncomputable def opK (C : FuncId → List AV → Heap → Res) (ρ : Nat → SV) (ah : Heap) (gs : List (Nat × Bool)) (bc : Bool) (k : AK)
    (K : SV → Heap → Up → Option R) : Option R :=
  match k with
  | .boxL x => (match gs with | [] => opX ρ (.boxL x) fun cs => K (.box cs) ah none | _ => none)
  | .allocL z => (match gs with | [] => opX ρ (.allocL z) fun cs => K (.box cs) ah none | _ => none)
  | .boxH x => (match gs with | [] => opB ρ (.boxH x) ah.length fun a b => K (.v a) (ah ++ [b]) none | _ => none)
  | .allocH z => (match gs with | [] => opB ρ (.allocH z) ah.length fun a b => K (.v a) (ah ++ [b]) none | _ => none)
  | .buildSl z es ps => (match gs with | [] => opB ρ (.buildSl z es ps) ah.length fun a b => K (.v a) (ah ++ [b]) none | _ => none)
  | .makeMap => (match gs with | [] => opB ρ .makeMap ah.length fun a b => K (.v a) (ah ++ [b]) none | _ => none)
  | .makeSl z n l c => (match gs with | [] => opB ρ (.makeSl z n l c) ah.length fun a b => K (.v a) (ah ++ [b]) none | _ => none)
  | .store n x y => (match gs with | [] => opM ρ ah (.store n x y) fun a h u => K (.v a) h u | _ => none)
  | .clear z x => (match gs with | [] => opM ρ ah (.clear z x) fun a h u => K (.v a) h u | _ => none)
  | .mapUpdate m k x => (match gs with | [] => opM ρ ah (.mapUpdate m k x) fun a h u => K (.v a) h u | _ => none)
  | .append z es n x y => (match gs with | [] => opM ρ ah (.append z es n x y) fun a h u => K (.v a) h u | _ => none)
  | .copy es x y => (match gs with | [] => opM ρ ah (.copy es x y) fun a h u => K (.v a) h u | _ => none)
  | .call f args rs z => opF ρ gs (.call f args rs z) fun f as rs z => (match gs with
      | [] => (C f as ah).bind fun r => rdRes rs r.1 true fun a => K (.v a) r.2 none
      | _ => (if bc = true then C f as ah else some (z, ah)).bind fun r => rdRes rs r.1 bc fun a => K (.g gs bc a) r.2 none)
  | .callV f args rs z => opF ρ gs (.callV f args rs z) fun f as rs z => (match gs with
      | [] => (C f as ah).bind fun r => rdRes rs r.1 true fun a => K (.v a) r.2 none
      | _ => (if bc = true then C f as ah else some (z, ah)).bind fun r => rdRes rs r.1 bc fun a => K (.g gs bc a) r.2 none)
  | k => opA ρ ah gs bc k fun sv => K sv ah none

end Go.Proofs.Ytmfmnbldngfelaa.Abs
