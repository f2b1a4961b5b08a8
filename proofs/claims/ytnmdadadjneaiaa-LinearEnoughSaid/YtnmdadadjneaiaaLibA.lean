/- An abstract evaluator over the loaded code: values, a heap of blocks with versions, compiled operations. Definitions alone. -/
import GoSem.Step
import Derived.Laws.Entries
import Derived.Laws.CopyRow
import Derived.Laws.Cells
import Derived.Laws.Tables
namespace Go.Proofs.Ytnmdadadjneaiaa.Abs
open Go
structure Ad where
 b : Nat
 v : Nat
 o : Nat
 deriving DecidableEq
inductive SA where
 | nil | pos (a : Ad) | lost | z
 deriving DecidableEq
inductive AV where
 | int (k : IntKind) (n : Int)
 | bool (b : Bool)
 | str (s : ByteArray)
 | ptr (a : Option Ad)
 | sl (a : SA) (len : Nat)
 | map (r : Option Nat)
 | fn (f : FuncId) (first cap : List AV)
 | nilFn
 | nilIface
 | agg (cs : List AV)
 | tup (vs : List AV)
 | opq
 deriving Inhabited
mutual
def AV.same : AV → AV → Bool
 | .int k n, .int k' n' => decide (k = k') && decide (n = n')
 | .bool b, .bool b' => b == b'
 | .str s, .str s' => decide (s.data.toList = s'.data.toList)
 | .ptr a, .ptr a' => decide (a = a')
 | .sl a n, .sl a' n' => decide (a = a') && decide (n = n')
 | .map r, .map r' => decide (r = r')
 | .fn f x y, .fn f' x' y' => decide ((f : Nat) = (f' : Nat)) && (AV.sameL x x' && AV.sameL y y')
 | .nilFn, .nilFn => true
 | .nilIface, .nilIface => true
 | .agg l, .agg l' => AV.sameL l l'
 | .tup l, .tup l' => AV.sameL l l'
 | .opq, .opq => true
 | _, _ => false
def AV.sameL : List AV → List AV → Bool
 | [], [] => true
 | x :: l, y :: r => AV.same x y && AV.sameL l r
 | _, _ => false
end
mutual
theorem AV.same_iff : ∀ (x y : AV), AV.same x y = true ↔ x = y
 | .int k n, y => by cases y <;> simp [AV.same]
 | .bool b, y => by cases y <;> simp [AV.same]
 | .str s, y => by
  cases y <;> simp [AV.same]
  rename_i t
  constructor
  · intro h
    obtain ⟨⟨a⟩⟩ := s
    obtain ⟨⟨b⟩⟩ := t
    simp at h
    rw [h]
  · intro h; rw [h]
 | .ptr a, y => by cases y <;> simp [AV.same]
 | .sl a n, y => by cases y <;> simp [AV.same]
 | .map r, y => by cases y <;> simp [AV.same]
 | .fn f u v, y => by cases y <;> simp [AV.same, AV.sameL_iff u, AV.sameL_iff v]
 | .nilFn, y => by cases y <;> simp [AV.same]
 | .nilIface, y => by cases y <;> simp [AV.same]
 | .agg l, y => by cases y <;> simp [AV.same, AV.sameL_iff l]
 | .tup l, y => by cases y <;> simp [AV.same, AV.sameL_iff l]
 | .opq, y => by cases y <;> simp [AV.same]
theorem AV.sameL_iff : ∀ (x y : List AV), AV.sameL x y = true ↔ x = y
 | [], y => by cases y <;> simp [AV.sameL]
 | a :: l, y => by cases y <;> simp [AV.sameL, AV.same_iff a, AV.sameL_iff l]
end
instance : DecidableEq AV := fun x y => decidable_of_iff _ (AV.same_iff x y)
inductive Mode where
 | ro | fix | grow (es : Nat)
 deriving DecidableEq
inductive Blk where
 | gone
 | cells (c : List AV) (m : Mode) (v : Nat)
 | map (es : List (AV × AV))
 deriving DecidableEq
abbrev Heap := List Blk
inductive SV where
 | any
 | g (gs : List (Nat × Bool)) (bc : Bool) (x : AV)
 | box (cs : List AV)
 | lref (gs : List (Nat × Bool)) (bc : Bool) (d off : Nat)
def SV.v (x : AV) : SV := .g [] true x
structure St where
 env : List SV
 ah : Heap
abbrev Up := Option (Nat × List AV)
def flatA : AV → Bool
 | .agg _ | .tup _ | .opq => false
 | _ => true
def flatL : List AV → Bool
 | [] => true
 | x :: l => flatA x && flatL l
def ld1 (h : Heap) (a : Ad) : Option AV :=
 match h[a.b]? with
 | some (.cells c _ v) => if a.v = v then (match c[a.o]? with
  | some x => if flatA x = true then some x else none
  | none => none) else none
 | _ => none
def ldN (h : Heap) (a : Ad) (n : Nat) : Option (List AV) :=
 match h[a.b]? with
 | some (.cells c _ v) => if a.v = v ∧ a.o + n ≤ c.length ∧ flatL ((c.drop a.o).take n) = true then some ((c.drop a.o).take n) else none
 | _ => none
def splice : Nat → List AV → List AV → List AV
 | _, [], cs => cs
 | _, _ :: _, [] => []
 | 0, v :: vs, _ :: cs => v :: splice 0 vs cs
 | n + 1, v :: vs, c :: cs => c :: splice n (v :: vs) cs
def st1 (h : Heap) (a : Ad) (x : AV) : Option Heap :=
 match h[a.b]? with
 | some (.cells c m v) => if a.v = v ∧ m ≠ .ro ∧ a.o < c.length then some (h.set a.b (.cells (c.set a.o x) m v)) else none
 | _ => none
def stN (h : Heap) (a : Ad) (xs : List AV) : Option Heap :=
 match h[a.b]? with
 | some (.cells c m v) => if a.v = v ∧ m ≠ .ro ∧ a.o + xs.length ≤ c.length then some (h.set a.b (.cells (splice a.o xs c) m v)) else none
 | _ => none
def Ad.add (a : Ad) (n : Nat) : Ad := ⟨a.b, a.v, a.o + n⟩
def SA.isNil : SA → Bool
 | .nil => true
 | _ => false
def adS (a : SA) (k m : Nat) : SA :=
 match a with
 | .pos a => (match m with
  | 0 => .lost
  | _ => .pos (a.add k))
 | a => a
def adP : SA → Option Ad
 | .pos a => some a
 | _ => none
inductive CS where
 | int (k : IntKind) | bool | str | ptr | sl | map | fn | iface
 deriving DecidableEq
inductive VS where
 | cell (c : CS) | agg (l : List CS) | raw (n : Nat)
def VS.size : VS → Nat
 | .cell _ => 1 | .agg l => l.length | .raw n => n
def rI (k : IntKind) : AV → Option Int
 | .int k' n => if k' = k then some n else none
 | _ => none
def rB : AV → Option Bool
 | .bool b => some b
 | _ => none
def rS : AV → Option ByteArray
 | .str s => some s
 | _ => none
def rP : AV → Option (Option Ad)
 | .ptr a => some a
 | _ => none
def rL : AV → Option (SA × Nat)
 | .sl a n => some (a, n)
 | _ => none
def rM : AV → Option (Option Nat)
 | .map r => some r
 | _ => none
def rA : AV → Option (List AV)
 | .agg l => some l
 | _ => none
def rT (n : Nat) : AV → Option (List AV)
 | .tup l => if l.length = n then some l else none
 | _ => none
noncomputable def gb {α R : Type} (bc : Bool) (m : Option α) (d : α) (K : α → Option R) : Option R :=
 @Option.rec α (fun _ => Option R) none (fun x => K x) (@Option.rec α (fun _ => Option α) (@Bool.rec (fun _ => Option α) (some d) none bc) (fun x => some x) m)
def chk {R : Type} (p : Prop) [Decidable p] (K : Option R) : Option R := if p then K else none
variable {R : Type}
noncomputable def rdC (c : CS) (m : Option AV) (bc : Bool) (K : AV → Option R) : Option R :=
 match c with
 | .int k => gb bc (m.bind (rI k)) 0 fun n => K (.int k n)
 | .bool => gb bc (m.bind rB) false fun b => K (.bool b)
 | .str => gb bc (m.bind rS) ByteArray.empty fun s => K (.str s)
 | .ptr => gb bc (m.bind rP) none fun a => K (.ptr a)
 | .sl => gb bc (m.bind rL) (.nil, 0) fun p => K (.sl p.1 p.2)
 | .map => gb bc (m.bind rM) none fun r => K (.map r)
 | .fn => gb bc m .nilFn K
 | .iface => gb bc m .nilIface K
noncomputable def rdL (l : List AV) (bc : Bool) : List CS → Nat → (List AV → Option R) → Option R
 | [], _, K => K []
 | c :: cs, i, K => rdC c l[i]? bc fun a => rdL l bc cs (i + 1) fun as => K (a :: as)
noncomputable def rdV (s : VS) (l : Option (List AV)) (bc : Bool) (K : AV → Option R) : Option R :=
 match s with
 | .cell c => gb bc l [] fun l => rdC c l[0]? bc K
 | .agg cs => gb bc l [] fun l => rdL l bc cs 0 fun as => K (.agg as)
 | .raw _ => gb bc l [] fun l => K (.agg l)
noncomputable def rdW (s : VS) (v : AV) (bc : Bool) (K : AV → Option R) : Option R :=
 match s with
 | .cell c => rdC c (some v) bc K
 | .agg cs => gb bc (rA v) [] fun l => chk (bc = true → l.length = cs.length) (rdL l bc cs 0 fun as => K (.agg as))
 | .raw n => gb bc (rA v) [] fun l => chk (bc = true → l.length = n) (K (.agg l))
noncomputable def rdWs (l : List AV) (bc : Bool) : List VS → Nat → (List AV → Option R) → Option R
 | [], _, K => K []
 | s :: ss, i, K => rdW s (l.getD i .opq) bc fun a => rdWs l bc ss (i + 1) fun as => K (a :: as)
noncomputable def rdRes (ss : List VS) (v : AV) (bc : Bool) (K : AV → Option R) : Option R :=
 match ss with
 | [s] => rdW s v bc K
 | ss => gb bc (rT ss.length v) [] fun l => rdWs l bc ss 0 fun as => K (.tup as)
inductive AX where
 | tmp (t : Nat)
 | c (v : AV)
def allIn (gs gs' : List (Nat × Bool)) : Bool := gs.all fun x => gs'.any fun y => Nat.beq x.1 y.1 && (x.2 == y.2)
def getV (gs : List (Nat × Bool)) (ρ : Nat → SV) : AX → Option AV
 | .c v => some v
 | .tmp t => match ρ t with
  | .g gs' _ x => if allIn gs' gs = true then some x else none
  | _ => none
def getVs (gs : List (Nat × Bool)) (ρ : Nat → SV) : List AX → Option (List AV)
 | [] => some []
 | x :: xs => match getV gs ρ x with
  | some a => match getVs gs ρ xs with
   | some as => some (a :: as)
   | none => none
  | none => none
def lit (w b : Bool) : Bool := match w with | true => b | false => !b
def andB (a b : Bool) : Bool := match a with | true => b | false => false
def guardOf (ρ : Nat → SV) : Option (Nat × Bool) → Option (List (Nat × Bool) × Bool)
 | none => some ([], true)
 | some (t, w) => match ρ t with
  | .g gs bc (.bool b) => some ((t, w) :: gs, andB bc (lit w b))
  | _ => none
inductive TK where
 | bool | ptr | sl | agg (sh : List Bool) | other
inductive AK where
 | move (x : AX)
 | pick (c a b : AX)
 | boxL (x : AX)
 | allocL (z : List AV)
 | boxH (x : AX)
 | allocH (z : List AV)
 | build (z : List AV) (parts : List (Nat × Nat × AX))
 | buildSl (z : List AV) (es : Nat) (parts : List (Nat × AX))
 | load (s : VS) (x : AX)
 | store (n : Nat) (x y : AX)
 | nilCheck (x : AX)
 | bin (tk : TK) (op : BinOp) (x y : AX)
 | un (op : UnOp) (x : AX)
 | conv (k : IntKind) (x : AX)
 | makeFn (f : FuncId) (first cap : List AX)
 | makeMap
 | makeSl (z : List AV) (bytes : Nat) (len cap : AX)
 | slice (es : Nat) (x : AX) (lo hi : Option AX)
 | slice3 (es : Nat) (x : AX) (lo hi mx : AX)
 | clear (z : List AV) (x : AX)
 | indexS (x i : AX)
 | sliceZ (x : AX)
 | fieldAddr (off : Nat) (x : AX)
 | field (off : Nat) (s : VS) (x : AX)
 | indexAddr (es : Nat) (x i : AX)
 | indexArr (len es : Nat) (x i : AX)
 | index (len es : Nat) (s : VS) (x i : AX)
 | lookup (z : AV) (s : VS) (ok : Bool) (m k : AX)
 | mapUpdate (m k x : AX)
 | extract (x : AX) (i : Nat)
 | call (f : FuncId) (args : List AX) (rs : List VS) (z : AV)
 | callV (f : AX) (args : List AX) (rs : List VS) (z : AV)
 | lenSl (x : AX)
 | lenStr (x : AX)
 | lenMap (x : AX)
 | lenArr (n : Nat)
 | append (z : List AV) (es bytes : Nat) (x y : AX)
 | copy (es : Nat) (x y : AX)
 | mm (max : Bool) (xs : List AX)
inductive Re where
 | load (n : Nat) (x : Nat) (g : Option Nat)
 | blk (t : Nat)
 | sl (t : Nat) (g : Option Nat)
def axT : AX → List Nat
 | .tmp t => [t]
 | .c _ => []
def axTs : List AX → List Nat
 | [] => []
 | x :: l => axT x ++ axTs l
def axTo : Option AX → List Nat
 | none => []
 | some x => axT x
def partTs : List (Nat × Nat × AX) → List Nat
 | [] => []
 | p :: l => axT p.2.2 ++ partTs l
def partTs' : List (Nat × AX) → List Nat
 | [] => []
 | p :: l => axT p.2 ++ partTs' l
def akTmps : AK → List Nat
 | .move x | .boxL x | .boxH x | .load _ x | .nilCheck x | .un _ x | .conv _ x | .clear _ x | .sliceZ x | .fieldAddr _ x | .field _ _ x | .extract x _ | .lenSl x | .lenStr x | .lenMap x => axT x
 | .pick c a b => axT c ++ axT a ++ axT b
 | .allocL _ | .allocH _ | .makeMap | .lenArr _ => []
 | .build _ ps => partTs ps
 | .buildSl _ _ ps => partTs' ps
 | .store _ x y | .bin _ _ x y | .indexS x y | .indexAddr _ x y | .indexArr _ _ x y | .index _ _ _ x y | .append _ _ _ x y | .copy _ x y | .makeSl _ _ x y | .lookup _ _ _ x y => axT x ++ axT y
 | .makeFn _ a b => axTs a ++ axTs b
 | .slice _ x lo hi => axT x ++ axTo lo ++ axTo hi
 | .slice3 _ x lo hi mx => axT x ++ axT lo ++ axT hi ++ axT mx
 | .mapUpdate m k x => axT m ++ axT k ++ axT x
 | .call _ as _ _ => axTs as
 | .callV f as _ _ => axT f ++ axTs as
 | .mm _ xs => axTs xs
structure AOp where
 dst : Option Nat
 k : AK
 guard : Option (Nat × Bool)
 re : List Re
inductive Place where
 | heap (a : Ad) | loc (d off : Nat)
def cellsOf : AV → List AV
 | .agg cs => cs
 | a => [a]
abbrev Res := Option (AV × Heap)
def ldSl (h : Heap) (a : SA) (n : Nat) : Option (List AV) :=
 match n with
 | 0 => some []
 | n => match a with
  | .pos a => ldN h a n
  | _ => none
def repl (n : Nat) (z : List AV) : List AV :=
 match z with
 | [x] => List.replicate n x
 | z => (List.replicate n z).flatten
def apnd (h : Heap) (x : AV) (es bytes : Nat) (ys : List AV) (n : Nat) : Option (AV × Heap) :=
 match x with
 | .sl a len => match n with
  | 0 => some (.sl a len, h)
  | n => match a with
   | .nil => if len = 0 ∧ n * bytes ≤ 140737488355328 then some (.sl (.pos ⟨h.length, 0, 0⟩) n, h ++ [.cells ys (.grow es) 0]) else none
   | .z => if len = 0 ∧ n * bytes ≤ 140737488355328 then some (.sl (.pos ⟨h.length, 0, 0⟩) n, h ++ [.cells ys (.grow es) 0]) else none
   | .lost => none
   | .pos a => match h[a.b]? with
    | some (.cells c (.grow e) v) =>
     if a.v = v ∧ e = es ∧ a.o + len * es ≤ c.length ∧ (len + n) * bytes ≤ 140737488355328 then
      if a.o + (len + n) * es ≤ c.length then
       some (.sl (.pos a) (len + n), h.set a.b (.cells (splice (a.o + len * es) ys c) (.grow es) v))
      else if flatL ((c.drop a.o).take (len * es)) = true then
       some (.sl (.pos ⟨a.b, v + 1, 0⟩) (len + n), h.set a.b (.cells ((c.drop a.o).take (len * es) ++ ys) (.grow es) (v + 1)))
      else none
     else none
    | _ => none
 | _ => none
def hiOk (h : Heap) (a : SA) (n es : Nat) (hi : Int) : Prop :=
 hi ≤ n ∨ ∃ p c v, a = .pos p ∧ h[p.b]? = some (.cells c (.grow es) v) ∧ p.v = v ∧ p.o + hi.toNat * es ≤ c.length
def esOk (h : Heap) (a : SA) (es : Nat) : Prop :=
 ∀ p, a = .pos p → ∃ b, h[p.b]? = some b ∧ ∀ c e v, b = .cells c (.grow e) v → e = es
instance (h : Heap) (a : SA) (n es : Nat) (hi : Int) : Decidable (hiOk h a n es hi) :=
 if h1 : hi ≤ n then .isTrue (.inl h1)
 else match a with
  | .pos p => match e : h[p.b]? with
   | some (.cells c (.grow k) v) =>
    if h2 : k = es ∧ p.v = v ∧ p.o + hi.toNat * es ≤ c.length then .isTrue (.inr ⟨p, c, v, rfl, by rw [e, h2.1], h2.2⟩)
    else .isFalse (by
     rintro (h3 | ⟨p', c', v', h4, h5, h6⟩)
     · exact h1 h3
     · cases h4
       rw [e] at h5
       cases h5
       exact h2 ⟨rfl, h6⟩)
   | some (.cells c .ro v) | some (.cells c .fix v) | some .gone | some (.map es) | none => .isFalse (by
    rintro (h3 | ⟨p', c', v', h4, h5, h6⟩)
    · exact h1 h3
    · cases h4
      rw [e] at h5
      cases h5)
  | .nil | .lost | .z => .isFalse (by
   rintro (h3 | ⟨p', c', v', h4, h5, h6⟩)
   · exact h1 h3
   · cases h4)
instance (h : Heap) (a : SA) (es : Nat) : Decidable (esOk h a es) :=
 match a with
 | .pos p => match e : h[p.b]? with
  | some (.cells c (.grow k) v) =>
   if h2 : k = es then .isTrue (fun p' h' => by cases h'; exact ⟨_, e, fun c' e' v' h3 => by cases h3; exact h2⟩)
   else .isFalse (fun H => by
    obtain ⟨b, h3, h4⟩ := H p rfl
    rw [e] at h3
    cases h3
    exact h2 (h4 _ _ _ rfl))
  | none => .isFalse (fun H => by
   obtain ⟨b, h3, h4⟩ := H p rfl
   rw [e] at h3
   cases h3)
  | some (.cells c .ro v) | some (.cells c .fix v) | some .gone | some (.map es) => .isTrue (fun p' h' => by cases h'; exact ⟨_, e, fun c' e' v' h3 => by cases h3⟩)
 | .nil | .lost | .z => .isTrue (fun p' h' => by cases h')
def chkC {R : Type} (p : Prop) [Decidable p] (K : Option R) : Option R := if p then K else none
def rdInts : List AV → Option (List Int)
 | [] => some []
 | .int .i64 n :: l => match rdInts l with | some r => some (n :: r) | none => none
 | _ :: _ => none
def foldMM (max : Bool) : Int → List Int → Int
 | a, [] => a
 | a, b :: l => foldMM max (match max with | true => (if a < b then b else a) | false => (if b < a then b else a)) l
def binInt (bc : Bool) (op : BinOp) (k : IntKind) (x y : Int) (K : AV → Option R) : Option R :=
 match op with
 | .add => K (.int k (k.wrap (x + y)))
 | .sub => K (.int k (k.wrap (x - y)))
 | .mul => K (.int k (k.wrap (x * y)))
 | .quo => chk (bc = true → y ≠ 0) (K (.int k (k.wrap (x.tdiv y))))
 | .rem => chk (bc = true → y ≠ 0) (K (.int k (x.tmod y)))
 | .and => K (.int k (Go.bits .and k x y))
 | .or => K (.int k (Go.bits .or k x y))
 | .xor => K (.int k (Go.bits .xor k x y))
 | .andNot => K (.int k (Go.bits .andNot k x y))
 | .eql => K (.bool (decide (x = y)))
 | .neq => K (.bool (!decide (x = y)))
 | .lss => K (.bool (decide (x < y)))
 | .leq => K (.bool (decide (x ≤ y)))
 | .gtr => K (.bool (decide (y < x)))
 | .geq => K (.bool (decide (y ≤ x)))
 | _ => none
def shInt (bc : Bool) (op : BinOp) (k : IntKind) (x y : Int) (K : AV → Option R) : Option R :=
 match op with
 | .shl => chk (bc = true → 0 ≤ y) (K (.int k (k.wrap (x * 2 ^ (min y.toNat k.bits)))))
 | .shr => chk (bc = true → 0 ≤ y) (K (.int k (x.fdiv (2 ^ (min y.toNat k.bits)))))
 | _ => none
def eqCells : List Bool → List AV → List AV → Option Bool
 | [], [], [] => some true
 | false :: sh, .int j x :: l, .int k y :: r => if j = k then (match eqCells sh l r with | some b => some (decide (x = y) && b) | none => none) else none
 | true :: sh, .bool x :: l, .bool y :: r => (match eqCells sh l r with | some b => some ((x == y) && b) | none => none)
 | _, _, _ => none
def isShift : BinOp → Bool
 | .shl | .shr => true
 | _ => false
noncomputable def binOpA (tk : TK) (bc : Bool) (op : BinOp) (x y : AV) (K : AV → Option R) : Option R :=
 match x, y with
 | .int k a, .int k' b => match isShift op with
  | true => shInt bc op k a b K
  | false => if k = k' then binInt bc op k a b K else none
 | .str a, .str b => match op with
  | .eql => K (.bool (a.toList == b.toList))
  | .neq => K (.bool (!(a.toList == b.toList)))
  | _ => none
 | .bool a, .bool b => match tk with
  | .bool => match op with
   | .eql => K (.bool (a == b))
   | .neq => K (.bool (!(a == b)))
   | _ => none
  | _ => none
 | .ptr a, .ptr b => match tk with
  | .ptr => match b with
   | none => match op with
    | .eql => K (.bool a.isNone)
    | .neq => K (.bool (!a.isNone))
    | _ => none
   | some _ => match a with
    | none => match op with
     | .eql => K (.bool false)
     | .neq => K (.bool true)
     | _ => none
    | some _ => none
  | _ => none
 | .sl a _, .sl .nil 0 => match tk with
  | .sl => match op with
   | .eql => K (.bool a.isNil)
   | .neq => K (.bool (!a.isNil))
   | _ => none
  | _ => none
 | .agg a, .agg b => match tk with
  | .agg sh => match op with
   | .eql => gb bc (eqCells sh a b) false fun r => K (.bool r)
   | .neq => gb bc (eqCells sh a b) false fun r => K (.bool (!r))
   | _ => none
  | _ => none
 | _, _ => none
noncomputable def place (gs : List (Nat × Bool)) (ρ : Nat → SV) (x : AX) (bc : Bool) (K : Place → Option R) : Option R :=
 match x with
 | .c _ => none
 | .tmp t => match ρ t with
  | .box _ => K (.loc t 0)
  | .lref gs' _ d off => if allIn gs' gs = true then K (.loc d off) else none
  | _ => match getV gs ρ x with
   | some (.ptr a) => gb bc a ⟨0, 0, 0⟩ fun a => K (.heap a)
   | _ => none
def boxAt (ρ : Nat → SV) (d : Nat) : Option (List AV) :=
 match ρ d with
 | .box cs => some cs
 | _ => none
def mapFind (k : AV) : List (AV × AV) → Option (Option AV)
 | [] => some none
 | (k', v) :: l => match k, k' with
  | .int i x, .int j y => if i = j then (if x = y then some (some v) else mapFind k l) else none
  | _, _ => none
def mapPut (k x : AV) : List (AV × AV) → Option (List (AV × AV))
 | [] => some [(k, x)]
 | (k', v) :: l => match k, k' with
  | .int i a, .int j b => if i = j then (if a = b then some ((k, x) :: l) else (match mapPut k x l with | some r => some ((k', v) :: r) | none => none)) else none
  | _, _ => none
def buildGo : List AV → List (Nat × Nat × List AV) → Option (List AV)
 | z, [] => some z
 | z, (off, n, vs) :: ps => if vs.length = n ∧ off + n ≤ z.length then buildGo (splice off vs z) ps else none
def solid : AV → Bool
 | .opq => false
 | _ => true
def getParts (gs : List (Nat × Bool)) (ρ : Nat → SV) : List (Nat × Nat × AX) → Option (List (Nat × Nat × List AV))
 | [] => some []
 | (off, n, x) :: ps => match getV gs ρ x, getParts gs ρ ps with
  | some a, some r => (match solid a with | true => some ((off, n, cellsOf a) :: r) | false => none)
  | _, _ => none
noncomputable def opA (ρ : Nat → SV) (ah : Heap) (gs : List (Nat × Bool)) (bc : Bool) (k : AK) (ret : SV → Option R) : Option R :=
 match k with
 | .move x => match getV gs ρ x with
  | some a => ret (.g gs bc a)
  | none => none
 | .pick c a b => match c with
  | .c _ => none
  | .tmp t => match getV gs ρ (.tmp t) with
   | some (.bool bv) => match getV ((t, true) :: gs) ρ a, getV ((t, false) :: gs) ρ b with
    | some (.bool x), some (.bool y) => ret (.g gs bc (.bool (if bv = true then x else y)))
    | some x, some y => if bv = true then ret (.g gs bc x) else ret (.g gs bc y)
    | _, _ => none
   | _ => none
 | .build z ps => match getParts gs ρ ps with
  | some vs => gb bc (buildGo z vs) z fun cs => ret (.g gs bc (.agg cs))
  | none => none
 | .load s x => place gs ρ x bc fun
  | .heap a => match s with
   | .cell c => rdC c (ld1 ah a) bc fun v => ret (.g gs bc v)
   | .agg l => rdV (.agg l) (ldN ah a l.length) bc fun v => ret (.g gs bc v)
   | .raw n => rdV (.raw n) (ldN ah a n) bc fun v => ret (.g gs bc v)
  | .loc d off => match boxAt ρ d with
   | none => none
   | some cs => match s with
    | .cell c => rdC c cs[off]? bc fun v => ret (.g gs bc v)
    | .agg l => chk (bc = true → off + l.length ≤ cs.length) (rdL cs bc l off fun as => ret (.g gs bc (.agg as)))
    | .raw n => chk (bc = true → off + n ≤ cs.length) (ret (.g gs bc (.agg ((cs.drop off).take n))))
 | .nilCheck x => match x with
  | .c _ => none
  | .tmp t => match ρ t with
   | .box _ => ret (.lref gs bc t 0)
   | .lref gs' _ d off => if allIn gs' gs = true then ret (.lref gs bc d off) else none
   | .g gs' _ a => if allIn gs' gs = true then (match a with
    | .ptr a => gb bc a ⟨0, 0, 0⟩ fun a => ret (.g gs bc (.ptr (some a)))
    | .fn f a b => ret (.g gs bc (.fn f a b))
    | _ => none) else none
   | .any => none
 | .bin tk op x y => match getV gs ρ x, getV gs ρ y with
  | some a, some b => binOpA tk bc op a b fun v => ret (.g gs bc v)
  | _, _ => none
 | .un op x => match op, getV gs ρ x with
  | .not, some (.bool b) => ret (.g gs bc (.bool (!b)))
  | .neg, some (.int k n) => ret (.g gs bc (.int k (k.wrap (0 - n))))
  | .xor, some (.int k n) => ret (.g gs bc (.int k (Go.bits .xor k (if k.signed = true then -1 else k.max) n)))
  | _, _ => none
 | .conv k x => match getV gs ρ x with
  | some (.int _ n) => ret (.g gs bc (.int k (k.wrap n)))
  | _ => none
 | .makeFn f first cap => match getVs gs ρ first, getVs gs ρ cap with
  | some a, some b => ret (.g gs bc (.fn f a b))
  | _, _ => none
 | .slice es x lo hi => match getV gs ρ x with
  | some (.sl a n) => match lo, hi with
   | none, none => ret (.g gs bc (.sl a n))
   | none, some hi => (match getV gs ρ hi with
    | some (.int .i64 h) => chkC (bc = true → 0 ≤ h ∧ hiOk ah a n es h) (ret (.g gs bc (.sl a h.toNat)))
    | _ => none)
   | some lo, none => (match getV gs ρ lo with
    | some (.int .i64 l) => chkC (bc = true → 0 ≤ l ∧ l ≤ n ∧ esOk ah a es) (ret (.g gs bc (.sl (adS a (l.toNat * es) (n - l.toNat)) (n - l.toNat))))
    | _ => none)
   | some lo, some hi => (match getV gs ρ lo, getV gs ρ hi with
    | some (.int .i64 l), some (.int .i64 h) => chkC (bc = true → 0 ≤ l ∧ l ≤ h ∧ hiOk ah a n es h ∧ esOk ah a es)
     (ret (.g gs bc (.sl (adS a (l.toNat * es) (h.toNat - l.toNat)) (h.toNat - l.toNat))))
    | _, _ => none)
  | _ => none
 | .slice3 es x lo hi mx => match getV gs ρ x, getV gs ρ lo, getV gs ρ hi, getV gs ρ mx with
  | some (.sl a n), some (.int .i64 l), some (.int .i64 h), some (.int .i64 m) =>
   chkC (bc = true → 0 ≤ l ∧ l ≤ h ∧ h ≤ m ∧ hiOk ah a n es m) (ret (.g gs bc .opq))
  | _, _, _, _ => none
 | .sliceZ x => match getV gs ρ x with
  | some (.sl a _) => ret (.g gs bc (.sl (match a with | .nil => .nil | _ => .z) 0))
  | _ => none
 | .fieldAddr off x => place gs ρ x bc fun
  | .heap a => ret (.g gs bc (.ptr (some (a.add off))))
  | .loc d o => ret (.lref gs bc d (o + off))
 | .field off s x => match getV gs ρ x with
  | some (.agg cs) => match s with
   | .cell c => rdC c cs[off]? bc fun v => ret (.g gs bc v)
   | .agg l => chk (bc = true → off + l.length ≤ cs.length) (rdL cs bc l off fun as => ret (.g gs bc (.agg as)))
   | .raw n => chk (bc = true → off + n ≤ cs.length) (ret (.g gs bc (.agg ((cs.drop off).take n))))
  | _ => none
 | .indexAddr es x i => match getV gs ρ x, getV gs ρ i with
  | some (.sl a n), some (.int _ i) =>
   chk (bc = true → 0 ≤ i ∧ i < n) (gb bc (adP a) ⟨0, 0, 0⟩ fun a => ret (.g gs bc (.ptr (some (a.add (i.toNat * es))))))
  | _, _ => none
 | .indexArr len es x i => match getV gs ρ i with
  | some (.int _ i) => place gs ρ x bc fun
   | .heap a => chk (bc = true → 0 ≤ i ∧ i < len) (ret (.g gs bc (.ptr (some (a.add (i.toNat * es))))))
   | .loc d o => chk (bc = true → 0 ≤ i ∧ i < len) (ret (.lref gs bc d (o + i.toNat * es)))
  | _ => none
 | .index len es s x i => match getV gs ρ x, getV gs ρ i with
  | some (.agg cs), some (.int _ i) => chk (bc = true → 0 ≤ i ∧ i < len) (match s with
   | .cell c => rdC c cs[i.toNat * es]? bc fun v => ret (.g gs bc v)
   | _ => none)
  | _, _ => none
 | .indexS x i => match getV gs ρ x, getV gs ρ i with
  | some (.str s), some (.int _ i) => gb bc (if 0 ≤ i then s[i.toNat]? else none) 0 fun b => ret (.g gs bc (.int .u8 b.toNat))
  | _, _ => none
 | .lookup z s ok m k => match getV gs ρ m, getV gs ρ k with
  | some (.map r), some a => gb bc (match r with
   | none => some none
   | some r => match ah[r]? with
    | some (.map es) => mapFind a es
    | _ => none) none fun f =>
   rdW s (f.getD z) bc fun v => match ok with
    | true => ret (.g gs bc (.tup [v, .bool f.isSome]))
    | false => ret (.g gs bc v)
  | _, _ => none
 | .extract x i => match getV gs ρ x with
  | some (.tup vs) => match vs[i]? with
   | some a => ret (.g gs bc a)
   | none => none
  | _ => none
 | .lenSl x => match getV gs ρ x with
  | some (.sl _ n) => ret (.g gs bc (.int .i64 n))
  | _ => none
 | .lenStr x => match getV gs ρ x with
  | some (.str s) => ret (.g gs bc (.int .i64 s.size))
  | _ => none
 | .lenMap x => match getV gs ρ x with
  | some (.map r) => gb bc (match r with
   | none => some 0
   | some r => match ah[r]? with
    | some (.map es) => some es.length
    | _ => none) 0 fun n => ret (.g gs bc (.int .i64 n))
  | _ => none
 | .lenArr n => ret (.g gs bc (.int .i64 n))
 | .mm mx xs => match getVs gs ρ xs with
  | some (.int .i64 a :: l) => gb bc (rdInts l) [] fun l => ret (.g gs bc (.int .i64 (foldMM mx a l)))
  | _ => none
 | _ => none
noncomputable def opX (ρ : Nat → SV) (k : AK) (ret : List AV → Option R) : Option R :=
 match k with
 | .boxL x => match getV [] ρ x with
  | some a => (match solid a with | true => ret (cellsOf a) | false => none)
  | none => none
 | .allocL z => ret z
 | _ => none
noncomputable def opB (ρ : Nat → SV) (k : AK) (n : Nat) (ret : AV → Blk → Option R) : Option R :=
 match k with
 | .boxH x => match getV [] ρ x with
  | some a => (match solid a with | true => ret (.ptr (some ⟨n, 0, 0⟩)) (.cells (cellsOf a) .fix 0) | false => none)
  | none => none
 | .allocH z => ret (.ptr (some ⟨n, 0, 0⟩)) (.cells z .fix 0)
 | .buildSl z es ps => match getParts [] ρ (ps.map fun p => (p.1, es, p.2)) with
  | some vs => (buildGo z vs).bind fun cs => ret (.sl (.pos ⟨n, 0, 0⟩) ps.length) (.cells cs (.grow es) 0)
  | none => none
 | .makeMap => ret (.map (some n)) (.map [])
 | .makeSl z bytes len cap => match getV [] ρ len, getV [] ρ cap with
  | some (.int .i64 l), some (.int .i64 c) =>
   chk (0 ≤ l ∧ l ≤ c ∧ c * bytes ≤ 70368744177664)
    (ret (.sl (.pos ⟨n, 0, 0⟩) l.toNat) (.cells (repl l.toNat z) (.grow z.length) 0))
  | _, _ => none
 | _ => none
noncomputable def opM (ρ : Nat → SV) (ah : Heap) (k : AK) (ret : AV → Heap → Up → Option R) : Option R :=
 match k with
 | .store n x y => match getV [] ρ y with
  | some a => place [] ρ x true fun
   | .heap p => match n with
    | 1 => (match cellsOf a with
     | [x] => chk (flatA x = true) ((st1 ah p x).bind fun h => ret (.tup []) h none)
     | _ => none)
    | n => chk ((cellsOf a).length = n ∧ flatL (cellsOf a) = true) ((stN ah p (cellsOf a)).bind fun h => ret (.tup []) h none)
   | .loc d off => match boxAt ρ d with
    | none => none
    | some cs => match n with
     | 1 => (match cellsOf a with
      | [x] => chk (flatA x = true ∧ off < cs.length) (ret (.tup []) ah (some (d, cs.set off x)))
      | _ => none)
     | n => chk ((cellsOf a).length = n ∧ flatL (cellsOf a) = true ∧ off + n ≤ cs.length) (ret (.tup []) ah (some (d, splice off (cellsOf a) cs)))
  | none => none
 | .clear z x => match getV [] ρ x with
  | some (.sl a n) => (match n with
   | 0 => some ah
   | n => match a with
    | .pos p => stN ah p (repl n z)
    | _ => none).bind fun h => ret (.tup []) h none
  | _ => none
 | .mapUpdate m k x => match getV [] ρ m, getV [] ρ k, getV [] ρ x with
  | some (.map (some r)), some a, some v => (match ah[r]? with
   | some (.map es) => (match mapPut a v es with | some es' => some (ah.set r (.map es')) | none => none)
   | _ => none).bind fun h => ret (.tup []) h none
  | _, _, _ => none
 | .append _ es bytes x y => match getV [] ρ x, getV [] ρ y with
  | some a, some (.sl p n) => (ldSl ah p (n * es)).bind fun ys => (apnd ah a es bytes ys n).bind fun r => gb true (rL r.1) (.nil, 0) fun p => ret (.sl p.1 p.2) r.2 none
  | _, _ => none
 | .copy es x y => match getV [] ρ x, getV [] ρ y with
  | some (.sl p n), some (.sl q m) =>
   (ldSl ah q (min m n * es)).bind fun ys => (match min m n * es with
     | 0 => some ah
     | _ => match p with
      | .pos p => stN ah p ys
      | _ => none).bind fun h => ret (.int .i64 (min m n : Nat)) h none
  | _, _ => none
 | _ => none
noncomputable def opF (ρ : Nat → SV) (gs : List (Nat × Bool)) (k : AK) (ret : FuncId → List AV → List VS → AV → Option R) : Option R :=
 match k with
 | .call f args rs z => match getVs gs ρ args with
  | some as => ret f as rs z
  | none => none
 | .callV f args rs z => match getV gs ρ f, getVs gs ρ args with
  | some (.fn f first cap), some as => ret f (first ++ as ++ cap) rs z
  | _, _ => none
 | _ => none
noncomputable def opK (C : FuncId → List AV → Heap → Res) (ρ : Nat → SV) (ah : Heap) (gs : List (Nat × Bool)) (bc : Bool) (k : AK)
 (K : SV → Heap → Up → Option R) : Option R :=
 match k with
 | .boxL x => (match gs with | [] => opX ρ (.boxL x) fun cs => K (.box cs) ah none | _ => none)
 | .allocL z => (match gs with | [] => opX ρ (.allocL z) fun cs => K (.box cs) ah none | _ => none)
 | .boxH x => (match gs with | [] => opB ρ (.boxH x) ah.length fun a b => K (.v a) (ah ++ [b]) none | _ => none)
 | .allocH z => (match gs with | [] => opB ρ (.allocH z) ah.length fun a b => K (.v a) (ah ++ [b]) none | _ => none)
 | .buildSl z es ps => (match gs with | [] => opB ρ (.buildSl z es ps) ah.length fun a b => K (.v a) (ah ++ [b]) none | _ => none)
 | .makeMap => (match gs with | [] => opB ρ .makeMap ah.length fun a b => K (.v a) (ah ++ [b]) none | _ => none)
 | .makeSl z n l c => (match gs with | [] => opB ρ (.makeSl z n l c) ah.length fun a b => K (.v a) (ah ++ [b]) none | _ => none)
 | .store n x y => (match gs with | [] => opM ρ ah (.store n x y) fun a h u => K (.v a) h u | _ => none)
 | .clear z x => (match gs with | [] => opM ρ ah (.clear z x) fun a h u => K (.v a) h u | _ => none)
 | .mapUpdate m k x => (match gs with | [] => opM ρ ah (.mapUpdate m k x) fun a h u => K (.v a) h u | _ => none)
 | .append z es n x y => (match gs with | [] => opM ρ ah (.append z es n x y) fun a h u => K (.v a) h u | _ => none)
 | .copy es x y => (match gs with | [] => opM ρ ah (.copy es x y) fun a h u => K (.v a) h u | _ => none)
 | .call f args rs z => opF ρ gs (.call f args rs z) fun f as rs z => (match gs with
  | [] => (C f as ah).bind fun r => rdRes rs r.1 true fun a => K (.v a) r.2 none
  | _ => (if bc = true then C f as ah else some (z, ah)).bind fun r => rdRes rs r.1 bc fun a => K (.g gs bc a) r.2 none)
 | .callV f args rs z => opF ρ gs (.callV f args rs z) fun f as rs z => (match gs with
  | [] => (C f as ah).bind fun r => rdRes rs r.1 true fun a => K (.v a) r.2 none
  | _ => (if bc = true then C f as ah else some (z, ah)).bind fun r => rdRes rs r.1 bc fun a => K (.g gs bc a) r.2 none)
 | k => opA ρ ah gs bc k fun sv => K sv ah none
end Go.Proofs.Ytnmdadadjneaiaa.Abs
/- The abstract evaluator: code, calls; and the translation of loaded code into compiled operations. Definitions alone. -/
namespace Go.Proofs.Ytnmdadadjneaiaa.Abs
open Go
variable {R : Type}
inductive AC where
 | skip
 | ops (sc : Bool) (l : List AOp)
 | seq (a b : AC)
 | cond (t : AX) (a b : AC)
 | block (id : Nat) (c : AC)
 | loop (kin kout : Nat) (c : AC)
 | exit (id : Nat)
 | ret
 | mask (m : Nat)
 | join (m : Nat)
 | bad
inductive RV where
 | tmp (t : Nat) | cell (t : Nat) (s : VS)
structure AFn where
 nt : Nat
 res : List RV
 body : AC
inductive AE where
 | normal | exit (id : Nat) | ret
def put (env : List SV) (d : Option Nat) (x : SV) : List SV := match d with | none => env | some d => env.set d x
def upd (env : List SV) (u : Up) : List SV := match u with | none => env | some (d, cs) => env.set d (.box cs)
def noG (d : Nat) : List (Nat × Bool) → Bool
 | [] => true
 | (t, _) :: l => (!(Nat.beq d t)) && noG d l
def envOk (bx : Bool) (d : Nat) : List SV → Bool
 | [] => true
 | .g gs _ _ :: l => noG d gs && envOk bx d l
 | .lref gs _ e _ :: l => noG d gs && (match bx with | true => !(Nat.beq d e) | false => true) && envOk bx d l
 | _ :: l => envOk bx d l
def isBoxS : SV → Bool
 | .box _ => true
 | _ => false
def gsOf : SV → List (Nat × Bool)
 | .g gs _ _ => gs
 | .lref gs _ _ _ => gs
 | _ => []
def dstOk (dst : Option Nat) (sv : SV) (env : List SV) : Bool :=
 match dst with
 | none => !(isBoxS sv)
 | some d => envOk (isBoxS sv) d env && noG d (gsOf sv) && (!(isBoxS (env.getD d .any))) && Nat.blt d env.length
def bcOf : SV → Bool
 | .g _ bc _ => bc
 | .lref _ bc _ _ => bc
 | _ => true
def asked (ρ : Nat → SV) (g : Option Nat) : Bool := match g with | none => true | some d => bcOf (ρ d)
noncomputable def reChk (ρ : Nat → SV) (h h' : Heap) (up : Up) : List Re → Option R → Option R
 | [], K => K
 | .load n t g :: l, K => match ρ t with
  | .box cs => (match up with
   | none => reChk ρ h h' up l K
   | some (d, cs') => if Nat.beq d t = true then chkC (asked ρ g = true → (cs'.drop 0).take n = (cs.drop 0).take n) (reChk ρ h h' up l K) else reChk ρ h h' up l K)
  | .lref _ _ e off => (match up with
   | none => reChk ρ h h' up l K
   | some (d, cs') => if Nat.beq d e = true then (match boxAt ρ e with
    | some cs => chkC (asked ρ g = true → (cs'.drop off).take n = (cs.drop off).take n) (reChk ρ h h' up l K)
    | none => chkC (asked ρ g = true → False) (reChk ρ h h' up l K)) else reChk ρ h h' up l K)
  | .g _ _ (.ptr (some a)) => chkC (asked ρ g = true → ldN h' a n = ldN h a n) (reChk ρ h h' up l K)
  | _ => chkC (asked ρ g = true → False) (reChk ρ h h' up l K)
 | .blk t :: l, K => match ρ t with
  | .g _ _ (.ptr (some a)) => chkC (h'[a.b]? = h[a.b]?) (reChk ρ h h' up l K)
  | .g _ _ (.sl (.pos a) _) => chkC (h'[a.b]? = h[a.b]?) (reChk ρ h h' up l K)
  | .g _ _ (.map (some b)) => chkC (h'[b]? = h[b]?) (reChk ρ h h' up l K)
  | _ => none
 | .sl t g :: l, K => match ρ t with
  | .g _ _ (.sl (.pos a) _) => chkC (asked ρ g = true → h'[a.b]? = h[a.b]?) (reChk ρ h h' up l K)
  | _ => reChk ρ h h' up l K
noncomputable def stepOp (C : FuncId → List AV → Heap → Res) (o : AOp) (σ : St) (K : St → Option R) : Option R :=
 match guardOf (fun t => σ.env.getD t .any) o.guard with
 | none => none
 | some (gs, bc) => opK C (fun t => σ.env.getD t .any) σ.ah gs bc o.k fun sv h up =>
  match dstOk o.dst sv σ.env with
  | true => reChk (fun t => σ.env.getD t .any) σ.ah h up o.re (K ⟨upd (put σ.env o.dst sv) up, h⟩)
  | false => none
noncomputable def evalOps (C : FuncId → List AV → Heap → Res) : List AOp → St → (St → Option R) → Option R
 | [], σ, K => K σ
 | o :: l, σ, K => stepOp C o σ fun σ' => evalOps C l σ' K
def scrubE : List SV → List SV
 | [] => []
 | .g (_ :: _) _ _ :: l => .any :: scrubE l
 | .lref (_ :: _) _ _ _ :: l => .any :: scrubE l
 | x :: l => x :: scrubE l
def scrub (sc : Bool) (σ : St) : St := match sc with | true => ⟨scrubE σ.env, σ.ah⟩ | false => σ
def restrE (m : Nat) : Nat → List SV → List SV
 | _, [] => []
 | i, x :: l => (match Nat.testBit m i with | true => x | false => .any) :: restrE m (i + 1) l
def restr (m : Nat) (σ : St) : St := ⟨restrE m 0 σ.env, σ.ah⟩
def loopN (B : St → (AE → St → Option R) → Option R) (kin kout : Nat) : Nat → St → (AE → St → Option R) → Option R
 | 0, _, _ => none
 | k + 1, σ, Q => B (restr kin σ) fun x σ' => match x with
  | .normal => loopN B kin kout k σ' Q
  | .exit id => Q (.exit id) (restr kout σ')
  | .ret => Q .ret σ'
noncomputable def evalCode (C : FuncId → List AV → Heap → Res) (k : Nat) : AC → St → (AE → St → Option R) → Option R
 | .skip, σ, Q => Q .normal σ
 | .ops sc l, σ, Q => evalOps C l σ fun σ' => Q .normal (scrub sc σ')
 | .seq a b, σ, Q => evalCode C k a σ fun x σ' => match x with
  | .normal => evalCode C k b σ' Q
  | .exit id => Q (.exit id) σ'
  | .ret => Q .ret σ'
 | .cond t a b, σ, Q => match getV [] (fun t => σ.env.getD t .any) t with
  | some (.bool c) => if c = true then evalCode C k a σ Q else evalCode C k b σ Q
  | _ => none
 | .block id c, σ, Q => evalCode C k c σ fun x σ' => match x with
  | .normal => Q .normal σ'
  | .exit j => (match Nat.beq j id with | true => Q .normal σ' | false => Q (.exit j) σ')
  | .ret => Q .ret σ'
 | .loop kin kout c, σ, Q => loopN (evalCode C k c) kin kout k σ Q
 | .exit id, σ, Q => Q (.exit id) σ
 | .ret, σ, Q => Q .ret σ
 | .mask m, σ, Q => Q .normal (restr m σ)
 | .join m, σ, Q => Q .normal (restr m σ)
 | .bad, _, _ => none
theorem evalCode_seq {C : FuncId → List AV → Heap → Res} {k : Nat} {a b : AC} {σ : St} {Q : AE → St → Option R} : evalCode C k (.seq a b) σ Q = evalCode C k a σ fun x σ' => match x with
 | .normal => evalCode C k b σ' Q
 | .exit id => Q (.exit id) σ'
 | .ret => Q .ret σ' := rfl
def ofCell : Value → Option AV
 | .int k n => some (.int k n)
 | .bool b => some (.bool b)
 | .string s => some (.str s)
 | .pointer none => some (.ptr none)
 | .slice none 0 0 => some (.sl .nil 0)
 | .map none => some (.map none)
 | .nilFunc => some .nilFn
 | .nilIface => some .nilIface
 | _ => none
def ofCells : List Value → Option (List AV)
 | [] => some []
 | v :: l => match ofCell v, ofCells l with
  | some a, some r => some (a :: r)
  | _, _ => none
def ofVal : Value → Option AV
 | .agg cs => match ofCells cs.toList with
  | some l => some (.agg l)
  | none => none
 | v => ofCell v
def csOf : Value → Option CS
 | .int k _ => some (.int k)
 | .bool _ => some .bool
 | .string _ => some .str
 | .pointer _ => some .ptr
 | .slice _ _ _ => some .sl
 | .map _ => some .map
 | .nilFunc => some .fn
 | .nilIface => some .iface
 | _ => none
def csOfs : List Value → Option (List CS)
 | [] => some []
 | v :: l => match csOf v, csOfs l with
  | some a, some r => some (a :: r)
  | _, _ => none
def isAggD : TypeDesc → Bool
 | .struct _ => true
 | .array _ _ => true
 | _ => false
def zeroOf (P : Program) (t : TypeId) : Option (List AV) :=
 match P.info? t with
 | some i => match i.zero with
  | some z => (match ofCells z.cells.toList with
   | some l => if l.length = i.size then some l else none
   | none => none)
  | none => none
 | none => none
def sizeOfT (P : Program) (t : TypeId) : Option Nat :=
 match P.info? t with
 | some i => some i.size
 | none => none
def bytesOfT (P : Program) (t : TypeId) : Option Nat :=
 match P.info? t with
 | some i => some i.bytes
 | none => none
def vsOf (P : Program) (t : TypeId) : Option VS :=
 match P.info? t, P.underlying t with
 | some i, some d => match i.zero with
  | some z => match isAggD d with
   | true => if i.size ≤ 15 then (match csOfs z.cells.toList with
    | some l => if l.length = i.size then some (.agg l) else none
    | none => none) else some (.raw i.size)
   | false => if i.size = 1 then (match csOf z with
    | some c => some (.cell c)
    | none => none) else none
  | none => none
 | _, _ => none
def vsOfs (P : Program) : List TypeId → Option (List VS)
 | [] => some []
 | t :: l => match vsOf P t, vsOfs P l with
  | some a, some r => some (a :: r)
  | _, _ => none
def resOf (P : Program) (t : TypeId) : Option (List VS) :=
 match P.underlying t with
 | some (.tuple ts) => vsOfs P ts.toList
 | some _ => (match vsOf P t with | some s => some [s] | none => none)
 | none => none
def zeroV (P : Program) (t : TypeId) : AV :=
 match P.info? t with
 | some i => match i.zero with
  | some z => (ofVal z).getD .opq
  | none => .opq
 | none => .opq
def cX : Operand → Option AX
 | .tmp t => some (.tmp t)
 | .const v => match ofVal v with
  | some a => some (.c a)
  | none => none
 | .func f => some (.c (.fn f [] []))
 | .global _ => none
def cXs : List Operand → Option (List AX)
 | [] => some []
 | x :: l => match cX x, cXs l with
  | some a, some r => some (a :: r)
  | _, _ => none
def cXo : Option Operand → Option (Option AX)
 | none => some none
 | some x => match cX x with
  | some a => some (some a)
  | none => none
def cParts (pl : Nat → Option (Nat × Nat)) : List (Nat × Operand) → Option (List (Nat × Nat × AX))
 | [] => some []
 | (i, x) :: l => match pl i, cX x, cParts pl l with
  | some (off, n), some a, some r => some ((off, n, a) :: r)
  | _, _, _ => none
def cPartsS (es : Nat) : Nat → List (Nat × Operand) → Option (List (Nat × AX))
 | _, [] => some []
 | j, (i, x) :: l => if i = j then (match cX x, cPartsS es (j + 1) l with
  | some a, some r => some ((i * es, a) :: r)
  | _, _ => none) else none
def isZero : Option Operand → Bool
 | some (.const (.int _ n)) => decide (n = 0)
 | _ => false
def flatFields (P : Program) (sz : TypeId → Option (List Bool)) : List Field → Nat → Option (List Bool)
 | [], _ => some []
 | f :: l, n => match sz f.type with
  | some m => if f.offset = n ∧ f.name ≠ "_" ∧ sizeOfT P f.type = some m.length then (match flatFields P sz l (n + m.length) with
   | some r => some (m ++ r)
   | none => none) else none
  | none => none
def flatShape (P : Program) : Nat → TypeId → Option (List Bool)
 | 0, _ => none
 | d + 1, t => match P.underlying t with
  | some .bool => some [true]
  | some (.int _) => some [false]
  | some (.struct fs) => if P.stoodInHeld t = true then none else flatFields P (flatShape P d) fs.toList 0
  | some (.array n e) => (match flatShape P d e with
   | some m => if sizeOfT P e = some m.length then some (List.replicate n m).flatten else none
   | none => none)
  | _ => none
def tkOf (P : Program) (t : TypeId) : Option TK :=
 match P.underlying t with
 | some .bool => some .bool
 | some (.pointer _) => some .ptr
 | some (.slice _) => some .sl
 | some (.struct _) => (match flatShape P 9 t with
  | some sh => if P.eqGuardType P.depth t = false then some (.agg sh) else none
  | none => none)
 | some (.array _ _) => (match flatShape P 9 t with
  | some sh => if P.eqGuardType P.depth t = false then some (.agg sh) else none
  | none => none)
 | some (.interface _) => none
 | some _ => some .other
 | none => none
def sizesOk (P : Program) : List Field → Bool
 | [] => true
 | f :: l => (sizeOfT P f.type).isSome && sizesOk P l
def cOp (P : Program) (loc : Nat) (o : Oper) : Option AK :=
 match o.op with
 | .move x => match cX x with | some a => some (.move a) | none => none
 | .assign x => match cX x with | some a => some (.move a) | none => none
 | .pick c a b => match cX c, cX a, cX b with
  | some c, some a, some b => some (.pick c a b)
  | _, _, _ => none
 | .alloc t => match zeroOf P t, o.dst with
  | some z, some d => some (match Nat.testBit loc d with | true => .allocL z | false => .allocH z)
  | _, _ => none
 | .box _ x => match cX x, o.dst with
  | some a, some d => some (match Nat.testBit loc d with | true => .boxL a | false => .boxH a)
  | _, _ => none
 | .build t ps => match zeroOf P t, P.underlying t with
  | some z, some (.struct fs) => if sizesOk P fs.toList = false then none else (match cParts (fun i => match fs[i]? with
   | some f => (match sizeOfT P f.type with | some n => some (f.offset, n) | none => none)
   | none => none) ps.toList with
   | some r => some (.build z r)
   | none => none)
  | some z, some (.array _ e) => (match sizeOfT P e with
   | some n => (match cParts (fun i => some (i * n, n)) ps.toList with | some r => some (.build z r) | none => none)
   | none => none)
  | _, _ => none
 | .buildSlice t len ps => match P.underlying t with
  | some (.slice e) => (match zeroOf P e, sizeOfT P e, cPartsS ((sizeOfT P e).getD 0) 0 ps.toList with
   | some z, some n, some r => if r.length = len ∧ len * n ≤ 16777216 ∧ 0 < n then some (.buildSl (repl len z) n r) else none
   | _, _, _ => none)
  | _ => none
 | .load t a => match vsOf P t, cX a with
  | some s, some x => some (.load s x)
  | _, _ => none
 | .store t a v => match sizeOfT P t, cX a, cX v with
  | some n, some x, some y => some (.store n x y)
  | _, _, _ => none
 | .nilCheck x => match cX x with | some a => some (.nilCheck a) | none => none
 | .binOp op t x y _ => match cX x, cX y, tkOf P t with
  | some a, some b, some tk => some (.bin tk op a b)
  | _, _, _ => none
 | .unOp op _ x => match cX x with | some a => some (.un op a) | none => none
 | .convert s d x => match P.underlying s, P.underlying d, cX x with
  | some (.int _), some (.int k), some a => some (.conv k a)
  | _, _, _ => none
 | .makeFunc (.func f) first cap => match cXs first.toList, cXs cap.toList with
  | some a, some b => some (.makeFn f a b)
  | _, _ => none
 | .makeMap _ none => some .makeMap
 | .makeSlice t l c => match P.underlying t with
  | some (.slice e) => (match zeroOf P e, bytesOfT P e, cX l, cX c with
   | some z, some n, some a, some b => if 0 < z.length ∧ 0 < n then some (.makeSl z n a b) else none
   | _, _, _, _ => none)
  | _ => none
 | .slice t x lo hi mx => match P.underlying t with
  | some (.slice e) => (match sizeOfT P e, cX x with
   | some n, some a => if n = 0 then none else (match mx with
    | none => (match cXo lo, cXo hi with
     | some l, some h => some (.slice n a l h)
     | _, _ => none)
    | some m => if isZero hi && isZero mx && (lo.isNone || isZero lo) then some (.sliceZ a) else (match cXo lo, cXo hi, cX m with
     | some (some l), some (some h), some m => some (.slice3 n a l h m)
     | _, _, _ => none))
   | _, _ => none)
  | _ => none
 | .fieldAddr s x f => match P.underlying s, cX x with
  | some (.struct fs), some a => (match fs[f]? with
   | some fd => (match sizeOfT P fd.type with | some n => if 0 < n then some (.fieldAddr fd.offset a) else none | none => none)
   | none => none)
  | _, _ => none
 | .field s x f => match P.underlying s, cX x with
  | some (.struct fs), some a => (match fs[f]? with
   | some fd => (match vsOf P fd.type with | some v => some (.field fd.offset v a) | none => none)
   | none => none)
  | _, _ => none
 | .indexAddr t x i => match P.underlying t, cX x, cX i with
  | some (.slice e), some a, some b => (match sizeOfT P e with | some n => some (.indexAddr n a b) | none => none)
  | some (.array len e), some a, some b => (match sizeOfT P e with | some n => some (.indexArr len n a b) | none => none)
  | _, _, _ => none
 | .index t x i => match P.underlying t, cX x, cX i with
  | some (.array len e), some a, some b => (match sizeOfT P e, vsOf P e with | some n, some s => some (.index len n s a b) | _, _ => none)
  | some .string, some a, some b => some (.indexS a b)
  | _, _, _ => none
 | .lookup t m k ok => match P.underlying t, cX m, cX k with
  | some (.map kt e), some a, some b => (match P.underlying kt, vsOf P e with
   | some (.int _), some (.cell c) => some (.lookup (zeroV P e) (.cell c) ok a b)
   | _, _ => none)
  | _, _, _ => none
 | .mapUpdate t m k x => match P.underlying t, cX m, cX k, cX x with
  | some (.map kt _), some a, some b, some c => (match P.underlying kt with
   | some (.int _) => some (.mapUpdate a b c)
   | _ => none)
  | _, _, _, _ => none
 | .extract x i => match cX x with | some a => some (.extract a i) | none => none
 | .call c => match c.callee with
  | .value f => match cX f, cXs c.args.toList, resOf P o.type with
   | some (.c (.fn f [] [])), some as, some rs => some (.call f as rs (zeroV P o.type))
   | some f, some as, some rs => some (.callV f as rs (zeroV P o.type))
   | _, _, _ => none
  | .invoke _ _ => none
  | .builtin b => match b, cXs c.args.toList, c.argTypes.toList with
   | .len, some [a], [t] => (match P.underlying t with
    | some (.slice _) => some (.lenSl a)
    | some .string => some (.lenStr a)
    | some (.map _ _) => some (.lenMap a)
    | some (.array n _) => some (.lenArr n)
    | _ => none)
   | .append, some [a, b], [t, u] => (match P.underlying t, P.underlying u with
    | some (.slice e), some (.slice _) => (match zeroOf P e, sizeOfT P e, bytesOfT P e with
     | some z, some n, some m => if 0 < n ∧ 0 < m then some (.append z n m a b) else none
     | _, _, _ => none)
    | _, _ => none)
   | .copy, some [a, b], [t, u] => (match P.underlying t, P.underlying u with
    | some (.slice e), some (.slice _) => (match sizeOfT P e with | some n => some (.copy n a b) | none => none)
    | _, _ => none)
   | .clear, some [a], [t] => (match P.underlying t with
    | some (.slice e) => (match zeroOf P e with | some z => if 0 < z.length ∧ flatL z = true then some (.clear z a) else none | none => none)
    | _ => none)
   | .min, some as, t :: _ => (match P.underlying t with | some (.int .i64) => some (.mm false as) | _ => none)
   | .max, some as, t :: _ => (match P.underlying t with | some (.int .i64) => some (.mm true as) | _ => none)
   | _, _, _ => none
 | _ => none
def opTmps : List Operand → List Nat
 | [] => []
 | .tmp t :: l => t :: opTmps l
 | _ :: l => opTmps l
def setB (m d : Nat) : Nat := Nat.lor m (2 ^ d)
def clrB (m d : Nat) : Nat := match Nat.testBit m d with | true => m - 2 ^ d | false => m
def setBs (m : Nat) : List Nat → Nat
 | [] => m
 | d :: l => setBs (setB m d) l
def gSlot (ops : List Oper) (o : Oper) : Option (Option (Nat × Bool)) :=
 match o.guard with
 | none => some none
 | some (j, w) => match ops[j]? with
  | some g => match g.dst with
   | some t => some (some (t, w))
   | none => none
  | none => none
def readsOf (ops : List Oper) (o : Oper) : List Nat :=
 (match gSlot ops o with | some (some (t, _)) => [t] | _ => []) ++ opTmps o.op.operands.toList
def lvOps (ops : List Oper) : List Oper → Nat → Nat
 | [], m => m
 | o :: l, m =>
  let m' := lvOps ops l m
  setBs (match o.dst with | some d => clrB m' d | none => m') (readsOf ops o)
def lookX (X : List (Nat × Nat)) (id : Nat) : Nat :=
 match X with
 | [] => 0
 | (j, m) :: X => match Nat.beq j id with | true => m | false => lookX X id
def lv (rt : Nat) : Code → Nat → List (Nat × Nat) → Nat
 | .skip, n, _ => n
 | .region _ ops _, n, _ => lvOps ops.toList ops.toList n
 | .seq a b, n, X => lv rt a (lv rt b n X) X
 | .cond c a b, n, X => setBs (Nat.lor (lv rt a n X) (lv rt b n X)) (opTmps [c])
 | .block id c, n, X => lv rt c n ((id, n) :: X)
 | .loop c, _, X => lv rt c (lv rt c 0 X) X
 | .exit id, _, X => lookX X id
 | .ret, _, _ => rt
 | _, n, _ => n
def awayOps : Op → List Operand
 | .load _ _ => []
 | .store _ _ v => [v]
 | .fieldAddr _ _ _ => []
 | .indexAddr _ _ i => [i]
 | o => o.operands.toList
def isBoxOp : Op → Bool
 | .box _ _ => true
 | .alloc _ => true
 | _ => false
def regsOf : Code → List (List Oper)
 | .region _ ops _ => [ops.toList]
 | .seq a b => regsOf a ++ regsOf b
 | .cond _ a b => regsOf a ++ regsOf b
 | .block _ c => regsOf c
 | .loop c => regsOf c
 | _ => []
def condsOf : Code → List Operand
 | .seq a b => condsOf a ++ condsOf b
 | .cond c a b => c :: (condsOf a ++ condsOf b)
 | .block _ c => condsOf c
 | .loop c => condsOf c
 | _ => []
def awayAll : List Oper → Nat → Nat
 | [], m => m
 | o :: l, m => awayAll l (setBs m (opTmps (awayOps o.op)))
def awayPass : List Oper → Nat → Nat
 | [], m => m
 | o :: l, m =>
  let m := awayPass l m
  match o.op, o.dst with
  | .fieldAddr _ (.tmp x) _, some d => (match Nat.testBit m d with | true => setB m x | false => m)
  | .indexAddr _ (.tmp x) _, some d => (match Nat.testBit m d with | true => setB m x | false => m)
  | _, _ => m
def boxSlots : List Oper → Nat → Nat
 | [], m => m
 | o :: l, m => boxSlots l (match isBoxOp o.op, o.dst with | true, some d => setB m d | _, _ => m)
def otherSlots : List Oper → Nat → Nat
 | [], m => m
 | o :: l, m => otherSlots l (match isBoxOp o.op, o.dst with | false, some d => setB m d | _, _ => m)
def resSlots : List ResultVar → List Nat
 | [] => []
 | .tmp t :: l => t :: resSlots l
 | .cell _ _ :: l => resSlots l
def locOf (fn : Func) (c : Code) : Nat :=
 let os := (regsOf c).flatten
 let away := setBs (awayAll os 0) (opTmps (condsOf c) ++ resSlots fn.results.toList)
 let away := awayPass os (awayPass os (awayPass os away))
 let bad := Nat.lor away (otherSlots os (2 ^ fn.params.size - 1))
 let b := boxSlots os 0
 Nat.land b (Nat.xor (Nat.lor b bad) bad)
def cOper (P : Program) (loc : Nat) (ops : List Oper) (o : Oper) (re : List Re) : Option AOp :=
 match gSlot ops o, cOp P loc o with
 | some g, some k => some ⟨o.dst, k, g, re⟩
 | _, _ => none
def cOpers (P : Program) (loc : Nat) (ops : List Oper) : List Oper → Option (List AOp)
 | [] => some []
 | o :: l => match cOper P loc ops o [], cOpers P loc ops l with
  | some a, some r => some (a :: r)
  | _, _ => none
def anyGuard : List Oper → Bool
 | [] => false
 | o :: l => o.guard.isSome || anyGuard l
def depTab : List Oper → List Nat → List Nat
 | [], acc => acc
 | o :: l, acc => depTab l (acc ++ [o.after.toList.foldl (fun m e => match Region.binds .any e with
  | true => Nat.lor (setB m e.on) (acc.getD e.on 0)
  | false => m) 0])
def isM : AK → Bool
 | .store _ _ _ | .call _ _ _ _ | .callV _ _ _ _ | .append _ _ _ _ _ | .copy _ _ _ | .mapUpdate _ _ _ | .clear _ _ => true
 | .lookup _ _ _ _ _ | .lenMap _ => true
 | _ => false
def pickNext (deps : List Nat) (done : Nat) (want : Nat → Bool) : List Nat → Option Nat
 | [] => none
 | i :: l => match (!(Nat.testBit done i)) && (Nat.beq (Nat.land (deps.getD i 0) done) (deps.getD i 0)) && want i with
  | true => some i
  | false => pickNext deps done want l
def isMAt (as : List AOp) (i : Nat) : Bool := match as[i]? with | some a => isM a.k | none => false
def orderGo (deps : List Nat) (as : List AOp) (idx : List Nat) : Nat → Nat → List Nat
 | 0, _ => []
 | n + 1, done =>
  match pickNext deps done (fun i => !(isMAt as i)) idx with
  | some i => i :: orderGo deps as idx n (setB done i)
  | none => match pickNext deps done (fun _ => true) idx with
   | some i => i :: orderGo deps as idx n (setB done i)
   | none => []
structure Item where
 i : Nat
 a : AOp
 bar : Bool
def aoRd (a : AOp) : List Nat := (match a.guard with | some (t, _) => [t] | none => []) ++ akTmps a.k
def hits (d : Option Nat) (l : List Nat) : Bool := match d with | some d => l.any (Nat.beq d) | none => false
def sameD (d e : Option Nat) : Bool := match d, e with | some d, some e => Nat.beq d e | _, _ => false
def clash (p q : AOp) : Bool := hits p.dst (aoRd q) || sameD p.dst q.dst || hits q.dst (aoRd p)
def reOf (a : AOp) : List Re :=
 match a.k with
 | .load s (.tmp x) => [.load s.size x (match a.guard with | none => none | some _ => a.dst)]
 | .slice _ _ none none => []
 | .slice _ (.tmp x) _ _ => [.sl x (match a.guard with | none => none | some _ => a.dst)]
 | .slice3 _ (.tmp x) _ _ _ => [.sl x (match a.guard with | none => none | some _ => a.dst)]
 | .boxH _ | .allocH _ | .buildSl _ _ _ | .makeMap | .makeSl _ _ _ _ => (match a.dst with | some d => [.blk d] | none => [])
 | _ => []
def resAll (dep : Nat) : List Item → List Re
 | [] => []
 | p :: l => (match Nat.testBit dep p.i with
  | true => []
  | false => reOf p.a) ++ resAll dep l
def mkItems (deps : List Nat) (as : List AOp) : List Item → List Nat → Option (List Item)
 | _, [] => some []
 | ahead, i :: l => match as[i]? with
  | none => none
  | some a =>
   let bar := isM a.k || hits a.dst (aoRd a) || ahead.any fun p => hits a.dst (aoRd p.a) || sameD a.dst p.a.dst
   let it : Item := ⟨i, ⟨a.dst, a.k, a.guard, match bar with | true => resAll (deps.getD i 0) ahead | false => []⟩, bar⟩
   match mkItems deps as (ahead ++ [it]) l with
   | some r => some (it :: r)
   | none => none
def pairOk (deps : List Nat) (p q : Item) : Bool :=
 (!(Nat.testBit (deps.getD p.i 0) q.i)) && (!(Nat.beq p.i q.i)) &&
 (Nat.testBit (deps.getD q.i 0) p.i || ((!p.bar) && !(clash p.a q.a))) &&
 (q.bar || !(hits q.a.dst (aoRd p.a) || sameD p.a.dst q.a.dst))
def plainK : AK → Bool
 | .slice _ (.c _) _ _ => false
 | .slice3 _ (.c _) _ _ _ => false
 | .load (.agg []) _ => false
 | .load (.raw 0) _ => false
 | _ => true
def isB : AK → Bool
 | .boxH _ | .allocH _ | .buildSl _ _ _ | .makeMap | .makeSl _ _ _ _ => true
 | _ => false
def selfOk (q : Item) : Bool := (q.bar || !(hits q.a.dst (aoRd q.a))) && (!(isM q.a.k) || q.bar) && plainK q.a.k && (!(isB q.a.k) || q.a.dst.isSome)
def edgeOk (ahead : List Item) (o : Oper) : Bool := o.after.toList.all fun e => !(Region.binds .any e) || ahead.any fun p => Nat.beq p.i e.on
def edgesOk (ops : List Oper) : List Item → List Item → Bool
 | _, [] => true
 | ahead, p :: l => (match ops[p.i]? with | some o => edgeOk ahead o | none => false) && edgesOk ops (ahead ++ [p]) l
def itemsOk (deps : List Nat) : List Item → Bool
 | [] => true
 | p :: l => (l.all fun q => pairOk deps p q) && selfOk p && itemsOk deps l
def itemsA : List Item → List AOp
 | [] => []
 | p :: l => p.a :: itemsA l
def cItems (P : Program) (loc : Nat) (ops : List Oper) : Option (List Item) :=
 match cOpers P loc ops ops with
 | none => none
 | some as =>
  let deps := depTab ops []
  match mkItems deps as [] (orderGo deps as (List.range ops.length) ops.length 0) with
  | none => none
  | some l => match itemsOk deps l && edgesOk ops [] l && (List.range ops.length).all fun i => l.any fun p => Nat.beq p.i i with
   | true => some l
   | false => none
def cRegion (P : Program) (loc : Nat) (ops : List Oper) (draw : Bool) : Option (Bool × List AOp) :=
 match draw with
 | false => match cOpers P loc ops ops with
  | some l => some (anyGuard ops, l)
  | none => none
 | true => match cItems P loc ops with
  | some l => some (anyGuard ops, itemsA l)
  | none => none
def acExit (id : Nat) : AC → Bool
 | .seq a b => acExit id a || acExit id b
 | .cond _ a b => acExit id a || acExit id b
 | .block _ c => acExit id c
 | .loop _ _ c => acExit id c
 | .exit j => Nat.beq j id
 | _ => false
def acEnds : AC → Bool
 | .seq a b => acEnds a && acEnds b
 | .cond _ a b => acEnds a || acEnds b
 | .block id c => acEnds c || acExit id c
 | .loop _ _ _ => false
 | .exit _ => false
 | .ret => false
 | .bad => false
 | _ => true
def acExits (id : Nat) : AC → Nat
 | .seq a b => acExits id a + acExits id b
 | .cond _ a b => acExits id a + acExits id b
 | .block _ c => acExits id c
 | .loop _ _ c => acExits id c
 | .exit j => (match Nat.beq j id with | true => 1 | false => 0)
 | _ => 0
def acMany (id : Nat) (c : AC) : Bool := Nat.ble 2 (acExits id c + (match acEnds c with | true => 1 | false => 0))
def meet (b : Bool) (n : Nat) : AC := match b with | true => .join n | false => .mask n
def cCode (P : Program) (loc rt : Nat) : Code → Nat → List (Nat × Nat) → AC
 | .skip, _, _ => .skip
 | .region _ ops draw, _, _ => match cRegion P loc ops.toList draw with
  | some (sc, l) => .ops sc l
  | none => .bad
 | .seq a b, n, X => .seq (cCode P loc rt a (lv rt b n X) X) (cCode P loc rt b n X)
 | .cond c a b, n, X => match cX c with
  | some t => .seq (.cond t (cCode P loc rt a n X) (cCode P loc rt b n X)) (meet (acEnds (cCode P loc rt a n X) && acEnds (cCode P loc rt b n X)) n)
  | none => .bad
 | .block id c, n, X => .seq (.block id (cCode P loc rt c n ((id, n) :: X))) (meet (acMany id (cCode P loc rt c n ((id, n) :: X))) n)
 | .loop c, _, X =>
  let l := lv rt c (lv rt c 0 X) X
  .loop l (X.foldl (fun m p => Nat.lor m p.2) 0) (cCode P loc rt c l X)
 | .exit id, _, X => .seq (.mask (lookX X id)) (.exit id)
 | .ret, _, _ => .seq (.mask rt) .ret
 | _, _, _ => .bad
def resRV (P : Program) : List ResultVar → Option (List RV)
 | [] => some []
 | .tmp t :: l => (match resRV P l with | some r => some (.tmp t :: r) | none => none)
 | .cell a t :: l => (match vsOf P t, resRV P l with | some s, some r => some (.cell a s :: r) | _, _ => none)
def rvSlots : List RV → List Nat
 | [] => []
 | .tmp t :: l => t :: rvSlots l
 | .cell t _ :: l => t :: rvSlots l
def cFn (P : Program) (f : FuncId) : Option AFn :=
 match P.funcs[f]? with
 | none => none
 | some fn => match fn.body, resRV P fn.results.toList with
  | some c, some rs => if fn.name = "runtime.NumGoroutine" then none else
   let loc := locOf fn c
   let rt := setBs 0 (rvSlots rs)
   some ⟨fn.ntmps, rs, cCode P loc rt c rt []⟩
  | _, _ => none
noncomputable def retG (σ : St) : List RV → (List AV → Res) → Res
 | [], K => K []
 | .tmp t :: l, K => match getV [] (fun t => σ.env.getD t .any) (.tmp t) with
  | some a => retG σ l fun as => K (a :: as)
  | none => none
 | .cell t s :: l, K => opA (fun t => σ.env.getD t .any) σ.ah [] true (.load s (.tmp t)) fun sv => match sv with
  | .g _ _ a => retG σ l fun as => K (a :: as)
  | _ => none
noncomputable def retV (rs : List RV) (σ : St) : Res :=
 retG σ rs fun l => match l with
  | [a] => some (a, σ.ah)
  | l => some (.tup l, σ.ah)
def initEnv : List AV → Nat → List SV
 | [], n => List.replicate n .any
 | a :: l, n => .v a :: initEnv l (n - 1)
noncomputable def runFn (C : FuncId → List AV → Heap → Res) (k : Nat) (fn : AFn) (args : List AV) (ah : Heap) : Res :=
 evalCode C k fn.body ⟨initEnv args fn.nt, ah⟩ fun x σ => match x with
  | .normal => retV fn.res σ
  | .ret => retV fn.res σ
  | .exit _ => none
abbrev Prims := FuncId → Option (List AV → Heap → Res)
noncomputable def evalF (P : Program) (T : Prims) : Nat → FuncId → List AV → Heap → Res
 | 0, _, _, _ => none
 | k + 1, f, args, ah => match T f with
  | some p => p args ah
  | none => match cFn P f with
   | none => none
   | some fn => runFn (evalF P T k) k fn args ah
end Go.Proofs.Ytnmdadadjneaiaa.Abs
/- The relation between abstract and loaded memory, and what it gives for reads, writes and new blocks. -/
set_option linter.unusedVariables false
set_option linter.unusedSimpArgs false
namespace Go.Proofs.Ytnmdadadjneaiaa.Abs
open Go
structure Row where
 cb : Nat
 base : Nat
 ver : Nat
 mode : Mode
 size : Nat
inductive Stt where
 | unborn | dead | live (r : Row) | lmap (cb : Nat)
abbrev Phi := Nat → Stt
def AddrR (φ : Phi) (a : Ad) (a' : Addr) : Prop :=
 match φ a.b with
 | .live r => a.v ≤ r.ver ∧ (a.v = r.ver → a' = ⟨r.cb, r.base + a.o, none⟩)
 | .dead => True
 | _ => False
def CapR (φ : Phi) (a : Ad) (c : Nat) : Prop :=
 match φ a.b with
 | .live r => a.v = r.ver → ∀ es, r.mode = .grow es → r.base + a.o + c * es = r.size
 | _ => True
inductive VR (φ : Phi) : AV → Value → Prop where
 | int (k : IntKind) (n : Int) : VR φ (.int k n) (.int k n)
 | bool (b : Bool) : VR φ (.bool b) (.bool b)
 | str (s : ByteArray) : VR φ (.str s) (.string s)
 | nilFn : VR φ .nilFn .nilFunc
 | nilIface : VR φ .nilIface .nilIface
 | ptrN : VR φ (.ptr none) (.pointer none)
 | ptr {a : Ad} {a' : Addr} : AddrR φ a a' → VR φ (.ptr (some a)) (.pointer (some a'))
 | slN : VR φ (.sl .nil 0) (.slice none 0 0)
 | sl {a : Ad} {a' : Addr} {n c : Nat} : AddrR φ a a' → CapR φ a c → n ≤ c → VR φ (.sl (.pos a) n) (.slice (some a') n c)
 | slL {a' : Addr} {c : Nat} : VR φ (.sl .lost 0) (.slice (some a') 0 c)
 | slZ {a' : Addr} : VR φ (.sl .z 0) (.slice (some a') 0 0)
 | mapN : VR φ (.map none) (.map none)
 | map {r r' : Nat} : φ r = .lmap r' → VR φ (.map (some r)) (.map (some r'))
 | fn (f : FuncId) {a c : List AV} {a' c' : Array Value} : a.length = a'.size → (∀ (i : Nat) x y, a[i]? = some x → a'[i]? = some y → VR φ x y) →
  c.length = c'.size → (∀ (i : Nat) x y, c[i]? = some x → c'[i]? = some y → VR φ x y) → VR φ (.fn f a c) (.func (.func f) a' c')
 | agg {a : List AV} {a' : Array Value} : a.length = a'.size → (∀ (i : Nat) x y, a[i]? = some x → a'[i]? = some y → VR φ x y) → VR φ (.agg a) (.agg a')
 | tup {a : List AV} {a' : Array Value} : a.length = a'.size → (∀ (i : Nat) x y, a[i]? = some x → a'[i]? = some y → VR φ x y) → VR φ (.tup a) (.tuple a')
 | opq (v : Value) : VR φ .opq v
def VRs (φ : Phi) (a : List AV) (a' : List Value) : Prop :=
 a.length = a'.length ∧ ∀ (i : Nat) x y, a[i]? = some x → a'[i]? = some y → VR φ x y
def StLE : Stt → Stt → Prop
 | .unborn, _ => True
 | .dead, s => s = .dead
 | .live r, s => ∃ r', s = .live r' ∧ r'.mode = r.mode ∧ (r' = r ∨ r.ver < r'.ver)
 | .lmap c, s => s = .lmap c
def Le (φ φ' : Phi) : Prop := ∀ b, StLE (φ b) (φ' b)
theorem StLE.refl (s : Stt) : StLE s s := by
 cases s with
 | live r => exact ⟨r, rfl, rfl, .inl rfl⟩
 | _ => first | trivial | rfl
theorem Le.refl (φ : Phi) : Le φ φ := fun b => StLE.refl _
theorem StLE.trans {a b c : Stt} (h : StLE a b) (k : StLE b c) : StLE a c := by
 cases a with
 | unborn => trivial
 | dead => cases h; exact k
 | lmap n => cases h; exact k
 | live r =>
  obtain ⟨r', rfl, hm, hv⟩ := h
  obtain ⟨r'', rfl, hm', hv'⟩ := k
  refine ⟨r'', rfl, hm'.trans hm, ?_⟩
  rcases hv with rfl | hv
  · exact hv'
  · rcases hv' with rfl | hv'
    · exact .inr hv
    · exact .inr (Nat.lt_trans hv hv')
theorem Le.trans {φ φ' φ'' : Phi} (h : Le φ φ') (k : Le φ' φ'') : Le φ φ'' := fun b => (h b).trans (k b)
theorem AddrR.mono {φ φ' : Phi} (le : Le φ φ') {a : Ad} {a' : Addr} (h : AddrR φ a a') : AddrR φ' a a' := by
 have l := le a.b
 unfold AddrR at *
 cases e : φ a.b with
 | unborn => rw [e] at h; exact h.elim
 | lmap c => rw [e] at h; exact h.elim
 | dead => rw [e] at l; have l' : φ' a.b = .dead := l; rw [l']; trivial
 | live r =>
  rw [e] at h l
  obtain ⟨r', hr', hm, hv⟩ := l
  rw [hr']
  rcases hv with rfl | hv
  · exact h
  · exact ⟨by have := h.1; omega, fun hh => by have := h.1; omega⟩
theorem CapR.mono {φ φ' : Phi} (le : Le φ φ') {a : Ad} {a' : Addr} {c : Nat} (ha : AddrR φ a a') (h : CapR φ a c) : CapR φ' a c := by
 have l := le a.b
 unfold CapR AddrR at *
 cases e : φ a.b with
 | unborn => rw [e] at ha; exact ha.elim
 | lmap c => rw [e] at ha; exact ha.elim
 | dead => rw [e] at l; have l' : φ' a.b = .dead := l; rw [l']; trivial
 | live r =>
  rw [e] at h l ha
  obtain ⟨r', hr', hm, hv⟩ := l
  rw [hr']
  rcases hv with rfl | hv
  · exact h
  · exact fun hh => by have := ha.1; omega
theorem VR.mono {φ φ' : Phi} (le : Le φ φ') {x : AV} {y : Value} (h : VR φ x y) : VR φ' x y := by
 induction h with
 | int k n => exact .int k n
 | bool b => exact .bool b
 | str s => exact .str s
 | nilFn => exact .nilFn
 | nilIface => exact .nilIface
 | ptrN => exact .ptrN
 | ptr ha => exact .ptr (ha.mono le)
 | slN => exact .slN
 | sl ha hc hn => exact .sl (ha.mono le) (hc.mono le ha) hn
 | slL => exact .slL
 | slZ => exact .slZ
 | mapN => exact .mapN
 | @map r r' hr =>
  have l := le r
  rw [hr] at l
  exact .map l
 | fn f h1 h2 h3 h4 ih1 ih2 => exact .fn f h1 ih1 h3 ih2
 | agg h1 h2 ih => exact .agg h1 ih
 | tup h1 h2 ih => exact .tup h1 ih
 | opq v => exact .opq v
theorem VRs.nil (φ : Phi) : VRs φ [] [] := ⟨rfl, fun i x y h => by simp at h⟩
theorem VRs.cons {φ : Phi} {x : AV} {y : Value} {xs : List AV} {ys : List Value} (h : VR φ x y) (hs : VRs φ xs ys) : VRs φ (x :: xs) (y :: ys) := by
 refine ⟨by simp [hs.1], fun i a b ha hb => ?_⟩
 cases i with
 | zero => simp at ha hb; subst ha; subst hb; exact h
 | succ i => simp at ha hb; exact hs.2 i a b ha hb
theorem VRs.cons_inv {φ : Phi} {x : AV} {xs : List AV} {l : List Value} (h : VRs φ (x :: xs) l) : ∃ y ys, l = y :: ys ∧ VR φ x y ∧ VRs φ xs ys := by
 cases l with
 | nil => have := h.1; simp at this
 | cons y ys =>
  exact ⟨y, ys, rfl, h.2 0 x y rfl rfl, by have := h.1; simpa using this, fun i a b ha hb => h.2 (i + 1) a b (by simpa using ha) (by simpa using hb)⟩
theorem VRs.append {φ : Phi} {a b : List AV} {a' b' : List Value} (h : VRs φ a a') (k : VRs φ b b') : VRs φ (a ++ b) (a' ++ b') := by
 induction a generalizing a' with
 | nil => have := h.1; cases a' <;> simp_all
 | cons x xs ih =>
  obtain ⟨y, ys, rfl, h1, h2⟩ := h.cons_inv
  exact .cons h1 (ih h2)
theorem VRs.get {φ : Phi} {a : List AV} {a' : List Value} (h : VRs φ a a') {i : Nat} {x : AV} (hx : a[i]? = some x) : ∃ y, a'[i]? = some y ∧ VR φ x y := by
 have hi : i < a.length := (List.getElem?_eq_some_iff.1 hx).1
 have hi' : i < a'.length := by have := h.1; omega
 exact ⟨a'[i], List.getElem?_eq_getElem hi', h.2 i x _ hx (List.getElem?_eq_getElem hi')⟩
theorem VRs.sub {φ : Phi} {a : List AV} {a' : List Value} (h : VRs φ a a') (o n : Nat) : VRs φ ((a.drop o).take n) ((a'.drop o).take n) := by
 refine ⟨by simp [h.1], fun i x y hx hy => ?_⟩
 rw [List.getElem?_take] at hx hy
 split at hx
 · rename_i hi
   rw [if_pos hi] at hy
   rw [List.getElem?_drop] at hx hy
   exact h.2 _ x y hx hy
 · simp at hx
theorem VRs.of_arr {φ : Phi} {a : List AV} {a' : Array Value} (h : a.length = a'.size) (k : ∀ (i : Nat) x y, a[i]? = some x → a'[i]? = some y → VR φ x y) : VRs φ a a'.toList :=
 ⟨by simpa using h, fun i x y hx hy => k i x y hx (by simpa using hy)⟩
theorem VR.agg_list {φ : Phi} {a : List AV} {l : List Value} (h : VRs φ a l) : VR φ (.agg a) (.agg l.toArray) :=
 .agg (by simpa using h.1) fun i x y hx hy => h.2 i x y hx (by simpa using hy)
theorem VR.tup_list {φ : Phi} {a : List AV} {l : List Value} (h : VRs φ a l) : VR φ (.tup a) (.tuple l.toArray) :=
 .tup (by simpa using h.1) fun i x y hx hy => h.2 i x y hx (by simpa using hy)
theorem flat_cell {φ : Phi} {x : AV} {y : Value} (h : VR φ x y) (hf : flatA x = true) : y.oneCell' = true := by
 cases h <;> first | rfl | simp [flatA] at hf
theorem flat_cells {φ : Phi} {xs : List AV} {ys : List Value} (h : VRs φ xs ys) (hf : flatL xs = true) : ∀ v ∈ ys, v.oneCell' = true := by
 induction xs generalizing ys with
 | nil => have := h.1; cases ys <;> simp_all
 | cons x xs ih =>
  obtain ⟨y, ys, rfl, h1, h2⟩ := h.cons_inv
  simp only [flatL, Bool.and_eq_true] at hf
  intro v hv
  cases hv with
  | head => exact flat_cell h1 hf.1
  | tail _ hv => exact ih h2 hf.2 v hv
theorem cellsOf_sound {φ : Phi} {x : AV} {y : Value} (h : VR φ x y) (hx : x ≠ .opq) : VRs φ (cellsOf x) y.cells.toList := by
 cases h with
 | agg h1 h2 => exact VRs.of_arr h1 h2
 | opq => exact absurd rfl hx
 | _ => exact .cons (by constructor <;> assumption) (.nil _)
def cbOf : Stt → Option Nat
 | .live r => some r.cb
 | .lmap c => some c
 | _ => none
structure CellsR (φ : Phi) (c : List AV) (base : Nat) (cc : Array Value) : Prop where
 len : base + c.length ≤ cc.size
 get : ∀ (i : Nat) x, c[i]? = some x → ∃ y, cc[base + i]? = some y ∧ VR φ x y
inductive MapR (φ : Phi) : List (AV × AV) → List MapEntry → Prop where
 | nil : MapR φ [] []
 | cons {k v : AV} {e : MapEntry} {l : List (AV × AV)} {es : List MapEntry} : VR φ k e.key → VR φ v e.val → MapR φ l es → MapR φ ((k, v) :: l) (e :: es)
theorem MapR.mono {φ φ' : Phi} (le : Le φ φ') {l : List (AV × AV)} {es : List MapEntry} (h : MapR φ l es) : MapR φ' l es := by
 induction h with
 | nil => exact .nil
 | cons h1 h2 _ ih => exact .cons (h1.mono le) (h2.mono le) ih
structure Sim (φ : Phi) (h : Heap) (w : World) : Prop where
 live : ∀ b r, φ b = .live r → ∃ c cc ty fz, h[b]? = some (.cells c r.mode r.ver) ∧ w.heap[r.cb]? = some (.cells cc ty fz) ∧ CellsR φ c r.base cc ∧
  (r.mode ≠ .ro → fz = (0, 0)) ∧ (∀ es, r.mode = .grow es → cc.size = r.size)
 map : ∀ b cb, φ b = .lmap cb → ∃ es ces clk, h[b]? = some (.map es) ∧ w.heap[cb]? = some (.map ces clk) ∧ MapR φ es ces.toList
 dead : ∀ b, φ b = .dead → h[b]? = some .gone
 inj : ∀ b b' c, cbOf (φ b) = some c → cbOf (φ b') = some c → b = b'
theorem CellsR.mono {φ φ' : Phi} (le : Le φ φ') {c : List AV} {o : Nat} {cc : Array Value} (h : CellsR φ c o cc) : CellsR φ' c o cc :=
 ⟨h.len, fun i x hx => let ⟨y, hy, hv⟩ := h.get i x hx; ⟨y, hy, hv.mono le⟩⟩
theorem addr_live {φ : Phi} {h : Heap} {w : World} (S : Sim φ h w) {a : Ad} {a' : Addr} (ha : AddrR φ a a') {c : List AV} {m : Mode} {v : Nat}
 (hb : h[a.b]? = some (.cells c m v)) (hv : a.v = v) :
 ∃ r cc ty fz, φ a.b = .live r ∧ r.mode = m ∧ r.ver = v ∧ a' = ⟨r.cb, r.base + a.o, none⟩ ∧ w.heap[r.cb]? = some (.cells cc ty fz) ∧ CellsR φ c r.base cc ∧
  (r.mode ≠ .ro → fz = (0, 0)) ∧ (∀ es, r.mode = .grow es → cc.size = r.size) := by
 unfold AddrR at ha
 cases e : φ a.b with
 | unborn => rw [e] at ha; exact ha.elim
 | lmap c => rw [e] at ha; exact ha.elim
 | dead => have := S.dead _ e; rw [hb] at this; simp at this
 | live r =>
  rw [e] at ha
  obtain ⟨c', cc, ty, fz, h1, h2, h3, h4, h5⟩ := S.live _ _ e
  rw [hb] at h1
  simp only [Option.some.injEq, Blk.cells.injEq] at h1
  obtain ⟨rfl, rfl, rfl⟩ := h1
  exact ⟨r, cc, ty, fz, rfl, rfl, rfl, ha.2 hv, h2, h3, h4, h5⟩
theorem ld1_sound {φ : Phi} {h : Heap} {w : World} (S : Sim φ h w) {a : Ad} {a' : Addr} (ha : AddrR φ a a') {x : AV} (hl : ld1 h a = some x) :
 ∃ y, w.cell? a' = some y ∧ VR φ x y ∧ flatA x = true := by
 unfold ld1 at hl
 cases e : h[a.b]? with
 | none => simp [e] at hl
 | some b =>
  cases b with
  | gone => simp [e] at hl
  | map es => simp [e] at hl
  | cells c m v =>
   simp only [e] at hl
   split at hl
   · rename_i hv
     obtain ⟨r, cc, ty, fz, h1, _, _, rfl, h5, h6, _, _⟩ := addr_live S ha e hv
     split at hl
     · rename_i x' hx'
       split at hl
       · rename_i hf
         simp only [Option.some.injEq] at hl
         subst hl
         obtain ⟨y, hy, hvr⟩ := h6.get _ _ hx'
         exact ⟨y, by simp [World.cell?, h5, hy], hvr, hf⟩
       · simp at hl
     · simp at hl
   · simp at hl
theorem addr_add (b o n : Nat) : (⟨b, o, none⟩ : Addr).add n = ⟨b, o + n, none⟩ := Addr.add_lit b o n
theorem ldN_sound {φ : Phi} {h : Heap} {w : World} (S : Sim φ h w) {a : Ad} {a' : Addr} (ha : AddrR φ a a') {n : Nat} {xs : List AV} (hl : ldN h a n = some xs) :
 ∃ ys : List Value, ys.length = n ∧ (∀ j v, ys[j]? = some v → w.cell? (a'.add j) = some v) ∧ VRs φ xs ys ∧ flatL xs = true := by
 unfold ldN at hl
 cases e : h[a.b]? with
 | none => simp [e] at hl
 | some b =>
  cases b with
  | gone => simp [e] at hl
  | map es => simp [e] at hl
  | cells c m v =>
   simp only [e] at hl
   split at hl
   · rename_i hv
     obtain ⟨hv, hle, hf⟩ := hv
     simp only [Option.some.injEq] at hl
     subst hl
     obtain ⟨r, cc, ty, fz, h1, _, _, rfl, h5, h6, _, _⟩ := addr_live S ha e hv
     refine ⟨(cc.toList.drop (r.base + a.o)).take n, ?_, ?_, ?_, hf⟩
     · have := h6.len
       simp; omega
     · intro j v hj
       rw [List.getElem?_take] at hj
       split at hj
       · rw [List.getElem?_drop] at hj
         rw [addr_add]
         have : cc[r.base + a.o + j]? = some v := by simpa using hj
         simp [World.cell?, h5, this]
       · simp at hj
     · refine ⟨?_, fun i x y hx hy => ?_⟩
       · have := h6.len
         simp; omega
       · rw [List.getElem?_take] at hx hy
         split at hx
         · rename_i hi
           rw [if_pos hi, List.getElem?_drop] at hy
           rw [List.getElem?_drop] at hx
           obtain ⟨y', hy', hvr⟩ := h6.get _ _ hx
           have : cc.toList[r.base + a.o + i]? = some y' := by simpa [Nat.add_assoc] using hy'
           rw [this] at hy
           cases hy
           exact hvr
         · simp at hx
   · simp at hl
theorem run_ldN {φ : Phi} {h : Heap} {w : World} (P : Program) (S : Sim φ h w) {a : Ad} {a' : Addr} (ha : AddrR φ a a') {n : Nat} {xs : List AV} (hl : ldN h a n = some xs) :
 ∃ ys : List Value, (loadCells a' n).run P w = .ok ys.toArray w ∧ ys.length = n ∧ VRs φ xs ys ∧ flatL xs = true := by
 obtain ⟨ys, h1, h2, h3, h4⟩ := ldN_sound S ha hl
 refine ⟨ys, ?_, h1, h3, h4⟩
 rw [← h1]
 exact run_loadCells_list w a' ys h2
def Owns (φ : Phi) (k : Nat) : Prop := ∃ b, (∃ r, φ b = .live r ∧ r.mode ≠ .ro ∧ r.cb = k) ∨ φ b = .lmap k
structure Fr (own : Nat → Prop) (w w' : World) : Prop where
 os : w'.os = w.os
 tape : w'.tape = w.tape
 output : w'.output = w.output
 size : w.heap.size ≤ w'.heap.size
 block : ∀ k, k < w.heap.size → ¬ own k → w'.heap[k]? = w.heap[k]?
theorem Fr.refl (own : Nat → Prop) (w : World) : Fr own w w := ⟨rfl, rfl, rfl, Nat.le_refl _, fun _ _ _ => rfl⟩
theorem Fr.trans {own own' : Nat → Prop} {w w' w'' : World} (h : Fr own w w') (k : Fr own' w' w'') (ho : ∀ n, n < w.heap.size → own' n → own n) : Fr own w w'' :=
 ⟨k.os.trans h.os, k.tape.trans h.tape, k.output.trans h.output, Nat.le_trans h.size k.size,
  fun n hn hno => (k.block n (Nat.lt_of_lt_of_le hn h.size) (fun h' => hno (ho n hn h'))).trans (h.block n hn hno)⟩
theorem splice_length (o : Nat) (vs cs : List AV) (h : o + vs.length ≤ cs.length) : (splice o vs cs).length = cs.length := by
 induction cs generalizing o vs with
 | nil => cases vs with
  | nil => cases o <;> simp [splice]
  | cons v vs => simp at h
 | cons c cs ih =>
  cases vs with
  | nil => cases o <;> simp [splice]
  | cons v vs =>
   cases o with
   | zero => simp only [splice, List.length_cons] at *; rw [ih 0 vs (by omega)]
   | succ o => simp only [splice, List.length_cons] at *; rw [ih o (v :: vs) (by simp; omega)]
theorem splice_get (o : Nat) (vs cs : List AV) (h : o + vs.length ≤ cs.length) (i : Nat) :
 (splice o vs cs)[i]? = if o ≤ i ∧ i < o + vs.length then vs[i - o]? else cs[i]? := by
 induction cs generalizing o vs i with
 | nil => cases vs with
  | nil => cases o <;> simp [splice]
  | cons v vs => simp at h
 | cons c cs ih =>
  cases vs with
  | nil =>
   have : ¬ (o ≤ i ∧ i < o + 0) := by omega
   cases o <;> simp [splice, this]
  | cons v vs =>
   cases o with
   | zero =>
    simp only [splice]
    cases i with
    | zero => simp
    | succ i =>
     simp only [List.length_cons] at h
     rw [List.getElem?_cons_succ, ih 0 vs (by omega)]
     by_cases hc : i < vs.length
     · rw [if_pos (by omega), if_pos (by simp; omega)]
       simp
     · rw [if_neg (by omega), if_neg (by simp; omega)]
       simp
   | succ o =>
    simp only [splice]
    cases i with
    | zero => simp
    | succ i =>
     simp only [List.length_cons] at h
     rw [List.getElem?_cons_succ, ih o (v :: vs) (by simp; omega), List.getElem?_cons_succ]
     by_cases hc : o ≤ i ∧ i < o + (v :: vs).length
     · rw [if_pos hc, if_pos (by omega)]
       congr 1
       omega
     · rw [if_neg hc, if_neg (by omega)]
theorem splice_set (o : Nat) (x : AV) (cs : List AV) (h : o < cs.length) : splice o [x] cs = cs.set o x := by
 apply List.ext_getElem?
 intro i
 rw [splice_get o [x] cs (by simp; omega), List.getElem?_set]
 by_cases hi : o = i
 · subst hi
   simp [h]
 · rw [if_neg (by simp; omega), if_neg hi]
theorem st1_eq (h : Heap) (a : Ad) (x : AV) : st1 h a x = stN h a [x] := by
 unfold st1 stN
 cases h[a.b]? with
 | none => rfl
 | some b => cases b with
  | gone => rfl
  | map es => rfl
  | cells c m v =>
   simp only [List.length_singleton]
   by_cases hc : a.v = v ∧ m ≠ .ro ∧ a.o < c.length
   · rw [if_pos hc, if_pos ⟨hc.1, hc.2.1, by omega⟩, splice_set _ _ _ hc.2.2]
   · rw [if_neg hc, if_neg (fun h => hc ⟨h.1, h.2.1, by omega⟩)]
theorem setRow_get (w : World) (g k : Nat) (cs : Array Value) (h : k ≠ g) : (w.setRow g cs).heap[k]? = w.heap[k]? := by
 simp only [World.setRow, Array.getElem?_modify]
 rw [if_neg (by omega)]
theorem setRow_size (w : World) (g : Nat) (cs : Array Value) : (w.setRow g cs).heap.size = w.heap.size := by simp [World.setRow]
theorem Sim.put {φ φ' : Phi} {h : Heap} {w w' : World} (S : Sim φ h w) (le : Le φ φ') {b : Nat} {r' : Row} {c : List AV} {cc : Array Value} {ty : TypeId}
 (hb : b < h.length) (h1 : φ' b = .live r') (h2 : ∀ k, k ≠ b → φ' k = φ k) (hw : w'.heap[r'.cb]? = some (.cells cc ty (0, 0)))
 (hc : CellsR φ' c r'.base cc) (hg : ∀ es, r'.mode = .grow es → cc.size = r'.size)
 (hin : ∀ k, k ≠ b → cbOf (φ k) ≠ some r'.cb)
 (hk : ∀ k, k ≠ b → ∀ n, cbOf (φ k) = some n → w'.heap[n]? = w.heap[n]?) :
 Sim φ' (h.set b (.cells c r'.mode r'.ver)) w' := by
 have hset : ∀ k, k ≠ b → (h.set b (.cells c r'.mode r'.ver))[k]? = h[k]? := fun k hk => by rw [List.getElem?_set, if_neg (Ne.symm hk)]
 constructor
 · intro k r hr
   by_cases e : k = b
   · subst e
     rw [h1] at hr
     cases hr
     exact ⟨c, cc, ty, (0, 0), by simp [List.getElem?_set, hb], hw, hc, fun _ => rfl, hg⟩
   · rw [h2 k e] at hr
     obtain ⟨c', cc', ty', fz', g1, g2, g3, g4, g5⟩ := S.live k r hr
     exact ⟨c', cc', ty', fz', by rw [hset k e]; exact g1, by rw [hk k e r.cb (by simp [hr, cbOf])]; exact g2, g3.mono le, g4, g5⟩
 · intro k cb hr
   by_cases e : k = b
   · subst e; rw [h1] at hr; cases hr
   · rw [h2 k e] at hr
     obtain ⟨es, ces, clk, g1, g2, g3⟩ := S.map k cb hr
     exact ⟨es, ces, clk, by rw [hset k e]; exact g1, by rw [hk k e cb (by simp [hr, cbOf])]; exact g2, g3.mono le⟩
 · intro k hr
   by_cases e : k = b
   · subst e; rw [h1] at hr; cases hr
   · rw [h2 k e] at hr
     rw [hset k e]; exact S.dead k hr
 · intro k k' n hn hn'
   by_cases e : k = b
   · by_cases e' : k' = b
     · rw [e, e']
     · subst e
       rw [h1] at hn
       simp only [cbOf, Option.some.injEq] at hn
       rw [h2 k' e'] at hn'
       exact absurd (hn ▸ hn') (hin k' e')
   · by_cases e' : k' = b
     · subst e'
       rw [h1] at hn'
       simp only [cbOf, Option.some.injEq] at hn'
       rw [h2 k e] at hn
       exact absurd (hn' ▸ hn) (hin k e)
     · rw [h2 k e] at hn
       rw [h2 k' e'] at hn'
       exact S.inj k k' n hn hn'
theorem CellsR.spliced {φ : Phi} {c : List AV} {base o : Nat} {cc : Array Value} {xs : List AV} {ys : List Value} (h : CellsR φ c base cc) (hl : o + xs.length ≤ c.length) (hx : VRs φ xs ys) :
 CellsR φ (splice o xs c) base (cc.toList.take (base + o) ++ ys ++ cc.toList.drop (base + o + ys.length)).toArray := by
 have hlen := h.len
 have hxy := hx.1
 constructor
 · rw [splice_length o xs c hl]
   simp
   omega
 · intro i x hi
   rw [splice_get o xs c hl] at hi
   by_cases hc : o ≤ i ∧ i < o + xs.length
   · rw [if_pos hc] at hi
     obtain ⟨y, hy, hv⟩ := hx.get hi
     refine ⟨y, ?_, hv⟩
     rw [List.getElem?_toArray, List.append_assoc, List.getElem?_append_right (by simp; omega), List.getElem?_append_left (by simp; omega)]
     rw [← hy]
     congr 1
     simp
     omega
   · rw [if_neg hc] at hi
     obtain ⟨y, hy, hv⟩ := h.get i x hi
     refine ⟨y, ?_, hv⟩
     rw [← hy, List.getElem?_toArray]
     by_cases hlt : i < o
     · rw [List.append_assoc, List.getElem?_append_left (by simp; omega), List.getElem?_take, if_pos (by omega)]
       simp
     · rw [List.getElem?_append_right (by simp; omega), List.getElem?_drop]
       simp
       congr 1
       omega
theorem stN_sound {φ : Phi} {h h' : Heap} {w : World} (P : Program) (S : Sim φ h w) {a : Ad} {a' : Addr} (ha : AddrR φ a a') {xs : List AV} {ys : List Value} (hx : VRs φ xs ys)
 (hf : flatL xs = true) (hs : stN h a xs = some h') :
 ∃ w', (storeCells a' ys).run P w = .ok () w' ∧ Sim φ h' w' ∧ Fr (Owns φ) w w' := by
 unfold stN at hs
 cases e : h[a.b]? with
 | none => simp [e] at hs
 | some b =>
  cases b with
  | gone => simp [e] at hs
  | map es => simp [e] at hs
  | cells c m v =>
   simp only [e] at hs
   split at hs
   · rename_i hc
     obtain ⟨hv, hm, hle⟩ := hc
     simp only [Option.some.injEq] at hs
     subst hs
     obtain ⟨r, cc, ty, fz, h1, h2, h3, rfl, h5, h6, h7, h8⟩ := addr_live S ha e hv
     subst h2; subst h3
     have hfz := h7 hm
     subst hfz
     have hlen := h6.len
     have hxy := hx.1
     have hrun := run_storeCells_at (P := P) r.cb (r.base + a.o) ty ys 0 cc w h5 (by omega) (flat_cells hx hf)
     refine ⟨_, hrun, ?_, ?_⟩
     · have hb : a.b < h.length := (List.getElem?_eq_some_iff.1 e).1
       refine S.put (Le.refl φ) (r' := r) hb h1 (fun _ _ => rfl) (setRow_heap _ _ _ _ _ _ h5) (by simpa using h6.spliced hle hx) (fun es hes => ?_) (fun k hk hcb => ?_) (fun k hk n hn => ?_)
       · rw [← h8 es hes]
         simp
         omega
       · exact hk (S.inj k a.b r.cb hcb (by simp [h1, cbOf]))
       · refine setRow_get _ _ _ _ fun hn' => ?_
         subst hn'
         exact hk (S.inj k a.b r.cb hn (by simp [h1, cbOf]))
     · refine ⟨rfl, rfl, rfl, by rw [setRow_size]; exact Nat.le_refl _, fun k hk hno => setRow_get _ _ _ _ fun hn => hno ?_⟩
       exact ⟨a.b, .inl ⟨r, h1, hm, hn.symm⟩⟩
   · simp at hs
end Go.Proofs.Ytnmdadadjneaiaa.Abs
/- Operations that read, at most: what they yield on related memory. -/
set_option linter.unusedVariables false
set_option linter.unusedSimpArgs false
namespace Go.Proofs.Ytnmdadadjneaiaa.Abs
open Go
def SVR (φ : Phi) (β : Nat → Nat) (w : World) (t : Nat) (vc : Value) : SV → Prop
 | .any => True
 | .g _ bc x => (bc = true → VR φ x vc) ∧ (bc = false → vc = undef)
 | .box cs => vc = .pointer (some ⟨β t, 0, none⟩) ∧ ∃ cc ty, w.heap[β t]? = some (.cells cc ty (0, 0)) ∧ CellsR φ cs 0 cc
 | .lref _ bc d off => (bc = true → vc = .pointer (some ⟨β d, off, none⟩)) ∧ (bc = false → vc = undef)
def conj (ρ : Nat → SV) (gs : List (Nat × Bool)) : Prop :=
 ∀ p ∈ gs, ∃ g bc b, ρ p.1 = .g g bc (.bool b) ∧ lit p.2 b = true
def GEnv (ρ : Nat → SV) : Prop :=
 (∀ t gs bc x, ρ t = .g gs bc x → (bc = true ↔ conj ρ gs)) ∧ (∀ t gs bc d off, ρ t = .lref gs bc d off → (bc = true ↔ conj ρ gs))
structure Ctx (φ : Phi) (β : Nat → Nat) (ρ : Nat → SV) (ah : Heap) (a : Act) (w : World) (gs : List (Nat × Bool)) : Prop where
 S : Sim φ ah w
 H : ∀ t, SVR φ β w t (a.tmps.getD t undef) (ρ t)
 G : GEnv ρ
 cj : conj ρ gs
theorem allIn_conj {ρ : Nat → SV} {gs gs' : List (Nat × Bool)} (h : allIn gs' gs = true) (c : conj ρ gs) : conj ρ gs' := by
 intro p hp
 unfold allIn at h
 rw [List.all_eq_true] at h
 have := h p hp
 rw [List.any_eq_true] at this
 obtain ⟨q, hq, he⟩ := this
 simp only [Bool.and_eq_true] at he
 obtain ⟨h1, h2⟩ := he
 have e1 : p.1 = q.1 := Nat.eq_of_beq_eq_true h1
 have e2 : p.2 = q.2 := by simpa using h2
 rw [e1, e2]
 exact c q hq
theorem conj_nil (ρ : Nat → SV) : conj ρ [] := fun p hp => by cases hp
section
variable {P : Program} {φ : Phi} {β : Nat → Nat} {ρ : Nat → SV} {ah : Heap} {a : Act} {w : World} {gs : List (Nat × Bool)} {R : Type}
theorem gb_true {α : Type} {m : Option α} {d : α} {K : α → Option R} {r : R} (h : gb true m d K = some r) : ∃ x, m = some x ∧ K x = some r := by
 cases m with
 | none => simp [gb] at h
 | some x => exact ⟨x, rfl, h⟩
theorem chk_some {p : Prop} [Decidable p] {K : Option R} {r : R} (h : chk p K = some r) : p ∧ K = some r := by
 unfold chk at h
 split at h
 · rename_i hp; exact ⟨hp, h⟩
 · simp at h
theorem chkC_some {p : Prop} [Decidable p] {K : Option R} {r : R} (h : chkC p K = some r) : p ∧ K = some r := by
 unfold chkC at h
 split at h
 · rename_i hp; exact ⟨hp, h⟩
 · simp at h
theorem rdC_true {c : CS} {m : Option AV} {K : AV → Option R} {r : R} (h : rdC c m true K = some r) : ∃ x, m = some x ∧ K x = some r := by
 cases m with
 | none => cases c <;> simp [rdC, gb] at h
 | some x =>
  refine ⟨x, rfl, ?_⟩
  cases c <;> simp only [rdC] at h
  case int k =>
   obtain ⟨n, hn, h⟩ := gb_true h
   cases x <;> simp [rI] at hn
   obtain ⟨rfl, rfl⟩ := hn; exact h
  case bool => obtain ⟨n, hn, h⟩ := gb_true h; cases x <;> simp [rB] at hn; subst hn; exact h
  case str => obtain ⟨n, hn, h⟩ := gb_true h; cases x <;> simp [rS] at hn; subst hn; exact h
  case ptr => obtain ⟨n, hn, h⟩ := gb_true h; cases x <;> simp [rP] at hn; subst hn; exact h
  case sl => obtain ⟨n, hn, h⟩ := gb_true h; cases x <;> simp [rL] at hn; subst hn; exact h
  case map => obtain ⟨n, hn, h⟩ := gb_true h; cases x <;> simp [rM] at hn; subst hn; exact h
  case fn => obtain ⟨n, hn, h⟩ := gb_true h; simp at hn; subst hn; exact h
  case iface => obtain ⟨n, hn, h⟩ := gb_true h; simp at hn; subst hn; exact h
theorem rdL_true {l : List AV} {cs : List CS} : ∀ {i : Nat} {K : List AV → Option R} {r : R}, rdL l true cs i K = some r →
 K ((l.drop i).take cs.length) = some r ∧ i + cs.length ≤ l.length ∨ (cs = [] ∧ K [] = some r) := by
 induction cs with
 | nil => intro i K r h; exact .inr ⟨rfl, by simpa only [rdL] using h⟩
 | cons c cs ih =>
  intro i K r h
  simp only [rdL] at h
  obtain ⟨x, hx, h⟩ := rdC_true h
  have hi : i < l.length := (List.getElem?_eq_some_iff.1 hx).1
  have hd : l.drop i = x :: l.drop (i + 1) := by
   rw [List.drop_eq_getElem_cons hi]
   congr 1
   exact (List.getElem?_eq_some_iff.1 hx).2
  rcases ih h with ⟨h2, hl⟩ | ⟨e, h2⟩
  · refine .inl ⟨?_, by simp; omega⟩
    rw [hd]
    simpa using h2
  · subst e
    refine .inl ⟨?_, by simp; omega⟩
    rw [hd]
    simpa using h2
theorem rdL_true' {l : List AV} {cs : List CS} {i : Nat} {K : List AV → Option R} {r : R} (h : rdL l true cs i K = some r) :
 K ((l.drop i).take cs.length) = some r := by
 rcases rdL_true h with ⟨h2, _⟩ | ⟨e, h2⟩
 · exact h2
 · subst e; simpa using h2
theorem ofCell_sound {v : Value} {x : AV} (h : ofCell v = some x) : VR φ x v := by
 unfold ofCell at h
 split at h <;> simp at h <;> subst h <;> constructor
theorem ofCells_sound {l : List Value} : ∀ {xs : List AV}, ofCells l = some xs → VRs φ xs l := by
 induction l with
 | nil => intro xs h; simp [ofCells] at h; subst h; exact .nil _
 | cons v l ih =>
  intro xs h
  simp only [ofCells] at h
  split at h
  · rename_i a r h1 h2
    simp at h; subst h
    exact .cons (ofCell_sound h1) (ih h2)
  · simp at h
theorem ofVal_sound {v : Value} {x : AV} (h : ofVal v = some x) : VR φ x v := by
 unfold ofVal at h
 split at h
 · rename_i cs
   split at h
   · rename_i l hl
     simp at h; subst h
     have := VR.agg_list (ofCells_sound (φ := φ) hl)
     simpa using this
   · simp at h
 · exact ofCell_sound h
theorem getV_sound (C : Ctx φ β ρ ah a w gs) {x : Operand} {ax : AX} (hx : cX x = some ax) {v : AV} (h : getV gs ρ ax = some v) : VR φ v (a.eval x) := by
 cases x with
 | tmp t =>
  simp only [cX, Option.some.injEq] at hx
  subst hx
  have H := C.H t
  unfold getV at h
  cases e : ρ t with
  | any => simp [e] at h
  | box cs => simp [e] at h
  | lref g b d o => simp [e] at h
  | g gs' bc y =>
   simp only [e] at h
   split at h
   · rename_i hin
     simp only [Option.some.injEq] at h
     subst h
     rw [e] at H
     have := (C.G.1 t gs' bc y e).2 (allIn_conj hin C.cj)
     exact H.1 this
   · simp at h
 | const c =>
  simp only [cX] at hx
  split at hx
  · rename_i z hz
    simp only [Option.some.injEq] at hx
    subst hx
    simp only [getV, Option.some.injEq] at h
    subst h
    exact ofVal_sound hz
  · simp at hx
 | global g => simp [cX] at hx
 | func f =>
  simp only [cX, Option.some.injEq] at hx
  subst hx
  simp only [getV, Option.some.injEq] at h
  subst h
  exact .fn f rfl (fun i x y h => by simp at h) rfl (fun i x y h => by simp at h)
theorem getVs_sound (C : Ctx φ β ρ ah a w gs) {xs : List Operand} : ∀ {as : List AX}, cXs xs = some as → ∀ {vs : List AV}, getVs gs ρ as = some vs →
 VRs φ vs (xs.map a.eval) := by
 induction xs with
 | nil => intro as h vs hv; simp [cXs] at h; subst h; simp [getVs] at hv; subst hv; exact .nil _
 | cons x xs ih =>
  intro as h vs hv
  simp only [cXs] at h
  split at h
  · rename_i b r h1 h2
    simp at h; subst h
    simp only [getVs] at hv
    split at hv
    · rename_i y hy
      split at hv
      · rename_i ys hys
        simp at hv; subst hv
        exact .cons (getV_sound C h1 hy) (ih h2 hys)
      · simp at hv
    · simp at hv
  · simp at h
def PlaceR (φ : Phi) (β : Nat → Nat) (ρ : Nat → SV) : Place → Value → Prop
 | .heap p, v => ∃ a', v = .pointer (some a') ∧ AddrR φ p a'
 | .loc d off, v => v = .pointer (some ⟨β d, off, none⟩)
theorem place_sound (C : Ctx φ β ρ ah a w gs) {x : Operand} {ax : AX} (hx : cX x = some ax) {K : Place → Option R} {r : R} (h : place gs ρ ax true K = some r) :
 ∃ p, K p = some r ∧ PlaceR φ β ρ p (a.eval x) := by
 unfold place at h
 cases ax with
 | c v => simp at h
 | tmp t =>
  have hxt : x = .tmp t := by
   cases x with
   | tmp s => simp [cX] at hx; rw [hx]
   | const c => simp only [cX] at hx; split at hx <;> simp at hx
   | global g => simp [cX] at hx
   | func f => simp [cX] at hx
  subst hxt
  have H := C.H t
  have hev : a.eval (.tmp t) = a.tmps.getD t undef := rfl
  simp only at h
  cases e : ρ t with
  | any => simp [e, getV] at h
  | box cs =>
   simp only [e] at h
   rw [e] at H
   exact ⟨_, h, by rw [hev]; exact H.1⟩
  | lref g b d o =>
   simp only [e] at h
   split at h
   · rename_i hin
     rw [e] at H
     have := (C.G.2 t g b d o e).2 (allIn_conj hin C.cj)
     exact ⟨_, h, by rw [hev]; exact H.1 this⟩
   · simp at h
  | g gs' bc y =>
   simp only [e] at h
   split at h
   · rename_i z hz
     obtain ⟨p, rfl, h⟩ := gb_true h
     have := getV_sound C hx hz
     refine ⟨_, h, ?_⟩
     generalize a.eval (.tmp t) = vc at this
     cases this with
     | ptr ha => exact ⟨_, rfl, ha⟩
   · simp at h
theorem boxAt_sound (C : Ctx φ β ρ ah a w gs) {d : Nat} {cs : List AV} (h : boxAt ρ d = some cs) :
 ∃ cc ty, w.heap[β d]? = some (.cells cc ty (0, 0)) ∧ CellsR φ cs 0 cc := by
 have H := C.H d
 unfold boxAt at h
 cases e : ρ d <;> simp [e] at h
 subst h
 rw [e] at H
 exact H.2
theorem run_typeInfo' {t : TypeId} {i : TypeInfo} (h : P.info? t = some i) : (typeInfo t).run P w = .ok i w := by
 simp [typeInfo, program, Sem.run, h]
theorem run_under {t : TypeId} {d : TypeDesc} (h : P.underlying t = some d) : (underlying t).run P w = .ok d w := by
 simp [underlying, program, Sem.run, h]
theorem run_size {t : TypeId} {n : Nat} (h : sizeOfT P t = some n) : (Go.sizeOf t).run P w = .ok n w := by
 unfold sizeOfT at h
 split at h
 · rename_i i hi
   simp at h; subst h
   simp [Go.sizeOf, run_typeInfo' hi, Result.andThen]
 · simp at h
theorem run_agg {t : TypeId} {d : TypeDesc} (h : P.underlying t = some d) : (isAgg t).run P w = .ok (isAggD d) w := by
 simp only [isAgg, Sem.run_bind, run_under h, Result.andThen]
 cases d <;> simp [isAggD]
theorem run_zero {t : TypeId} {i : TypeInfo} {z : Value} (h : P.info? t = some i) (hz : i.zero = some z) : (zeroValue t).run P w = .ok z w := by
 simp [zeroValue, run_typeInfo' h, Result.andThen, hz]
theorem run_loadVar {t : TypeId} {s : VS} (hs : vsOf P t = some s) {ad : Addr} {ys : List Value} (hn : ys.length = s.size)
 (hl : (loadCells ad ys.length).run P w = .ok ys.toArray w) (h1 : ∀ v, ys[0]? = some v → w.cell? ad = some v) :
 ∃ v, (loadVar t ad).run P w = .ok v w ∧ (match s with | .cell _ => ys = [v] | _ => v = .agg ys.toArray) := by
 unfold vsOf at hs
 split at hs
 · rename_i i d hi hd
   split at hs
   · rename_i z hz
     split at hs
     · rename_i hagg
       have hsz : sizeOfT P t = some i.size := by simp [sizeOfT, hi]
       have hss : s.size = i.size ∧ (∃ l, s = .agg l) ∨ s = .raw i.size := by
        split at hs
        · split at hs
          · split at hs
            · rename_i hl; simp at hs; subst hs; exact .inl ⟨by simpa [VS.size] using hl, _, rfl⟩
            · simp at hs
          · simp at hs
        · simp at hs; subst hs; exact .inr rfl
       refine ⟨.agg ys.toArray, ?_, ?_⟩
       · simp only [loadVar, Sem.run_bind, run_agg hd, Result.andThen, hagg, if_true, run_size hsz, Sem.run_pure]
         have : i.size = ys.length := by
          rcases hss with ⟨h, _⟩ | h
          · omega
          · rw [h] at hn; simpa [VS.size] using hn.symm
         rw [this, hl]
       · rcases hss with ⟨_, l, rfl⟩ | rfl <;> rfl
     · rename_i hagg
       split at hs
       · split at hs
         · rename_i c hc
           simp at hs; subst hs
           simp only [VS.size] at hn
           obtain ⟨v, rfl⟩ : ∃ v, ys = [v] := by
            cases ys with
            | nil => simp at hn
            | cons v l => cases l with
             | nil => exact ⟨v, rfl⟩
             | cons _ _ => simp at hn
           refine ⟨v, ?_, rfl⟩
           simp only [loadVar, Sem.run_bind, run_agg hd, Result.andThen, hagg]
           simp [h1 v rfl]
         · simp at hs
       · simp at hs
   · simp at hs
 · simp at hs
theorem run_part {t : TypeId} {s : VS} (hs : vsOf P t = some s) {cs : Array Value} {off : Nat} (hn : off + s.size ≤ cs.size) :
 ∃ v, (part t cs off).run P w = .ok v w ∧ (match s with | .cell _ => cs[off]? = some v | _ => v = .agg (cs.extract off (off + s.size))) := by
 unfold vsOf at hs
 split at hs
 · rename_i i d hi hd
   split at hs
   · rename_i z hz
     split at hs
     · rename_i hagg
       have hsz : sizeOfT P t = some i.size := by simp [sizeOfT, hi]
       have hss : s.size = i.size ∧ (∃ l, s = .agg l) ∨ s = .raw i.size := by
        split at hs
        · split at hs
          · split at hs
            · rename_i hl; simp at hs; subst hs; exact .inl ⟨by simpa [VS.size] using hl, _, rfl⟩
            · simp at hs
          · simp at hs
        · simp at hs; subst hs; exact .inr rfl
       have hse : s.size = i.size := by rcases hss with ⟨h, _⟩ | rfl; exact h; rfl
       refine ⟨.agg (cs.extract off (off + s.size)), ?_, ?_⟩
       · simp only [part, Sem.run_bind, run_agg hd, Result.andThen, hagg, if_true, run_size hsz, Sem.run_pure, hse]
       · rcases hss with ⟨_, l, rfl⟩ | rfl <;> rfl
     · rename_i hagg
       split at hs
       · split at hs
         · rename_i c hc
           simp at hs; subst hs
           simp only [VS.size] at hn
           refine ⟨cs[off], ?_, by simp⟩
           simp only [part, Sem.run_bind, run_agg hd, Result.andThen, hagg]
           have : cs[off]? = some cs[off] := by simp
           simp [this]
         · simp at hs
       · simp at hs
   · simp at hs
 · simp at hs
end
end Go.Proofs.Ytnmdadadjneaiaa.Abs
/- Operations that read, at most, one kind after the other. -/
set_option linter.unusedVariables false
set_option linter.unusedSimpArgs false
namespace Go.Proofs.Ytnmdadadjneaiaa.Abs
open Go
def AOk (P : Program) (φ : Phi) (β : Nat → Nat) (a : Act) (w : World) (o : Oper) (gs : List (Nat × Bool)) (sv : SV) : Prop :=
 ∃ vc, (execOp a.eval o).run P w = .ok (.value vc) w ∧
  ((∃ x, sv = .g gs true x ∧ VR φ x vc) ∨ (∃ d off, sv = .lref gs true d off ∧ vc = .pointer (some ⟨β d, off, none⟩)))
section
variable {P : Program} {φ : Phi} {β : Nat → Nat} {ρ : Nat → SV} {ah : Heap} {a : Act} {w : World} {gs : List (Nat × Bool)} {R : Type}
 {loc : Nat} {ret : SV → Option R} {r : R}
theorem AOk.val {o : Oper} {x : AV} {vc : Value} (h : (execOp a.eval o).run P w = .ok (.value vc) w) (hv : VR φ x vc) : AOk P φ β a w o gs (.g gs true x) :=
 ⟨vc, h, .inl ⟨x, rfl, hv⟩⟩
theorem a_move (C : Ctx φ β ρ ah a w gs) {dst type pos after guard} {x : Operand} {k : AK} (hk : cOp P loc ⟨dst, .move x, type, pos, after, guard⟩ = some k)
 (h : opA ρ ah gs true k ret = some r) : ∃ sv, ret sv = some r ∧ AOk P φ β a w ⟨dst, .move x, type, pos, after, guard⟩ gs sv := by
 simp only [cOp] at hk
 split at hk
 · rename_i ax hx
   simp at hk; subst hk
   simp only [opA] at h
   split at h
   · rename_i v hv
     exact ⟨_, h, .val rfl (getV_sound C hx hv)⟩
   · simp at h
 · simp at hk
theorem a_assign (C : Ctx φ β ρ ah a w gs) {dst type pos after guard} {x : Operand} {k : AK} (hk : cOp P loc ⟨dst, .assign x, type, pos, after, guard⟩ = some k)
 (h : opA ρ ah gs true k ret = some r) : ∃ sv, ret sv = some r ∧ AOk P φ β a w ⟨dst, .assign x, type, pos, after, guard⟩ gs sv := by
 simp only [cOp] at hk
 split at hk
 · rename_i ax hx
   simp at hk; subst hk
   simp only [opA] at h
   split at h
   · rename_i v hv
     exact ⟨_, h, .val rfl (getV_sound C hx hv)⟩
   · simp at h
 · simp at hk
theorem conj_cons {t : Nat} {wt : Bool} {g : List (Nat × Bool)} {bc b : Bool} (he : ρ t = .g g bc (.bool b)) (hb : lit wt b = true) (c : conj ρ gs) : conj ρ ((t, wt) :: gs) := by
 intro p hp
 cases hp with
 | head => exact ⟨g, bc, b, he, hb⟩
 | tail _ hp => exact c p hp
theorem getV_tmp {t : Nat} {v : AV} (h : getV gs ρ (.tmp t) = some v) : ∃ g bc, ρ t = .g g bc v ∧ allIn g gs = true := by
 unfold getV at h
 cases e : ρ t <;> simp [e] at h
 rename_i g bc x
 exact ⟨g, bc, by rw [h.2], h.1⟩
theorem cX_tmp {x : Operand} {t : Nat} (h : cX x = some (.tmp t)) : x = .tmp t := by
 cases x with
 | tmp s => simp [cX] at h; rw [h]
 | const c => simp only [cX] at h; split at h <;> simp at h
 | global g => simp [cX] at h
 | func f => simp [cX] at h
theorem vr_bool {b : Bool} {v : Value} (h : VR φ (.bool b) v) : v = .bool b := by cases h; rfl
theorem vr_int {k : IntKind} {n : Int} {v : Value} (h : VR φ (.int k n) v) : v = .int k n := by cases h; rfl
theorem vr_str {s : ByteArray} {v : Value} (h : VR φ (.str s) v) : v = .string s := by cases h; rfl
theorem a_pick (C : Ctx φ β ρ ah a w gs) {dst type pos after guard} {c x y : Operand} {k : AK} (hk : cOp P loc ⟨dst, .pick c x y, type, pos, after, guard⟩ = some k)
 (h : opA ρ ah gs true k ret = some r) : ∃ sv, ret sv = some r ∧ AOk P φ β a w ⟨dst, .pick c x y, type, pos, after, guard⟩ gs sv := by
 simp only [cOp] at hk
 split at hk
 · rename_i c' x' y' hc hx hy
   simp at hk; subst hk
   cases c' with
   | c v => simp [opA] at h
   | tmp t =>
    simp only [opA] at h
    split at h
    · rename_i bv hbv
      have e1 := vr_bool (getV_sound C hc hbv)
      obtain ⟨g, bc, hg, _⟩ := getV_tmp hbv
      have run : ∀ v, v = (if bv = true then a.eval x else a.eval y) → (execOp a.eval ⟨dst, .pick c x y, type, pos, after, guard⟩).run P w = .ok (.value v) w := by
       intro v hv
       simp [execOp, e1, asBool, Result.andThen, hv]
      have vx : bv = true → ∀ v, getV ((t, true) :: gs) ρ x' = some v → VR φ v (a.eval x) := fun hb v hv =>
       getV_sound ⟨C.S, C.H, C.G, conj_cons hg (by simpa [lit] using hb) C.cj⟩ hx hv
      have vy : bv = false → ∀ v, getV ((t, false) :: gs) ρ y' = some v → VR φ v (a.eval y) := fun hb v hv =>
       getV_sound ⟨C.S, C.H, C.G, conj_cons hg (by simp [lit, hb]) C.cj⟩ hy hv
      split at h
      · rename_i p q hp hq
        refine ⟨_, h, .val (run _ rfl) ?_⟩
        cases bv with
        | true => simpa using vx rfl _ hp
        | false => simpa using vy rfl _ hq
      · rename_i p q hno hp hq
        cases bv with
        | true => exact ⟨_, by simpa using h, .val (run _ rfl) (by simpa using vx rfl _ (by assumption))⟩
        | false => exact ⟨_, by simpa using h, .val (run _ rfl) (by simpa using vy rfl _ (by assumption))⟩
      · simp at h
    · simp at h
 · simp at hk
theorem a_un (C : Ctx φ β ρ ah a w gs) {dst type pos after guard} {op : UnOp} {t : TypeId} {x : Operand} {k : AK} (hk : cOp P loc ⟨dst, .unOp op t x, type, pos, after, guard⟩ = some k)
 (h : opA ρ ah gs true k ret = some r) : ∃ sv, ret sv = some r ∧ AOk P φ β a w ⟨dst, .unOp op t x, type, pos, after, guard⟩ gs sv := by
 simp only [cOp] at hk
 split at hk
 · rename_i ax hx
   simp at hk; subst hk
   simp only [opA] at h
   split at h
   · rename_i b hb
     have e := vr_bool (getV_sound C hx hb)
     exact ⟨_, h, .val (by simp [execOp, e, Op.unary, Result.andThen]) (.bool _)⟩
   · rename_i kk n hb
     have e := vr_int (getV_sound C hx hb)
     exact ⟨_, h, .val (by simp [execOp, e, Op.unary, Op.intArith, Result.andThen]) (.int _ _)⟩
   · rename_i kk n hb
     have e := vr_int (getV_sound C hx hb)
     exact ⟨_, h, .val (by simp [execOp, e, Op.unary, intBits_xor, Result.andThen]) (.int _ _)⟩
   · simp at h
 · simp at hk
theorem a_conv (C : Ctx φ β ρ ah a w gs) {dst type pos after guard} {s d : TypeId} {x : Operand} {k : AK} (hk : cOp P loc ⟨dst, .convert s d x, type, pos, after, guard⟩ = some k)
 (h : opA ρ ah gs true k ret = some r) : ∃ sv, ret sv = some r ∧ AOk P φ β a w ⟨dst, .convert s d x, type, pos, after, guard⟩ gs sv := by
 simp only [cOp] at hk
 split at hk
 · rename_i k1 k2 ax h1 h2 hx
   simp at hk; subst hk
   simp only [opA] at h
   split at h
   · rename_i kk n hb
     have e := vr_int (getV_sound C hx hb)
     exact ⟨_, h, .val (by simp [execOp, e, convert, run_under h1, run_under h2, Conv.intToInt, Result.andThen]) (.int _ _)⟩
   · simp at h
 · simp at hk
theorem a_makeFn (C : Ctx φ β ρ ah a w gs) {dst type pos after guard} {f : FuncId} {first cap : Array Operand} {k : AK} (hk : cOp P loc ⟨dst, .makeFunc (.func f) first cap, type, pos, after, guard⟩ = some k)
 (h : opA ρ ah gs true k ret = some r) : ∃ sv, ret sv = some r ∧ AOk P φ β a w ⟨dst, .makeFunc (.func f) first cap, type, pos, after, guard⟩ gs sv := by
 simp only [cOp] at hk
 split at hk
 · rename_i as bs h1 h2
   simp at hk; subst hk
   simp only [opA] at h
   split at h
   · rename_i xs ys hx hy
     have e1 := getVs_sound C h1 hx
     have e2 := getVs_sound C h2 hy
     refine ⟨_, h, .val (vc := .func (.func f) (first.map a.eval) (cap.map a.eval)) (by simp [execOp, Instr.makeFunc, Result.andThen]) ?_⟩
     exact .fn f (by simpa using e1.1) (fun i x y ha hb => e1.2 i x y ha (by simpa using hb)) (by simpa using e2.1) (fun i x y ha hb => e2.2 i x y ha (by simpa using hb))
   · simp at h
 · simp at hk
theorem a_extract (C : Ctx φ β ρ ah a w gs) {dst type pos after guard} {x : Operand} {i : Nat} {k : AK} (hk : cOp P loc ⟨dst, .extract x i, type, pos, after, guard⟩ = some k)
 (h : opA ρ ah gs true k ret = some r) : ∃ sv, ret sv = some r ∧ AOk P φ β a w ⟨dst, .extract x i, type, pos, after, guard⟩ gs sv := by
 simp only [cOp] at hk
 split at hk
 · rename_i ax hx
   simp at hk; subst hk
   simp only [opA] at h
   split at h
   · rename_i vs hv
     split at h
     · rename_i v hi
       have e := getV_sound C hx hv
       generalize hev : a.eval x = vc at e
       cases e with
       | tup h1 h2 =>
        rename_i vs'
        have hlt : i < vs'.size := by have := (List.getElem?_eq_some_iff.1 hi).1; omega
        have hg : vs'[i]? = some vs'[i] := by simp
        exact ⟨_, h, .val (by simp [execOp, hev, Instr.extract, hg, Result.andThen]) (h2 i v _ hi hg)⟩
     · simp at h
   · simp at h
 · simp at hk
theorem a_nilCheck (C : Ctx φ β ρ ah a w gs) {dst type pos after guard} {x : Operand} {k : AK} (hk : cOp P loc ⟨dst, .nilCheck x, type, pos, after, guard⟩ = some k)
 (h : opA ρ ah gs true k ret = some r) : ∃ sv, ret sv = some r ∧ AOk P φ β a w ⟨dst, .nilCheck x, type, pos, after, guard⟩ gs sv := by
 simp only [cOp] at hk
 split at hk
 · rename_i ax hx
   simp at hk; subst hk
   cases ax with
   | c v => simp [opA] at h
   | tmp t =>
    have := cX_tmp hx
    subst this
    have hev : a.eval (.tmp t) = a.tmps.getD t undef := rfl
    have H := C.H t
    simp only [opA] at h
    split at h
    · rename_i cs e
      rw [e] at H
      have hv : a.eval (.tmp t) = .pointer (some ⟨β t, 0, none⟩) := by rw [hev]; exact H.1
      exact ⟨_, h, _, by simp only [execOp, hv]; rfl, .inr ⟨t, 0, rfl, rfl⟩⟩
    · rename_i g bc d off e
      split at h
      · rename_i hin
        rw [e] at H
        have hb := (C.G.2 t g bc d off e).2 (allIn_conj hin C.cj)
        have hv : a.eval (.tmp t) = .pointer (some ⟨β d, off, none⟩) := by rw [hev]; exact H.1 hb
        exact ⟨_, h, _, by simp only [execOp, hv]; rfl, .inr ⟨d, off, rfl, rfl⟩⟩
      · simp at h
    · rename_i g bc y e
      split at h
      · rename_i hin
        rw [e] at H
        have hb := (C.G.1 t g bc y e).2 (allIn_conj hin C.cj)
        have hv := H.1 hb
        rw [← hev] at hv
        split at h
        · rename_i p
          obtain ⟨p', rfl, h⟩ := gb_true h
          generalize hz : a.eval (.tmp t) = z at hv
          cases hv with
          | ptr ha => exact ⟨_, h, .val (by simp only [execOp, hz]; rfl) (.ptr ha)⟩
        · rename_i f b c
          generalize hz : a.eval (.tmp t) = z at hv
          cases hv with
          | fn f h1 h2 h3 h4 => exact ⟨_, h, .val (by simp only [execOp, hz]; rfl) (.fn f h1 h2 h3 h4)⟩
        · simp at h
      · simp at h
    · simp at h
 · simp at hk
theorem addrR_add {p : Ad} {a' : Addr} (ha : AddrR φ p a') (n : Nat) : AddrR φ (p.add n) (a'.add n) := by
 have e : (p.add n).b = p.b := rfl
 unfold AddrR at ha ⊢
 rw [e]
 cases hp : φ p.b with
 | live r =>
  rw [hp] at ha
  exact ⟨ha.1, fun hv => by rw [ha.2 hv, addr_add]; simp [Ad.add, Nat.add_assoc]⟩
 | dead => trivial
 | unborn => rw [hp] at ha; exact ha
 | lmap c => rw [hp] at ha; exact ha
theorem a_fieldAddr (C : Ctx φ β ρ ah a w gs) {dst type pos after guard} {s : TypeId} {x : Operand} {f : Nat} {k : AK} (hk : cOp P loc ⟨dst, .fieldAddr s x f, type, pos, after, guard⟩ = some k)
 (h : opA ρ ah gs true k ret = some r) : ∃ sv, ret sv = some r ∧ AOk P φ β a w ⟨dst, .fieldAddr s x f, type, pos, after, guard⟩ gs sv := by
 simp only [cOp] at hk
 split at hk
 · rename_i fs ax hs hx
   split at hk
   · rename_i fd hfd
     split at hk
     · rename_i n hn
       split at hk
       · rename_i hpos
         simp at hk; subst hk
         simp only [opA] at h
         obtain ⟨p, h, hp⟩ := place_sound C hx h
         have run : ∀ b off, a.eval x = .pointer (some ⟨b, off, none⟩) → (execOp a.eval ⟨dst, .fieldAddr s x f, type, pos, after, guard⟩).run P w = .ok (.value (.pointer (some ⟨b, off + fd.offset, none⟩))) w := by
          intro b off he
          have hne : n ≠ 0 := by omega
          simp [execOp, he, Instr.fieldAt, run_under hs, hfd, Instr.sureAddr, fieldPlace, run_size hn, Result.andThen, hne, addr_add]
         cases p with
         | heap q =>
          obtain ⟨a', he, ha⟩ := hp
          have hr : ∀ a'' : Addr, (Instr.fieldAt s (.pointer (some a'')) f).run P w = .ok (.pointer (some (a''.add fd.offset))) w := by
           intro a''
           have hne : n ≠ 0 := by omega
           simp [Instr.fieldAt, run_under hs, hfd, Instr.sureAddr, fieldPlace, run_size hn, Result.andThen, hne]
          refine ⟨_, h, .val (vc := .pointer (some (a'.add fd.offset))) (by simp [execOp, he, hr, Result.andThen]) (.ptr ?_)⟩
          exact addrR_add ha _
         | loc d off => exact ⟨_, h, _, run _ _ hp, .inr ⟨d, off + fd.offset, rfl, rfl⟩⟩
       · simp at hk
     · simp at hk
   · simp at hk
 · simp at hk
theorem a_load (C : Ctx φ β ρ ah a w gs) {dst type pos after guard} {t : TypeId} {x : Operand} {k : AK} (hk : cOp P loc ⟨dst, .load t x, type, pos, after, guard⟩ = some k)
 (h : opA ρ ah gs true k ret = some r) : ∃ sv, ret sv = some r ∧ AOk P φ β a w ⟨dst, .load t x, type, pos, after, guard⟩ gs sv := by
 simp only [cOp] at hk
 split at hk
 · rename_i s ax hs hx
   simp at hk; subst hk
   simp only [opA] at h
   obtain ⟨p, h, hp⟩ := place_sound C hx h
   have run : ∀ (ad : Addr) (v : Value), a.eval x = .pointer (some ad) → (loadVar t ad).run P w = .ok v w →
    (execOp a.eval ⟨dst, .load t x, type, pos, after, guard⟩).run P w = .ok (.value v) w := by
    intro ad v he hv
    simp [execOp, he, Instr.loadAt, Instr.sureAddr, hv, Result.andThen]
   cases p with
   | heap q =>
    obtain ⟨a', he, ha⟩ := hp
    have many : ∀ n xs, ldN ah q n = some xs → n = s.size → (∀ c, s ≠ .cell c) → ∃ v, (loadVar t a').run P w = .ok v w ∧ VR φ (.agg xs) v := by
     intro n xs hl hns hnc
     obtain ⟨ys, h1, h2, h3, h4⟩ := ldN_sound C.S ha hl
     obtain ⟨v, hv1, hv2⟩ := run_loadVar hs (ad := a') (ys := ys) (by omega) (run_loadCells_list w a' ys h2) (fun v hv => by have := h2 0 v hv; simpa [Addr.add] using this)
     refine ⟨v, hv1, ?_⟩
     cases s with
     | cell c => exact absurd rfl (hnc c)
     | agg l => simp at hv2; subst hv2; exact VR.agg_list h3
     | raw m => simp at hv2; subst hv2; exact VR.agg_list h3
    cases s with
    | cell c =>
     simp only at h
     obtain ⟨v, hv, h⟩ := rdC_true h
     obtain ⟨y, hy, hvr, hf⟩ := ld1_sound C.S ha hv
     obtain ⟨v', hv1, hv2⟩ := run_loadVar hs (ad := a') (ys := [y]) rfl (run_loadCells_list w a' [y] (fun j u hj => by
      cases j with
      | zero => simp at hj; subst hj; simpa [Addr.add] using hy
      | succ j => simp at hj)) (fun u hu => by simp at hu; subst hu; exact hy)
     simp at hv2; subst hv2
     exact ⟨_, h, .val (run _ _ he hv1) hvr⟩
    | agg l =>
     simp only [rdV] at h
     obtain ⟨xs, hxs, h⟩ := gb_true h
     have h := rdL_true' h
     obtain ⟨v, hv, hvr⟩ := many _ _ hxs rfl (fun c => by simp)
     refine ⟨_, h, .val (run _ _ he hv) ?_⟩
     have hlen : xs.length = l.length := by
      obtain ⟨ys, h1, h2, h3, h4⟩ := ldN_sound C.S ha hxs
      rw [h3.1, h1]
     rw [List.drop_zero, List.take_of_length_le (by omega)]
     exact hvr
    | raw n =>
     simp only [rdV] at h
     obtain ⟨xs, hxs, h⟩ := gb_true h
     obtain ⟨v, hv, hvr⟩ := many _ _ hxs rfl (fun c => by simp)
     exact ⟨_, h, .val (run _ _ he hv) hvr⟩
   | loc d off =>
    have he : a.eval x = .pointer (some ⟨β d, off, none⟩) := hp
    simp only at h
    split at h
    · simp at h
    · rename_i cs hcs
      obtain ⟨cc, ty, hw, hc⟩ := boxAt_sound C hcs
      have hlen := hc.len
      have many : ∀ n, n = s.size → off + n ≤ cs.length → (∀ c, s ≠ .cell c) → ∃ v, (loadVar t ⟨β d, off, none⟩).run P w = .ok v w ∧ VR φ (.agg ((cs.drop off).take n)) v := by
       intro n hns hle hnc
       have h2 : ∀ j v, ((cc.toList.drop off).take n)[j]? = some v → w.cell? ((⟨β d, off, none⟩ : Addr).add j) = some v := by
        intro j v hj
        rw [List.getElem?_take] at hj
        split at hj
        · rw [List.getElem?_drop] at hj
          rw [addr_add]
          have : cc[off + j]? = some v := by simpa using hj
          simp [World.cell?, hw, this]
        · simp at hj
       have hl : ((cc.toList.drop off).take n).length = n := by simp; omega
       obtain ⟨v, hv1, hv2⟩ := run_loadVar hs (ad := ⟨β d, off, none⟩) (ys := (cc.toList.drop off).take n) (by omega) (run_loadCells_list w _ _ h2) (fun v hv => by have := h2 0 v hv; simpa [Addr.add] using this)
       have h3 : VRs φ ((cs.drop off).take n) ((cc.toList.drop off).take n) := by
        refine ⟨by rw [hl]; simp; omega, fun i x y hx hy => ?_⟩
        rw [List.getElem?_take] at hx hy
        split at hx
        · rename_i hi
          rw [if_pos hi, List.getElem?_drop] at hy
          rw [List.getElem?_drop] at hx
          obtain ⟨y', hy', hvr⟩ := hc.get _ _ hx
          have : cc.toList[off + i]? = some y' := by simpa using hy'
          rw [this] at hy
          cases hy
          exact hvr
        · simp at hx
       refine ⟨v, hv1, ?_⟩
       cases s with
       | cell c => exact absurd rfl (hnc c)
       | agg l => simp at hv2; subst hv2; exact VR.agg_list h3
       | raw m => simp at hv2; subst hv2; exact VR.agg_list h3
      cases s with
      | cell c =>
       simp only at h
       obtain ⟨v, hv, h⟩ := rdC_true h
       obtain ⟨y, hy, hvr⟩ := hc.get _ _ hv
       have hcell : w.cell? ⟨β d, off, none⟩ = some y := by
        have : cc[off]? = some y := by simpa using hy
        simp [World.cell?, hw, this]
       obtain ⟨v', hv1, hv2⟩ := run_loadVar hs (ad := ⟨β d, off, none⟩) (ys := [y]) rfl (run_loadCells_list w _ [y] (fun j u hj => by
        cases j with
        | zero => simp at hj; subst hj; simpa [Addr.add] using hcell
        | succ j => simp at hj)) (fun u hu => by simp at hu; subst hu; exact hcell)
       simp at hv2; subst hv2
       exact ⟨_, h, .val (run _ _ he hv1) hvr⟩
      | agg l =>
       simp only at h
       obtain ⟨hle, h⟩ := chk_some h
       have h := rdL_true' h
       obtain ⟨v, hv, hvr⟩ := many l.length rfl (hle trivial) (fun c => by simp)
       exact ⟨_, h, .val (run _ _ he hv) hvr⟩
      | raw n =>
       simp only at h
       obtain ⟨hle, h⟩ := chk_some h
       obtain ⟨v, hv, hvr⟩ := many n rfl (hle trivial) (fun c => by simp)
       exact ⟨_, h, .val (run _ _ he hv) hvr⟩
 · simp at hk
theorem extract_vr {cs : List AV} {cc : Array Value} (h1 : cs.length = cc.size) (h2 : ∀ (i : Nat) x y, cs[i]? = some x → cc[i]? = some y → VR φ x y) (off n : Nat) :
 VR φ (.agg ((cs.drop off).take n)) (.agg (cc.extract off (off + n))) := by
 refine .agg (by simp; omega) fun i x y hx hy => ?_
 rw [List.getElem?_take] at hx
 split at hx
 · rename_i hi
   rw [List.getElem?_drop] at hx
   rw [Array.getElem?_extract] at hy
   split at hy
   · exact h2 _ _ _ hx hy
   · simp at hy
 · simp at hx
theorem a_field (C : Ctx φ β ρ ah a w gs) {dst type pos after guard} {s : TypeId} {x : Operand} {f : Nat} {k : AK} (hk : cOp P loc ⟨dst, .field s x f, type, pos, after, guard⟩ = some k)
 (h : opA ρ ah gs true k ret = some r) : ∃ sv, ret sv = some r ∧ AOk P φ β a w ⟨dst, .field s x f, type, pos, after, guard⟩ gs sv := by
 simp only [cOp] at hk
 split at hk
 · rename_i fs ax hs hx
   split at hk
   · rename_i fd hfd
     split at hk
     · rename_i vs hvs
       simp at hk; subst hk
       simp only [opA] at h
       split at h
       · rename_i cs hcs
         have e := getV_sound C hx hcs
         generalize hev : a.eval x = vc at e
         cases e with
         | agg h1 h2 =>
          rename_i cc
          have run : ∀ v, (part fd.type cc fd.offset).run P w = .ok v w → (execOp a.eval ⟨dst, .field s x f, type, pos, after, guard⟩).run P w = .ok (.value v) w := by
           intro v hv
           simp [execOp, hev, Instr.field, run_under hs, hfd, asAgg, hv, Result.andThen]
          cases vs with
          | cell c =>
           simp only at h
           obtain ⟨v, hv, h⟩ := rdC_true h
           have hlt := (List.getElem?_eq_some_iff.1 hv).1
           obtain ⟨v', hv1, hv2⟩ := run_part hvs (cs := cc) (off := fd.offset) (by simp [VS.size]; omega)
           exact ⟨_, h, .val (run _ hv1) (h2 _ _ _ hv hv2)⟩
          | agg l =>
           simp only at h
           obtain ⟨hle, h⟩ := chk_some h
           have h := rdL_true' h
           obtain ⟨v', hv1, hv2⟩ := run_part hvs (cs := cc) (off := fd.offset) (by have := hle trivial; simp [VS.size]; omega)
           simp only at hv2
           refine ⟨_, h, .val (run _ hv1) ?_⟩
           rw [hv2]
           exact extract_vr h1 h2 _ _
          | raw n =>
           simp only at h
           obtain ⟨hle, h⟩ := chk_some h
           obtain ⟨v', hv1, hv2⟩ := run_part hvs (cs := cc) (off := fd.offset) (by have := hle trivial; simp [VS.size]; omega)
           simp only at hv2
           refine ⟨_, h, .val (run _ hv1) ?_⟩
           rw [hv2]
           exact extract_vr h1 h2 _ _
       · simp at h
     · simp at hk
   · simp at hk
 · simp at hk
theorem a_index (C : Ctx φ β ρ ah a w gs) {dst type pos after guard} {t : TypeId} {x i : Operand} {k : AK} (hk : cOp P loc ⟨dst, .index t x i, type, pos, after, guard⟩ = some k)
 (h : opA ρ ah gs true k ret = some r) : ∃ sv, ret sv = some r ∧ AOk P φ β a w ⟨dst, .index t x i, type, pos, after, guard⟩ gs sv := by
 simp only [cOp] at hk
 split at hk
 · rename_i len e ax ai hs hx hi
   split at hk
   · rename_i n s hn hvs
     simp at hk; subst hk
     simp only [opA] at h
     split at h
     · rename_i cs kk j hcs hj
       have e1 := getV_sound C hx hcs
       have e2 := vr_int (getV_sound C hi hj)
       generalize hev : a.eval x = vc at e1
       cases e1 with
       | agg h1 h2 =>
        rename_i cc
        obtain ⟨hr, h⟩ := chk_some h
        have hr := hr trivial
        split at h
        · rename_i c
          obtain ⟨v, hv, h⟩ := rdC_true h
          have hlt := (List.getElem?_eq_some_iff.1 hv).1
          obtain ⟨v', hv1, hv2⟩ := run_part (w := w) hvs (cs := cc) (off := j.toNat * n) (by simp [VS.size]; omega)
          refine ⟨_, h, .val (vc := v') ?_ (h2 _ _ _ hv hv2)⟩
          simp [execOp, hev, e2, Instr.index, asIntOf, run_under hs, run_size hn, hr, hv1, Result.andThen]
        · simp at h
     · simp at h
   · simp at hk
 · rename_i ax ai hs hx hi
   simp at hk; subst hk
   simp only [opA] at h
   split at h
   · rename_i sb kk j hcs hj
     have e1 := vr_str (getV_sound C hx hcs)
     have e2 := vr_int (getV_sound C hi hj)
     obtain ⟨b, hb, h⟩ := gb_true h
     refine ⟨_, h, .val (vc := .int .u8 b.toNat) ?_ (.int _ _)⟩
     simp [execOp, e1, e2, Instr.index, asIntOf, run_under hs, Result.andThen]
     split at hb
     · rename_i h0
       simp [h0, hb]
     · simp at hb
   · simp at h
 · simp at hk
theorem a_indexAddr (C : Ctx φ β ρ ah a w gs) {dst type pos after guard} {t : TypeId} {x i : Operand} {k : AK} (hk : cOp P loc ⟨dst, .indexAddr t x i, type, pos, after, guard⟩ = some k)
 (h : opA ρ ah gs true k ret = some r) : ∃ sv, ret sv = some r ∧ AOk P φ β a w ⟨dst, .indexAddr t x i, type, pos, after, guard⟩ gs sv := by
 simp only [cOp] at hk
 split at hk
 · rename_i e ax ai hs hx hi
   split at hk
   · rename_i n hn
     simp at hk; subst hk
     simp only [opA] at h
     split at h
     · rename_i sa len kk j hcs hj
       have e1 := getV_sound C hx hcs
       have e2 := vr_int (getV_sound C hi hj)
       obtain ⟨hr, h⟩ := chk_some h
       have hr := hr trivial
       obtain ⟨p, hp, h⟩ := gb_true h
       cases sa with
       | nil => simp [adP] at hp
       | lost => simp [adP] at hp
       | z => simp [adP] at hp
       | pos q =>
        simp [adP] at hp; subst hp
        generalize hev : a.eval x = vc at e1
        cases e1 with
        | sl ha hc hn' =>
         rename_i a' c
         refine ⟨_, h, .val (vc := .pointer (some (a'.add (j.toNat * n)))) ?_ (.ptr (addrR_add ha _))⟩
         simp [execOp, hev, e2, Instr.indexAt, asIntOf, run_under hs, run_size hn, hr, Result.andThen]
     · simp at h
   · simp at hk
 · rename_i len e ax ai hs hx hi
   split at hk
   · rename_i n hn
     simp at hk; subst hk
     simp only [opA] at h
     split at h
     · rename_i kk j hj
       have e2 := vr_int (getV_sound C hi hj)
       obtain ⟨p, h, hp⟩ := place_sound C hx h
       have run : ∀ a' : Addr, a.eval x = .pointer (some a') → 0 ≤ j ∧ j < len → (execOp a.eval ⟨dst, .indexAddr t x i, type, pos, after, guard⟩).run P w = .ok (.value (.pointer (some (a'.add (j.toNat * n))))) w := by
        intro a' he hr
        simp [execOp, he, e2, Instr.indexAt, Instr.sureAddr, asIntOf, run_under hs, run_size hn, hr, Result.andThen]
       cases p with
       | heap q =>
        obtain ⟨a', he, ha⟩ := hp
        obtain ⟨hr, h⟩ := chk_some h
        exact ⟨_, h, .val (run a' he (hr trivial)) (.ptr (addrR_add ha _))⟩
       | loc d off =>
        obtain ⟨hr, h⟩ := chk_some h
        have := run _ hp (hr trivial)
        rw [addr_add] at this
        exact ⟨_, h, _, this, .inr ⟨d, off + j.toNat * n, rfl, rfl⟩⟩
     · simp at h
   · simp at hk
 · simp at hk
end
end Go.Proofs.Ytnmdadadjneaiaa.Abs
/- Operations that read, at most: arithmetic, comparisons, slices, maps, lengths. -/
set_option linter.unusedVariables false
set_option linter.unusedSimpArgs false
namespace Go.Proofs.Ytnmdadadjneaiaa.Abs
open Go
section
variable {P : Program} {φ : Phi} {β : Nat → Nat} {ρ : Nat → SV} {ah : Heap} {a : Act} {w : World} {gs : List (Nat × Bool)} {R : Type}
 {loc : Nat} {ret : SV → Option R} {r : R}
theorem eqGuard_ok {op : BinOp} {t : TypeId} {x y : Operand} {u v : Value} (h : u ≠ .nilIface) (h2 : ∀ c, u ≠ .agg c) : (eqGuard op t x y u v).run P w = .ok () w := by
 cases u <;> first | exact absurd rfl h | exact absurd rfl (h2 _) | (cases op <;> rfl)
theorem run_bin {dst type pos after guard} {op : BinOp} {t yt : TypeId} {x y : Operand} {v : Value}
 (hg : (eqGuard op t x y (a.eval x) (a.eval y)).run P w = .ok () w) (hr : (binOp op t (a.eval x) (a.eval y)).run P w = .ok v w) :
 (execOp a.eval ⟨dst, .binOp op t x y yt, type, pos, after, guard⟩).run P w = .ok (.value v) w := by
 simp [execOp, hg, hr, Result.andThen]
theorem run_intDiv_quo (k : IntKind) (x y : Int) (h : y ≠ 0) : (Op.intDiv .quo k x y).run P w = .ok (.int k (k.wrap (x.tdiv y))) w := by
 simp [Op.intDiv, h]
theorem run_intDiv_rem (k : IntKind) (x y : Int) (h : y ≠ 0) : (Op.intDiv .rem k x y).run P w = .ok (.int k (x.tmod y)) w := by
 simp [Op.intDiv, h]
theorem binInt_sound {op : BinOp} {k : IntKind} {x y : Int} {K : AV → Option R} (hs : isShift op = false) (h : binInt true op k x y K = some r) (t : TypeId) :
 ∃ v vc, K v = some r ∧ (binOp op t (.int k x) (.int k y)).run P w = .ok vc w ∧ VR φ v vc := by
 cases op <;> simp only [binInt] at h
 case add => exact ⟨_, _, h, by simp [binOp_add, Op.intArith], .int _ _⟩
 case sub => exact ⟨_, _, h, by simp [binOp_sub, Op.intArith], .int _ _⟩
 case mul => exact ⟨_, _, h, by simp [binOp_mul, Op.intArith], .int _ _⟩
 case quo =>
  obtain ⟨hn, h⟩ := chk_some h
  exact ⟨_, _, h, by rw [binOp_quo]; exact run_intDiv_quo k x y (hn trivial), .int _ _⟩
 case rem =>
  obtain ⟨hn, h⟩ := chk_some h
  exact ⟨_, _, h, by rw [binOp_rem]; exact run_intDiv_rem k x y (hn trivial), .int _ _⟩
 case and => exact ⟨_, _, h, by simp [binOp, intBits_and], .int _ _⟩
 case or => exact ⟨_, _, h, by simp [binOp, intBits_or], .int _ _⟩
 case xor => exact ⟨_, _, h, by simp [binOp, intBits_xor], .int _ _⟩
 case andNot => exact ⟨_, _, h, by simp [binOp, intBits_andNot], .int _ _⟩
 case eql => exact ⟨_, .bool (x == y), h, by simp [binOp, Op.intCmp], .bool _⟩
 case neq => exact ⟨_, .bool (x != y), h, by simp [binOp, Op.intCmp], .bool _⟩
 case lss => exact ⟨_, _, h, by simp [binOp, Op.intCmp], .bool _⟩
 case leq => exact ⟨_, _, h, by simp [binOp, Op.intCmp], .bool _⟩
 case gtr => exact ⟨_, _, h, by simp [binOp, Op.intCmp], .bool _⟩
 case geq => exact ⟨_, _, h, by simp [binOp, Op.intCmp], .bool _⟩
 all_goals simp at h
theorem shInt_sound {op : BinOp} {k k' : IntKind} {x y : Int} {K : AV → Option R} (hs : isShift op = true) (h : shInt true op k x y K = some r) (t : TypeId) :
 ∃ v vc, K v = some r ∧ (binOp op t (.int k x) (.int k' y)).run P w = .ok vc w ∧ VR φ v vc := by
 cases op <;> simp only [shInt] at h
 case shl =>
  obtain ⟨hn, h⟩ := chk_some h
  have hn := hn trivial
  exact ⟨_, _, h, by simp [binOp, Op.shift, show ¬ y < 0 by omega], .int _ _⟩
 case shr =>
  obtain ⟨hn, h⟩ := chk_some h
  have hn := hn trivial
  exact ⟨_, _, h, by simp [binOp, Op.shift, show ¬ y < 0 by omega], .int _ _⟩
 all_goals simp at h
theorem tk_bool {t : TypeId} (h : tkOf P t = some .bool) : P.underlying t = some .bool := by
 unfold tkOf at h
 split at h <;> first | assumption | (simp at h; done) | skip
 all_goals
  split at h
  · split at h <;> simp at h
  · simp at h
theorem tk_ptr {t : TypeId} (h : tkOf P t = some .ptr) : ∃ e, P.underlying t = some (.pointer e) := by
 unfold tkOf at h
 split at h <;> first | exact ⟨_, by assumption⟩ | (simp at h; done) | skip
 all_goals
  split at h
  · split at h <;> simp at h
  · simp at h
theorem tk_sl {t : TypeId} (h : tkOf P t = some .sl) : ∃ e, P.underlying t = some (.slice e) := by
 unfold tkOf at h
 split at h <;> first | exact ⟨_, by assumption⟩ | (simp at h; done) | skip
 all_goals
  split at h
  · split at h <;> simp at h
  · simp at h
theorem run_eq_of {op : BinOp} {t : TypeId} {u v : Value} {b : Bool} (hu : ∀ k n, u ≠ .int k n) (hu2 : ∀ s, u ≠ .string s) (hf : ∀ k n, u ≠ .float k n) (hc : ∀ k n m, u ≠ .complex k n m)
 (h : (Op.equal t u v).run P w = .ok b w) :
 (op = .eql → (binOp op t u v).run P w = .ok (.bool b) w) ∧ (op = .neq → (binOp op t u v).run P w = .ok (.bool (!b)) w) := by
 constructor
 · rintro rfl
   cases u <;> first
    | exact absurd rfl (hu _ _) | exact absurd rfl (hu2 _) | exact absurd rfl (hf _ _) | exact absurd rfl (hc _ _ _)
    | (cases v <;> simp [binOp, h, Result.andThen])
 · rintro rfl
   cases u <;> first
    | exact absurd rfl (hu _ _) | exact absurd rfl (hu2 _) | exact absurd rfl (hf _ _) | exact absurd rfl (hc _ _ _)
    | (cases v <;> simp [binOp, h, Result.andThen])
theorem sameAddr_none {e : TypeId} {t : TypeId} (h : P.underlying t = some (.pointer e)) (p : Option Addr) : (Op.equal t (.pointer none) (.pointer p)).run P w = .ok p.isNone w := by
 show (Op.equalIn (9999 + 1) t (.pointer none) (.pointer p)).run P w = _
 rw [Op.equalIn]
 simp [run_under h, Result.andThen]
theorem sameAddr_none' {e : TypeId} {t : TypeId} (h : P.underlying t = some (.pointer e)) (p : Addr) : (Op.equal t (.pointer (some p)) (.pointer none)).run P w = .ok false w := by
 show (Op.equalIn (9999 + 1) t (.pointer (some p)) (.pointer none)).run P w = _
 rw [Op.equalIn]
 simp [run_under h, Result.andThen]
theorem equal_bools {t : TypeId} (h : P.underlying t = some .bool) (a b : Bool) : (Op.equal t (.bool a) (.bool b)).run P w = .ok (a == b) w := by
 show (Op.equalIn (9999 + 1) t (.bool a) (.bool b)).run P w = _
 rw [Op.equalIn]
 simp [run_under h, Result.andThen]
theorem equal_slnil {e : TypeId} {t : TypeId} (h : P.underlying t = some (.slice e)) {s : SA} {n : Nat} {v : Value} (hv : VR φ (.sl s n) v) : (Op.equal t v (.slice none 0 0)).run P w = .ok s.isNil w := by
 show (Op.equalIn (9999 + 1) t v (.slice none 0 0)).run P w = _
 rw [Op.equalIn]
 cases hv <;> simp [run_under h, Result.andThen, SA.isNil]
theorem a_bin (C : Ctx φ β ρ ah a w gs) {dst type pos after guard} {op : BinOp} {t yt : TypeId} {x y : Operand} {k : AK} (hk : cOp P loc ⟨dst, .binOp op t x y yt, type, pos, after, guard⟩ = some k)
 (hagg : ∀ sh xs ys b, tkOf P t = some (.agg sh) → eqCells sh xs ys = some b → ∀ u v, VR φ (.agg xs) u → VR φ (.agg ys) v →
   (op = .eql ∨ op = .neq → (eqGuard op t x y u v).run P w = .ok () w) ∧ (Op.equal t u v).run P w = .ok b w)
 (h : opA ρ ah gs true k ret = some r) : ∃ sv, ret sv = some r ∧ AOk P φ β a w ⟨dst, .binOp op t x y yt, type, pos, after, guard⟩ gs sv := by
 simp only [cOp] at hk
 split at hk
 · rename_i ax ay tk hx hy htk
   simp at hk; subst hk
   simp only [opA] at h
   split at h
   · rename_i u v hu hv
     have e1 := getV_sound C hx hu
     have e2 := getV_sound C hy hv
     unfold binOpA at h
     split at h
     · rename_i k1 n1 k2 n2
       have e1 := vr_int e1
       have e2 := vr_int e2
       split at h
       · rename_i hs
         obtain ⟨z, vc, hK, hr, hvr⟩ := shInt_sound (P := P) (φ := φ) (w := w) (k' := k2) hs h t
         exact ⟨_, hK, .val (run_bin (by rw [e1]; exact eqGuard_ok (by simp) (by simp)) (by rw [e1, e2]; exact hr)) hvr⟩
       · rename_i hs
         split at h
         · rename_i he
           subst he
           obtain ⟨z, vc, hK, hr, hvr⟩ := binInt_sound (P := P) (φ := φ) (w := w) hs h t
           exact ⟨_, hK, .val (run_bin (by rw [e1]; exact eqGuard_ok (by simp) (by simp)) (by rw [e1, e2]; exact hr)) hvr⟩
         · simp at h
     · rename_i s1 s2
       have e1 := vr_str e1
       have e2 := vr_str e2
       split at h
       · exact ⟨_, h, .val (run_bin (by rw [e1]; exact eqGuard_ok (by simp) (by simp)) (by rw [e1, e2]; simp [binOp, Op.stringOp])) (.bool _)⟩
       · exact ⟨_, h, .val (run_bin (by rw [e1]; exact eqGuard_ok (by simp) (by simp)) (by rw [e1, e2]; simp [binOp, Op.stringOp])) (.bool _)⟩
       · simp at h
     · rename_i b1 b2
       have e1 := vr_bool e1
       have e2 := vr_bool e2
       split at h
       · have hq : (Op.equal t (.bool b1) (.bool b2)).run P w = .ok (b1 == b2) w := equal_bools (tk_bool htk) b1 b2
         have hb := run_eq_of (op := op) (by simp) (by simp) (by simp) (by simp) hq
         split at h
         · exact ⟨_, h, .val (run_bin (by rw [e1]; exact eqGuard_ok (by simp) (by simp)) (by rw [e1, e2]; exact hb.1 rfl)) (.bool _)⟩
         · exact ⟨_, h, .val (run_bin (by rw [e1]; exact eqGuard_ok (by simp) (by simp)) (by rw [e1, e2]; exact hb.2 rfl)) (.bool _)⟩
         · simp at h
       · simp at h
     · rename_i p1 p2
       split at h
       · obtain ⟨e, he⟩ := tk_ptr htk
         generalize hev1 : a.eval x = u1 at e1
         generalize hev2 : a.eval y = u2 at e2
         split at h
         · cases e2
           have hq : (Op.equal t u1 (.pointer none)).run P w = .ok p1.isNone w := by
            cases e1 with
            | ptrN => exact sameAddr_none he none
            | ptr ha => exact sameAddr_none' he _
           have hi : u1 ≠ .nilIface ∧ (∀ c, u1 ≠ .agg c) ∧ (∀ k n, u1 ≠ .int k n) ∧ (∀ s, u1 ≠ .string s) ∧ (∀ k n, u1 ≠ .float k n) ∧ (∀ k n m, u1 ≠ .complex k n m) := by
            cases e1 <;> simp
           have hb := run_eq_of (op := op) hi.2.2.1 hi.2.2.2.1 hi.2.2.2.2.1 hi.2.2.2.2.2 hq
           split at h
           · exact ⟨_, h, .val (run_bin (by rw [hev1]; exact eqGuard_ok hi.1 hi.2.1) (by rw [hev1, hev2]; exact hb.1 rfl)) (.bool _)⟩
           · exact ⟨_, h, .val (run_bin (by rw [hev1]; exact eqGuard_ok hi.1 hi.2.1) (by rw [hev1, hev2]; exact hb.2 rfl)) (.bool _)⟩
           · simp at h
         · split at h
           · cases e1
             cases e2 with
             | ptr ha =>
              rename_i q q'
              have hb := run_eq_of (op := op) (by simp) (by simp) (by simp) (by simp) (sameAddr_none (P := P) (w := w) he (some q'))
              split at h
              · exact ⟨_, h, .val (run_bin (by rw [hev1]; exact eqGuard_ok (by simp) (by simp)) (by rw [hev1, hev2]; exact hb.1 rfl)) (.bool _)⟩
              · exact ⟨_, h, .val (run_bin (by rw [hev1]; exact eqGuard_ok (by simp) (by simp)) (by rw [hev1, hev2]; exact hb.2 rfl)) (.bool _)⟩
              · simp at h
           · simp at h
       · simp at h
     · rename_i s1 n1
       split at h
       · obtain ⟨e, he⟩ := tk_sl htk
         generalize hev1 : a.eval x = u1 at e1
         generalize hev2 : a.eval y = u2 at e2
         cases e2
         have hq : (Op.equal t u1 (.slice none 0 0)).run P w = .ok s1.isNil w := equal_slnil he e1
         have hi : u1 ≠ .nilIface ∧ (∀ c, u1 ≠ .agg c) ∧ (∀ k n, u1 ≠ .int k n) ∧ (∀ s, u1 ≠ .string s) ∧ (∀ k n, u1 ≠ .float k n) ∧ (∀ k n m, u1 ≠ .complex k n m) := by
          cases e1 <;> simp
         have hb := run_eq_of (op := op) hi.2.2.1 hi.2.2.2.1 hi.2.2.2.2.1 hi.2.2.2.2.2 hq
         split at h
         · exact ⟨_, h, .val (run_bin (by rw [hev1]; exact eqGuard_ok hi.1 hi.2.1) (by rw [hev1, hev2]; exact hb.1 rfl)) (.bool _)⟩
         · exact ⟨_, h, .val (run_bin (by rw [hev1]; exact eqGuard_ok hi.1 hi.2.1) (by rw [hev1, hev2]; exact hb.2 rfl)) (.bool _)⟩
         · simp at h
       · simp at h
     · rename_i xs ys
       split at h
       · generalize hev1 : a.eval x = u1 at e1
         generalize hev2 : a.eval y = u2 at e2
         have hi : ∃ c, u1 = .agg c := by cases e1; exact ⟨_, rfl⟩
         obtain ⟨c, rfl⟩ := hi
         split at h
         · obtain ⟨b, hb, h⟩ := gb_true h
           obtain ⟨hg, hq⟩ := hagg _ xs ys b htk hb _ _ e1 e2
           have hb := run_eq_of (op := .eql) (by simp) (by simp) (by simp) (by simp) hq
           exact ⟨_, h, .val (run_bin (by rw [hev1, hev2]; exact hg (.inl rfl)) (by rw [hev1, hev2]; exact hb.1 rfl)) (.bool _)⟩
         · obtain ⟨b, hb, h⟩ := gb_true h
           obtain ⟨hg, hq⟩ := hagg _ xs ys b htk hb _ _ e1 e2
           have hb := run_eq_of (op := .neq) (by simp) (by simp) (by simp) (by simp) hq
           exact ⟨_, h, .val (run_bin (by rw [hev1, hev2]; exact hg (.inr rfl)) (by rw [hev1, hev2]; exact hb.2 rfl)) (.bool _)⟩
         · simp at h
       · simp at h
     · simp at h
   · simp at h
 · simp at hk
theorem run_bound {k : IntKind} {i : Int} {y : Nat} {code : BoundsCode} (h0 : 0 ≤ i) (h1 : i ≤ y) : (Instr.sliceBound (.int k i) y code).run P w = .ok i.toNat w := by
 simp [Instr.sliceBound, asIntOf, Result.andThen, h0, h1]
theorem hiOk_le {sa : SA} {n es : Nat} {hi : Int} (S : Sim φ ah w) (hes : 0 < es) (h : hiOk ah sa n es hi) {o : Option Addr} {c : Nat} (hv : VR φ (.sl sa n) (.slice o n c)) : hi ≤ c := by
 rcases h with h | ⟨p, cc, v, rfl, hb, hpv, hle⟩
 · cases hv with
   | sl ha hc hn => omega
   | _ => omega
 · cases hv with
   | sl ha hc hn =>
    obtain ⟨r, cd, ty, fz, h1, h2, h3, h4, h5, h6, h7, h8⟩ := addr_live S ha hb hpv
    unfold CapR at hc
    rw [h1] at hc
    have hsz := hc (by rw [h3]; exact hpv) es h2
    have hl := h6.len
    have h8 := h8 es h2
    have : hi.toNat * es ≤ c * es := by omega
    have := Nat.le_of_mul_le_mul_right this hes
    omega
theorem vr_sl_shape {sa : SA} {n : Nat} {v : Value} (h : VR φ (.sl sa n) v) : ∃ o c, v = .slice o n c ∧ n ≤ c := by
 cases h with
 | slN => exact ⟨none, 0, rfl, by omega⟩
 | sl ha hc hn => exact ⟨_, _, rfl, hn⟩
 | slL => exact ⟨_, _, rfl, by omega⟩
 | slZ => exact ⟨_, 0, rfl, by omega⟩
theorem capR_add {p : Ad} {a' : Addr} {c es k : Nat} (ha : AddrR φ p a') (h : CapR φ p c) (hk : k ≤ c)
 (hes : ∀ r e, φ p.b = .live r → r.mode = .grow e → e = es) : CapR φ (p.add (k * es)) (c - k) := by
 have e : (p.add (k * es)).b = p.b := rfl
 unfold CapR at h ⊢
 rw [e]
 cases hp : φ p.b with
 | live r =>
  rw [hp] at h
  intro hv e' he'
  have := hes r e' hp he'
  subst this
  have := h hv e' he'
  have h1 : k * e' ≤ c * e' := Nat.mul_le_mul_right _ hk
  show r.base + (p.o + k * e') + (c - k) * e' = r.size
  rw [Nat.sub_mul]
  omega
 | dead => trivial
 | unborn => trivial
 | lmap c => trivial
theorem cut_vr {sa : SA} {n es : Nat} {o : Option Addr} {c l h : Nat} (hv : VR φ (.sl sa n) (.slice o n c)) (hlh : l ≤ h) (hhc : h ≤ c) (hin : h ≤ n ∨ ∃ p, sa = .pos p)
 (hes : ∀ p r e, sa = .pos p → φ p.b = .live r → r.mode = .grow e → e = es) :
 VR φ (.sl (adS sa (l * es) (h - l)) (h - l)) (.slice (if c = l then o else o.map (·.add (l * es))) (h - l) (c - l)) := by
 cases hv with
 | slN =>
  have : h = 0 := by omega
  have : l = 0 := by omega
  subst_vars
  simp [adS]
  exact .slN
 | slL =>
  rename_i a'
  have : h = 0 := by rcases hin with h | ⟨p, h⟩; omega; cases h
  have : l = 0 := by omega
  subst_vars
  simp [adS]
  split <;> exact .slL
 | slZ =>
  have : h = 0 := by omega
  have : l = 0 := by omega
  subst_vars
  simp [adS]
  exact .slZ
 | sl ha hc hn =>
  rename_i a a'
  by_cases e : h - l = 0
  · rw [e]
    simp only [adS]
    split <;> exact .slL
  · have hcl : c ≠ l := by omega
    rw [if_neg hcl]
    have : adS (.pos a) (l * es) (h - l) = .pos (a.add (l * es)) := by
     unfold adS
     cases hm : h - l with
     | zero => exact absurd hm e
     | succ m => rfl
    rw [this]
    exact .sl (addrR_add ha _) (capR_add ha hc (by omega) (fun r e h1 h2 => hes a r e rfl h1 h2)) (by omega)
theorem esOk_mode {sa : SA} {es : Nat} (S : Sim φ ah w) (h : esOk ah sa es) : ∀ p r e, sa = .pos p → φ p.b = .live r → r.mode = .grow e → e = es := by
 intro p r e hp hr hm
 obtain ⟨c, cc, ty, fz, h1, _⟩ := S.live _ _ hr
 rw [hm] at h1
 obtain ⟨b, hb, he⟩ := h p hp
 rw [h1] at hb
 cases hb
 exact he c e r.ver rfl
theorem hiOk_pos {sa : SA} {n es : Nat} {hi : Int} (h : hiOk ah sa n es hi) : hi ≤ n ∨ ∃ p, sa = .pos p := by
 rcases h with h | ⟨p, _, _, h, _⟩
 · exact .inl h
 · exact .inr ⟨p, h⟩
theorem sliceAt_sl {t e : TypeId} (h : P.underlying t = some (.slice e)) (x : Value) (lo hi mx : Option Value) : (Instr.sliceAt t x lo hi mx).run P w = (Instr.slice t x lo hi mx).run P w := by
 simp [Instr.sliceAt, run_under h, Result.andThen]
theorem a_slice (C : Ctx φ β ρ ah a w gs) {dst type pos after guard} {t : TypeId} {x : Operand} {lo hi mx : Option Operand} {k : AK}
 (hk : cOp P loc ⟨dst, .slice t x lo hi mx, type, pos, after, guard⟩ = some k)
 (h : opA ρ ah gs true k ret = some r) : ∃ sv, ret sv = some r ∧ AOk P φ β a w ⟨dst, .slice t x lo hi mx, type, pos, after, guard⟩ gs sv := by
 simp only [cOp] at hk
 split at hk
 · rename_i e he
   split at hk
   · rename_i es ax hes hx
     split at hk
     · simp at hk
     · rename_i hpos
       have hpos : 0 < es := by omega
       have run : ∀ (lo' hi' mx' : Option Value) (v : Value), lo.map a.eval = lo' → hi.map a.eval = hi' → mx.map a.eval = mx' →
        (Instr.slice t (a.eval x) lo' hi' mx').run P w = .ok v w → (execOp a.eval ⟨dst, .slice t x lo hi mx, type, pos, after, guard⟩).run P w = .ok (.value v) w := by
        intro lo' hi' mx' v h1 h2 h3 hv
        simp [execOp, h1, h2, h3, sliceAt_sl he, hv, Result.andThen]
       have cut : ∀ (o : Option Addr) (n c : Nat) (lo' hi' mx' : Option Value) (l h m : Nat), a.eval x = .slice o n c → (Instr.sliceBounds true n c lo' hi' mx').run P w = .ok (l, h, m) w →
        (Instr.slice t (a.eval x) lo' hi' mx').run P w = .ok (.slice (if m = l then o else o.map (·.add (l * es))) (h - l) (m - l)) w := by
        intro o n c lo' hi' mx' l h m hv hb
        simp [Instr.slice, hv, run_under he, hb, run_size hes, Result.andThen]
       split at hk
       · -- two indices at most
         split at hk
         · rename_i l' h' hlo hhi
           simp at hk; subst hk
           simp only [opA] at h
           split at h
           · rename_i sa n hsa
             have e1 := getV_sound C hx hsa
             obtain ⟨o, c, hv, hnc⟩ := vr_sl_shape e1
             rw [hv] at e1
             split at h
             · -- x[:]
               cases lo with
               | some z => simp only [cXo] at hlo; split at hlo <;> simp at hlo
               | none =>
               cases hi with
               | some z => simp only [cXo] at hhi; split at hhi <;> simp at hhi
               | none =>
                have hb : (Instr.sliceBounds true n c none none none).run P w = .ok (0, n, c) w := by simp [Instr.sliceBounds, Result.andThen]
                refine ⟨_, h, .val (run none none none _ rfl rfl rfl (cut o n c _ _ _ 0 n c hv hb)) ?_⟩
                have : (if c = 0 then o else o.map (·.add (0 * es))) = o := by
                 split
                 · rfl
                 · cases o <;> simp [Addr.add]
                rw [this]
                simpa using e1
             · -- x[:h]
               rename_i hi'
               cases lo with
               | some z => simp only [cXo] at hlo; split at hlo <;> simp at hlo
               | none =>
               cases hi with
               | none => simp [cXo] at hhi
               | some z =>
                have hz : cX z = some hi' := by simp only [cXo] at hhi; split at hhi <;> simp at hhi; subst hhi; assumption
                split at h
                · rename_i hh hgh
                  have e2 := vr_int (getV_sound C hz hgh)
                  obtain ⟨hr, h⟩ := chkC_some h
                  obtain ⟨h0, hok⟩ := hr trivial
                  have hcap := hiOk_le C.S hpos hok e1
                  have hb : (Instr.sliceBounds true n c none (some (.int .i64 hh)) none).run P w = .ok (0, hh.toNat, c) w := by
                   simp [Instr.sliceBounds, run_bound h0 hcap, Result.andThen]
                  refine ⟨_, h, .val (run none (some (.int .i64 hh)) none _ rfl (by simp [e2]) rfl (cut o n c _ _ _ 0 hh.toNat c hv hb)) ?_⟩
                  have : (if c = 0 then o else o.map (·.add (0 * es))) = o := by
                   split
                   · rfl
                   · cases o <;> simp [Addr.add]
                  rw [this]
                  simp only [Nat.sub_zero]
                  cases e1 with
                  | slN => have : hh.toNat = 0 := by omega
                           rw [this]; exact .slN
                  | slL =>
                   have : hh.toNat = 0 := by
                    rcases hiOk_pos hok with h | ⟨p, h⟩
                    · omega
                    · cases h
                   rw [this]; exact .slL
                  | slZ => have : hh.toNat = 0 := by omega
                           rw [this]; exact .slZ
                  | sl ha hc hn => exact .sl ha hc (by omega)
                · simp at h
             · -- x[l:]
               rename_i lo'
               cases hi with
               | some z => simp only [cXo] at hhi; split at hhi <;> simp at hhi
               | none =>
               cases lo with
               | none => simp [cXo] at hlo
               | some z =>
                have hz : cX z = some lo' := by simp only [cXo] at hlo; split at hlo <;> simp at hlo; subst hlo; assumption
                split at h
                · rename_i l hgl
                  have e2 := vr_int (getV_sound C hz hgl)
                  obtain ⟨hr, h⟩ := chkC_some h
                  obtain ⟨h0, h1, hes'⟩ := hr trivial
                  have hb : (Instr.sliceBounds true n c (some (.int .i64 l)) none none).run P w = .ok (l.toNat, n, c) w := by
                   simp [Instr.sliceBounds, run_bound h0 h1, Result.andThen]
                  refine ⟨_, h, .val (run (some (.int .i64 l)) none none _ (by simp [e2]) rfl rfl (cut o n c _ _ _ l.toNat n c hv hb)) ?_⟩
                  exact cut_vr e1 (by omega) hnc (.inl (Nat.le_refl _)) (esOk_mode C.S hes')
                · simp at h
             · -- x[l:h]
               rename_i lo' hi'
               cases lo with
               | none => simp [cXo] at hlo
               | some z =>
               cases hi with
               | none => simp [cXo] at hhi
               | some y =>
                have hz : cX z = some lo' := by simp only [cXo] at hlo; split at hlo <;> simp at hlo; subst hlo; assumption
                have hy : cX y = some hi' := by simp only [cXo] at hhi; split at hhi <;> simp at hhi; subst hhi; assumption
                split at h
                · rename_i l hh hgl hgh
                  have e2 := vr_int (getV_sound C hz hgl)
                  have e3 := vr_int (getV_sound C hy hgh)
                  obtain ⟨hr, h⟩ := chkC_some h
                  obtain ⟨h0, h1, hok, hes'⟩ := hr trivial
                  have hcap := hiOk_le C.S hpos hok e1
                  have hb : (Instr.sliceBounds true n c (some (.int .i64 l)) (some (.int .i64 hh)) none).run P w = .ok (l.toNat, hh.toNat, c) w := by
                   simp [Instr.sliceBounds, run_bound (show 0 ≤ hh by omega) hcap, run_bound h0 (show l ≤ (hh.toNat : Int) by omega), Result.andThen]
                  refine ⟨_, h, .val (run (some (.int .i64 l)) (some (.int .i64 hh)) none _ (by simp [e2]) (by simp [e3]) rfl (cut o n c _ _ _ l.toNat hh.toNat c hv hb)) ?_⟩
                  refine cut_vr e1 (by omega) (by omega) ?_ (esOk_mode C.S hes')
                  rcases hiOk_pos hok with h | h
                  · exact .inl (by omega)
                  · exact .inr h
                · simp at h
           · simp at h
         · simp at hk
       · rename_i m
         split at hk
         · -- x[:0:0]
           rename_i hz
           simp at hk; subst hk
           simp only [Bool.and_eq_true, Bool.or_eq_true] at hz
           obtain ⟨⟨hz1, hz2⟩, hz3⟩ := hz
           have zero : ∀ o : Option Operand, isZero o = true → ∃ kk, o.map a.eval = some (.int kk 0) := by
            intro o ho
            unfold isZero at ho
            split at ho
            · rename_i kk n
              have : n = 0 := by simpa using ho
              subst this
              exact ⟨kk, rfl⟩
            · simp at ho
           obtain ⟨k1, e1⟩ := zero _ hz1
           obtain ⟨k2, e2⟩ := zero _ hz2
           simp only [opA] at h
           split at h
           · rename_i sa n hsa
             have ev := getV_sound C hx hsa
             obtain ⟨o, c, hv, hnc⟩ := vr_sl_shape ev
             rw [hv] at ev
             have hb : (Instr.sliceBounds true n c (lo.map a.eval) (some (.int k1 0)) (some (.int k2 0))).run P w = .ok (0, 0, 0) w := by
              rcases hz3 with hz3 | hz3
              · cases lo with
                | none => simp [Instr.sliceBounds, run_bound, Result.andThen]
                | some z => simp at hz3
              · obtain ⟨k3, e3⟩ := zero _ hz3
                rw [e3]
                simp [Instr.sliceBounds, run_bound, Result.andThen]
             refine ⟨_, h, .val (run _ _ _ _ rfl e1 e2 (cut o n c _ _ _ 0 0 0 hv hb)) ?_⟩
             simp only [if_true, Nat.sub_self]
             cases ev with
             | slN => exact .slN
             | _ => exact .slZ
           · simp at h
         · split at hk
           · rename_i l' h' m' hlo hhi hm
             simp at hk; subst hk
             simp only [opA] at h
             split at h
             · rename_i sa n l hh mm hsa hgl hgh hgm
               have e1 := getV_sound C hx hsa
               obtain ⟨o, c, hv, hnc⟩ := vr_sl_shape e1
               rw [hv] at e1
               cases lo with
               | none => simp [cXo] at hlo
               | some z =>
               cases hi with
               | none => simp [cXo] at hhi
               | some y =>
                have hz : cX z = some l' := by simp only [cXo] at hlo; split at hlo <;> simp at hlo; subst hlo; assumption
                have hy : cX y = some h' := by simp only [cXo] at hhi; split at hhi <;> simp at hhi; subst hhi; assumption
                have e2 := vr_int (getV_sound C hz hgl)
                have e3 := vr_int (getV_sound C hy hgh)
                have e4 := vr_int (getV_sound C hm hgm)
                obtain ⟨hr, h⟩ := chkC_some h
                obtain ⟨h0, h1, h2, hok⟩ := hr trivial
                have hcap := hiOk_le C.S hpos hok e1
                have hb : (Instr.sliceBounds true n c (some (.int .i64 l)) (some (.int .i64 hh)) (some (.int .i64 mm))).run P w = .ok (l.toNat, hh.toNat, mm.toNat) w := by
                 simp [Instr.sliceBounds, run_bound (show 0 ≤ mm by omega) hcap, run_bound (show 0 ≤ hh by omega) (show hh ≤ (mm.toNat : Int) by omega), run_bound h0 (show l ≤ (hh.toNat : Int) by omega), Result.andThen]
                exact ⟨_, h, .val (run (some (.int .i64 l)) (some (.int .i64 hh)) (some (.int .i64 mm)) _ (by simp [e2]) (by simp [e3]) (by simp [e4]) (cut o n c _ _ _ _ _ _ hv hb)) (.opq _)⟩
             · simp at h
           · simp at hk
   · simp at hk
 · simp at hk
end
end Go.Proofs.Ytnmdadadjneaiaa.Abs
/- Operations that read, at most: composite values, maps, lengths; equality of structs; all kinds together. -/
set_option linter.unusedVariables false
set_option linter.unusedSimpArgs false
namespace Go.Proofs.Ytnmdadadjneaiaa.Abs
open Go
section
variable {P : Program} {φ : Phi} {β : Nat → Nat} {ρ : Nat → SV} {ah : Heap} {a : Act} {w : World} {gs : List (Nat × Bool)} {R : Type}
 {loc : Nat} {ret : SV → Option R} {r : R}
theorem size_of_info {t : TypeId} {n : Nat} (h : sizeOfT P t = some n) : ∃ i, P.info? t = some i ∧ i.size = n := by
 unfold sizeOfT at h
 split at h
 · rename_i i hi; simp at h; exact ⟨i, hi, h⟩
 · simp at h
theorem zeroOf_sound {t : TypeId} {z : List AV} (h : zeroOf P t = some z) : ∃ i v, P.info? t = some i ∧ i.zero = some v ∧ VRs φ z v.cells.toList ∧ z.length = i.size := by
 unfold zeroOf at h
 split at h
 · rename_i i hi
   split at h
   · rename_i v hv
     split at h
     · rename_i l hl
       split at h
       · rename_i he; simp at h; subst h; exact ⟨i, v, hi, hv, ofCells_sound hl, he⟩
       · simp at h
     · simp at h
   · simp at h
 · simp at h
theorem fold_put (off : Nat) : ∀ (vs : List Value) (j : Nat) (cs : Array Value), off + j + vs.length ≤ cs.size →
 ((vs.zipIdx j).foldl (fun cs (p : Value × Nat) => cs.setIfInBounds (off + p.2) p.1) cs).toList = cs.toList.take (off + j) ++ vs ++ cs.toList.drop (off + j + vs.length) := by
 intro vs
 induction vs with
 | nil => intro j cs h; simp
 | cons v vs ih =>
  intro j cs h
  simp only [List.length_cons] at h
  simp only [List.zipIdx_cons, List.foldl_cons]
  rw [ih (j + 1) (cs.setIfInBounds (off + j) v) (by simp; omega)]
  simp only [Array.toList_setIfInBounds]
  apply List.ext_getElem?
  intro i
  by_cases h1 : i < off + j
  · rw [List.append_assoc, List.append_assoc, List.getElem?_append_left (by simp; omega), List.getElem?_append_left (by simp; omega), List.getElem?_take, List.getElem?_take, if_pos (by omega), if_pos (by omega), List.getElem?_set, if_neg (by omega)]
  · by_cases h2 : i = off + j
    · subst h2
      rw [List.append_assoc, List.getElem?_append_left (by simp; omega), List.append_assoc, List.getElem?_append_right (by simp; omega)]
      rw [List.getElem?_take, if_pos (by omega), List.getElem?_set, if_pos rfl, if_pos (by simp; omega)]
      simp
      have : off + j - min (off + j) cs.size = 0 := by omega
      rw [this]
      simp
    · by_cases h3 : i < off + j + 1 + vs.length
      · rw [List.append_assoc, List.getElem?_append_right (by simp; omega), List.getElem?_append_left (by simp; omega), List.append_assoc, List.getElem?_append_right (by simp; omega), List.getElem?_append_left (by simp; omega)]
        have e1 : i - (List.take (off + (j + 1)) (cs.toList.set (off + j) v)).length = i - (off + j + 1) := by simp; omega
        have e2 : i - (List.take (off + j) cs.toList).length = (i - (off + j + 1)) + 1 := by simp; omega
        rw [e1, e2]
        simp
      · rw [List.getElem?_append_right (by simp; omega), List.getElem?_append_right (by simp; omega), List.getElem?_drop, List.getElem?_drop, List.getElem?_set, if_neg (by simp; omega)]
        congr 1
        simp
        omega
theorem fold_put' (off : Nat) (v : Value) (cs : Array Value) (h : off + v.cells.size ≤ cs.size) :
 (v.cells.zipIdx.foldl (fun cs (c, j) => cs.setIfInBounds (off + j) c) cs).toList = cs.toList.take off ++ v.cells.toList ++ cs.toList.drop (off + v.cells.size) := by
 have := fold_put off v.cells.toList 0 cs (by simpa using h)
 rw [← Array.foldl_toList, Array.toList_zipIdx]
 simpa using this
theorem splice_vr {cs xs : List AV} {cs' ys : List Value} {o : Nat} (h : VRs φ cs cs') (hx : VRs φ xs ys) (hl : o + xs.length ≤ cs.length) :
 VRs φ (splice o xs cs) (cs'.take o ++ ys ++ cs'.drop (o + ys.length)) := by
 have hc : CellsR φ cs 0 cs'.toArray := ⟨by simp [h.1], fun i x hx' => by obtain ⟨y, hy, hv⟩ := h.get hx'; exact ⟨y, by simpa using hy, hv⟩⟩
 have := CellsR.spliced hc hl hx
 refine ⟨?_, fun i x y hx' hy' => ?_⟩
 · rw [splice_length _ _ _ hl]
   have := h.1
   have := hx.1
   simp
   omega
 · obtain ⟨y', hy, hv⟩ := this.get i x hx'
   simp at hy
   have : (cs'.take o ++ ys ++ cs'.drop (o + ys.length))[i]? = some y' := by simpa using hy
   rw [this] at hy'
   cases hy'
   exact hv
theorem solid_ne {x : AV} (h : solid x = true) : x ≠ .opq := by
 rintro rfl
 simp [solid] at h
theorem parts_sound (C : Ctx φ β ρ ah a w gs) {pl : Nat → Option (Nat × Nat)} {pl' : Nat → Option (Nat × Nat)} (hpl : ∀ i p, pl i = some p → pl' i = some p) :
 ∀ {ps : List (Nat × Operand)} {cps : List (Nat × Nat × AX)}, cParts pl ps = some cps → ∀ {vs : List (Nat × Nat × List AV)}, getParts gs ρ cps = some vs →
 ∀ {z cs : List AV} {z' : Array Value}, VRs φ z z'.toList → buildGo z vs = some cs →
 ∃ cs' : Array Value, Instr.fill pl' z' (ps.map fun p => (p.1, a.eval p.2)) = some cs' ∧ VRs φ cs cs'.toList := by
 intro ps
 induction ps with
 | nil =>
  intro cps h vs hv z cs z' hz hb
  simp [cParts] at h; subst h
  simp [getParts] at hv; subst hv
  simp [buildGo] at hb; subst hb
  exact ⟨z', rfl, hz⟩
 | cons p ps ih =>
  obtain ⟨i, x⟩ := p
  intro cps h vs hv z cs z' hz hb
  simp only [cParts] at h
  split at h
  · rename_i off n ax r h1 h2 h3
    simp at h; subst h
    simp only [getParts] at hv
    split at hv
    · rename_i u r' hu hr
      split at hv
      · rename_i hso
        simp at hv; subst hv
        simp only [buildGo] at hb
        split at hb
        · rename_i hlen
          have e1 := getV_sound C h2 hu
          have e2 := cellsOf_sound e1 (solid_ne hso)
          have hsz : (a.eval x).cells.size = n := by have := e2.1; simp at this; omega
          have hz' : z'.size = z.length := by have := hz.1; simpa using this.symm
          have hle : off + (a.eval x).cells.size ≤ z'.size := by omega
          obtain ⟨cs', hc1, hc2⟩ := ih h3 hr (z' := ((a.eval x).cells.zipIdx.foldl (fun cs (c, j) => cs.setIfInBounds (off + j) c) z')) (by
           rw [fold_put' off (a.eval x) z' hle]
           have := splice_vr hz e2 (o := off) (by omega)
           simpa using this) hb
          refine ⟨cs', ?_, hc2⟩
          simp only [List.map_cons, Instr.fill, hpl _ _ h1]
          have : ¬ ((a.eval x).cells.size ≠ n ∨ off + (a.eval x).cells.size > z'.size) := by omega
          simp only [Bool.or_eq_true, decide_eq_true_eq, ne_eq]
          rw [if_neg (by simpa using this)]
          exact hc1
        · simp at hb
      · simp at hv
    · simp at hv
  · simp at h
theorem run_sizes {fs : List Field} (h : sizesOk P fs = true) :
 (fs.mapM fun f => (do pure (f.offset, ← Go.sizeOf f.type) : Sem (Nat × Nat))).run P w = .ok (fs.map fun f => (f.offset, (sizeOfT P f.type).getD 0)) w := by
 induction fs with
 | nil => simp
 | cons f fs ih =>
  simp only [sizesOk, Bool.and_eq_true, Option.isSome_iff_exists] at h
  obtain ⟨⟨n, hn⟩, h2⟩ := h
  simp only [List.mapM_cons, Sem.run_bind, run_size hn, Result.andThen, Sem.run_pure, ih h2, List.map_cons, hn, Option.getD_some]
theorem a_build (C : Ctx φ β ρ ah a w gs) {dst type pos after guard} {t : TypeId} {ps : Array (Nat × Operand)} {k : AK} (hk : cOp P loc ⟨dst, .build t ps, type, pos, after, guard⟩ = some k)
 (h : opA ρ ah gs true k ret = some r) : ∃ sv, ret sv = some r ∧ AOk P φ β a w ⟨dst, .build t ps, type, pos, after, guard⟩ gs sv := by
 simp only [cOp] at hk
 split at hk
 · rename_i z fs hz hu
   split at hk
   · simp at hk
   · rename_i hok
     have hok : sizesOk P fs.toList = true := by simpa using hok
     split at hk
     · rename_i cps hcp
       simp at hk; subst hk
       simp only [opA] at h
       split at h
       · rename_i vs hvs
         obtain ⟨cs, hcs, h⟩ := gb_true h
         obtain ⟨i, zv, hi, hzv, hzr, hzl⟩ := zeroOf_sound (φ := φ) hz
         have hrun := run_sizes (w := w) hok
         obtain ⟨cs', hf, hv⟩ := parts_sound C (pl' := fun i => (fs.toList.map fun f => (f.offset, (sizeOfT P f.type).getD 0))[i]?) (fun i p hp => by
          split at hp
          · rename_i f hf
            split at hp
            · rename_i n hn
              have hf : fs.toList[i]? = some f := by simpa using hf
              rw [List.getElem?_map, hf]
              simp at hp; subst hp
              simp [hn]
            · simp at hp
          · simp at hp) hcp hvs hzr hcs
         refine ⟨_, h, .val (vc := .agg cs') ?_ (.agg (by simpa using hv.1) fun i x y hx hy => hv.2 i x y hx (by simpa using hy))⟩
         have hm : (fs.mapM fun f => (do pure (f.offset, ← Go.sizeOf f.type) : Sem (Nat × Nat))).run P w = .ok (fs.toList.map fun f => (f.offset, (sizeOfT P f.type).getD 0)).toArray w := by
          rw [Array.mapM_eq_mapM_toList]
          exact (Sem.run_map P w _ _).trans (by rw [hrun]; rfl)
         have hmp : (ps.map fun (i, x) => (i, a.eval x)).toList = ps.toList.map fun p => (p.1, a.eval p.2) := by simp
         simp only [execOp, Sem.run_bind, Instr.build, run_zero hi hzv, run_under hu, Result.andThen, hm, hmp]
         simp only [List.getElem?_toArray, hf]
         rfl
       · simp at h
     · simp at hk
 · rename_i z n e hz hu
   split at hk
   · rename_i m hm
     split at hk
     · rename_i cps hcp
       simp at hk; subst hk
       simp only [opA] at h
       split at h
       · rename_i vs hvs
         obtain ⟨cs, hcs, h⟩ := gb_true h
         obtain ⟨i, zv, hi, hzv, hzr, hzl⟩ := zeroOf_sound (φ := φ) hz
         obtain ⟨cs', hf, hv⟩ := parts_sound C (pl' := fun i => some (i * m, m)) (fun i p hp => hp) hcp hvs hzr hcs
         refine ⟨_, h, .val (vc := .agg cs') ?_ (.agg (by simpa using hv.1) fun i x y hx hy => hv.2 i x y hx (by simpa using hy))⟩
         have hmp : (ps.map fun (i, x) => (i, a.eval x)).toList = ps.toList.map fun p => (p.1, a.eval p.2) := by simp
         simp only [execOp, Sem.run_bind, Instr.build, run_zero hi hzv, run_under hu, Result.andThen, run_size hm, hmp, hf]
         rfl
       · simp at h
     · simp at hk
   · simp at hk
 · simp at hk
theorem rdInts_sound {l : List AV} : ∀ {ns : List Int} {vs : List Value}, rdInts l = some ns → VRs φ l vs → vs = ns.map (Value.int .i64) := by
 induction l with
 | nil =>
  intro ns vs h hv
  simp [rdInts] at h; subst h
  have := hv.1
  cases vs <;> simp_all
 | cons x l ih =>
  intro ns vs h hv
  obtain ⟨y, ys, rfl, h1, h2⟩ := hv.cons_inv
  cases x with
  | int kk n =>
   cases kk with
   | i64 =>
    simp only [rdInts] at h
    split at h
    · rename_i r hr
      simp at h; subst h
      rw [vr_int h1, ih hr h2]
      rfl
    · simp at h
   | _ => simp [rdInts] at h
  | _ => simp [rdInts] at h
theorem run_fold_min (ns : List Int) : ∀ (x : Int), ((ns.map (Value.int .i64)).foldlM Builtin.min2 (.int .i64 x)).run P w = .ok (.int .i64 (foldMM false x ns)) w := by
 induction ns with
 | nil => intro x; simp [foldMM]
 | cons n ns ih => intro x; simp only [List.map_cons, List.foldlM_cons, Sem.run_bind, Builtin.min2, Sem.run_pure, Result.andThen, foldMM]; exact ih _
theorem run_fold_max (ns : List Int) : ∀ (x : Int), ((ns.map (Value.int .i64)).foldlM Builtin.max2 (.int .i64 x)).run P w = .ok (.int .i64 (foldMM true x ns)) w := by
 induction ns with
 | nil => intro x; simp [foldMM]
 | cons n ns ih => intro x; simp only [List.map_cons, List.foldlM_cons, Sem.run_bind, Builtin.max2, Sem.run_pure, Result.andThen, foldMM]; exact ih _
def resQ (z : Value) : Option (Nat × Value) → Value
 | some (_, v) => v
 | none => z
def foundR (φ : Phi) : Option AV → Option (Nat × Value) → Prop
 | none, none => True
 | some x, some (_, v) => VR φ x v
 | _, _ => False
def resL (ok : Bool) (z : Value) (q : Option (Nat × Value)) : Value :=
 match ok with
 | true => .tuple #[resQ z q, .bool q.isSome]
 | false => resQ z q
theorem mapFind_sound {kk : IntKind} {ka : AV} {vk : Value} (e2 : VR φ ka vk) {f : Option AV} : ∀ (es : List (AV × AV)) (ms : List MapEntry) (i : Nat), MapR φ es ms → mapFind ka es = some f →
 ∃ q, Instr.findNow (.int kk) vk ms i = some q ∧ foundR φ f q := by
 intro es
 induction es with
 | nil => intro ms i hr hf; cases hr; simp [mapFind] at hf; subst hf; exact ⟨none, rfl, trivial⟩
 | cons p es ih =>
  intro ms i hr hf
  cases hr with
  | cons g1 g2 g3 =>
   rename_i k1 v1 e0 es0
   cases ka with
   | int k2 x2 =>
    cases k1 with
    | int k3 x3 =>
     simp only [mapFind] at hf
     have e2' := vr_int e2
     subst e2'
     have e3' := vr_int g1
     split at hf
     · rename_i hkk
       subst hkk
       split at hf
       · rename_i hx
         simp at hf; subst hf
         exact ⟨some (i, e0.val), by simp [Instr.findNow, Instr.sameNow, e3', hx], g2⟩
       · rename_i hx
         obtain ⟨q, hq1, hq2⟩ := ih es0 (i + 1) g3 hf
         refine ⟨q, ?_, hq2⟩
         have : (x2 == x3) = false := by simpa using hx
         simp only [Instr.findNow, Instr.sameNow, e3', if_true, this]
         exact hq1
     · simp at hf
    | _ => simp [mapFind] at hf
   | _ => cases k1 <;> simp [mapFind] at hf
theorem run_checkKey {b : Bool} {kt : TypeId} {kk : IntKind} (hkt : P.underlying kt = some (.int kk)) (v : Value) : (Instr.checkKey b 10000 kt v).run P w = .ok () w := by
 show (Instr.checkKey b (9999 + 1) kt v).run P w = _
 rw [Instr.checkKey]
 simp only [Sem.run_bind, run_under hkt, Result.andThen]
 rfl
theorem run_findKey {kt : TypeId} {kk : IntKind} (hkt : P.underlying kt = some (.int kk)) {v : Value} {ms : List MapEntry} {q : Option (Nat × Value)} (h : Instr.findNow (.int kk) v ms 0 = some q) :
 (Instr.findKey kt v ms).run P w = .ok q w := by
 simp only [Instr.findKey, Sem.run_bind, run_under hkt, Result.andThen, h]
 rfl
theorem run_lookup {t kt e : TypeId} {kk : IntKind} (hu : P.underlying t = some (.map kt e)) (hkt : P.underlying kt = some (.int kk)) {z : Value} (hz : (zeroValue e).run P w = .ok z w)
 {vm vk : Value} {ms : Array MapEntry} (h1 : (vm = .map none ∧ ms = #[]) ∨ ∃ r' clk, vm = .map (some r') ∧ w.heap[r']? = some (.map ms clk))
 {q : Option (Nat × Value)} (hq : Instr.findNow (.int kk) vk ms.toList 0 = some q) (ok : Bool) :
 (Instr.lookup t vm vk ok).run P w = .ok (resL ok z q) w := by
 have hfk := run_findKey (P := P) (w := w) hkt hq
 rcases h1 with ⟨rfl, rfl⟩ | ⟨r', clk, rfl, hr'⟩
 · simp only [Instr.lookup, Sem.run_bind, run_under hu, Result.andThen, Sem.run_pure, run_checkKey hkt, hfk]
   cases q with
   | none => cases ok <;> simp [hz, Result.andThen, resL, resQ]
   | some q => cases ok <;> simp [Result.andThen, resL, resQ]
 · have hg : (getObj r').run P w = .ok (.map ms clk) w := by simp [getObj, Sem.run, hr']
   simp only [Instr.lookup, Sem.run_bind, run_under hu, Result.andThen, hg, Sem.run_pure, run_checkKey hkt, hfk]
   cases q with
   | none => cases ok <;> simp [hz, Result.andThen, resL, resQ]
   | some q => cases ok <;> simp [Result.andThen, resL, resQ]
theorem found_val {e : TypeId} {z : Value} (hz : VR φ (zeroV P e) z) {f : Option AV} {q : Option (Nat × Value)} (h : foundR φ f q) :
 VR φ (f.getD (zeroV P e)) (resQ z q) ∧ f.isSome = q.isSome := by
 cases f with
 | none => cases q with
  | none => exact ⟨hz, rfl⟩
  | some q => exact h.elim
 | some x => cases q with
  | none => exact h.elim
  | some q => exact ⟨h, rfl⟩
theorem a_lookup (C : Ctx φ β ρ ah a w gs) {dst type pos after guard} {t : TypeId} {m kx : Operand} {ok : Bool} {k : AK} (hk : cOp P loc ⟨dst, .lookup t m kx ok, type, pos, after, guard⟩ = some k)
 (h : opA ρ ah gs true k ret = some r) : ∃ sv, ret sv = some r ∧ AOk P φ β a w ⟨dst, .lookup t m kx ok, type, pos, after, guard⟩ gs sv := by
 simp only [cOp] at hk
 split at hk
 · rename_i kt e am ak hu hm hkx
   split at hk
   · rename_i kk c hkt hs
     simp at hk; subst hk
     simp only [opA] at h
     split at h
     · rename_i rr ka hrr hka
       have e1 := getV_sound C hm hrr
       have e2 := getV_sound C hkx hka
       obtain ⟨f, hf, h⟩ := gb_true h
       simp only [rdW] at h
       obtain ⟨x, hx, h⟩ := rdC_true h
       simp only [Option.some.injEq] at hx
       subst hx
       have hzero : ∃ z, (zeroValue e).run P w = .ok z w ∧ VR φ (zeroV P e) z := by
        unfold vsOf at hs
        split at hs
        · rename_i i d hi hd
          split at hs
          · rename_i z hz
            refine ⟨z, run_zero hi hz, ?_⟩
            simp only [zeroV, hi, hz]
            cases ho : ofVal z with
            | none => exact .opq _
            | some x => exact ofVal_sound ho
          · simp at hs
        · simp at hs
       obtain ⟨z, hz1, hz2⟩ := hzero
       have fin : ∀ (ms : Array MapEntry) (q : Option (Nat × Value)), ((a.eval m = .map none ∧ ms = #[]) ∨ ∃ r' clk, a.eval m = .map (some r') ∧ w.heap[r']? = some (.map ms clk)) →
        Instr.findNow (.int kk) (a.eval kx) ms.toList 0 = some q → foundR φ f q → ∃ sv, ret sv = some r ∧ AOk P φ β a w ⟨dst, .lookup t m kx ok, type, pos, after, guard⟩ gs sv := by
        intro ms q h1 h2 h3
        obtain ⟨g1, g2⟩ := found_val hz2 h3
        have hrun : (execOp a.eval ⟨dst, .lookup t m kx ok, type, pos, after, guard⟩).run P w = .ok (.value (resL ok z q)) w := by
         simp only [execOp, Sem.run_bind, run_lookup hu hkt hz1 h1 h2 ok, Result.andThen, Sem.run_pure]
        cases ok with
        | true => exact ⟨_, h, .val hrun (by rw [g2]; exact VR.tup_list (.cons g1 (.cons (.bool _) (.nil _))))⟩
        | false => exact ⟨_, h, .val hrun g1⟩
       cases rr with
       | none =>
        simp only [Option.some.injEq] at hf
        subst hf
        have : a.eval m = .map none := by generalize a.eval m = vm at e1; cases e1; rfl
        exact fin #[] none (.inl ⟨this, rfl⟩) rfl trivial
       | some b =>
        have : ∃ r', a.eval m = .map (some r') ∧ φ b = .lmap r' := by generalize a.eval m = vm at e1; cases e1; exact ⟨_, rfl, by assumption⟩
        obtain ⟨r', hm', hb⟩ := this
        obtain ⟨es, ces, clk, g1, g2, g3⟩ := C.S.map _ _ hb
        simp only [g1] at hf
        obtain ⟨q, hq1, hq2⟩ := mapFind_sound (kk := kk) e2 es ces.toList 0 g3 hf
        exact fin ces q (.inr ⟨_, clk, hm', g2⟩) hq1 hq2
     · simp at h
   · simp at hk
 · simp at hk
theorem MapR.length {es : List (AV × AV)} {ms : List MapEntry} (h : MapR φ es ms) : es.length = ms.length := by
 induction h with
 | nil => rfl
 | cons _ _ _ ih => simp [ih]
theorem a_builtin (C : Ctx φ β ρ ah a w gs) {dst type pos after guard} {b : Builtin} {args : Array Operand} {ts : Array TypeId} {k : AK}
 (hk : cOp P loc ⟨dst, .call ⟨.builtin b, args, ts⟩, type, pos, after, guard⟩ = some k)
 (h : opA ρ ah gs true k ret = some r) : ∃ sv, ret sv = some r ∧ AOk P φ β a w ⟨dst, .call ⟨.builtin b, args, ts⟩, type, pos, after, guard⟩ gs sv := by
 simp only [cOp] at hk
 have go : ∀ (v : Value), (builtin b ts type (args.map fun | .const _ => true | _ => false) (args.map a.eval)).run P w = .ok (.value v) w →
  (execOp a.eval ⟨dst, .call ⟨.builtin b, args, ts⟩, type, pos, after, guard⟩).run P w = .ok (.value v) w := by
  intro v hv
  simp only [execOp, resolve, Sem.run_bind, Sem.run_pure, Result.andThen, invoke]
  exact hv
 have toL : ∀ {α : Type} {xs : Array α} {x : α}, xs.toList = [x] → xs = #[x] := fun h => by apply Array.ext'; simpa using h
 split at hk
 · -- len
   rename_i ax t hargs hts
   have hts := toL hts
   obtain ⟨x, hx1, hx⟩ : ∃ x, args.toList = [x] ∧ cX x = some ax := by
    cases hl : args.toList with
    | nil => rw [hl] at hargs; simp [cXs] at hargs
    | cons x l =>
     rw [hl] at hargs
     cases l with
     | nil => simp only [cXs] at hargs; split at hargs <;> simp at hargs; rename_i a' r' h1 h2; obtain ⟨rfl, rfl⟩ := hargs; exact ⟨x, rfl, h1⟩
     | cons y l =>
      simp only [cXs] at hargs
      split at hargs
      · rename_i a' r' h1 h2
        split at h2 <;> simp at h2
        subst h2
        simp at hargs
      · simp at hargs
   have hx1 := toL hx1
   subst hx1; subst hts
   split at hk
   · rename_i e hu
     simp at hk; subst hk
     simp only [opA] at h
     split at h
     · rename_i sa n hsa
       obtain ⟨o, c, hv, hnc⟩ := vr_sl_shape (getV_sound C hx hsa)
       exact ⟨_, h, .val (go (.int .i64 n) (by simp [builtin, Builtin.len_, hv, run_under hu, Result.andThen, goInt])) (.int _ _)⟩
     · simp at h
   · rename_i hu
     simp at hk; subst hk
     simp only [opA] at h
     split at h
     · rename_i s hs
       have hv := vr_str (getV_sound C hx hs)
       exact ⟨_, h, .val (go (.int .i64 s.size) (by simp [builtin, Builtin.len_, hv, run_under hu, Result.andThen, goInt])) (.int _ _)⟩
     · simp at h
   · rename_i kt e hu
     simp at hk; subst hk
     simp only [opA] at h
     split at h
     · rename_i rr hrr
       have e1 := getV_sound C hx hrr
       obtain ⟨n, hn, h⟩ := gb_true h
       cases rr with
       | none =>
        simp only [Option.some.injEq] at hn
        subst hn
        have : a.eval x = .map none := by generalize a.eval x = vm at e1; cases e1; rfl
        exact ⟨_, h, .val (go (.int .i64 0) (by simp [builtin, Builtin.len_, this, run_under hu, Result.andThen, goInt])) (.int _ _)⟩
       | some b =>
        have : ∃ r', a.eval x = .map (some r') ∧ φ b = .lmap r' := by generalize a.eval x = vm at e1; cases e1; exact ⟨_, rfl, by assumption⟩
        obtain ⟨r', hm', hb⟩ := this
        obtain ⟨es, ces, clk, g1, g2, g3⟩ := C.S.map _ _ hb
        simp only [g1, Option.some.injEq] at hn
        subst hn
        have := g3.length
        have hg : (getObj r').run P w = .ok (.map ces clk) w := by simp [getObj, Sem.run, g2]
        refine ⟨_, h, .val (go (.int .i64 ces.size) (by simp [builtin, Builtin.len_, hm', run_under hu, hg, Result.andThen, goInt])) ?_⟩
        have : es.length = ces.size := by simpa using this
        rw [this]
        exact .int _ _
     · simp at h
   · rename_i n e hu
     simp at hk; subst hk
     simp only [opA] at h
     exact ⟨_, h, .val (go (.int .i64 n) (by simp [builtin, Builtin.len_, run_under hu, Result.andThen, goInt])) (.int _ _)⟩
   · simp at hk
 · -- append
   split at hk
   · split at hk
     · split at hk
       · simp at hk; subst hk; simp [opA] at h
       · simp at hk
     · simp at hk
   · simp at hk
 · split at hk
   · split at hk
     · simp at hk; subst hk; simp [opA] at h
     · simp at hk
   · simp at hk
 · split at hk
   · split at hk
     · split at hk
       · simp at hk; subst hk; simp [opA] at h
       · simp at hk
     · simp at hk
   · simp at hk
 · -- min
   rename_i as t ts' hargs hts
   split at hk
   · simp at hk; subst hk
     simp only [opA] at h
     split at h
     · rename_i n l hv
       obtain ⟨ns, hns, h⟩ := gb_true h
       have e := getVs_sound C hargs hv
       obtain ⟨y, ys, hy, h1, h2⟩ := e.cons_inv
       have h3 := rdInts_sound hns h2
       refine ⟨_, h, .val (go (.int .i64 (foldMM false n ns)) ?_) (.int _ _)⟩
       have hm : (args.map a.eval).toList = .int .i64 n :: ns.map (Value.int .i64) := by
        rw [Array.toList_map, hy, vr_int h1, h3]
       simp only [builtin, Builtin.min_, hm, Sem.run_bind, run_fold_min, Result.andThen, Sem.run_pure]
     · simp at h
   · simp at hk
 · rename_i as t ts' hargs hts
   split at hk
   · simp at hk; subst hk
     simp only [opA] at h
     split at h
     · rename_i n l hv
       obtain ⟨ns, hns, h⟩ := gb_true h
       have e := getVs_sound C hargs hv
       obtain ⟨y, ys, hy, h1, h2⟩ := e.cons_inv
       have h3 := rdInts_sound hns h2
       refine ⟨_, h, .val (go (.int .i64 (foldMM true n ns)) ?_) (.int _ _)⟩
       have hm : (args.map a.eval).toList = .int .i64 n :: ns.map (Value.int .i64) := by
        rw [Array.toList_map, hy, vr_int h1, h3]
       simp only [builtin, Builtin.max_, hm, Sem.run_bind, run_fold_max, Result.andThen, Sem.run_pure]
     · simp at h
   · simp at hk
 · simp at hk
end
end Go.Proofs.Ytnmdadadjneaiaa.Abs
/- Equality of structs of numbers and truth values. -/
set_option linter.unusedVariables false
set_option linter.unusedSimpArgs false
namespace Go.Proofs.Ytnmdadadjneaiaa.Abs
open Go
section
variable {P : Program} {φ : Phi} {w : World}
theorem eqCells_len {sh : List Bool} {xs ys : List AV} : ∀ {b : Bool}, eqCells sh xs ys = some b → xs.length = sh.length ∧ ys.length = sh.length := by
 induction sh generalizing xs ys with
 | nil => intro b h; cases xs <;> cases ys <;> simp_all [eqCells]
 | cons s sh ih =>
  intro b h
  cases xs with
  | nil => cases s <;> simp [eqCells] at h
  | cons x xs =>
   cases ys with
   | nil => cases s <;> cases x <;> simp [eqCells] at h
   | cons y ys =>
    cases s <;> cases x <;> cases y <;> simp only [eqCells] at h <;> try (simp at h; done)
    · split at h
      · split at h
        · rename_i b' hb; have := ih hb; simp [this]
        · simp at h
      · simp at h
    · split at h
      · rename_i b' hb; have := ih hb; simp [this]
      · simp at h
theorem eqCells_append {s1 s2 : List Bool} {xs ys : List AV} : ∀ {b : Bool}, eqCells (s1 ++ s2) xs ys = some b →
 ∃ b1 b2, eqCells s1 (xs.take s1.length) (ys.take s1.length) = some b1 ∧ eqCells s2 (xs.drop s1.length) (ys.drop s1.length) = some b2 ∧ b = (b1 && b2) := by
 induction s1 generalizing xs ys with
 | nil => intro b h; exact ⟨true, b, by simp [eqCells], by simpa using h, by simp⟩
 | cons s s1 ih =>
  intro b h
  cases xs with
  | nil => cases s <;> simp [eqCells] at h
  | cons x xs =>
   cases ys with
   | nil => cases s <;> cases x <;> simp [eqCells] at h
   | cons y ys =>
    cases s <;> cases x <;> cases y <;> simp only [List.cons_append, eqCells] at h <;> try (simp at h; done)
    · split at h
      · split at h
        · rename_i k1 x1 k2 x2 hk _ b' hb
          subst hk
          simp at h; subst h
          obtain ⟨b1, b2, h1, h2, rfl⟩ := ih hb
          exact ⟨decide (x1 = x2) && b1, b2, by simp [eqCells, h1], by simpa using h2, by simp [Bool.and_assoc]⟩
        · simp at h
      · simp at h
    · split at h
      · rename_i x1 x2 _ b' hb
        simp at h; subst h
        obtain ⟨b1, b2, h1, h2, rfl⟩ := ih hb
        exact ⟨(x1 == x2) && b1, b2, by simp [eqCells, h1], by simpa using h2, by simp [Bool.and_assoc]⟩
      · simp at h
def ValOf (P : Program) (φ : Phi) (t : TypeId) (xs : List AV) (u : Value) : Prop :=
 match P.underlying t with
 | some (.struct _) => ∃ c : Array Value, u = .agg c ∧ VRs φ xs c.toList
 | some (.array _ _) => ∃ c : Array Value, u = .agg c ∧ VRs φ xs c.toList
 | _ => ∃ x, xs = [x] ∧ VR φ x u
theorem sub_arr {xs : List AV} {c : Array Value} (h : VRs φ xs c.toList) (o n : Nat) : VRs φ ((xs.drop o).take n) (c.extract o (o + n)).toList := by
 have := h.sub o n
 have e : (c.extract o (o + n)).toList = (c.toList.drop o).take n := by
  apply List.ext_getElem?
  intro i
  rw [List.getElem?_take]
  simp only [Array.getElem?_toList, Array.getElem?_extract]
  by_cases hi : i < n
  · rw [if_pos hi, List.getElem?_drop]
    by_cases hc : o + i < c.size
    · rw [if_pos (by omega)]; simp
    · rw [if_neg (by omega)]
      simp; omega
  · rw [if_neg hi, if_neg (by omega)]
 rw [e]
 exact this
theorem run_part_flat {t : TypeId} {sh : List Bool} (hs : sizeOfT P t = some sh.length) {d : Nat} (hf : flatShape P d t = some sh) {xs : List AV} {c : Array Value} (h : VRs φ xs c.toList) {o : Nat} (ho : o + sh.length ≤ xs.length) :
 ∃ u, (part t c o).run P w = .ok u w ∧ ValOf P φ t ((xs.drop o).take sh.length) u := by
 cases d with
 | zero => simp [flatShape] at hf
 | succ d =>
  have leaf : sh.length = 1 → ∃ x y, (xs.drop o).take sh.length = [x] ∧ c[o]? = some y ∧ VR φ x y := by
   intro h1
   have hlt : o < xs.length := by omega
   obtain ⟨y, hy, hv⟩ := h.get (List.getElem?_eq_getElem hlt)
   refine ⟨xs[o], y, ?_, by simpa using hy, hv⟩
   rw [List.drop_eq_getElem_cons hlt, h1]
   rfl
  simp only [flatShape] at hf
  split at hf
  · rename_i hu
    simp at hf; subst hf
    obtain ⟨x, y, h1, h2, h3⟩ := leaf rfl
    exact ⟨y, by simp [part, run_agg hu, isAggD, h2, Result.andThen], by simp only [ValOf, hu]; exact ⟨x, h1, h3⟩⟩
  · rename_i kk hu
    simp at hf; subst hf
    obtain ⟨x, y, h1, h2, h3⟩ := leaf rfl
    exact ⟨y, by simp [part, run_agg hu, isAggD, h2, Result.andThen], by simp only [ValOf, hu]; exact ⟨x, h1, h3⟩⟩
  · rename_i fs hu
    refine ⟨.agg (c.extract o (o + sh.length)), by simp [part, run_agg hu, isAggD, run_size hs, Result.andThen], ?_⟩
    simp only [ValOf, hu]
    exact ⟨_, rfl, sub_arr h o sh.length⟩
  · rename_i n e hu
    refine ⟨.agg (c.extract o (o + sh.length)), by simp [part, run_agg hu, isAggD, run_size hs, Result.andThen], ?_⟩
    simp only [ValOf, hu]
    exact ⟨_, rfl, sub_arr h o sh.length⟩
  · simp at hf
theorem equal_flat : ∀ (d : Nat) (t : TypeId) (sh : List Bool), flatShape P d t = some sh → ∀ (D : Nat), d ≤ D → ∀ (u v : Value) (xs ys : List AV) (b : Bool),
 ValOf P φ t xs u → ValOf P φ t ys v → eqCells sh xs ys = some b → (Op.equalIn D t u v).run P w = .ok b w := by
 intro d
 induction d with
 | zero => intro t n h; simp [flatShape] at h
 | succ d ih =>
  intro t sh hf D hD u v xs ys b hu hv hb
  obtain ⟨D, rfl⟩ : ∃ E, D = E + 1 := ⟨D - 1, by omega⟩
  have hlen := eqCells_len hb
  simp only [flatShape] at hf
  rw [Op.equalIn]
  split at hf
  · rename_i ht
    simp at hf; subst hf
    simp only [ValOf, ht] at hu hv
    obtain ⟨x, rfl, h1⟩ := hu
    obtain ⟨y, rfl, h2⟩ := hv
    cases x <;> cases y <;> simp [eqCells] at hb
    rename_i b1 b2
    subst hb
    rw [vr_bool h1, vr_bool h2]
    simp [run_under ht, Result.andThen]
  · rename_i kk ht
    simp at hf; subst hf
    simp only [ValOf, ht] at hu hv
    obtain ⟨x, rfl, h1⟩ := hu
    obtain ⟨y, rfl, h2⟩ := hv
    cases x <;> cases y <;> simp [eqCells] at hb
    rename_i k1 n1 k2 n2
    obtain ⟨rfl, rfl⟩ := hb
    rw [vr_int h1, vr_int h2]
    simp [run_under ht, Result.andThen]
    rfl
  · rename_i fs ht
    split at hf
    · simp at hf
    · rename_i hst
      have hst : P.stoodInHeld t = false := by simpa using hst
      simp only [ValOf, ht] at hu hv
      obtain ⟨cu, rfl, h1⟩ := hu
      obtain ⟨cv, rfl, h2⟩ := hv
      have loop : ∀ (l : List Field) (o : Nat) (s2 : List Bool) (b : Bool), flatFields P (flatShape P d) l o = some s2 → o + s2.length ≤ xs.length → o + s2.length ≤ ys.length → eqCells s2 (xs.drop o) (ys.drop o) = some b →
       (forIn l ((none, ()) : Option Bool × Unit) fun (f : Field) (__s : Option Bool × Unit) =>
         if f.name ≠ "_" then do
          let __do_lift ← part f.type cu f.offset
          let __do_lift_1 ← part f.type cv f.offset
          let __do_lift ← Op.equalIn D f.type __do_lift __do_lift_1
          if (!__do_lift) = true then pure (ForInStep.done (some false, ()))
           else pure (ForInStep.yield (none, ()))
         else pure (ForInStep.yield (none, ()))).run P w = .ok (if b = true then (none, ()) else (some false, ())) w := by
       intro l
       induction l with
       | nil =>
        intro o s2 b hl _ _ hb
        simp [flatFields] at hl
        subst hl
        have hl2 := eqCells_len hb
        have e1 : xs.drop o = [] := List.eq_nil_of_length_eq_zero hl2.1
        have e2 : ys.drop o = [] := List.eq_nil_of_length_eq_zero hl2.2
        rw [e1, e2] at hb
        simp [eqCells] at hb
        subst hb
        simp
       | cons f l ihl =>
        intro o s2 b hl hle hle2 hb
        simp only [flatFields] at hl
        split at hl
        · rename_i m hm
          split at hl
          · rename_i hc
            obtain ⟨hoff, hname, hsz⟩ := hc
            split at hl
            · rename_i s3 hs3
              simp at hl; subst hl
              simp at hle hle2
              obtain ⟨b1, b2, g1, g2, rfl⟩ := eqCells_append hb
              obtain ⟨u1, p1, q1⟩ := run_part_flat (w := w) hsz hm h1 (o := o) (by omega)
              obtain ⟨v1, p2, q2⟩ := run_part_flat (w := w) hsz hm h2 (o := o) (by omega)
              have he := ih f.type m hm D (by omega) u1 v1 _ _ b1 q1 q2 g1
              rw [List.drop_drop, List.drop_drop] at g2
              have hrest := ihl (o + m.length) s3 b2 hs3 (by omega) (by omega) g2
              simp only [List.forIn_cons, hname, ne_eq, not_false_eq_true, if_true, Sem.run_bind, hoff, p1, p2, he, Result.andThen]
              cases b1 with
              | false => simp
              | true =>
               simp only [Bool.not_true, Bool.false_eq_true, if_false, Sem.run_pure, Bool.true_and]
               exact hrest
            · simp at hl
          · simp at hl
        · simp at hl
      have hl := loop fs.toList 0 sh b hf (by omega) (by omega) (by simpa using hb)
      rw [Array.forIn_toList] at hl
      have e0 : Sem.run P program w = .ok P w := rfl
      simp only [Sem.run_bind, run_under ht, Result.andThen, e0, hst, Bool.false_eq_true, if_false]
      have e1 : (forIn fs ((none, ()) : Option Bool × Unit) fun (f : Field) (__s : Option Bool × Unit) =>
            if f.name ≠ "_" then do
             let __do_lift ← part f.type cu f.offset
             let __do_lift_1 ← part f.type cv f.offset
             let __do_lift ← Op.equalIn D f.type __do_lift __do_lift_1
             if (!__do_lift) = true then pure (ForInStep.done (some false, ()))
              else pure (ForInStep.yield (none, ()))
            else pure (ForInStep.yield (none, ()))).run P w = .ok (if b = true then (none, ()) else (some false, ())) w := hl
      rw [e1]
      cases b <;> rfl
  · rename_i n e ht
    split at hf
    · rename_i m hm
      split at hf
      · rename_i hsz
        simp only [Option.some.injEq] at hf
        subst hf
        simp only [ValOf, ht] at hu hv
        obtain ⟨cu, rfl, h1⟩ := hu
        obtain ⟨cv, rfl, h2⟩ := hv
        have loop : ∀ (k o : Nat) (b : Bool), (o + k) * m.length ≤ xs.length → (o + k) * m.length ≤ ys.length → eqCells (List.replicate k m).flatten (xs.drop (o * m.length)) (ys.drop (o * m.length)) = some b → o * m.length + k * m.length = xs.length → o * m.length + k * m.length = ys.length →
         (forIn (List.range' o k) ((none, ()) : Option Bool × Unit) fun (i : Nat) (__s : Option Bool × Unit) => do
           let __do_lift ← part e cu (i * m.length)
           let __do_lift_1 ← part e cv (i * m.length)
           let __do_lift ← Op.equalIn D e __do_lift __do_lift_1
           if (!__do_lift) = true then pure (ForInStep.done (some false, ()))
            else pure (ForInStep.yield (none, ()))).run P w = .ok (if b = true then (none, ()) else (some false, ())) w := by
         intro k
         induction k with
         | zero =>
          intro o b _ _ hb _ _
          have hl2 := eqCells_len hb
          simp at hl2
          have e1 : xs.drop (o * m.length) = [] := List.eq_nil_of_length_eq_zero (by simpa using hl2.1)
          have e2 : ys.drop (o * m.length) = [] := List.eq_nil_of_length_eq_zero (by simpa using hl2.2)
          rw [e1, e2] at hb
          simp [eqCells] at hb
          subst hb
          simp
         | succ k ihk =>
          intro o b hle hle2 hb hx hy
          have eo : (o + (k + 1)) * m.length = o * m.length + k * m.length + m.length := by rw [Nat.add_mul, Nat.add_mul]; omega
          have eo1 : (o + 1) * m.length = o * m.length + m.length := by rw [Nat.add_mul]; omega
          have ek : (k + 1) * m.length = k * m.length + m.length := by rw [Nat.add_mul]; omega
          rw [List.replicate_succ, List.flatten_cons] at hb
          obtain ⟨b1, b2, g1, g2, rfl⟩ := eqCells_append hb
          obtain ⟨u1, p1, q1⟩ := run_part_flat (w := w) hsz hm h1 (o := o * m.length) (by omega)
          obtain ⟨v1, p2, q2⟩ := run_part_flat (w := w) hsz hm h2 (o := o * m.length) (by omega)
          have he := ih e m hm D (by omega) u1 v1 _ _ b1 q1 q2 g1
          rw [List.drop_drop, List.drop_drop, ← eo1] at g2
          have hrest := ihk (o + 1) b2 (by rw [Nat.add_mul]; omega) (by rw [Nat.add_mul]; omega) g2 (by omega) (by omega)
          simp only [List.range'_succ, List.forIn_cons, Sem.run_bind, p1, p2, he, Result.andThen]
          cases b1 with
          | false => simp
          | true =>
           simp only [Bool.not_true, Bool.false_eq_true, if_false, Sem.run_pure, Bool.true_and]
           exact hrest
        have hfl : (List.replicate n m).flatten.length = n * m.length := by simp
        rw [hfl] at hlen
        have hl := loop n 0 b (by rw [Nat.zero_add]; omega) (by rw [Nat.zero_add]; omega) (by simpa using hb) (by omega) (by omega)
        simp only [Sem.run_bind, run_under ht, Result.andThen, run_size hsz]
        rw [Std.Legacy.Range.forIn_eq_forIn_range']
        simp only [Std.Legacy.Range.size]
        have e1 : (forIn (List.range' 0 ((n - 0 + 1 - 1) / 1) 1) ((none, ()) : Option Bool × Unit) fun (i : Nat) (__s : Option Bool × Unit) => do
              let __do_lift ← part e cu (i * m.length)
              let __do_lift_1 ← part e cv (i * m.length)
              let __do_lift ← Op.equalIn D e __do_lift __do_lift_1
              if (!__do_lift) = true then pure (ForInStep.done (some false, ()))
               else pure (ForInStep.yield (none, ()))).run P w = .ok (if b = true then (none, ()) else (some false, ())) w := by
         have : (n - 0 + 1 - 1) / 1 = n := by omega
         rw [this]; exact hl
        rw [e1]
        cases b <;> rfl
      · simp at hf
    · simp at hf
  · simp at hf
theorem tk_agg {t : TypeId} {sh : List Bool} (h : tkOf P t = some (.agg sh)) : flatShape P 9 t = some sh ∧ P.eqGuardType P.depth t = false ∧ ((∃ fs, P.underlying t = some (.struct fs)) ∨ ∃ n e, P.underlying t = some (.array n e)) := by
 unfold tkOf at h
 split at h <;> try (simp at h; done)
 · rename_i fs hu
   split at h
   · rename_i s hs
     split at h
     · rename_i hg
       simp at h; subst h
       exact ⟨hs, hg, .inl ⟨fs, hu⟩⟩
     · simp at h
   · simp at h
 · rename_i n e hu
   split at h
   · rename_i s hs
     split at h
     · rename_i hg
       simp at h; subst h
       exact ⟨hs, hg, .inr ⟨n, e, hu⟩⟩
     · simp at h
   · simp at h
theorem agg_ok {op : BinOp} {t : TypeId} {x y : Operand} : ∀ sh xs ys b, tkOf P t = some (.agg sh) → eqCells sh xs ys = some b → ∀ u v, VR φ (.agg xs) u → VR φ (.agg ys) v →
 (op = .eql ∨ op = .neq → (eqGuard op t x y u v).run P w = .ok () w) ∧ (Op.equal t u v).run P w = .ok b w := by
 intro sh xs ys b ht hb u v hu hv
 obtain ⟨h1, h2, h3⟩ := tk_agg ht
 cases hu with
 | agg g1 g2 =>
  cases hv with
  | agg g3 g4 =>
   refine ⟨fun hop => ?_, ?_⟩
   · have e0 : Sem.run P program w = .ok P w := rfl
     rcases hop with rfl | rfl <;> simp [eqGuard, e0, h2, Result.andThen]
   · refine equal_flat (φ := φ) 9 t sh h1 10000 (by decide) _ _ xs ys b ?_ ?_ hb
     · rcases h3 with ⟨fs, h3⟩ | ⟨n, e, h3⟩
       · simp only [ValOf, h3]; exact ⟨_, rfl, VRs.of_arr g1 g2⟩
       · simp only [ValOf, h3]; exact ⟨_, rfl, VRs.of_arr g1 g2⟩
     · rcases h3 with ⟨fs, h3⟩ | ⟨n, e, h3⟩
       · simp only [ValOf, h3]; exact ⟨_, rfl, VRs.of_arr g3 g4⟩
       · simp only [ValOf, h3]; exact ⟨_, rfl, VRs.of_arr g3 g4⟩
end
end Go.Proofs.Ytnmdadadjneaiaa.Abs
