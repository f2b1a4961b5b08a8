/- The words in which functions are written out: readers of typed values, blocks, loops. -/
import Derived.Test.YtmfmnbldngfelaaAbsLim
set_option linter.unusedVariables false
set_option linter.unusedSimpArgs false
namespace Go.Proofs.Ytmfmnbldngfelaa.Abs
open Go

section
variable {R : Type}

noncomputable def gI (k : IntKind) (m : Option AV) (bc : Bool) (K : Int → Option R) : Option R := gb bc (m.bind (rI k)) 0 K
noncomputable def gB (m : Option AV) (bc : Bool) (K : Bool → Option R) : Option R := gb bc (m.bind rB) false K
noncomputable def gS (m : Option AV) (bc : Bool) (K : ByteArray → Option R) : Option R := gb bc (m.bind rS) ByteArray.empty K
noncomputable def gP (m : Option AV) (bc : Bool) (K : Option Ad → Option R) : Option R := gb bc (m.bind rP) none K
noncomputable def gL (m : Option AV) (bc : Bool) (K : SA → Nat → Option R) : Option R := gb bc (m.bind rL) (.nil, 0) fun p => K p.1 p.2
noncomputable def gM (m : Option AV) (bc : Bool) (K : Option Nat → Option R) : Option R := gb bc (m.bind rM) none K
noncomputable def gF (m : Option AV) (bc : Bool) (K : AV → Option R) : Option R := gb bc m .nilFn K
noncomputable def gN (m : Option AV) (bc : Bool) (K : AV → Option R) : Option R := gb bc m .nilIface K
/-- The cells of an aggregate. -/
noncomputable def gA (v : AV) (bc : Bool) (K : List AV → Option R) : Option R := gb bc (rA v) [] K
/-- The parts of a tuple. -/
noncomputable def gT (n : Nat) (v : AV) (bc : Bool) (K : List AV → Option R) : Option R := gb bc (rT n v) [] K
noncomputable def gCells (m : Option (List AV)) (bc : Bool) (K : List AV → Option R) : Option R := gb bc m [] K
noncomputable def atP (p : Option Ad) (bc : Bool) (K : Ad → Option R) : Option R := gb bc p ⟨0, 0, 0⟩ K
def newK (h : Heap) (b : Blk) (K : Heap → Option R) : Option R := K (h ++ [b])
def letK {α : Type} (x : α) (K : α → Option R) : Option R := K x
noncomputable def posC (a : SA) (p : Ad → Prop) (K : Option R) : Option R := match a with
  | .pos a => chkC (p a) K
  | _ => K
def askK (b : Bool) (K : Option R) (K' : Option R) : Option R := if b = true then K else K'
def zSA (a : SA) : SA := match a with | .nil => .nil | _ => .z
def callO (b : Bool) (m : Res) (z : AV) (h : Heap) : Res := if b = true then m else some (z, h)
def clrM (ah : Heap) (a : SA) (n : Nat) (z : List AV) : Option Heap := match n with
  | 0 => some ah
  | n => match a with
    | .pos p => stN ah p (repl n z)
    | _ => none
def putM (ah : Heap) (r : Nat) (a v : AV) : Option Heap := match ah[r]? with
  | some (.map es) => (match mapPut a v es with | some es' => some (ah.set r (.map es')) | none => none)
  | _ => none
def mapK (p : Option Nat) (K : Nat → Option R) : Option R := match p with
  | some r => K r
  | none => none
def lookM (ah : Heap) (r : Option Nat) (a : AV) : Option (Option AV) := match r with
  | none => some none
  | some r => match ah[r]? with
    | some (.map es) => mapFind a es
    | _ => none
def lenM (ah : Heap) (r : Option Nat) : Option Nat := match r with
  | none => some 0
  | some r => match ah[r]? with
    | some (.map es) => some es.length
    | _ => none
def cpyM (ah : Heap) (p : SA) (k : Nat) (ys : List AV) : Option Heap := match k with
  | 0 => some ah
  | _ => match p with
    | .pos p => stN ah p ys
    | _ => none
def fnK (v : AV) (K : FuncId → List AV → List AV → Option R) : Option R := match v with
  | .fn f a c => K f a c
  | _ => none
noncomputable def nilFnK (v : AV) (bc : Bool) (K1 : Ad → Option R) (K2 : FuncId → List AV → List AV → Option R) : Option R := match v with
  | .ptr a => gb bc a ⟨0, 0, 0⟩ K1
  | .fn f a b => K2 f a b
  | _ => none

/-- Behind one round of a loop. -/
noncomputable def roundQ (M : Mk) (C : Cal) (c : AC) (kin kout : Nat) (Q : Kont R) : Kont R := loopQ (fun σ Q => restrF kin σ fun σ => loopE (evalE M C c) kin kout σ Q) kout Q

theorem loop_round (C : Cal) (c : AC) (kin kout : Nat) (σ : St) (Q : Kont R) : loopE (evalE mk0 C c) kin kout (restr kin σ) Q = restrF kin σ fun σ => evalE mk0 C c σ (roundQ mk0 C c kin kout Q) :=
  loopE_round (B := fun R => evalE (R := R) mk0 C c) (evalE_nat c)

theorem loop_eqn (C : Cal) (c : AC) (kin kout : Nat) (l : List SV) (h : Heap) (Q : Kont R) {t : Option R} (hr : restrE kin 0 l = l) (aux : (restrF kin ⟨l, h⟩ fun σ => evalE mk0 C c σ (roundQ mk0 C c kin kout Q)) = t) :
    loopE (evalE mk0 C c) kin kout ⟨l, h⟩ Q = t := by
  rw [← aux, ← loop_round]
  unfold restr
  simp only [hr]

theorem join_eqn (k : Kont R) (l : List SV) (h : Heap) {t : Option R} (aux : (forceK tk l fun e => k .normal ⟨e, h⟩) = t) : mk0 R k l h = t := by
  rw [forceK_eq] at aux
  exact aux

/-! ### Readers of what is known -/

variable {bc : Bool} {k : IntKind}
theorem gb_some {α : Type} (x d : α) (K : α → Option R) : gb bc (some x) d K = K x := rfl
theorem gI_of (n : Int) (K : Int → Option R) : gI k (some (.int k n)) bc K = K n := by simp [gI, gb, rI]
theorem gB_of (n : Bool) (K : Bool → Option R) : gB (some (.bool n)) bc K = K n := rfl
theorem gS_of (n : ByteArray) (K : ByteArray → Option R) : gS (some (.str n)) bc K = K n := rfl
theorem gP_of (n : Option Ad) (K : Option Ad → Option R) : gP (some (.ptr n)) bc K = K n := rfl
theorem gL_of (a : SA) (n : Nat) (K : SA → Nat → Option R) : gL (some (.sl a n)) bc K = K a n := rfl
theorem gM_of (n : Option Nat) (K : Option Nat → Option R) : gM (some (.map n)) bc K = K n := rfl
theorem gF_of (n : AV) (K : AV → Option R) : gF (some n) bc K = K n := rfl
theorem gN_of (n : AV) (K : AV → Option R) : gN (some n) bc K = K n := rfl
theorem gA_of (l : List AV) (K : List AV → Option R) : gA (.agg l) bc K = K l := rfl
theorem gT_of (l : List AV) {n : Nat} (hn : l.length = n) (K : List AV → Option R) : gT n (.tup l) bc K = K l := by subst hn; simp [gT, gb, rT]
theorem gCells_of (l : List AV) (K : List AV → Option R) : gCells (some l) bc K = K l := rfl
theorem atP_of (a : Ad) (K : Ad → Option R) : atP (some a) bc K = K a := rfl
theorem chk_of {p : Prop} [Decidable p] (hp : p) (K : Option R) : chk p K = K := if_pos hp
theorem chkC_of {p : Prop} (hp : p) (K : Option R) : chkC p K = K := if_pos hp

end
end Go.Proofs.Ytmfmnbldngfelaa.Abs
