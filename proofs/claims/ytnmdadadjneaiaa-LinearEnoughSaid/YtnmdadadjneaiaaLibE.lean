/- That a function without arguments answers true, found by running the evaluator on an empty heap, as a rule for it. -/
import Derived.Test.YtnmdadadjneaiaaLibD
namespace Go.Proofs.Ytnmdadadjneaiaa.Abs
open Go
def isT : Option (AV × Heap) → Bool
 | some (.bool true, _) => true
 | _ => false
def factP : List AV → Heap → Res
 | [], h => some (.bool true, h)
 | _, _ => none
theorem isT_some {o : Option (AV × Heap)} (h : isT o = true) : ∃ h', o = some (.bool true, h') := by
 match o, h with
 | some (.bool true, h'), _ => exact ⟨h', rfl⟩
theorem fact_ok {P : Program} {T : Prims} (hm : P.follows .mixedOrders = true) (hT : PrimsOk P T) {k : Nat} {f : FuncId} (he : isT (evalF P T k f [] []) = true) (as : List AV) (ah : Heap) (v : AV) (ah' : Heap)
 (h : factP as ah = some (v, ah')) : CallOk P f as ah v ah' := by
 obtain ⟨h1, he⟩ := isT_some he
 obtain ⟨hE, hk⟩ := evalF_ok hm hT k f [] [] _ h1 he
 match as, h with
 | [], h =>
  cases h
  refine ⟨hE, fun φ w args hv S => ?_⟩
  have ha : args = [] := List.length_eq_zero_iff.1 hv.1.symm
  subst ha
  refine Calls.mono (hk phi0 w [] ⟨rfl, fun i x y hx => by simp at hx⟩ (sim0 w)) fun e w' hh => ?_
  obtain ⟨vc, rfl, φ', hvr, E⟩ := hh
  cases hvr
  have keep : ∀ n x, w.heap[n]? = some x → w'.heap[n]? = some x := fun n x hx =>
   (E.fr.block n (Array.getElem?_eq_some_iff.1 hx).1 (ro0.owns n)).trans hx
  refine ⟨_, rfl, φ, .bool _, Eff.same ⟨fun b r hb => ?_, fun b c hb => ?_, S.dead, S.inj⟩ ⟨E.fr.os, E.fr.tape, E.fr.output, E.fr.size, fun n hn _ => E.fr.block n hn (ro0.owns n)⟩ (Nat.le_refl _)⟩
  · obtain ⟨c, cc, ty, fz, h1, h2, h3⟩ := S.live b r hb
    exact ⟨c, cc, ty, fz, h1, keep _ _ h2, h3⟩
  · obtain ⟨es, ces, clk, h1, h2, h3⟩ := S.map b c hb
    exact ⟨es, ces, clk, h1, keep _ _ h2, h3⟩
end Go.Proofs.Ytnmdadadjneaiaa.Abs
/- The evaluator in a form that the kernel runs well: values, lists and heaps are written out as they come. -/
set_option linter.unusedVariables false
namespace Go.Proofs.Ytnmdadadjneaiaa.Abs
open Go
section
variable {R : Type}
def fN : Nat → (Nat → Option R) → Option R
 | 0, K => K 0
 | n + 1, K => K (n + 1)
def fI : Int → (Int → Option R) → Option R
 | .ofNat n, K => fN n fun n => K (.ofNat n)
 | .negSucc n, K => fN n fun n => K (.negSucc n)
def fA : Ad → (Ad → Option R) → Option R
 | ⟨b, v, o⟩, K => fN b fun b => fN v fun v => fN o fun o => K ⟨b, v, o⟩
def fB : Bool → (Bool → Option R) → Option R
 | true, K => K true
 | false, K => K false
theorem fN_eq (n : Nat) (K : Nat → Option R) : fN n K = K n := by cases n <;> rfl
theorem fI_eq (n : Int) (K : Int → Option R) : fI n K = K n := by cases n <;> simp only [fI, fN_eq]
theorem fA_eq (a : Ad) (K : Ad → Option R) : fA a K = K a := by cases a; simp only [fA, fN_eq]
theorem fB_eq (b : Bool) (K : Bool → Option R) : fB b K = K b := by cases b <;> rfl
mutual
def fV : AV → (AV → Option R) → Option R
 | .int k n, K => fI n fun n => K (.int k n)
 | .bool b, K => fB b fun b => K (.bool b)
 | .ptr (some a), K => fA a fun a => K (.ptr (some a))
 | .ptr none, K => K (.ptr none)
 | .sl (.pos a) n, K => fA a fun a => fN n fun n => K (.sl (.pos a) n)
 | .sl .nil n, K => fN n fun n => K (.sl .nil n)
 | .sl .lost n, K => fN n fun n => K (.sl .lost n)
 | .sl .z n, K => fN n fun n => K (.sl .z n)
 | .agg l, K => fL l fun l => K (.agg l)
 | .tup l, K => fL l fun l => K (.tup l)
 | .fn f x y, K => fL x fun x => fL y fun y => K (.fn f x y)
 | .str s, K => K (.str s)
 | .map r, K => K (.map r)
 | .nilFn, K => K .nilFn
 | .nilIface, K => K .nilIface
 | .opq, K => K .opq
def fL : List AV → (List AV → Option R) → Option R
 | [], K => K []
 | x :: l, K => fV x fun x => fL l fun l => K (x :: l)
end
mutual
theorem fV_eq : ∀ (x : AV) (K : AV → Option R), fV x K = K x
 | .int k n, K => by simp only [fV, fI_eq]
 | .bool b, K => by simp only [fV, fB_eq]
 | .ptr (some a), K => by simp only [fV, fA_eq]
 | .ptr none, K => by simp only [fV]
 | .sl (.pos a) n, K => by simp only [fV, fA_eq, fN_eq]
 | .sl .nil n, K => by simp only [fV, fN_eq]
 | .sl .lost n, K => by simp only [fV, fN_eq]
 | .sl .z n, K => by simp only [fV, fN_eq]
 | .agg l, K => by simp only [fV, fL_eq l]
 | .tup l, K => by simp only [fV, fL_eq l]
 | .fn f x y, K => by simp only [fV, fL_eq x, fL_eq y]
 | .str s, K => by simp only [fV]
 | .map r, K => by simp only [fV]
 | .nilFn, K => by simp only [fV]
 | .nilIface, K => by simp only [fV]
 | .opq, K => by simp only [fV]
theorem fL_eq : ∀ (x : List AV) (K : List AV → Option R), fL x K = K x
 | [], K => by simp only [fL]
 | a :: l, K => by simp only [fL, fV_eq a, fL_eq l]
end
def fBlk : Blk → (Blk → Option R) → Option R
 | .cells c m v, K => fL c fun c => fN v fun v => K (.cells c m v)
 | .gone, K => K .gone
 | .map es, K => K (.map es)
theorem fBlk_eq (b : Blk) (K : Blk → Option R) : fBlk b K = K b := by cases b <;> simp only [fBlk, fL_eq, fN_eq]
def fH : Heap → (Heap → Option R) → Option R
 | [], K => K []
 | b :: l, K => fBlk b fun b => fH l fun l => K (b :: l)
theorem fH_eq : ∀ (h : Heap) (K : Heap → Option R), fH h K = K h
 | [], K => rfl
 | b :: l, K => by simp only [fH, fBlk_eq, fH_eq l]
def fS : SV → (SV → Option R) → Option R
 | .g gs bc v, K => fB bc fun bc => fV v fun v => K (.g gs bc v)
 | .lref gs bc d off, K => fB bc fun bc => fN off fun off => K (.lref gs bc d off)
 | .box cs, K => fL cs fun cs => K (.box cs)
 | .any, K => K .any
theorem fS_eq (x : SV) (K : SV → Option R) : fS x K = K x := by cases x <;> simp only [fS, fB_eq, fV_eq, fL_eq, fN_eq]
def fUp : Up → (Up → Option R) → Option R
 | none, K => K none
 | some (d, cs), K => fL cs fun cs => K (some (d, cs))
theorem fUp_eq (x : Up) (K : Up → Option R) : fUp x K = K x := by
 match x with
 | none => rfl
 | some (d, cs) => simp only [fUp, fL_eq]
noncomputable def oX_move (C : Cal) (ρ : Nat → SV) (ah : Heap) (gs : List (Nat × Bool)) (bc : Bool) (p_x : AX) (K : SV → Heap → Up → Option R) : {y // opK C ρ ah gs bc (.move p_x) K = y} := ⟨_, by simp only [opK, opA]; rfl⟩
noncomputable def oX_pick (C : Cal) (ρ : Nat → SV) (ah : Heap) (gs : List (Nat × Bool)) (bc : Bool) (p_c : AX) (p_a : AX) (p_b : AX) (K : SV → Heap → Up → Option R) : {y // opK C ρ ah gs bc (.pick p_c p_a p_b) K = y} := ⟨_, by simp only [opK, opA]; rfl⟩
noncomputable def oX_boxL (C : Cal) (ρ : Nat → SV) (ah : Heap) (gs : List (Nat × Bool)) (bc : Bool) (p_x : AX) (K : SV → Heap → Up → Option R) : {y // opK C ρ ah gs bc (.boxL p_x) K = y} := ⟨_, by simp only [opK, opA]; rfl⟩
noncomputable def oX_allocL (C : Cal) (ρ : Nat → SV) (ah : Heap) (gs : List (Nat × Bool)) (bc : Bool) (p_z : List AV) (K : SV → Heap → Up → Option R) : {y // opK C ρ ah gs bc (.allocL p_z) K = y} := ⟨_, by simp only [opK, opA]; rfl⟩
noncomputable def oX_boxH (C : Cal) (ρ : Nat → SV) (ah : Heap) (gs : List (Nat × Bool)) (bc : Bool) (p_x : AX) (K : SV → Heap → Up → Option R) : {y // opK C ρ ah gs bc (.boxH p_x) K = y} := ⟨_, by simp only [opK, opA]; rfl⟩
noncomputable def oX_allocH (C : Cal) (ρ : Nat → SV) (ah : Heap) (gs : List (Nat × Bool)) (bc : Bool) (p_z : List AV) (K : SV → Heap → Up → Option R) : {y // opK C ρ ah gs bc (.allocH p_z) K = y} := ⟨_, by simp only [opK, opA]; rfl⟩
noncomputable def oX_build (C : Cal) (ρ : Nat → SV) (ah : Heap) (gs : List (Nat × Bool)) (bc : Bool) (p_z : List AV) (p_parts : List (Nat × Nat × AX)) (K : SV → Heap → Up → Option R) : {y // opK C ρ ah gs bc (.build p_z p_parts) K = y} := ⟨_, by simp only [opK, opA]; rfl⟩
noncomputable def oX_buildSl (C : Cal) (ρ : Nat → SV) (ah : Heap) (gs : List (Nat × Bool)) (bc : Bool) (p_z : List AV) (p_es : Nat) (p_parts : List (Nat × AX)) (K : SV → Heap → Up → Option R) : {y // opK C ρ ah gs bc (.buildSl p_z p_es p_parts) K = y} := ⟨_, by simp only [opK, opA]; rfl⟩
noncomputable def oX_load (C : Cal) (ρ : Nat → SV) (ah : Heap) (gs : List (Nat × Bool)) (bc : Bool) (p_s : VS) (p_x : AX) (K : SV → Heap → Up → Option R) : {y // opK C ρ ah gs bc (.load p_s p_x) K = y} := ⟨_, by simp only [opK, opA]; rfl⟩
noncomputable def oX_store (C : Cal) (ρ : Nat → SV) (ah : Heap) (gs : List (Nat × Bool)) (bc : Bool) (p_n : Nat) (p_x : AX) (p_y : AX) (K : SV → Heap → Up → Option R) : {y // opK C ρ ah gs bc (.store p_n p_x p_y) K = y} := ⟨_, by simp only [opK, opA]; rfl⟩
noncomputable def oX_nilCheck (C : Cal) (ρ : Nat → SV) (ah : Heap) (gs : List (Nat × Bool)) (bc : Bool) (p_x : AX) (K : SV → Heap → Up → Option R) : {y // opK C ρ ah gs bc (.nilCheck p_x) K = y} := ⟨_, by simp only [opK, opA]; rfl⟩
noncomputable def oX_bin (C : Cal) (ρ : Nat → SV) (ah : Heap) (gs : List (Nat × Bool)) (bc : Bool) (p_tk : TK) (p_op : BinOp) (p_x : AX) (p_y : AX) (K : SV → Heap → Up → Option R) : {y // opK C ρ ah gs bc (.bin p_tk p_op p_x p_y) K = y} := ⟨_, by simp only [opK, opA]; rfl⟩
noncomputable def oX_un (C : Cal) (ρ : Nat → SV) (ah : Heap) (gs : List (Nat × Bool)) (bc : Bool) (p_op : UnOp) (p_x : AX) (K : SV → Heap → Up → Option R) : {y // opK C ρ ah gs bc (.un p_op p_x) K = y} := ⟨_, by simp only [opK, opA]; rfl⟩
noncomputable def oX_conv (C : Cal) (ρ : Nat → SV) (ah : Heap) (gs : List (Nat × Bool)) (bc : Bool) (p_k : IntKind) (p_x : AX) (K : SV → Heap → Up → Option R) : {y // opK C ρ ah gs bc (.conv p_k p_x) K = y} := ⟨_, by simp only [opK, opA]; rfl⟩
noncomputable def oX_makeFn (C : Cal) (ρ : Nat → SV) (ah : Heap) (gs : List (Nat × Bool)) (bc : Bool) (p_f : FuncId) (p_first : List AX) (p_cap : List AX) (K : SV → Heap → Up → Option R) : {y // opK C ρ ah gs bc (.makeFn p_f p_first p_cap) K = y} := ⟨_, by simp only [opK, opA]; rfl⟩
noncomputable def oX_makeMap (C : Cal) (ρ : Nat → SV) (ah : Heap) (gs : List (Nat × Bool)) (bc : Bool) (K : SV → Heap → Up → Option R) : {y // opK C ρ ah gs bc .makeMap K = y} := ⟨_, by simp only [opK, opA]; rfl⟩
noncomputable def oX_makeSl (C : Cal) (ρ : Nat → SV) (ah : Heap) (gs : List (Nat × Bool)) (bc : Bool) (p_z : List AV) (p_bytes : Nat) (p_len : AX) (p_cap : AX) (K : SV → Heap → Up → Option R) : {y // opK C ρ ah gs bc (.makeSl p_z p_bytes p_len p_cap) K = y} := ⟨_, by simp only [opK, opA]; rfl⟩
noncomputable def oX_slice (C : Cal) (ρ : Nat → SV) (ah : Heap) (gs : List (Nat × Bool)) (bc : Bool) (p_es : Nat) (p_x : AX) (p_lo : Option AX) (p_hi : Option AX) (K : SV → Heap → Up → Option R) : {y // opK C ρ ah gs bc (.slice p_es p_x p_lo p_hi) K = y} := ⟨_, by simp only [opK, opA]; rfl⟩
noncomputable def oX_slice3 (C : Cal) (ρ : Nat → SV) (ah : Heap) (gs : List (Nat × Bool)) (bc : Bool) (p_es : Nat) (p_x : AX) (p_lo : AX) (p_hi : AX) (p_mx : AX) (K : SV → Heap → Up → Option R) : {y // opK C ρ ah gs bc (.slice3 p_es p_x p_lo p_hi p_mx) K = y} := ⟨_, by simp only [opK, opA]; rfl⟩
noncomputable def oX_clear (C : Cal) (ρ : Nat → SV) (ah : Heap) (gs : List (Nat × Bool)) (bc : Bool) (p_z : List AV) (p_x : AX) (K : SV → Heap → Up → Option R) : {y // opK C ρ ah gs bc (.clear p_z p_x) K = y} := ⟨_, by simp only [opK, opA]; rfl⟩
noncomputable def oX_indexS (C : Cal) (ρ : Nat → SV) (ah : Heap) (gs : List (Nat × Bool)) (bc : Bool) (p_x : AX) (p_i : AX) (K : SV → Heap → Up → Option R) : {y // opK C ρ ah gs bc (.indexS p_x p_i) K = y} := ⟨_, by simp only [opK, opA]; rfl⟩
noncomputable def oX_sliceZ (C : Cal) (ρ : Nat → SV) (ah : Heap) (gs : List (Nat × Bool)) (bc : Bool) (p_x : AX) (K : SV → Heap → Up → Option R) : {y // opK C ρ ah gs bc (.sliceZ p_x) K = y} := ⟨_, by simp only [opK, opA]; rfl⟩
noncomputable def oX_fieldAddr (C : Cal) (ρ : Nat → SV) (ah : Heap) (gs : List (Nat × Bool)) (bc : Bool) (p_off : Nat) (p_x : AX) (K : SV → Heap → Up → Option R) : {y // opK C ρ ah gs bc (.fieldAddr p_off p_x) K = y} := ⟨_, by simp only [opK, opA]; rfl⟩
noncomputable def oX_field (C : Cal) (ρ : Nat → SV) (ah : Heap) (gs : List (Nat × Bool)) (bc : Bool) (p_off : Nat) (p_s : VS) (p_x : AX) (K : SV → Heap → Up → Option R) : {y // opK C ρ ah gs bc (.field p_off p_s p_x) K = y} := ⟨_, by simp only [opK, opA]; rfl⟩
noncomputable def oX_indexAddr (C : Cal) (ρ : Nat → SV) (ah : Heap) (gs : List (Nat × Bool)) (bc : Bool) (p_es : Nat) (p_x : AX) (p_i : AX) (K : SV → Heap → Up → Option R) : {y // opK C ρ ah gs bc (.indexAddr p_es p_x p_i) K = y} := ⟨_, by simp only [opK, opA]; rfl⟩
noncomputable def oX_indexArr (C : Cal) (ρ : Nat → SV) (ah : Heap) (gs : List (Nat × Bool)) (bc : Bool) (p_len : Nat) (p_es : Nat) (p_x : AX) (p_i : AX) (K : SV → Heap → Up → Option R) : {y // opK C ρ ah gs bc (.indexArr p_len p_es p_x p_i) K = y} := ⟨_, by simp only [opK, opA]; rfl⟩
noncomputable def oX_index (C : Cal) (ρ : Nat → SV) (ah : Heap) (gs : List (Nat × Bool)) (bc : Bool) (p_len : Nat) (p_es : Nat) (p_s : VS) (p_x : AX) (p_i : AX) (K : SV → Heap → Up → Option R) : {y // opK C ρ ah gs bc (.index p_len p_es p_s p_x p_i) K = y} := ⟨_, by simp only [opK, opA]; rfl⟩
noncomputable def oX_lookup (C : Cal) (ρ : Nat → SV) (ah : Heap) (gs : List (Nat × Bool)) (bc : Bool) (p_z : AV) (p_s : VS) (p_ok : Bool) (p_m : AX) (p_k : AX) (K : SV → Heap → Up → Option R) : {y // opK C ρ ah gs bc (.lookup p_z p_s p_ok p_m p_k) K = y} := ⟨_, by simp only [opK, opA]; rfl⟩
noncomputable def oX_mapUpdate (C : Cal) (ρ : Nat → SV) (ah : Heap) (gs : List (Nat × Bool)) (bc : Bool) (p_m : AX) (p_k : AX) (p_x : AX) (K : SV → Heap → Up → Option R) : {y // opK C ρ ah gs bc (.mapUpdate p_m p_k p_x) K = y} := ⟨_, by simp only [opK, opA]; rfl⟩
noncomputable def oX_extract (C : Cal) (ρ : Nat → SV) (ah : Heap) (gs : List (Nat × Bool)) (bc : Bool) (p_x : AX) (p_i : Nat) (K : SV → Heap → Up → Option R) : {y // opK C ρ ah gs bc (.extract p_x p_i) K = y} := ⟨_, by simp only [opK, opA]; rfl⟩
noncomputable def oX_call (C : Cal) (ρ : Nat → SV) (ah : Heap) (gs : List (Nat × Bool)) (bc : Bool) (p_f : FuncId) (p_args : List AX) (p_rs : List VS) (p_z : AV) (K : SV → Heap → Up → Option R) : {y // opK C ρ ah gs bc (.call p_f p_args p_rs p_z) K = y} := ⟨_, by simp only [opK, opA]; rfl⟩
noncomputable def oX_callV (C : Cal) (ρ : Nat → SV) (ah : Heap) (gs : List (Nat × Bool)) (bc : Bool) (p_f : AX) (p_args : List AX) (p_rs : List VS) (p_z : AV) (K : SV → Heap → Up → Option R) : {y // opK C ρ ah gs bc (.callV p_f p_args p_rs p_z) K = y} := ⟨_, by simp only [opK, opA]; rfl⟩
noncomputable def oX_lenSl (C : Cal) (ρ : Nat → SV) (ah : Heap) (gs : List (Nat × Bool)) (bc : Bool) (p_x : AX) (K : SV → Heap → Up → Option R) : {y // opK C ρ ah gs bc (.lenSl p_x) K = y} := ⟨_, by simp only [opK, opA]; rfl⟩
noncomputable def oX_lenStr (C : Cal) (ρ : Nat → SV) (ah : Heap) (gs : List (Nat × Bool)) (bc : Bool) (p_x : AX) (K : SV → Heap → Up → Option R) : {y // opK C ρ ah gs bc (.lenStr p_x) K = y} := ⟨_, by simp only [opK, opA]; rfl⟩
noncomputable def oX_lenMap (C : Cal) (ρ : Nat → SV) (ah : Heap) (gs : List (Nat × Bool)) (bc : Bool) (p_x : AX) (K : SV → Heap → Up → Option R) : {y // opK C ρ ah gs bc (.lenMap p_x) K = y} := ⟨_, by simp only [opK, opA]; rfl⟩
noncomputable def oX_lenArr (C : Cal) (ρ : Nat → SV) (ah : Heap) (gs : List (Nat × Bool)) (bc : Bool) (p_n : Nat) (K : SV → Heap → Up → Option R) : {y // opK C ρ ah gs bc (.lenArr p_n) K = y} := ⟨_, by simp only [opK, opA]; rfl⟩
noncomputable def oX_append (C : Cal) (ρ : Nat → SV) (ah : Heap) (gs : List (Nat × Bool)) (bc : Bool) (p_z : List AV) (p_es : Nat) (p_bytes : Nat) (p_x : AX) (p_y : AX) (K : SV → Heap → Up → Option R) : {y // opK C ρ ah gs bc (.append p_z p_es p_bytes p_x p_y) K = y} := ⟨_, by simp only [opK, opA]; rfl⟩
noncomputable def oX_copy (C : Cal) (ρ : Nat → SV) (ah : Heap) (gs : List (Nat × Bool)) (bc : Bool) (p_es : Nat) (p_x : AX) (p_y : AX) (K : SV → Heap → Up → Option R) : {y // opK C ρ ah gs bc (.copy p_es p_x p_y) K = y} := ⟨_, by simp only [opK, opA]; rfl⟩
noncomputable def oX_mm (C : Cal) (ρ : Nat → SV) (ah : Heap) (gs : List (Nat × Bool)) (bc : Bool) (p_max : Bool) (p_xs : List AX) (K : SV → Heap → Up → Option R) : {y // opK C ρ ah gs bc (.mm p_max p_xs) K = y} := ⟨_, by simp only [opK, opA]; rfl⟩
noncomputable def opKX (C : Cal) (ρ : Nat → SV) (ah : Heap) (gs : List (Nat × Bool)) (bc : Bool) (k : AK) (K : SV → Heap → Up → Option R) : Option R :=
 match k with
 | .move p_x => (oX_move C ρ ah gs bc p_x K).val
 | .pick p_c p_a p_b => (oX_pick C ρ ah gs bc p_c p_a p_b K).val
 | .boxL p_x => (oX_boxL C ρ ah gs bc p_x K).val
 | .allocL p_z => (oX_allocL C ρ ah gs bc p_z K).val
 | .boxH p_x => (oX_boxH C ρ ah gs bc p_x K).val
 | .allocH p_z => (oX_allocH C ρ ah gs bc p_z K).val
 | .build p_z p_parts => (oX_build C ρ ah gs bc p_z p_parts K).val
 | .buildSl p_z p_es p_parts => (oX_buildSl C ρ ah gs bc p_z p_es p_parts K).val
 | .load p_s p_x => (oX_load C ρ ah gs bc p_s p_x K).val
 | .store p_n p_x p_y => (oX_store C ρ ah gs bc p_n p_x p_y K).val
 | .nilCheck p_x => (oX_nilCheck C ρ ah gs bc p_x K).val
 | .bin p_tk p_op p_x p_y => (oX_bin C ρ ah gs bc p_tk p_op p_x p_y K).val
 | .un p_op p_x => (oX_un C ρ ah gs bc p_op p_x K).val
 | .conv p_k p_x => (oX_conv C ρ ah gs bc p_k p_x K).val
 | .makeFn p_f p_first p_cap => (oX_makeFn C ρ ah gs bc p_f p_first p_cap K).val
 | .makeMap => (oX_makeMap C ρ ah gs bc K).val
 | .makeSl p_z p_bytes p_len p_cap => (oX_makeSl C ρ ah gs bc p_z p_bytes p_len p_cap K).val
 | .slice p_es p_x p_lo p_hi => (oX_slice C ρ ah gs bc p_es p_x p_lo p_hi K).val
 | .slice3 p_es p_x p_lo p_hi p_mx => (oX_slice3 C ρ ah gs bc p_es p_x p_lo p_hi p_mx K).val
 | .clear p_z p_x => (oX_clear C ρ ah gs bc p_z p_x K).val
 | .indexS p_x p_i => (oX_indexS C ρ ah gs bc p_x p_i K).val
 | .sliceZ p_x => (oX_sliceZ C ρ ah gs bc p_x K).val
 | .fieldAddr p_off p_x => (oX_fieldAddr C ρ ah gs bc p_off p_x K).val
 | .field p_off p_s p_x => (oX_field C ρ ah gs bc p_off p_s p_x K).val
 | .indexAddr p_es p_x p_i => (oX_indexAddr C ρ ah gs bc p_es p_x p_i K).val
 | .indexArr p_len p_es p_x p_i => (oX_indexArr C ρ ah gs bc p_len p_es p_x p_i K).val
 | .index p_len p_es p_s p_x p_i => (oX_index C ρ ah gs bc p_len p_es p_s p_x p_i K).val
 | .lookup p_z p_s p_ok p_m p_k => (oX_lookup C ρ ah gs bc p_z p_s p_ok p_m p_k K).val
 | .mapUpdate p_m p_k p_x => (oX_mapUpdate C ρ ah gs bc p_m p_k p_x K).val
 | .extract p_x p_i => (oX_extract C ρ ah gs bc p_x p_i K).val
 | .call p_f p_args p_rs p_z => (oX_call C ρ ah gs bc p_f p_args p_rs p_z K).val
 | .callV p_f p_args p_rs p_z => (oX_callV C ρ ah gs bc p_f p_args p_rs p_z K).val
 | .lenSl p_x => (oX_lenSl C ρ ah gs bc p_x K).val
 | .lenStr p_x => (oX_lenStr C ρ ah gs bc p_x K).val
 | .lenMap p_x => (oX_lenMap C ρ ah gs bc p_x K).val
 | .lenArr p_n => (oX_lenArr C ρ ah gs bc p_n K).val
 | .append p_z p_es p_bytes p_x p_y => (oX_append C ρ ah gs bc p_z p_es p_bytes p_x p_y K).val
 | .copy p_es p_x p_y => (oX_copy C ρ ah gs bc p_es p_x p_y K).val
 | .mm p_max p_xs => (oX_mm C ρ ah gs bc p_max p_xs K).val
theorem opKX_eq (C : Cal) (ρ : Nat → SV) (ah : Heap) (gs : List (Nat × Bool)) (bc : Bool) (k : AK) (K : SV → Heap → Up → Option R) : opKX C ρ ah gs bc k K = opK C ρ ah gs bc k K := by
 cases k with
 | move p_x => exact (oX_move C ρ ah gs bc p_x K).property.symm
 | pick p_c p_a p_b => exact (oX_pick C ρ ah gs bc p_c p_a p_b K).property.symm
 | boxL p_x => exact (oX_boxL C ρ ah gs bc p_x K).property.symm
 | allocL p_z => exact (oX_allocL C ρ ah gs bc p_z K).property.symm
 | boxH p_x => exact (oX_boxH C ρ ah gs bc p_x K).property.symm
 | allocH p_z => exact (oX_allocH C ρ ah gs bc p_z K).property.symm
 | build p_z p_parts => exact (oX_build C ρ ah gs bc p_z p_parts K).property.symm
 | buildSl p_z p_es p_parts => exact (oX_buildSl C ρ ah gs bc p_z p_es p_parts K).property.symm
 | load p_s p_x => exact (oX_load C ρ ah gs bc p_s p_x K).property.symm
 | store p_n p_x p_y => exact (oX_store C ρ ah gs bc p_n p_x p_y K).property.symm
 | nilCheck p_x => exact (oX_nilCheck C ρ ah gs bc p_x K).property.symm
 | bin p_tk p_op p_x p_y => exact (oX_bin C ρ ah gs bc p_tk p_op p_x p_y K).property.symm
 | un p_op p_x => exact (oX_un C ρ ah gs bc p_op p_x K).property.symm
 | conv p_k p_x => exact (oX_conv C ρ ah gs bc p_k p_x K).property.symm
 | makeFn p_f p_first p_cap => exact (oX_makeFn C ρ ah gs bc p_f p_first p_cap K).property.symm
 | makeMap => exact (oX_makeMap C ρ ah gs bc K).property.symm
 | makeSl p_z p_bytes p_len p_cap => exact (oX_makeSl C ρ ah gs bc p_z p_bytes p_len p_cap K).property.symm
 | slice p_es p_x p_lo p_hi => exact (oX_slice C ρ ah gs bc p_es p_x p_lo p_hi K).property.symm
 | slice3 p_es p_x p_lo p_hi p_mx => exact (oX_slice3 C ρ ah gs bc p_es p_x p_lo p_hi p_mx K).property.symm
 | clear p_z p_x => exact (oX_clear C ρ ah gs bc p_z p_x K).property.symm
 | indexS p_x p_i => exact (oX_indexS C ρ ah gs bc p_x p_i K).property.symm
 | sliceZ p_x => exact (oX_sliceZ C ρ ah gs bc p_x K).property.symm
 | fieldAddr p_off p_x => exact (oX_fieldAddr C ρ ah gs bc p_off p_x K).property.symm
 | field p_off p_s p_x => exact (oX_field C ρ ah gs bc p_off p_s p_x K).property.symm
 | indexAddr p_es p_x p_i => exact (oX_indexAddr C ρ ah gs bc p_es p_x p_i K).property.symm
 | indexArr p_len p_es p_x p_i => exact (oX_indexArr C ρ ah gs bc p_len p_es p_x p_i K).property.symm
 | index p_len p_es p_s p_x p_i => exact (oX_index C ρ ah gs bc p_len p_es p_s p_x p_i K).property.symm
 | lookup p_z p_s p_ok p_m p_k => exact (oX_lookup C ρ ah gs bc p_z p_s p_ok p_m p_k K).property.symm
 | mapUpdate p_m p_k p_x => exact (oX_mapUpdate C ρ ah gs bc p_m p_k p_x K).property.symm
 | extract p_x p_i => exact (oX_extract C ρ ah gs bc p_x p_i K).property.symm
 | call p_f p_args p_rs p_z => exact (oX_call C ρ ah gs bc p_f p_args p_rs p_z K).property.symm
 | callV p_f p_args p_rs p_z => exact (oX_callV C ρ ah gs bc p_f p_args p_rs p_z K).property.symm
 | lenSl p_x => exact (oX_lenSl C ρ ah gs bc p_x K).property.symm
 | lenStr p_x => exact (oX_lenStr C ρ ah gs bc p_x K).property.symm
 | lenMap p_x => exact (oX_lenMap C ρ ah gs bc p_x K).property.symm
 | lenArr p_n => exact (oX_lenArr C ρ ah gs bc p_n K).property.symm
 | append p_z p_es p_bytes p_x p_y => exact (oX_append C ρ ah gs bc p_z p_es p_bytes p_x p_y K).property.symm
 | copy p_es p_x p_y => exact (oX_copy C ρ ah gs bc p_es p_x p_y K).property.symm
 | mm p_max p_xs => exact (oX_mm C ρ ah gs bc p_max p_xs K).property.symm
end
def fRes (r : Res) : Res := match r with
 | some (v, h) => fV v fun v => fH h fun h => some (v, h)
 | none => none
theorem fRes_eq (r : Res) : fRes r = r := by
 match r with
 | some (v, h) => simp only [fRes, fV_eq, fH_eq]
 | none => rfl
end Go.Proofs.Ytnmdadadjneaiaa.Abs
/- The evaluator for the kernel, with an environment of the slots that are in use alone. -/
set_option linter.unusedVariables false
namespace Go.Proofs.Ytnmdadadjneaiaa.Abs
open Go
abbrev Sp := List (Nat × SV)
section
variable {R : Type} {r : R}
def getA : Sp → Nat → SV
 | [], _ => .any
 | (k, x) :: l, t => match Nat.beq k t with | true => x | false => getA l t
def setA : Sp → Nat → SV → (Sp → Option R) → Option R
 | [], d, x, K => K [(d, x)]
 | (k, y) :: l, d, x, K => match Nat.beq k d with
  | true => K ((k, x) :: l)
  | false => setA l d x fun l' => K ((k, y) :: l')
def okA (bx : Bool) (d : Nat) : Sp → Bool
 | [] => true
 | (_, .g gs _ _) :: l => noG d gs && okA bx d l
 | (_, .lref gs _ e _) :: l => noG d gs && (match bx with | true => !(Nat.beq d e) | false => true) && okA bx d l
 | _ :: l => okA bx d l
def restA (m : Nat) : Sp → (Sp → Option R) → Option R
 | [], K => K []
 | (k, x) :: l, K => match Nat.testBit m k with
  | true => restA m l fun l' => K ((k, x) :: l')
  | false => restA m l K
def scrA : Sp → (Sp → Option R) → Option R
 | [], K => K []
 | (k, .g (_ :: _) _ _) :: l, K => scrA l fun l' => K ((k, .any) :: l')
 | (k, .lref (_ :: _) _ _ _) :: l, K => scrA l fun l' => K ((k, .any) :: l')
 | x :: l, K => scrA l fun l' => K (x :: l')
structure Rep (n : Nat) (m : Sp) (env : List SV) : Prop where
 len : env.length = n
 get : ∀ t, getA m t = env.getD t .any
theorem nbeq {k t : Nat} (h : ¬ k = t) : Nat.beq k t = false := by
 cases h' : Nat.beq k t with
 | true => exact absurd (Nat.eq_of_beq_eq_true h') h
 | false => rfl
theorem setA_get : ∀ (m : Sp) (d : Nat) (x : SV) (K : Sp → Option R), ∃ m', setA m d x K = K m' ∧ ∀ t, getA m' t = if t = d then x else getA m t
 | [], d, x, K => ⟨[(d, x)], rfl, fun t => by
  simp only [getA]
  by_cases h : t = d
  · subst h; simp
  · rw [if_neg h]
    have : Nat.beq d t = false := nbeq (fun e => h e.symm)
    rw [this]⟩
 | (k, y) :: l, d, x, K => by
  by_cases h : k = d
  · subst h
    refine ⟨(k, x) :: l, by simp [setA], fun t => ?_⟩
    simp only [getA]
    by_cases h : t = k
    · subst h; simp
    · rw [if_neg h]
      have : Nat.beq k t = false := nbeq (fun e => h e.symm)
      rw [this]
  · have hb : Nat.beq k d = false := nbeq h
    obtain ⟨m', e1, e2⟩ := setA_get l d x fun l' => K ((k, y) :: l')
    refine ⟨(k, y) :: m', by simp only [setA, hb]; exact e1, fun t => ?_⟩
    simp only [getA, e2]
    by_cases h2 : k = t
    · subst h2
      rw [if_neg h]
      simp [h]
    · have : Nat.beq k t = false := nbeq h2
      rw [this]
theorem okA_get {bx : Bool} {d : Nat} : ∀ {m : Sp}, okA bx d m = true → ∀ t, envOk bx d [getA m t] = true
 | [], _, t => rfl
 | (k, x) :: l, h, t => by
  have hl : okA bx d l = true := by
   cases x <;> simp [okA] at h <;> simp_all
  simp only [getA]
  cases Nat.beq k t with
  | true =>
   cases x <;> simp [okA] at h <;> simp [envOk]
   · exact h.1
   · exact h.1
  | false => exact okA_get hl t
theorem envOk_all {bx : Bool} {d : Nat} : ∀ {env : List SV}, (∀ t, envOk bx d [env.getD t .any] = true) → envOk bx d env = true
 | [], _ => rfl
 | x :: l, h => by
  have h0 := h 0
  have hl := envOk_all (env := l) fun t => by have := h (t + 1); simpa using this
  simp at h0
  cases x <;> simp [envOk] at h0 <;> simp [envOk, hl, h0]
theorem rep_set {n : Nat} {m m' : Sp} {env : List SV} {d : Nat} {x : SV} (H : Rep n m env) (hd : d < n) (h : ∀ t, getA m' t = if t = d then x else getA m t) : Rep n m' (env.set d x) := by
 refine ⟨by rw [List.length_set]; exact H.len, fun t => ?_⟩
 rw [h, H.get]
 simp only [List.getD, List.getElem?_set]
 have := H.len
 by_cases e : t = d
 · subst e
   simp [hd, this]
 · rw [if_neg e, if_neg (fun h => e h.symm)]
theorem restA_get (b : Nat) : ∀ (m : Sp) (K : Sp → Option R), ∃ m', restA b m K = K m' ∧ ∀ t, getA m' t = if Nat.testBit b t = true then getA m t else .any
 | [], K => ⟨[], rfl, fun t => by simp [getA]⟩
 | (k, x) :: l, K => by
  cases hb : Nat.testBit b k with
  | true =>
   obtain ⟨m', e1, e2⟩ := restA_get b l fun l' => K ((k, x) :: l')
   refine ⟨(k, x) :: m', by simp only [restA, hb]; exact e1, fun t => ?_⟩
   simp only [getA, e2]
   by_cases h : k = t
   · subst h; simp [hb]
   · have : Nat.beq k t = false := nbeq h
     rw [this]
  | false =>
   obtain ⟨m', e1, e2⟩ := restA_get b l K
   refine ⟨m', by simp only [restA, hb]; exact e1, fun t => ?_⟩
   rw [e2]
   simp only [getA]
   by_cases h : k = t
   · subst h; simp [hb]
   · have : Nat.beq k t = false := nbeq h
     rw [this]
theorem restrE_get (b : Nat) : ∀ (env : List SV) (i t : Nat), (restrE b i env).getD t .any = if Nat.testBit b (i + t) = true then env.getD t .any else .any
 | [], i, t => by simp [restrE]
 | x :: l, i, t => by
  cases t with
  | zero => simp only [restrE, List.getD_cons_zero, Nat.add_zero]; cases Nat.testBit b i <;> simp
  | succ t =>
   simp only [restrE, List.getD_cons_succ]
   rw [restrE_get b l (i + 1) t, show i + 1 + t = i + (t + 1) by omega]
theorem restrE_len (b : Nat) : ∀ (env : List SV) (i : Nat), (restrE b i env).length = env.length
 | [], i => rfl
 | x :: l, i => by simp [restrE, restrE_len b l]
theorem rep_restr {n b : Nat} {m m' : Sp} {env : List SV} (H : Rep n m env) (h : ∀ t, getA m' t = if Nat.testBit b t = true then getA m t else .any) : Rep n m' (restrE b 0 env) :=
 ⟨(restrE_len _ _ _).trans H.len, fun t => by rw [h, H.get, restrE_get, Nat.zero_add]⟩
def scr1 : SV → SV
 | .g (_ :: _) _ _ => .any
 | .lref (_ :: _) _ _ _ => .any
 | x => x
theorem scrA_get : ∀ (m : Sp) (K : Sp → Option R), ∃ m', scrA m K = K m' ∧ ∀ t, getA m' t = scr1 (getA m t)
 | [], K => ⟨[], rfl, fun t => rfl⟩
 | (k, x) :: l, K => by
  obtain ⟨m', e1, e2⟩ := scrA_get l fun l' => K ((k, scr1 x) :: l')
  refine ⟨(k, scr1 x) :: m', ?_, fun t => ?_⟩
  · rw [← e1]
    cases x with
    | any => rfl
    | box cs => rfl
    | g gs bc v => cases gs <;> rfl
    | lref gs bc d off => cases gs <;> rfl
  · simp only [getA, e2]
    cases Nat.beq k t <;> rfl
theorem scrubE_get : ∀ (env : List SV) (t : Nat), (scrubE env).getD t .any = scr1 (env.getD t .any)
 | [], t => by simp [scrubE, scr1]
 | x :: l, t => by
  have hx : scrubE (x :: l) = scr1 x :: scrubE l := by
   cases x with
   | any => rfl
   | box cs => rfl
   | g gs bc v => cases gs <;> rfl
   | lref gs bc d off => cases gs <;> rfl
  rw [hx]
  cases t with
  | zero => rfl
  | succ t => simp only [List.getD_cons_succ]; exact scrubE_get l t
theorem scrubE_len : ∀ (env : List SV), (scrubE env).length = env.length
 | [] => rfl
 | x :: l => by
  have := scrubE_len l
  cases x with
  | any => simp [scrubE, this]
  | box cs => simp [scrubE, this]
  | g gs bc v => cases gs <;> simp [scrubE, this]
  | lref gs bc d off => cases gs <;> simp [scrubE, this]
def dstY (n : Nat) (dst : Option Nat) (sv : SV) (m : Sp) : Bool := match dst with
 | none => !(isBoxS sv)
 | some d => okA (isBoxS sv) d m && noG d (gsOf sv) && (!(isBoxS (getA m d))) && Nat.blt d n
theorem dstY_ok {n : Nat} {dst : Option Nat} {sv : SV} {m : Sp} {env : List SV} (H : Rep n m env) (h : dstY n dst sv m = true) : dstOk dst sv env = true ∧ ∀ d, dst = some d → d < n := by
 cases dst with
 | none => exact ⟨h, fun d e => by cases e⟩
 | some d =>
  simp only [dstY, Bool.and_eq_true] at h
  obtain ⟨⟨⟨h1, h2⟩, h3⟩, h4⟩ := h
  have hb : envOk (isBoxS sv) d env = true := envOk_all fun t => by rw [← H.get]; exact okA_get h1 t
  refine ⟨?_, fun d' e => by cases e; rw [Nat.blt_eq] at h4; exact h4⟩
  simp only [dstOk, Bool.and_eq_true]
  rw [← H.get, H.len]
  exact ⟨⟨⟨hb, h2⟩, h3⟩, h4⟩
def putY (m : Sp) (d : Option Nat) (x : SV) (K : Sp → Option R) : Option R := match d with | none => K m | some d => setA m d x K
def updY (n : Nat) (m : Sp) (u : Up) (K : Sp → Option R) : Option R := match u with | none => K m | some (d, cs) => match Nat.blt d n with | true => setA m d (.box cs) K | false => none
noncomputable def stepY (C : Cal) (n : Nat) (o : AOp) (m : Sp) (ah : Heap) (K : Sp → Heap → Option R) : Option R :=
 match guardOf (getA m) o.guard with
 | none => none
 | some (gs, bc) => opKX C (getA m) ah gs bc o.k fun sv h up => fS sv fun sv => fUp up fun up =>
  match dstY n o.dst sv m with
  | true => reChk (getA m) ah h up o.re (putY m o.dst sv fun m => updY n m up fun m => K m h)
  | false => none
theorem stepY_le {C : Cal} {n : Nat} {o : AOp} {m : Sp} {env : List SV} {ah : Heap} {K : Sp → Heap → Option R} {K' : St → Option R} (H : Rep n m env)
 (hk : ∀ m' env' h, Rep n m' env' → K m' h = some r → K' ⟨env', h⟩ = some r) (h : stepY C n o m ah K = some r) : stepOp C o ⟨env, ah⟩ K' = some r := by
 have hρ : getA m = fun t => env.getD t .any := funext H.get
 unfold stepY at h
 unfold stepOp
 simp only [opKX_eq, fS_eq, fUp_eq, hρ] at h
 dsimp only
 cases hg : guardOf (fun t => env.getD t .any) o.guard with
 | none => rw [hg] at h; cases h
 | some p =>
  obtain ⟨gs, bc⟩ := p
  rw [hg] at h
  dsimp only at h ⊢
  obtain ⟨sv, h', up, h1, h2⟩ := opK_nat h
  rw [h2]
  cases hd : dstY n o.dst sv m with
  | false => rw [hd] at h1; cases h1
  | true =>
   obtain ⟨d1, d2⟩ := dstY_ok H hd
   rw [hd] at h1
   rw [d1]
   dsimp only at h1 ⊢
   obtain ⟨r1, r2⟩ := reChk_nat h1
   rw [r2]
   have fin : ∀ (m1 : Sp) (e1 : List SV), Rep n m1 e1 → updY n m1 up (fun m => K m h') = some r → K' ⟨upd e1 up, h'⟩ = some r := by
    intro m1 e1 H1 hu
    match up, hu with
    | none, hu => exact hk _ _ _ H1 hu
    | some (d, cs), hu =>
     simp only [updY] at hu
     cases hb : Nat.blt d n with
     | false => rw [hb] at hu; cases hu
     | true =>
      rw [hb] at hu
      rw [Nat.blt_eq] at hb
      obtain ⟨m2, q1, q2⟩ := setA_get m1 d (.box cs) fun m => K m h'
      dsimp only at hu
      rw [q1] at hu
      exact hk _ _ _ (rep_set H1 hb q2) hu
   cases hdst : o.dst with
   | none =>
    rw [hdst] at r1
    exact fin m env H r1
   | some d =>
    rw [hdst] at r1
    simp only [putY] at r1
    obtain ⟨m2, q1, q2⟩ := setA_get m d sv fun m => updY n m up fun m => K m h'
    rw [q1] at r1
    exact fin m2 (env.set d sv) (rep_set H (d2 d hdst) q2) r1
noncomputable def opsY (C : Cal) (n : Nat) : List AOp → Sp → Heap → (Sp → Heap → Option R) → Option R
 | [], m, h, K => K m h
 | o :: l, m, h, K => stepY C n o m h fun m h => opsY C n l m h K
theorem opsY_le {C : Cal} {n : Nat} : ∀ (l : List AOp) {m : Sp} {env : List SV} {ah : Heap} {K : Sp → Heap → Option R} {K' : St → Option R}, Rep n m env →
 (∀ m' env' h, Rep n m' env' → K m' h = some r → K' ⟨env', h⟩ = some r) → opsY C n l m ah K = some r → evalOps C l ⟨env, ah⟩ K' = some r
 | [], m, env, ah, K, K', H, hk, h => hk _ _ _ H h
 | o :: l, m, env, ah, K, K', H, hk, h => by
  simp only [opsY] at h
  simp only [evalOps]
  exact stepY_le H (fun m' env' h' H' hh => opsY_le l H' hk hh) h
abbrev KY (R : Type) := AE → Sp → Heap → Option R
def loopY (B : Sp → Heap → KY R → Option R) (kin kout : Nat) : Nat → Sp → Heap → KY R → Option R
 | 0, _, _, _ => none
 | k + 1, m, h, Q => restA kin m fun m => B m h fun x m h => match x with
  | .normal => loopY B kin kout k m h Q
  | .exit id => restA kout m fun m => Q (.exit id) m h
  | .ret => Q .ret m h
noncomputable def evalY (C : Cal) (n k : Nat) : AC → Sp → Heap → KY R → Option R
 | .skip, m, h, Q => Q .normal m h
 | .ops sc l, m, h, Q => opsY C n l m h fun m h => match sc with | true => scrA m fun m => Q .normal m h | false => Q .normal m h
 | .seq a b, m, h, Q => evalY C n k a m h fun x m h => match x with
  | .normal => evalY C n k b m h Q
  | .exit id => Q (.exit id) m h
  | .ret => Q .ret m h
 | .cond t a b, m, h, Q => match getV [] (getA m) t with
  | some (.bool c) => if c = true then evalY C n k a m h Q else evalY C n k b m h Q
  | _ => none
 | .block id c, m, h, Q => evalY C n k c m h fun x m h => match x with
  | .normal => Q .normal m h
  | .exit j => (match Nat.beq j id with | true => Q .normal m h | false => Q (.exit j) m h)
  | .ret => Q .ret m h
 | .loop kin kout c, m, h, Q => loopY (fun m h Q => fH h fun h => evalY C n k c m h Q) kin kout k m h Q
 | .exit id, m, h, Q => Q (.exit id) m h
 | .ret, m, h, Q => Q .ret m h
 | .mask b, m, h, Q => restA b m fun m => Q .normal m h
 | .join b, m, h, Q => restA b m fun m => Q .normal m h
 | .bad, _, _, _ => none
def RQ (n : Nat) (r : R) (Qy : KY R) (Q : AE → St → Option R) : Prop := ∀ x m env h, Rep n m env → Qy x m h = some r → Q x ⟨env, h⟩ = some r
theorem loopY_le {n : Nat} {B : Sp → Heap → KY R → Option R} {B' : St → (AE → St → Option R) → Option R} (hB : ∀ m env h Qy Q, Rep n m env → RQ n r Qy Q → B m h Qy = some r → B' ⟨env, h⟩ Q = some r) (kin kout : Nat) :
 ∀ (k : Nat) m env h Qy Q, Rep n m env → RQ n r Qy Q → loopY B kin kout k m h Qy = some r → loopN B' kin kout k ⟨env, h⟩ Q = some r := by
 intro k
 induction k with
 | zero => intro m env h Qy Q H hq hh; cases hh
 | succ k ih =>
  intro m env h Qy Q H hq hh
  simp only [loopY] at hh
  obtain ⟨m1, q1, q2⟩ := restA_get kin m fun m => B m h fun x m h => match x with
   | .normal => loopY B kin kout k m h Qy
   | .exit id => restA kout m fun m => Qy (.exit id) m h
   | .ret => Qy .ret m h
  have hh' := q1.symm.trans hh
  simp only [loopN]
  refine hB m1 _ h _ _ (rep_restr H q2) ?_ hh'
  intro x m2 e2 h2 H2 hx
  cases x with
  | normal => exact ih _ _ _ _ _ H2 hq hx
  | exit id =>
   obtain ⟨m3, q3, q4⟩ := restA_get kout m2 fun m => Qy (.exit id) m h2
   exact hq _ _ _ _ (rep_restr H2 q4) (q3.symm.trans hx)
  | ret => exact hq _ _ _ _ H2 hx
theorem evalY_le (C : Cal) (n k : Nat) : ∀ (c : AC) m env h (Qy : KY R) Q, Rep n m env → RQ n r Qy Q → evalY C n k c m h Qy = some r → evalCode C k c ⟨env, h⟩ Q = some r := by
 intro c
 induction c with
 | skip => intro m env h Qy Q H hq hh; exact hq _ _ _ _ H hh
 | ops sc l =>
  intro m env h Qy Q H hq hh
  simp only [evalY] at hh
  simp only [evalCode]
  refine opsY_le l H (fun m' env' h' H' hx => ?_) hh
  cases sc with
  | true =>
   obtain ⟨m3, q3, q4⟩ := scrA_get m' fun m => Qy .normal m h'
   exact hq _ _ _ _ ⟨(scrubE_len _).trans H'.len, fun t => by rw [q4, H'.get, scrubE_get]⟩ (q3.symm.trans hx)
  | false => exact hq _ _ _ _ H' hx
 | seq a b iha ihb =>
  intro m env h Qy Q H hq hh
  simp only [evalY] at hh
  rw [evalCode_seq]
  refine iha _ _ _ _ _ H ?_ hh
  intro x m2 e2 h2 H2 hx
  cases x with
  | normal => exact ihb _ _ _ _ _ H2 hq hx
  | exit id => exact hq _ _ _ _ H2 hx
  | ret => exact hq _ _ _ _ H2 hx
 | cond t a b iha ihb =>
  intro m env h Qy Q H hq hh
  simp only [evalY, show getA m = fun t => env.getD t .any from funext H.get] at hh
  simp only [evalCode]
  cases hv : getV [] (fun t => env.getD t .any) t with
  | none => rw [hv] at hh; cases hh
  | some v =>
   rw [hv] at hh
   cases v with
   | bool cc =>
    cases cc with
    | true => exact iha _ _ _ _ _ H hq hh
    | false => exact ihb _ _ _ _ _ H hq hh
   | _ => cases hh
 | block id c ih =>
  intro m env h Qy Q H hq hh
  simp only [evalY] at hh
  simp only [evalCode]
  refine ih _ _ _ _ _ H ?_ hh
  intro x m2 e2 h2 H2 hx
  cases x with
  | normal => exact hq _ _ _ _ H2 hx
  | exit j =>
   dsimp only at hx ⊢
   cases hb : Nat.beq j id with
   | true => rw [hb] at hx; exact hq _ _ _ _ H2 hx
   | false => rw [hb] at hx; exact hq _ _ _ _ H2 hx
  | ret => exact hq _ _ _ _ H2 hx
 | loop kin kout c ih =>
  intro m env h Qy Q H hq hh
  simp only [evalY, fH_eq] at hh
  simp only [evalCode]
  exact loopY_le (fun m env h Qy Q H hq hh => ih m env h Qy Q H hq hh) kin kout k m env h Qy Q H hq hh
 | exit id => intro m env h Qy Q H hq hh; exact hq _ _ _ _ H hh
 | ret => intro m env h Qy Q H hq hh; exact hq _ _ _ _ H hh
 | mask b =>
  intro m env h Qy Q H hq hh
  obtain ⟨m3, q3, q4⟩ := restA_get b m fun m => Qy .normal m h
  exact hq _ _ _ _ (rep_restr H q4) (q3.symm.trans hh)
 | join b =>
  intro m env h Qy Q H hq hh
  obtain ⟨m3, q3, q4⟩ := restA_get b m fun m => Qy .normal m h
  exact hq _ _ _ _ (rep_restr H q4) (q3.symm.trans hh)
 | bad => intro m env h Qy Q H hq hh; cases hh
end
noncomputable def retY (ρ : Nat → SV) (ah : Heap) : List RV → (List AV → Res) → Res
 | [], K => K []
 | .tmp t :: l, K => match getV [] ρ (.tmp t) with
  | some a => retY ρ ah l fun as => K (a :: as)
  | none => none
 | .cell t s :: l, K => opA ρ ah [] true (.load s (.tmp t)) fun sv => match sv with
  | .g _ _ a => retY ρ ah l fun as => K (a :: as)
  | _ => none
theorem retY_eq (σ : St) : ∀ (l : List RV) (K : List AV → Res), retY (fun t => σ.env.getD t .any) σ.ah l K = retG σ l K
 | [], K => rfl
 | .tmp t :: l, K => by
  simp only [retY, retG, retY_eq σ l]
  rfl
 | .cell t s :: l, K => by
  simp only [retY, retG, retY_eq σ l]
  rfl
noncomputable def retZ (rs : List RV) (ρ : Nat → SV) (ah : Heap) : Res :=
 retY ρ ah rs fun l => match l with
  | [a] => some (a, ah)
  | l => some (.tup l, ah)
theorem retZ_eq (rs : List RV) (σ : St) : retZ rs (fun t => σ.env.getD t .any) σ.ah = retV rs σ := by
 unfold retZ retV
 rw [retY_eq]
 rfl
def initA : Nat → List AV → Sp
 | _, [] => []
 | i, a :: l => (i, .v a) :: initA (i + 1) l
def lenA : List AV → Nat → Nat
 | [], n => n
 | _ :: l, n => lenA l (n - 1) + 1
theorem init_len : ∀ (l : List AV) (n : Nat), (initEnv l n).length = lenA l n
 | [], n => by simp [initEnv, lenA]
 | a :: l, n => by simp [initEnv, lenA, init_len l]
theorem initA_get : ∀ (l : List AV) (i n t : Nat), getA (initA i l) (i + t) = (initEnv l n).getD t .any
 | [], i, n, t => by simp [initA, initEnv, getA, List.getD, List.getElem?_replicate]; split <;> rfl
 | a :: l, i, n, t => by
  simp only [initA, getA, initEnv]
  cases t with
  | zero => simp
  | succ t =>
   rw [nbeq (by omega), List.getD_cons_succ, ← initA_get l (i + 1) (n - 1) t, show i + 1 + t = i + (t + 1) by omega]
noncomputable def runY (C : Cal) (k : Nat) (fn : AFn) (args : List AV) (ah : Heap) : Res :=
 fL args fun args => fH ah fun ah => fN (lenA args fn.nt) fun n => evalY C n k fn.body (initA 0 args) ah fun x m h => match x with
  | .normal => fRes (retZ fn.res (getA m) h)
  | .ret => fRes (retZ fn.res (getA m) h)
  | .exit _ => none
theorem runY_le {C : Cal} {k : Nat} {fn : AFn} {args : List AV} {ah : Heap} {r : AV × Heap} (h : runY C k fn args ah = some r) : runFn C k fn args ah = some r := by
 unfold runY at h
 unfold runFn
 simp only [fL_eq, fH_eq, fN_eq, fRes_eq] at h
 refine evalY_le C (lenA args fn.nt) k fn.body (initA 0 args) _ ah _ _ ⟨init_len _ _, fun t => ?_⟩ ?_ h
 · have := initA_get args 0 fn.nt t
   rw [Nat.zero_add] at this
   exact this
 · intro x m env h' H hx
   have e := retZ_eq fn.res ⟨env, h'⟩
   have hρ : getA m = fun t => env.getD t .any := funext H.get
   cases x with
   | normal => dsimp only at hx ⊢; rw [← e]; rw [hρ] at hx; exact hx
   | ret => dsimp only at hx ⊢; rw [← e]; rw [hρ] at hx; exact hx
   | exit id => cases hx
noncomputable def evalZ (code : FuncId → Option AFn) (T : Prims) : Nat → FuncId → List AV → Heap → Res
 | 0, _, _, _ => none
 | k + 1, f, args, ah => match T f with
  | some p => p args ah
  | none => match code f with
   | none => none
   | some fn => runY (evalZ code T k) k fn args ah
theorem evalZ_le {P : Program} {T : Prims} {code : FuncId → Option AFn} (hc : ∀ f c, code f = some c → cFn P f = some c) : ∀ (k : Nat), CLe (evalZ code T k) (evalF P T k) := by
 intro k
 induction k with
 | zero => intro f as ah r h; simp [evalZ] at h
 | succ k ih =>
  intro f as ah r h
  simp only [evalZ] at h
  simp only [evalF]
  cases hT : T f with
  | some p => rw [hT] at h; exact h
  | none =>
   rw [hT] at h
   cases hf : code f with
   | none => rw [hf] at h; cases h
   | some fn =>
    rw [hf] at h
    rw [hc f fn hf]
    exact runFn_mono ih (Nat.le_refl _) (runY_le h)
theorem isT_Z {P : Program} {T : Prims} {code : FuncId → Option AFn} (hc : ∀ f c, code f = some c → cFn P f = some c) {k : Nat} {f : FuncId} (he : isT (evalZ code T k f [] []) = true) : isT (evalF P T k f [] []) = true := by
 obtain ⟨h', h⟩ := isT_some he
 rw [evalZ_le hc k f [] [] _ h]
 rfl
end Go.Proofs.Ytnmdadadjneaiaa.Abs
