/- The rules: the smallest function's allocations (by evaluation), and slices.Insert of a range. -/
import Derived.Test.YtnmdadadjneaiaaDPrim0
import Derived.Test.YtnmdadadjneaiaaConDl
set_option linter.unusedVariables false
set_option maxRecDepth 100000
namespace Go.Proofs.Ytnmdadadjneaiaa.D
open Go Go.Proofs.Ytnmdadadjneaiaa.Abs Go.Proofs
noncomputable def T0 : Prims := fun f => if f = 8 then some factP else if f = 76 then some rngP else none
theorem primsOk : PrimsOk Try.prog T0 := by
 intro f p hp al ah v ah' h
 unfold T0 at hp
 split at hp
 · rename_i hf
   subst hf
   cases hp
   exact fact_ok (by kernel_rfl) (primsNone _) alloc_fact al ah v ah' h
 · split at hp
   · rename_i hf
     subst hf
     cases hp
     exact rngP_ok al ah v ah' h
   · cases hp
theorem EV_prim {P : Program} {T : Prims} {f : FuncId} {p : List AV → Heap → Res} (hT : T f = some p) (args : List AV) (ah : Heap) : EV P T f args ah = p args ah := by
 refine Option.same fun r => ?_
 rw [EV_iff]
 constructor
 · rintro ⟨k, h⟩
   cases k with
   | zero => simp [evalF] at h
   | succ k =>
    simp only [evalF, hT] at h
    exact h
 · intro h
   refine ⟨1, ?_⟩
   simp only [evalF, hT]
   exact h
end Go.Proofs.Ytnmdadadjneaiaa.D
