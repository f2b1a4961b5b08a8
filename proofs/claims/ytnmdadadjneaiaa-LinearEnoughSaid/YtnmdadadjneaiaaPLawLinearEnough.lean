/- LinearEnough holds: whatever the arguments, the call answers true and they read as before. No further conditions. -/
import Derived.Test.YtnmdadadjneaiaaRows
import Derived.Test.YtnmdadadjneaiaaDTopL
import Derived.Test.YtnmdadadjneaiaaLibD
import Derived.WalkKit
import Derived.ProofKit
import Derived.OpenShut
import Derived.ShutString
import Derived.ChangeOld
import Derived.Below
import Derived.SizedLaws
namespace Go.Proofs.Ytnmdadadjneaiaa.linearEnough
open Go.ChangeShapes Go.WideShapes Go.ChangeAt Go.RowKit
open Go.ChangeMaps (open_string shut_string)
set_option linter.unusedVariables false
theorem own : ownKnob Try.prog.godebug = none := by kernel_rfl
theorem mixed : Try.prog.follows .mixedOrders = true := by kernel_rfl
theorem laid : laidOutB Try.prog = true := by kernel_rfl
theorem reads : ∀ t ∈ [25, 3], Try.prog.readableRec t = true ∧ t < Try.prog.types.size := by
 intro t ht
 cases ht with
 | head => exact ⟨by kernel_rfl, of_decide_eq_true (by kernel_rfl)⟩
 | tail _ ht =>
  cases ht with
  | head => exact ⟨by kernel_rfl, of_decide_eq_true (by kernel_rfl)⟩
  | tail _ ht =>
   cases ht
set_option maxRecDepth 100000 in
theorem lifted (os : Os) (started : os.Started) (H : Type) (enc : TypeId × Value → H) :
 ReturnsInHanded {} Try.checked os 3 .any (Rows.linearEnoughSpec.pre6 enc Try.prog Try.f3 Rows.linearEnoughRow.domain false) (Rows.linearEnoughSpec.post enc Try.prog Try.f3 false true false false) := by
 refine returnsInHanded_of_change_sized (C := Try.checked) own started (by kernel_rfl) Try.func3
  (ChangeSpec.witness6 (enc := enc) (C := Try.checked) false ⟨#[], #[.agg #[.int .i64 0, .slice none 0 0, .int .i64 0, .slice none 0 0], .int .i64 0], []⟩ 72 (by kernel_rfl) (by kernel_rfl) (by kernel_rfl) (by kernel_rfl)) ?_
 intro W base args ds gs before hval0 hW hcnd hsz0 _
 have hval : ∀ (j : Nat) t v, Try.f3.params[j]? = some t → args[j]? = some v → Value.okWide Try.prog W .any base t v := hval0
 have hW' := hW
 obtain ⟨p, q, hA0, hV, rfl, hfz, hnd⟩ := hW
 have hA : DataW.TrodAll enc Try.prog W 0 (fun _ => true) true Try.f3.params.toList args.toList ds p := hA0
 rw [Try.params3] at hA hval
 obtain ⟨v0, vs0, d0, ds0, p0, q0, hargs, rfl, rfl, h0, r0⟩ := trodAll_cons hA
 obtain ⟨v1, vs1, d1, ds1, p1, q1, rfl, rfl, rfl, h1, r1⟩ := trodAll_cons r0
 obtain ⟨rfl, rfl, rfl⟩ := trodAll_nil r1
 obtain rfl : args = #[v0, v1] := by cases args; simp_all
 obtain ⟨rfl, rfl⟩ := trodVars_none hV
 obtain ⟨l0, f0, e0, t0⟩ := Abs.args_agg Try.underlying25 (hval 0 25 v0 rfl rfl) h0 (Abs.weight_at hsz0 (i := 0) (by rw [Try.params3]; rfl) rfl)
 obtain ⟨x0, rfl, r0', b0'⟩ := Go.Proofs.Ytnmdadadjneaiaa.D.tys_vfn t0
 obtain ⟨f1, t1⟩ := Abs.args_one Try.underlying3 rfl (hval 1 3 v1 rfl rfl) h1 (Abs.weight_at hsz0 (i := 1) (by rw [Try.params3]; rfl) rfl)
 obtain ⟨x1, e1⟩ := Go.Proofs.Ytnmdadadjneaiaa.D.one_intL t1
 obtain ⟨h', he⟩ := Go.Proofs.Ytnmdadadjneaiaa.D.linearEnough_ok r0' b0' x1
 rw [← e0, ← e1] at he
 have key := Abs.calls_true (P := Try.prog) (T := Go.Proofs.Ytnmdadadjneaiaa.D.T0) mixed (Go.Proofs.Ytnmdadadjneaiaa.D.primsOk) he (args := [v0, v1]) (Abs.argsAV_vr W [v0, v1]) (Abs.simW W) (Abs.roW W)
 refine key.mono fun e W' ⟨he, bel⟩ => ?_
 subst he
 have hA2 := Abs.trodAll_below laid bel reads hA
 exact ⟨_, rfl, _, _, _, [], _, [], hW', trodAll_mk1 (shut_bool Try.underlying4 _), hA2, rfl, bel.frame _, fun h => by cases h⟩
theorem over : Rows.linearEnoughRow.holds Try.pinned (OpenSpec.ofChange Rows.linearEnoughSpec) :=
 OpenClaim.holds_of_wide 3 Try.f3 rfl rfl rfl rfl rfl rfl rfl ⟨rfl, rfl, rfl, rfl, rfl⟩ rfl rfl rfl rfl rfl (by kernel_rfl) Try.func3 (by kernel_rfl)
  (of_decide_eq_true (by kernel_rfl)) (by unfold Func.isWrapper; first | (rw [if_pos (by decide +kernel)]; kernel_rfl) | (rw [if_neg (by decide +kernel)]; exact ⟨rfl, rfl⟩))
  (fun os started H enc _ => lifted os started H enc)
theorem proved : Rows.LinearEnoughSaid := over
#print axioms proved
end Go.Proofs.Ytnmdadadjneaiaa.linearEnough
namespace Go.Proofs.Ytnmdadadjneaiaa
theorem linearEnough_holds : Rows.LinearEnoughSaid := linearEnough.proved
end Go.Proofs.Ytnmdadadjneaiaa
