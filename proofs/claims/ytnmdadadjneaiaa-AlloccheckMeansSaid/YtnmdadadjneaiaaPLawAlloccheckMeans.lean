/- AlloccheckMeans holds: whatever the arguments, the call answers true and they read as before. No further conditions. -/
import Derived.Test.YtnmdadadjneaiaaRows
import Derived.Test.YtnmdadadjneaiaaDTopM
import Derived.Test.YtnmdadadjneaiaaLibD
import Derived.WalkKit
import Derived.ProofKit
import Derived.OpenShut
import Derived.ShutString
import Derived.ChangeOld
import Derived.Below
import Derived.SizedLaws
namespace Go.Proofs.Ytnmdadadjneaiaa.alloccheckMeans
open Go.ChangeShapes Go.WideShapes Go.ChangeAt Go.RowKit
open Go.ChangeMaps (open_string shut_string)
set_option linter.unusedVariables false
theorem own : ownKnob Try.prog.godebug = none := by kernel_rfl
theorem mixed : Try.prog.follows .mixedOrders = true := by kernel_rfl
theorem laid : laidOutB Try.prog = true := by kernel_rfl
theorem reads : ∀ t ∈ [25, 36, 22], Try.prog.readableRec t = true ∧ t < Try.prog.types.size := by
 intro t ht
 cases ht with
 | head => exact ⟨by kernel_rfl, of_decide_eq_true (by kernel_rfl)⟩
 | tail _ ht =>
  cases ht with
  | head => exact ⟨by kernel_rfl, of_decide_eq_true (by kernel_rfl)⟩
  | tail _ ht =>
   cases ht with
   | head => exact ⟨by kernel_rfl, of_decide_eq_true (by kernel_rfl)⟩
   | tail _ ht =>
    cases ht
set_option maxRecDepth 100000 in
theorem lifted (os : Os) (started : os.Started) (H : Type) (enc : TypeId × Value → H) :
 ReturnsInHanded {} Try.checked os 7 .any (Rows.alloccheckMeansSpec.pre6 enc Try.prog Try.f7 Rows.alloccheckMeansRow.domain false) (Rows.alloccheckMeansSpec.post enc Try.prog Try.f7 false true false false) := by
 refine returnsInHanded_of_change_sized (C := Try.checked) own started (by kernel_rfl) Try.func7
  (ChangeSpec.witness6 (enc := enc) (C := Try.checked) false ⟨#[], #[.agg #[.int .i64 0, .slice none 0 0, .int .i64 0, .slice none 0 0], .agg #[.slice none 0 0, .slice none 0 0, .int .i64 0], .slice none 0 0], []⟩ 144 (by kernel_rfl) (by kernel_rfl) (by kernel_rfl) (by kernel_rfl)) ?_
 intro W base args ds gs before hval0 hW hcnd hsz0 _
 have hval : ∀ (j : Nat) t v, Try.f7.params[j]? = some t → args[j]? = some v → Value.okWide Try.prog W .any base t v := hval0
 have hW' := hW
 obtain ⟨p, q, hA0, hV, rfl, hfz, hnd⟩ := hW
 have hA : DataW.TrodAll enc Try.prog W 0 (fun _ => true) true Try.f7.params.toList args.toList ds p := hA0
 rw [Try.params7] at hA hval
 obtain ⟨v0, vs0, d0, ds0, p0, q0, hargs, rfl, rfl, h0, r0⟩ := trodAll_cons hA
 obtain ⟨v1, vs1, d1, ds1, p1, q1, rfl, rfl, rfl, h1, r1⟩ := trodAll_cons r0
 obtain ⟨v2, vs2, d2, ds2, p2, q2, rfl, rfl, rfl, h2, r2⟩ := trodAll_cons r1
 obtain ⟨rfl, rfl, rfl⟩ := trodAll_nil r2
 obtain rfl : args = #[v0, v1, v2] := by cases args; simp_all
 obtain ⟨rfl, rfl⟩ := trodVars_none hV
 obtain ⟨l0, f0, e0, t0⟩ := Abs.args_agg Try.underlying25 (hval 0 25 v0 rfl rfl) h0 (Abs.weight_at hsz0 (i := 0) (by rw [Try.params7]; rfl) rfl)
 obtain ⟨x0, rfl, r0', b0'⟩ := Go.Proofs.Ytnmdadadjneaiaa.D.tys_vfn t0
 obtain ⟨l1, f1, e1, t1⟩ := Abs.args_agg Try.underlying36 (hval 1 36 v1 rfl rfl) h1 (Abs.weight_at hsz0 (i := 1) (by rw [Try.params7]; rfl) rfl)
 obtain ⟨x1, rfl, r1'⟩ := Go.Proofs.Ytnmdadadjneaiaa.D.tys_alloc t1
 obtain ⟨f2, t2⟩ := Abs.args_one Try.underlying22 rfl (hval 2 22 v2 rfl rfl) h2 (Abs.weight_at hsz0 (i := 2) (by rw [Try.params7]; rfl) rfl)
 obtain ⟨ss2', ll2', e2, vs2', b2'⟩ := Go.Proofs.Ytnmdadadjneaiaa.D.one_ints t2
 obtain ⟨h', he⟩ := Go.Proofs.Ytnmdadadjneaiaa.D.means_ok r0' b0' r1' vs2' b2'
 rw [← e0, ← e1, ← e2] at he
 have key := Abs.calls_true (P := Try.prog) (T := Go.Proofs.Ytnmdadadjneaiaa.D.T0) mixed (Go.Proofs.Ytnmdadadjneaiaa.D.primsOk) he (args := [v0, v1, v2]) (Abs.argsAV_vr W [v0, v1, v2]) (Abs.simW W) (Abs.roW W)
 refine key.mono fun e W' ⟨he, bel⟩ => ?_
 subst he
 have hA2 := Abs.trodAll_below laid bel reads hA
 exact ⟨_, rfl, _, _, _, [], _, [], hW', trodAll_mk1 (shut_bool Try.underlying4 _), hA2, rfl, bel.frame _, fun h => by cases h⟩
theorem over : Rows.alloccheckMeansRow.holds Try.pinned (OpenSpec.ofChange Rows.alloccheckMeansSpec) :=
 OpenClaim.holds_of_wide 7 Try.f7 rfl rfl rfl rfl rfl rfl rfl ⟨rfl, rfl, rfl, rfl, rfl⟩ rfl rfl rfl rfl rfl (by kernel_rfl) Try.func7 (by kernel_rfl)
  (of_decide_eq_true (by kernel_rfl)) (by unfold Func.isWrapper; first | (rw [if_pos (by decide +kernel)]; kernel_rfl) | (rw [if_neg (by decide +kernel)]; exact ⟨rfl, rfl⟩))
  (fun os started H enc _ => lifted os started H enc)
theorem proved : Rows.AlloccheckMeansSaid := over
#print axioms proved
end Go.Proofs.Ytnmdadadjneaiaa.alloccheckMeans
namespace Go.Proofs.Ytnmdadadjneaiaa
theorem alloccheckMeans_holds : Rows.AlloccheckMeansSaid := alloccheckMeans.proved
end Go.Proofs.Ytnmdadadjneaiaa
