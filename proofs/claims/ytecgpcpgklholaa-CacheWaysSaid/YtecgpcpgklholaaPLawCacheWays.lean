/- CacheWays holds: whatever the arguments, the call answers true and they read as before. No further conditions. -/
import Derived.Test.YtecgpcpgklholaaRows
import Derived.Test.YtecgpcpgklholaaZArgs
import Derived.Test.YtecgpcpgklholaaLibD
import Derived.WalkKit
import Derived.ProofKit
import Derived.OpenShut
import Derived.ShutString
import Derived.ChangeOld
import Derived.Below
import Derived.SizedLaws
namespace Go.Proofs.Ytecgpcpgklholaa.cacheWays
open Go.ChangeShapes Go.WideShapes Go.ChangeAt Go.RowKit
open Go.ChangeMaps (open_string shut_string)
set_option linter.unusedVariables false
theorem own : ownKnob Try.prog.godebug = none := by kernel_rfl
theorem mixed : Try.prog.follows .mixedOrders = true := by kernel_rfl
theorem laid : laidOutB Try.prog = true := by kernel_rfl
theorem reads : ∀ t ∈ [3, 3, 3, 22], Try.prog.readableRec t = true ∧ t < Try.prog.types.size := by
  intro t ht
  cases ht with
  | head => exact ⟨by kernel_rfl, of_decide_eq_true (by kernel_rfl)⟩
  | tail _ ht =>
    cases ht with
    | head => exact ⟨by kernel_rfl, of_decide_eq_true (by kernel_rfl)⟩
    | tail _ ht =>
      cases ht with
      | head => exact ⟨by kernel_rfl, of_decide_eq_true (by kernel_rfl)⟩
      | tail _ ht =>
        cases ht with
        | head => exact ⟨by kernel_rfl, of_decide_eq_true (by kernel_rfl)⟩
        | tail _ ht =>
          cases ht
set_option maxRecDepth 100000 in
theorem lifted (os : Os) (started : os.Started) (H : Type) (enc : TypeId × Value → H) :
    ReturnsInHanded {} Try.checked os 8 .any (Rows.cacheWaysSpec.pre6 enc Try.prog Try.f8 Rows.cacheWaysRow.domain false) (Rows.cacheWaysSpec.post enc Try.prog Try.f8 false true false false) := by
  refine returnsInHanded_of_change_sized (C := Try.checked) own started (by kernel_rfl) Try.func8
    (ChangeSpec.witness6 (enc := enc) (C := Try.checked) false ⟨#[], #[.int .i64 0, .int .i64 0, .int .i64 0, .slice none 0 0], []⟩ 48 (by kernel_rfl) (by kernel_rfl) (by kernel_rfl) (by kernel_rfl)) ?_
  intro W base args ds gs before hval0 hW hcnd hsz0 _
  have hval : ∀ (j : Nat) t v, Try.f8.params[j]? = some t → args[j]? = some v → Value.okWide Try.prog W .any base t v := hval0
  have hW' := hW
  obtain ⟨p, q, hA0, hV, rfl, hfz, hnd⟩ := hW
  have hA : DataW.TrodAll enc Try.prog W 0 (fun _ => true) true Try.f8.params.toList args.toList ds p := hA0
  rw [Try.params8] at hA hval
  obtain ⟨v0, vs0, d0, ds0, p0, q0, hargs, rfl, rfl, h0, r0⟩ := trodAll_cons hA
  obtain ⟨v1, vs1, d1, ds1, p1, q1, rfl, rfl, rfl, h1, r1⟩ := trodAll_cons r0
  obtain ⟨v2, vs2, d2, ds2, p2, q2, rfl, rfl, rfl, h2, r2⟩ := trodAll_cons r1
  obtain ⟨v3, vs3, d3, ds3, p3, q3, rfl, rfl, rfl, h3, r3⟩ := trodAll_cons r2
  obtain ⟨rfl, rfl, rfl⟩ := trodAll_nil r3
  obtain rfl : args = #[v0, v1, v2, v3] := by cases args; simp_all
  obtain ⟨rfl, rfl⟩ := trodVars_none hV
  obtain ⟨f0, t0⟩ := Abs.arg_one Try.underlying3 rfl (hval 0 3 v0 rfl rfl) h0
  obtain ⟨x0, e0⟩ := Go.Proofs.Ytecgpcpgklholaa.K.ty_int t0
  obtain ⟨f1, t1⟩ := Abs.arg_one Try.underlying3 rfl (hval 1 3 v1 rfl rfl) h1
  obtain ⟨x1, e1⟩ := Go.Proofs.Ytecgpcpgklholaa.K.ty_int t1
  obtain ⟨f2, t2⟩ := Abs.arg_one Try.underlying3 rfl (hval 2 3 v2 rfl rfl) h2
  obtain ⟨x2, e2⟩ := Go.Proofs.Ytecgpcpgklholaa.K.ty_int t2
  obtain ⟨f3, t3⟩ := Abs.arg_one Try.underlying22 rfl (hval 3 22 v3 rfl rfl) h3
  obtain ⟨s3, n3, l3, e3, t3⟩ := Go.Proofs.Ytecgpcpgklholaa.K.ty_ints t3
  obtain ⟨h', he⟩ := Go.Proofs.Ytecgpcpgklholaa.Z.cacheWays_ok x0 x1 x2 t3
  rw [← e0, ← e1, ← e2, ← e3] at he
  have key := Abs.calls_true (P := Try.prog) (T := Go.Proofs.Ytecgpcpgklholaa.Z.T0) mixed (Go.Proofs.Ytecgpcpgklholaa.Z.primsOk) he (args := [v0, v1, v2, v3]) (Abs.argsAV_vr W [v0, v1, v2, v3]) (Abs.simW W) (Abs.roW W)
  refine key.mono fun e W' ⟨he, bel⟩ => ?_
  subst he
  have hA2 := Abs.trodAll_below laid bel reads hA
  exact ⟨_, rfl, _, _, _, [], _, [], hW', trodAll_mk1 (shut_bool Try.underlying4 _), hA2, rfl, bel.frame _, fun h => by cases h⟩
theorem over : Rows.cacheWaysRow.holds Try.pinned (OpenSpec.ofChange Rows.cacheWaysSpec) :=
  OpenClaim.holds_of_wide 8 Try.f8 rfl rfl rfl rfl rfl rfl rfl ⟨rfl, rfl, rfl, rfl, rfl⟩ rfl rfl rfl rfl rfl (by kernel_rfl) Try.func8 (by kernel_rfl)
    (of_decide_eq_true (by kernel_rfl)) (by unfold Func.isWrapper; first | (rw [if_pos (by decide +kernel)]; kernel_rfl) | (rw [if_neg (by decide +kernel)]; exact ⟨rfl, rfl⟩))
    (fun os started H enc _ => lifted os started H enc)
theorem proved : Rows.CacheWaysSaid := over
#print axioms proved
end Go.Proofs.Ytecgpcpgklholaa.cacheWays
namespace Go.Proofs.Ytecgpcpgklholaa
/-- The row, under a short name, for the claim. -/
theorem cacheWays_holds : Rows.CacheWaysSaid := cacheWays.proved
end Go.Proofs.Ytecgpcpgklholaa
