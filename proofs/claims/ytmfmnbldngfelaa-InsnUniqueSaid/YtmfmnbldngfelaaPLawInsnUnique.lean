/- InsnUnique holds: whatever the instruction, the call answers true and the instruction reads as before. No further conditions. -/
import Derived.Test.YtmfmnbldngfelaaRows
import Derived.Test.YtmfmnbldngfelaaIEq
import Derived.Test.YtmfmnbldngfelaaAbsLift
import Derived.Test.YtmfmnbldngfelaaAbsRow
import Derived.WalkKit
import Derived.ProofKit
import Derived.OpenShut
import Derived.ShutString
import Derived.ChangeOld
import Derived.Below
import Derived.SizedLaws
namespace Go.Proofs.Ytmfmnbldngfelaa.insnUnique
open Go.ChangeShapes Go.WideShapes Go.ChangeAt Go.RowKit
open Go.ChangeMaps (open_string shut_string)
set_option linter.unusedVariables false
theorem own : ownKnob Try.prog.godebug = none := by kernel_rfl
theorem mixed : Try.prog.follows .mixedOrders = true := by kernel_rfl
theorem laid : laidOutB Try.prog = true := by kernel_rfl
theorem read37 : ∀ t ∈ [37, 37], Try.prog.readableRec t = true ∧ t < Try.prog.types.size := by
  intro t ht
  obtain rfl : t = 37 := by simpa using ht
  exact ⟨by kernel_rfl, of_decide_eq_true (by kernel_rfl)⟩
set_option maxRecDepth 100000 in
/-- An instruction, abstractly: five whole numbers. -/
theorem op_cells {h : Abs.Heap} {f : Nat} {l : List Abs.AV} (H : Abs.IsTy Try.prog h f 37 l) : ∃ a b c d e : Int, l = [.int .i64 a, .int .i64 b, .int .i64 c, .int .i64 d, .int .i64 e] := by
  cases f with
  | zero => exact H.elim
  | succ f =>
    unfold Abs.IsTy at H
    rw [Try.underlying37] at H
    obtain ⟨hl, hf⟩ := H
    have hc : Try.prog.cellsOf 37 = 5 := by kernel_rfl
    have hc3 : Try.prog.cellsOf 3 = 1 := by kernel_rfl
    rw [hc] at hl
    have one : ∀ {x : Abs.AV}, Abs.IsTy Try.prog h f 3 [x] → ∃ n, x = .int .i64 n := by
      intro x H
      cases f with
      | zero => exact H.elim
      | succ f =>
        unfold Abs.IsTy at H
        rw [Try.underlying3] at H
        obtain ⟨n, hn, _⟩ := H
        exact ⟨n, by cases hn; rfl⟩
    obtain ⟨x0, x1, x2, x3, x4, rfl⟩ : ∃ x0 x1 x2 x3 x4, l = [x0, x1, x2, x3, x4] := by
      match l, hl with
      | [x0, x1, x2, x3, x4], _ => exact ⟨x0, x1, x2, x3, x4, rfl⟩
    have g0 : Abs.IsTy Try.prog h f 3 [x0] := by
      have := hf ⟨"Op", 3, 0, false, "", "", 0⟩ (by simp)
      rw [hc3] at this
      exact this
    have g1 : Abs.IsTy Try.prog h f 3 [x1] := by
      have := hf ⟨"D", 3, 1, false, "", "", 8⟩ (by simp)
      rw [hc3] at this
      exact this
    have g2 : Abs.IsTy Try.prog h f 3 [x2] := by
      have := hf ⟨"A", 3, 2, false, "", "", 16⟩ (by simp)
      rw [hc3] at this
      exact this
    have g3 : Abs.IsTy Try.prog h f 3 [x3] := by
      have := hf ⟨"B", 3, 3, false, "", "", 24⟩ (by simp)
      rw [hc3] at this
      exact this
    have g4 : Abs.IsTy Try.prog h f 3 [x4] := by
      have := hf ⟨"N", 3, 4, false, "", "", 32⟩ (by simp)
      rw [hc3] at this
      exact this
    obtain ⟨a, rfl⟩ := one g0
    obtain ⟨b, rfl⟩ := one g1
    obtain ⟨c, rfl⟩ := one g2
    obtain ⟨d, rfl⟩ := one g3
    obtain ⟨e, rfl⟩ := one g4
    exact ⟨a, b, c, d, e, rfl⟩

set_option maxRecDepth 100000 in
theorem lifted (os : Os) (started : os.Started) (H : Type) (enc : TypeId × Value → H) :
    ReturnsInHanded {} Try.checked os 7 .any (Rows.insnUniqueSpec.pre6 enc Try.prog Try.f7 Rows.insnUniqueRow.domain false) (Rows.insnUniqueSpec.post enc Try.prog Try.f7 false true false false) := by
  refine returnsInHanded_of_change_sized (C := Try.checked) own started (by kernel_rfl) Try.func7
    (ChangeSpec.witness6 (enc := enc) (C := Try.checked) false ⟨#[], #[.agg #[.int .i64 0, .int .i64 0, .int .i64 0, .int .i64 0, .int .i64 0], .agg #[.int .i64 0, .int .i64 0, .int .i64 0, .int .i64 0, .int .i64 0]], []⟩ 80 (by kernel_rfl) (by kernel_rfl) (by kernel_rfl) (by kernel_rfl)) ?_
  intro W base args ds gs before hval0 hW hcnd hsz0 _
  have hval : ∀ (j : Nat) t v, Try.f7.params[j]? = some t → args[j]? = some v → Value.okWide Try.prog W .any base t v := hval0
  have hW' := hW
  obtain ⟨p, q, hA0, hV, rfl, hfz, hnd⟩ := hW
  have hA : DataW.TrodAll enc Try.prog W 0 (fun _ => true) true Try.f7.params.toList args.toList ds p := hA0
  rw [Try.params7] at hA hval
  obtain ⟨v0, vs0, d0, ds0, p0, q0, hargs, rfl, rfl, h0, r0⟩ := trodAll_cons hA
  obtain ⟨v1, vs1, d1, ds1, p1, q1, rfl, rfl, rfl, h1, r1⟩ := trodAll_cons r0
  obtain ⟨rfl, rfl, rfl⟩ := trodAll_nil r1
  obtain rfl : args = #[v0, v1] := by cases args; simp_all
  obtain ⟨rfl, rfl⟩ := trodVars_none hV
  obtain ⟨l0, f0, e0, t0⟩ := Abs.arg_agg Try.underlying37 (hval 0 37 v0 rfl rfl) h0
  obtain ⟨a0p, a0q, a0r, a0s, a0t, rfl⟩ := op_cells t0
  obtain ⟨l1, f1, e1, t1⟩ := Abs.arg_agg Try.underlying37 (hval 1 37 v1 rfl rfl) h1
  obtain ⟨a1p, a1q, a1r, a1s, a1t, rfl⟩ := op_cells t1
  obtain ⟨h', he⟩ := I.insnUnique_ok a0p a0q a0r a0s a0t a1p a1q a1r a1s a1t (Abs.ahW W)
  rw [← e0, ← e1] at he
  have key := Abs.calls_true (P := Try.prog) (T := I.T0) mixed (Abs.primsNone _) he (args := [v0, v1]) (Abs.argsAV_vr W [v0, v1]) (Abs.simW W) (Abs.roW W)
  refine key.mono fun e W' ⟨he, bel⟩ => ?_
  subst he
  have hA2 := Abs.trodAll_below laid bel read37 hA
  exact ⟨_, rfl, _, _, _, [], _, [], hW', trodAll_mk1 (shut_bool Try.underlying4 _), hA2, rfl, bel.frame _, fun h => by cases h⟩
theorem over : Rows.insnUniqueRow.holds Try.pinned (OpenSpec.ofChange Rows.insnUniqueSpec) :=
  OpenClaim.holds_of_wide 7 Try.f7 rfl rfl rfl rfl rfl rfl rfl ⟨rfl, rfl, rfl, rfl, rfl⟩ rfl rfl rfl rfl rfl (by kernel_rfl) Try.func7 (by kernel_rfl)
    (of_decide_eq_true (by kernel_rfl)) (by unfold Func.isWrapper; first | (rw [if_pos (by decide +kernel)]; kernel_rfl) | (rw [if_neg (by decide +kernel)]; exact ⟨rfl, rfl⟩))
    (fun os started H enc _ => lifted os started H enc)
theorem proved : Rows.InsnUniqueSaid := over
#print axioms proved
end Go.Proofs.Ytmfmnbldngfelaa.insnUnique
namespace Go.Proofs.Ytmfmnbldngfelaa
/-- The row, under a short name, for the claim. -/
theorem insnUnique_holds : Rows.InsnUniqueSaid := insnUnique.proved
end Go.Proofs.Ytmfmnbldngfelaa
