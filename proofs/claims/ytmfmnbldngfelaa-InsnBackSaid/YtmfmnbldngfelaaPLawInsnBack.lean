/- InsnBack holds: whatever the instruction, the call answers true and the instruction reads as before. No further conditions. -/
import Derived.Test.YtmfmnbldngfelaaRows
import Derived.Test.YtmfmnbldngfelaaIBack
import Derived.Test.YtmfmnbldngfelaaAbsLift
import Derived.Test.YtmfmnbldngfelaaAbsRow
import Derived.WalkKit
import Derived.ProofKit
import Derived.OpenShut
import Derived.ShutString
import Derived.ChangeOld
import Derived.Below
import Derived.SizedLaws
namespace Go.Proofs.Ytmfmnbldngfelaa.insnBack
open Go.ChangeShapes Go.WideShapes Go.ChangeAt Go.RowKit
open Go.ChangeMaps (open_string shut_string)
set_option linter.unusedVariables false
theorem own : ownKnob Try.prog.godebug = none := by kernel_rfl
theorem mixed : Try.prog.follows .mixedOrders = true := by kernel_rfl
theorem laid : laidOutB Try.prog = true := by kernel_rfl
theorem read38 : ∀ t ∈ [38], Try.prog.readableRec t = true ∧ t < Try.prog.types.size := by
  intro t ht
  cases ht with
  | head => exact ⟨by kernel_rfl, of_decide_eq_true (by kernel_rfl)⟩
  | tail _ h => cases h
set_option maxRecDepth 100000 in
/-- A list of whole numbers, abstractly. -/
theorem ints_cells {h : Abs.Heap} {f : Nat} {x : Abs.AV} (H : Abs.IsTy Try.prog h f 38 [x]) : ∃ s n l, x = .sl s n ∧ I.IS h s n l := by
  cases f with
  | zero => exact H.elim
  | succ f =>
    unfold Abs.IsTy at H
    rw [Try.underlying38] at H
    have hc3 : Try.prog.cellsOf 3 = 1 := by kernel_rfl
    rcases H with H | H | H | ⟨b, o, n, c, hn, H, hb, hf⟩
    · rw [hc3] at H; cases H
    · cases H; exact ⟨_, _, [], rfl, rfl, .inl rfl⟩
    · cases H; exact ⟨_, _, [], rfl, rfl, .inl rfl⟩
    · cases H
      have one : ∀ i, i < n → ∃ v, c[o + i]? = some (.int .i64 v) := by
        intro i hi
        obtain ⟨h1, h2⟩ := hf i hi
        rw [hc3, Nat.mul_one] at h1 h2
        cases f with
        | zero => exact h2.elim
        | succ f =>
          unfold Abs.IsTy at h2
          rw [Try.underlying3] at h2
          obtain ⟨v, hv, _⟩ := h2
          refine ⟨v, ?_⟩
          have := congrArg (fun l => l[0]?) hv
          simpa using this
      refine ⟨_, _, (List.range n).map (fun i => match c[o + i]? with | some (.int _ v) => v | _ => 0), rfl, by simp, .inr ⟨b, 0, o, c, .ro, rfl, hb, fun i hi => ?_⟩⟩
      obtain ⟨v, hv⟩ := one i hi
      rw [hv]
      simp [hi, hv]

set_option maxRecDepth 100000 in
theorem lifted (os : Os) (started : os.Started) (H : Type) (enc : TypeId × Value → H) :
    ReturnsInHanded {} Try.checked os 9 .any (Rows.insnBackSpec.pre6 enc Try.prog Try.f9 Rows.insnBackRow.domain false) (Rows.insnBackSpec.post enc Try.prog Try.f9 false true false false) := by
  refine returnsInHanded_of_change_sized (C := Try.checked) own started (by kernel_rfl) Try.func9
    (ChangeSpec.witness6 (enc := enc) (C := Try.checked) false ⟨#[], #[.slice none 0 0], []⟩ 24 (by kernel_rfl) (by kernel_rfl) (by kernel_rfl) (by kernel_rfl)) ?_
  intro W base args ds gs before hval0 hW hcnd hsz0 _
  have hval : ∀ (j : Nat) t v, Try.f9.params[j]? = some t → args[j]? = some v → Value.okWide Try.prog W .any base t v := hval0
  have hW' := hW
  obtain ⟨p, q, hA0, hV, rfl, hfz, hnd⟩ := hW
  have hA : DataW.TrodAll enc Try.prog W 0 (fun _ => true) true Try.f9.params.toList args.toList ds p := hA0
  rw [Try.params9] at hA hval
  obtain ⟨v0, vs0, d0, ds0, p0, q0, hargs, rfl, rfl, h0, r0⟩ := trodAll_cons hA
  obtain ⟨rfl, rfl, rfl⟩ := trodAll_nil r0
  obtain rfl : args = #[v0] := by cases args; simp_all
  obtain ⟨rfl, rfl⟩ := trodVars_none hV
  obtain ⟨f0, t0⟩ := Abs.arg_one Try.underlying38 rfl (hval 0 38 v0 rfl rfl) h0
  obtain ⟨s0, n0, l0, e0, t0⟩ := ints_cells t0
  obtain ⟨h', he⟩ := I.insnBack_ok t0
  rw [← e0] at he
  have key := Abs.calls_true (P := Try.prog) (T := I.T0) mixed (Abs.primsNone _) he (args := [v0]) (Abs.argsAV_vr W [v0]) (Abs.simW W) (Abs.roW W)
  refine key.mono fun e W' ⟨he, bel⟩ => ?_
  subst he
  have hA2 := Abs.trodAll_below laid bel read38 hA
  exact ⟨_, rfl, _, _, _, [], _, [], hW', trodAll_mk1 (shut_bool Try.underlying4 _), hA2, rfl, bel.frame _, fun h => by cases h⟩
theorem over : Rows.insnBackRow.holds Try.pinned (OpenSpec.ofChange Rows.insnBackSpec) :=
  OpenClaim.holds_of_wide 9 Try.f9 rfl rfl rfl rfl rfl rfl rfl ⟨rfl, rfl, rfl, rfl, rfl⟩ rfl rfl rfl rfl rfl (by kernel_rfl) Try.func9 (by kernel_rfl)
    (of_decide_eq_true (by kernel_rfl)) (by unfold Func.isWrapper; first | (rw [if_pos (by decide +kernel)]; kernel_rfl) | (rw [if_neg (by decide +kernel)]; exact ⟨rfl, rfl⟩))
    (fun os started H enc _ => lifted os started H enc)
theorem proved : Rows.InsnBackSaid := over
#print axioms proved
end Go.Proofs.Ytmfmnbldngfelaa.insnBack
namespace Go.Proofs.Ytmfmnbldngfelaa
/-- The row, under a short name, for the claim. -/
theorem insnBack_holds : Rows.InsnBackSaid := insnBack.proved
end Go.Proofs.Ytmfmnbldngfelaa
