/- Arguments, read: the bounds of a cache. -/
import Derived.Test.YtecgpcpgklholaaKArgs
import Derived.Test.YtecgpcpgklholaaConZb
set_option linter.unusedVariables false
set_option linter.unusedSimpArgs false
set_option maxRecDepth 100000
namespace Go.Proofs.Ytecgpcpgklholaa.Z
open Go Go.Proofs.Ytecgpcpgklholaa.Abs Go.Proofs

/-- The bounds of a cache, abstractly: four whole numbers. -/
theorem ty_conf {h : Heap} {f : Nat} {l : List AV} (H : IsTy Try.prog h f 47 l) : ∃ a b c d, l = [.int .i64 a, .int .i64 b, .int .i64 c, .int .i64 d] := by
  cases f with
  | zero => exact H.elim
  | succ f =>
    unfold IsTy at H
    rw [Try.underlying47] at H
    obtain ⟨hl, hf⟩ := H
    have hc : Try.prog.cellsOf 47 = 4 := by kernel_rfl
    have hc3 : Try.prog.cellsOf 3 = 1 := by kernel_rfl
    rw [hc] at hl
    obtain ⟨x0, x1, x2, x3, rfl⟩ : ∃ x0 x1 x2 x3, l = [x0, x1, x2, x3] := by
      match l, hl with
      | [x0, x1, x2, x3], _ => exact ⟨x0, x1, x2, x3, rfl⟩
    have g0 : IsTy Try.prog h f 3 [x0] := by
      have := hf ⟨"Words", 3, 0, false, "", "", 0⟩ (by simp)
      rw [hc3] at this
      exact this
    have g1 : IsTy Try.prog h f 3 [x1] := by
      have := hf ⟨"Sets", 3, 1, false, "", "", 8⟩ (by simp)
      rw [hc3] at this
      exact this
    have g2 : IsTy Try.prog h f 3 [x2] := by
      have := hf ⟨"Ways", 3, 2, false, "", "", 16⟩ (by simp)
      rw [hc3] at this
      exact this
    have g3 : IsTy Try.prog h f 3 [x3] := by
      have := hf ⟨"Miss", 3, 3, false, "", "", 24⟩ (by simp)
      rw [hc3] at this
      exact this
    obtain ⟨n0, rfl⟩ := Go.Proofs.Ytecgpcpgklholaa.K.ty_int g0
    obtain ⟨n1, rfl⟩ := Go.Proofs.Ytecgpcpgklholaa.K.ty_int g1
    obtain ⟨n2, rfl⟩ := Go.Proofs.Ytecgpcpgklholaa.K.ty_int g2
    obtain ⟨n3, rfl⟩ := Go.Proofs.Ytecgpcpgklholaa.K.ty_int g3
    exact ⟨n0, n1, n2, n3, rfl⟩

end Go.Proofs.Ytecgpcpgklholaa.Z
