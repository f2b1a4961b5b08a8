/- color: count, degree. -/
import Derived.Test.YtnmdadadjneaiaaConDg
set_option linter.unusedVariables false
set_option linter.unusedSimpArgs false
namespace Go.Proofs.Ytnmdadadjneaiaa.D
open Go Go.Proofs.Ytnmdadadjneaiaa.Abs Go.Proofs
end Go.Proofs.Ytnmdadadjneaiaa.D
/- color: least. -/
set_option linter.unusedVariables false
set_option linter.unusedSimpArgs false
namespace Go.Proofs.Ytnmdadadjneaiaa.D
open Go Go.Proofs.Ytnmdadadjneaiaa.Abs Go.Proofs
theorem pig {α : Type} [DecidableEq α] : ∀ (l m : List α), l.Nodup → (∀ x ∈ l, x ∈ m) → l.length ≤ m.length := by
 intro l
 induction l with
 | nil => intro m _ _; exact Nat.zero_le _
 | cons x l ih =>
  intro m nd sub
  obtain ⟨n1, n2⟩ := List.nodup_cons.1 nd
  have hx := sub x (by simp)
  have := ih (m.erase x) n2 fun y hy => (List.mem_erase_of_ne (fun e => n1 (by rw [← e]; exact hy))).2 (sub y (by simp [hy]))
  rw [List.length_erase_of_mem hx] at this
  have := List.length_pos_of_mem hx
  rw [List.length_cons]
  omega
end Go.Proofs.Ytnmdadadjneaiaa.D
/- color: classes of registers (of). -/
set_option linter.unusedVariables false
set_option linter.unusedSimpArgs false
namespace Go.Proofs.Ytnmdadadjneaiaa.D
open Go Go.Proofs.Ytnmdadadjneaiaa.Abs Go.Proofs
end Go.Proofs.Ytnmdadadjneaiaa.D
/- color.coalesce: edges taken away, edges joined. -/
set_option linter.unusedVariables false
set_option linter.unusedSimpArgs false
namespace Go.Proofs.Ytnmdadadjneaiaa.D
open Go Go.Proofs.Ytnmdadadjneaiaa.Abs Go.Proofs
end Go.Proofs.Ytnmdadadjneaiaa.D
/- color.coalesce: edges joined. -/
set_option linter.unusedVariables false
set_option linter.unusedSimpArgs false
namespace Go.Proofs.Ytnmdadadjneaiaa.D
open Go Go.Proofs.Ytnmdadadjneaiaa.Abs Go.Proofs
end Go.Proofs.Ytnmdadadjneaiaa.D
/- color.coalesce: what was joined is taken back. -/
set_option linter.unusedVariables false
set_option linter.unusedSimpArgs false
namespace Go.Proofs.Ytnmdadadjneaiaa.D
open Go Go.Proofs.Ytnmdadadjneaiaa.Abs Go.Proofs
end Go.Proofs.Ytnmdadadjneaiaa.D
/- color.coalesce: the first classes. -/
set_option linter.unusedVariables false
set_option linter.unusedSimpArgs false
namespace Go.Proofs.Ytnmdadadjneaiaa.D
open Go Go.Proofs.Ytnmdadadjneaiaa.Abs Go.Proofs
def intB (l : List Int) : Blk := .cells (l.map (.int .i64)) (.grow 1) 0
theorem intB_set {h : Heap} {q : Nat} {l : List Int} (hq : h[q]? = some (intB l)) {i : Nat} (hi : i < l.length) (x : Int) :
 st1 h ⟨q, 0, 0 + i * 1⟩ (.int .i64 x) = some (h.set q (intB (l.set i x))) := by
 rw [st1_at hq (by simp) (by rw [List.length_map]; omega)]
 unfold intB
 rw [List.map_set, Nat.zero_add, Nat.mul_one]
theorem intB_vs {h : Heap} {q n : Nat} {l : List Int} (hq : h[q]? = some (intB l)) (hl : l.length = n) : VS intC 1 h (.pos ⟨q, 0, 0⟩) n l :=
 vs_GS (f := intC) (es := 1) (fun _ => rfl) hl (by
  rw [show l.flatMap intC = l.map (.int .i64) from rows_one _ _]
  exact ⟨by rw [List.length_map]; omega, flat_ints _, .inr ⟨_, _, rfl, hq⟩⟩)
end Go.Proofs.Ytnmdadadjneaiaa.D
/- color.coalesce, plain: what is taken back leaves the old edges; what is joined keeps the edges sound. -/
set_option linter.unusedVariables false
set_option linter.unusedSimpArgs false
namespace Go.Proofs.Ytnmdadadjneaiaa.D
open Go Go.Proofs.Ytnmdadadjneaiaa.Abs Go.Proofs
end Go.Proofs.Ytnmdadadjneaiaa.D
/- color.build, plain: its edges go both ways. -/
set_option linter.unusedVariables false
set_option linter.unusedSimpArgs false
namespace Go.Proofs.Ytnmdadadjneaiaa.D
open Go Go.Proofs.Ytnmdadadjneaiaa.Abs Go.Proofs
end Go.Proofs.Ytnmdadadjneaiaa.D
/- slices.Reverse of ints. -/
set_option linter.unusedVariables false
set_option linter.unusedSimpArgs false
namespace Go.Proofs.Ytnmdadadjneaiaa.D
open Go Go.Proofs.Ytnmdadadjneaiaa.Abs Go.Proofs
end Go.Proofs.Ytnmdadadjneaiaa.D
