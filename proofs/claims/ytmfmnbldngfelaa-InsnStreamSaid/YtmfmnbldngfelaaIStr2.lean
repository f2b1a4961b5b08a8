/- InsnStream: the writing loop. -/
import Derived.Test.YtmfmnbldngfelaaIStr
set_option linter.unusedVariables false
set_option linter.unusedSimpArgs false
namespace Go.Proofs.Ytmfmnbldngfelaa.I
open Go Go.Proofs.Ytmfmnbldngfelaa.Abs Go.Proofs

theorem is_of_GS {h : Heap} {s : SA} {n : Nat} {l : List Int} (H : GS h s n 1 (l.map (.int .i64))) : IS h s n l := by
  obtain ⟨hl, _, ⟨rfl, rfl⟩ | ⟨b, v, rfl, hb⟩⟩ := H
  · exact ⟨by simpa using hl, .inl rfl⟩
  · rw [List.length_map, Nat.mul_one] at hl
    refine ⟨hl, .inr ⟨b, v, 0, _, _, rfl, hb, fun i hi => ?_⟩⟩
    simp [show i < l.length by omega]

theorem cells_at : ∀ (os : List Ent) (i : Nat) (e : Ent), os[i]? = some e → i * 5 + 5 ≤ (os.flatMap Ent.cells).length ∧ ((os.flatMap Ent.cells).drop (i * 5)).take 5 = Ent.cells e := by
  intro os
  induction os with
  | nil => intro i e h; simp at h
  | cons x os ih =>
    intro i e h
    rw [List.flatMap_cons]
    have hx : (Ent.cells x).length = 5 := rfl
    cases i with
    | zero =>
      cases h
      rw [List.length_append, hx]
      exact ⟨by omega, by rw [Nat.zero_mul, List.drop_zero]; exact List.take_left' hx⟩
    | succ i =>
      obtain ⟨h1, h2⟩ := ih i e h
      rw [List.length_append, hx]
      refine ⟨by omega, ?_⟩
      rw [show (i + 1) * 5 = (Ent.cells x).length + i * 5 by rw [hx]; omega, List.drop_append, List.drop_eq_nil_of_le (by omega), List.nil_append, Nat.add_sub_cancel_left, h2]

theorem os_of_GS {h : Heap} {s : SA} {n : Nat} {os : List Ent} (hn : os.length = n) (H : GS h s n 5 (os.flatMap Ent.cells)) : OS h s n os := by
  obtain ⟨hl, _, ⟨rfl, rfl⟩ | ⟨b, v, rfl, hb⟩⟩ := H
  · exact ⟨hn, .inl rfl⟩
  · refine ⟨hn, .inr ⟨b, v, 0, _, _, rfl, hb, fun i e he => ?_⟩⟩
    obtain ⟨h1, h2⟩ := cells_at os i e he
    exact ⟨by omega, by rw [Nat.zero_add]; exact h2⟩

end Go.Proofs.Ytmfmnbldngfelaa.I
