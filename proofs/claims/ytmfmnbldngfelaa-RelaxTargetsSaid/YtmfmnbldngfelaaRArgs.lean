/- Arguments, read: lists of items. -/
import Derived.Test.YtmfmnbldngfelaaRShort
import Derived.Test.YtmfmnbldngfelaaRTarg
import Derived.Test.YtmfmnbldngfelaaIArgs
set_option linter.unusedVariables false
set_option linter.unusedSimpArgs false
set_option maxRecDepth 100000
namespace Go.Proofs.Ytmfmnbldngfelaa.I
open Go Go.Proofs.Ytmfmnbldngfelaa.Abs Go.Proofs

/-- An item, abstractly. -/
theorem ty_item {h : Heap} {f : Nat} {l : List AV} (H : IsTy Try.prog h f 59 l) : ∃ e : It, l = e.cells := by
  cases f with
  | zero => exact H.elim
  | succ f =>
    unfold IsTy at H
    rw [Try.underlying59] at H
    obtain ⟨hl, hf⟩ := H
    have hc : Try.prog.cellsOf 59 = 6 := by kernel_rfl
    have hc37 : Try.prog.cellsOf 37 = 5 := by kernel_rfl
    have hc3 : Try.prog.cellsOf 3 = 1 := by kernel_rfl
    rw [hc] at hl
    obtain ⟨x0, x1, x2, x3, x4, x5, rfl⟩ : ∃ x0 x1 x2 x3 x4 x5, l = [x0, x1, x2, x3, x4, x5] := by
      match l, hl with
      | [x0, x1, x2, x3, x4, x5], _ => exact ⟨x0, x1, x2, x3, x4, x5, rfl⟩
    have g0 : IsTy Try.prog h f 37 [x0, x1, x2, x3, x4] := by
      have := hf ⟨"Op", 37, 0, false, "", "", 0⟩ (by simp)
      rw [hc37] at this
      exact this
    have g1 : IsTy Try.prog h f 3 [x5] := by
      have := hf ⟨"To", 3, 5, false, "", "", 40⟩ (by simp)
      rw [hc3] at this
      exact this
    obtain ⟨e, he⟩ := ty_op g0
    obtain ⟨t, rfl⟩ := ty_int g1
    simp only [Ent.cells, List.cons.injEq, and_true] at he
    obtain ⟨rfl, rfl, rfl, rfl, rfl⟩ := he
    exact ⟨⟨e.op, e.d, e.a, e.b, e.n, t⟩, rfl⟩

/-- A slice of values of a type whose cells are known, abstractly. -/
theorem ty_slice {α : Type} {g : α → List AV} {t u es : Nat} (hu : Try.prog.underlying t = some (.slice u)) (hc : Try.prog.cellsOf u = es) (h0 : es ≠ 0) {h : Heap} (hg : ∀ f l, IsTy Try.prog h f u l → ∃ x : α, l = g x)
    {f : Nat} {x : AV} (H : IsTy Try.prog h f t [x]) : ∃ s n l, x = .sl s n ∧ VS g es h s n l := by
  cases f with
  | zero => exact H.elim
  | succ f =>
    unfold IsTy at H
    rw [hu] at H
    rcases H with H | H | H | ⟨b, o, n, c, hn, H, hb, hf⟩
    · rw [hc] at H; exact absurd H h0
    · cases H; exact ⟨_, _, [], rfl, rfl, .inl rfl⟩
    · cases H; exact ⟨_, _, [], rfl, rfl, .inl rfl⟩
    · cases H
      obtain ⟨l, ho, hp⟩ := pick_list (p := fun i e => o + i * es + es ≤ c.length ∧ (c.drop (o + i * es)).take es = g e) n fun i hi => by
        obtain ⟨h1, h2⟩ := hf i hi
        rw [hc] at h1 h2
        obtain ⟨e, he⟩ := hg _ _ h2
        refine ⟨e, ?_, he⟩
        rw [List.length_take, List.length_drop] at h1
        omega
      exact ⟨_, _, l, rfl, ho, .inr ⟨b, 0, o, c, .ro, rfl, hb, hp⟩⟩

/-- A list of items, abstractly. -/
theorem ty_items {h : Heap} {f : Nat} {x : AV} (H : IsTy Try.prog h f 52 [x]) : ∃ s n l, x = .sl s n ∧ VS It.cells 6 h s n l :=
  ty_slice Try.underlying52 (by kernel_rfl) (by omega) (fun _ _ => ty_item) H

end Go.Proofs.Ytmfmnbldngfelaa.I
