/- Arguments, read: lists of instructions. -/
import Derived.Test.YtepkdcgokedkdaaConHb
import Derived.Test.YtepkdcgokedkdaaLibD
import Derived.Test.YtepkdcgokedkdaaHCyc
import Derived.KernelRfl
set_option linter.unusedVariables false
set_option linter.unusedSimpArgs false
set_option maxRecDepth 100000
namespace Go.Proofs.Ytepkdcgokedkdaa.H
open Go Go.Proofs.Ytepkdcgokedkdaa.Abs Go.Proofs

theorem ty_int {h : Heap} {f : Nat} {x : AV} (H : IsTy Try.prog h f 3 [x]) : ∃ n, x = .int .i64 n := by
  cases f with
  | zero => exact H.elim
  | succ f =>
    unfold IsTy at H
    rw [Try.underlying3] at H
    obtain ⟨n, hn, _⟩ := H
    exact ⟨n, by cases hn; rfl⟩

theorem ty_bool {h : Heap} {f : Nat} {x : AV} (H : IsTy Try.prog h f 4 [x]) : ∃ n, x = .bool n := by
  cases f with
  | zero => exact H.elim
  | succ f =>
    unfold IsTy at H
    rw [Try.underlying4] at H
    obtain ⟨n, hn⟩ := H
    exact ⟨n, by cases hn; rfl⟩

set_option maxRecDepth 100000 in
/-- An instruction, abstractly: five whole numbers. -/
theorem ty_op {h : Heap} {f : Nat} {l : List AV} (H : IsTy Try.prog h f 32 l) : ∃ e : Ins, l = e.cells := by
  cases f with
  | zero => exact H.elim
  | succ f =>
    unfold IsTy at H
    rw [Try.underlying32] at H
    obtain ⟨hl, hf⟩ := H
    have hc : Try.prog.cellsOf 32 = 5 := by kernel_rfl
    have hc3 : Try.prog.cellsOf 3 = 1 := by kernel_rfl
    rw [hc] at hl
    obtain ⟨x0, x1, x2, x3, x4, rfl⟩ : ∃ x0 x1 x2 x3 x4, l = [x0, x1, x2, x3, x4] := by
      match l, hl with
      | [x0, x1, x2, x3, x4], _ => exact ⟨x0, x1, x2, x3, x4, rfl⟩
    have g0 : IsTy Try.prog h f 3 [x0] := by
      have := hf ⟨"Op", 3, 0, false, "", "", 0⟩ (by simp)
      rw [hc3] at this
      exact this
    have g1 : IsTy Try.prog h f 3 [x1] := by
      have := hf ⟨"D", 3, 1, false, "", "", 8⟩ (by simp)
      rw [hc3] at this
      exact this
    have g2 : IsTy Try.prog h f 3 [x2] := by
      have := hf ⟨"A", 3, 2, false, "", "", 16⟩ (by simp)
      rw [hc3] at this
      exact this
    have g3 : IsTy Try.prog h f 3 [x3] := by
      have := hf ⟨"B", 3, 3, false, "", "", 24⟩ (by simp)
      rw [hc3] at this
      exact this
    have g4 : IsTy Try.prog h f 3 [x4] := by
      have := hf ⟨"N", 3, 4, false, "", "", 32⟩ (by simp)
      rw [hc3] at this
      exact this
    obtain ⟨a, rfl⟩ := ty_int g0
    obtain ⟨b, rfl⟩ := ty_int g1
    obtain ⟨c, rfl⟩ := ty_int g2
    obtain ⟨d, rfl⟩ := ty_int g3
    obtain ⟨e, rfl⟩ := ty_int g4
    exact ⟨⟨a, b, c, d, e⟩, rfl⟩

/-- A choice, made for finitely many places. -/
theorem pick_list {α : Type} {p : Nat → α → Prop} : ∀ (n : Nat), (∀ i, i < n → ∃ x, p i x) → ∃ l : List α, l.length = n ∧ ∀ i x, l[i]? = some x → p i x := by
  intro n
  induction n with
  | zero => intro _; exact ⟨[], rfl, fun i x h => by simp at h⟩
  | succ n ih =>
    intro H
    obtain ⟨l, hl, hp⟩ := ih fun i hi => H i (by omega)
    obtain ⟨x, hx⟩ := H n (by omega)
    refine ⟨l ++ [x], by simp [hl], fun i y h => ?_⟩
    rw [List.getElem?_append] at h
    split at h
    · exact hp i y h
    · have : i = n := by
        have := (List.getElem?_eq_some_iff.1 h).1
        simp at this; omega
      subst this
      simp [hl] at h
      subst h; exact hx

/-- A slice of values of a type whose cells are known, abstractly. -/
theorem ty_slice {α : Type} {g : α → List AV} {t u es : Nat} (hu : Try.prog.underlying t = some (.slice u)) (hc : Try.prog.cellsOf u = es) (h0 : es ≠ 0) {h : Heap} (hg : ∀ f l, IsTy Try.prog h f u l → ∃ x : α, l = g x)
    {f : Nat} {x : AV} (H : IsTy Try.prog h f t [x]) : ∃ s n l, x = .sl s n ∧ VS g es h s n l := by
  cases f with
  | zero => exact H.elim
  | succ f =>
    unfold IsTy at H
    rw [hu] at H
    rcases H with H | H | H | ⟨b, o, n, c, hn, H, hb, hf⟩
    · rw [hc] at H; exact absurd H h0
    · cases H; exact ⟨_, _, [], rfl, rfl, .inl rfl⟩
    · cases H; exact ⟨_, _, [], rfl, rfl, .inl rfl⟩
    · cases H
      obtain ⟨l, ho, hp⟩ := pick_list (p := fun i e => o + i * es + es ≤ c.length ∧ (c.drop (o + i * es)).take es = g e) n fun i hi => by
        obtain ⟨h1, h2⟩ := hf i hi
        rw [hc] at h1 h2
        obtain ⟨e, he⟩ := hg _ _ h2
        refine ⟨e, ?_, he⟩
        rw [List.length_take, List.length_drop] at h1
        omega
      exact ⟨_, _, l, rfl, ho, .inr ⟨b, 0, o, c, .ro, rfl, hb, hp⟩⟩

/-- A list of instructions, abstractly. -/
theorem ty_ops {h : Heap} {f : Nat} {x : AV} (H : IsTy Try.prog h f 22 [x]) : ∃ s n l, x = .sl s n ∧ VS Ins.cells 5 h s n l :=
  ty_slice Try.underlying22 (by kernel_rfl) (by omega) (fun _ _ => ty_op) H

theorem ty_one {h : Heap} {f : Nat} {l : List AV} (H : IsTy Try.prog h f 3 l) : ∃ n, l = intC n := by
  cases f with
  | zero => exact H.elim
  | succ f =>
    unfold IsTy at H
    rw [Try.underlying3] at H
    obtain ⟨n, hn, _⟩ := H
    exact ⟨n, hn⟩

/-- A list of whole numbers, abstractly. -/
theorem ty_ints {h : Heap} {f : Nat} {x : AV} (H : IsTy Try.prog h f 39 [x]) : ∃ s n l, x = .sl s n ∧ VS intC 1 h s n l :=
  ty_slice Try.underlying39 (by kernel_rfl) (by omega) (fun _ _ => ty_one) H

end Go.Proofs.Ytepkdcgokedkdaa.H
