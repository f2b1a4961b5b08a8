/- Arguments, read: whole numbers and lists of them. -/
import Derived.Test.YtecgpcpgklholaaKList
import Derived.Test.YtecgpcpgklholaaLibD
import Derived.KernelRfl
set_option linter.unusedVariables false
set_option linter.unusedSimpArgs false
set_option maxRecDepth 100000
namespace Go.Proofs.Ytecgpcpgklholaa.K
open Go Go.Proofs.Ytecgpcpgklholaa.Abs Go.Proofs

theorem ty_int {h : Heap} {f : Nat} {x : AV} (H : IsTy Try.prog h f 3 [x]) : ∃ n, x = .int .i64 n := by
  cases f with
  | zero => exact H.elim
  | succ f =>
    unfold IsTy at H
    rw [Try.underlying3] at H
    obtain ⟨n, hn, _⟩ := H
    exact ⟨n, by cases hn; rfl⟩

/-- A choice, made for finitely many places. -/
theorem pick_list {α : Type} {p : Nat → α → Prop} : ∀ (n : Nat), (∀ i, i < n → ∃ x, p i x) → ∃ l : List α, l.length = n ∧ ∀ i x, l[i]? = some x → p i x := by
  intro n
  induction n with
  | zero => intro _; exact ⟨[], rfl, fun i x h => by simp at h⟩
  | succ n ih =>
    intro H
    obtain ⟨l, hl, hp⟩ := ih fun i hi => H i (by omega)
    obtain ⟨x, hx⟩ := H n (by omega)
    refine ⟨l ++ [x], by simp [hl], fun i y h => ?_⟩
    rw [List.getElem?_append] at h
    split at h
    · exact hp i y h
    · have : i = n := by
        have := (List.getElem?_eq_some_iff.1 h).1
        simp at this; omega
      subst this
      simp [hl] at h
      subst h; exact hx

/-- A slice of values of a type whose cells are known, abstractly. -/
theorem ty_slice {α : Type} {g : α → List AV} {t u es : Nat} (hu : Try.prog.underlying t = some (.slice u)) (hc : Try.prog.cellsOf u = es) (h0 : es ≠ 0) {h : Heap} (hg : ∀ f l, IsTy Try.prog h f u l → ∃ x : α, l = g x)
    {f : Nat} {x : AV} (H : IsTy Try.prog h f t [x]) : ∃ s n l, x = .sl s n ∧ VS g es h s n l := by
  cases f with
  | zero => exact H.elim
  | succ f =>
    unfold IsTy at H
    rw [hu] at H
    rcases H with H | H | H | ⟨b, o, n, c, hn, H, hb, hf⟩
    · rw [hc] at H; exact absurd H h0
    · cases H; exact ⟨_, _, [], rfl, rfl, .inl rfl⟩
    · cases H; exact ⟨_, _, [], rfl, rfl, .inl rfl⟩
    · cases H
      obtain ⟨l, ho, hp⟩ := pick_list (p := fun i e => o + i * es + es ≤ c.length ∧ (c.drop (o + i * es)).take es = g e) n fun i hi => by
        obtain ⟨h1, h2⟩ := hf i hi
        rw [hc] at h1 h2
        obtain ⟨e, he⟩ := hg _ _ h2
        refine ⟨e, ?_, he⟩
        rw [List.length_take, List.length_drop] at h1
        omega
      exact ⟨_, _, l, rfl, ho, .inr ⟨b, 0, o, c, .ro, rfl, hb, hp⟩⟩

theorem ty_one {h : Heap} {f : Nat} {l : List AV} (H : IsTy Try.prog h f 3 l) : ∃ n, l = intC n := by
  cases f with
  | zero => exact H.elim
  | succ f =>
    unfold IsTy at H
    rw [Try.underlying3] at H
    obtain ⟨n, hn, _⟩ := H
    exact ⟨n, hn⟩

/-- A list of whole numbers, abstractly. -/
theorem ty_ints {h : Heap} {f : Nat} {x : AV} (H : IsTy Try.prog h f 22 [x]) : ∃ s n l, x = .sl s n ∧ VS intC 1 h s n l :=
  ty_slice Try.underlying22 (by kernel_rfl) (by omega) (fun _ _ => ty_one) H

end Go.Proofs.Ytecgpcpgklholaa.K
