/- Appending to a slice that nobody else holds. -/
import Derived.Test.YtmfmnbldngfelaaAbsUse
set_option linter.unusedVariables false
set_option linter.unusedSimpArgs false
namespace Go.Proofs.Ytmfmnbldngfelaa.Abs
open Go

/-- A slice that stands alone in a growing block, with all of its cells. -/
def GS (h : Heap) (s : SA) (n es : Nat) (cs : List AV) : Prop :=
  cs.length = n * es ∧ flatL cs = true ∧ ((s = .nil ∧ n = 0) ∨ ∃ b v, s = .pos ⟨b, v, 0⟩ ∧ h[b]? = some (.cells cs (.grow es) v))

/-- The block of a slice. -/
def inS (s : SA) (b : Nat) : Prop := ∃ a, s = .pos a ∧ a.b = b

theorem apnd_GS {h : Heap} {s : SA} {n es bytes m : Nat} {cs ys : List AV} (H : GS h s n es cs) (hm : 0 < m) (he : 0 < es) (hy : ys.length = m * es) (fy : flatL ys = true) (fa : flatL (cs ++ ys) = true) (hb : (n + m) * bytes ≤ 70368744177664) :
    ∃ s' h', apnd h (.sl s n) es bytes ys m = some (.sl s' (n + m), h') ∧ GS h' s' (n + m) es (cs ++ ys) ∧ h.length ≤ h'.length ∧ (∀ b x, h[b]? = some x → ¬ inS s b → h'[b]? = some x) ∧ (∀ b, inS s' b → inS s b ∨ h.length ≤ b) := by
  obtain ⟨hl, fc, ⟨rfl, rfl⟩ | ⟨b, v, rfl, hk⟩⟩ := H
  · have : cs = [] := by
      rw [Nat.zero_mul] at hl
      exact List.length_eq_zero_iff.1 hl
    subst this
    obtain ⟨m, rfl⟩ : ∃ k, m = k + 1 := ⟨m - 1, by omega⟩
    refine ⟨.pos ⟨h.length, 0, 0⟩, h ++ [.cells ys (.grow es) 0], ?_, ⟨by simp [hy], by simpa using fa, .inr ⟨_, _, rfl, ?_⟩⟩, by simp, fun b x hx _ => app_old hx, ?_⟩
    · rw [Nat.zero_add] at hb
      simp only [apnd]
      rw [if_pos ⟨trivial, hb⟩, Nat.zero_add]
    · rw [List.getElem?_append_right (Nat.le_refl _), Nat.sub_self]; rfl
    · rintro b ⟨a, ha, rfl⟩
      cases ha
      exact .inr (Nat.le_refl _)
  · obtain ⟨m, rfl⟩ : ∃ k, m = k + 1 := ⟨m - 1, by omega⟩
    have hlt := (List.getElem?_eq_some_iff.1 hk).1
    have hgt : ¬ 0 + (n + (m + 1)) * es ≤ cs.length := by
      rw [hl, Nat.add_mul]
      have : 0 < (m + 1) * es := Nat.mul_pos (by omega) he
      omega
    have ht : (cs.drop 0).take (n * es) = cs := by rw [List.drop_zero, ← hl, List.take_length]
    refine ⟨.pos ⟨b, v + 1, 0⟩, h.set b (.cells (cs ++ ys) (.grow es) (v + 1)), ?_, ⟨by rw [List.length_append, hl, hy, Nat.add_mul n (m + 1)], fa, .inr ⟨_, _, rfl, set_same hk⟩⟩, by simp, ?_, ?_⟩
    · simp only [apnd, hk]
      rw [if_pos ⟨trivial, trivial, by omega, hb⟩, if_neg hgt, ht, if_pos fc]
    · intro b' x hx hn
      have : b ≠ b' := fun e => hn ⟨_, rfl, e⟩
      rw [set_other this]
      exact hx
    · rintro b' ⟨a, ha, rfl⟩
      cases ha
      exact .inl ⟨_, rfl, rfl⟩

end Go.Proofs.Ytmfmnbldngfelaa.Abs
