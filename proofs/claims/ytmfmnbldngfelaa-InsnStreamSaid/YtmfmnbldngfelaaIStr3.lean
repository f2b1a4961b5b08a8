/- InsnStream: one round of the writing loop. -/
import Derived.Test.YtmfmnbldngfelaaIStr2
set_option linter.unusedVariables false
set_option linter.unusedSimpArgs false
namespace Go.Proofs.Ytmfmnbldngfelaa.I
open Go Go.Proofs.Ytmfmnbldngfelaa.Abs Go.Proofs

/-- A slice of one's own stays when other blocks change. -/
theorem gs_keep {h h' : Heap} {s t : SA} {n es : Nat} {cs : List AV} (H : GS h t n es cs) (hk : ∀ b x, h[b]? = some x → ¬ inS s b → h'[b]? = some x) (hd : ∀ b, inS t b → ¬ inS s b) : GS h' t n es cs := by
  obtain ⟨hl, fc, hh⟩ := H
  refine ⟨hl, fc, ?_⟩
  rcases hh with hh | ⟨b, v, rfl, hb⟩
  · exact .inl hh
  · exact .inr ⟨b, v, rfl, hk b _ hb (hd b ⟨_, rfl, rfl⟩)⟩

theorem gs_app {h l : Heap} {t : SA} {n es : Nat} {cs : List AV} (H : GS h t n es cs) : GS (h ++ l) t n es cs := by
  obtain ⟨hl, fc, hh⟩ := H
  refine ⟨hl, fc, ?_⟩
  rcases hh with hh | ⟨b, v, rfl, hb⟩
  · exact .inl hh
  · exact .inr ⟨b, v, rfl, app_old hb⟩

theorem gs_lt {h : Heap} {t : SA} {n es : Nat} {cs : List AV} (H : GS h t n es cs) {b : Nat} (hb : inS t b) : b < h.length := by
  obtain ⟨_, _, ⟨rfl, _⟩ | ⟨b', v, rfl, h'⟩⟩ := H
  · obtain ⟨a, ha, _⟩ := hb; cases ha
  · obtain ⟨a, ha, rfl⟩ := hb
    cases ha
    exact (List.getElem?_eq_some_iff.1 h').1

/-- The two encoders, called. -/
def encF (long : Bool) : Nat := if long = true then 23 else 22

theorem enc_call_ok (e : Ent) (he : e.ok) (h : Heap) : E (encF e.long) [.agg e.cells] h = some (.tup [.sl (.pos ⟨h.length, 0, 0⟩) e.words.length, .int .i64 0], h ++ [.cells (e.words.map (.int .i64)) (.grow 1) 0]) := by
  obtain ⟨op, d, a, b, n, long⟩ := e
  cases long with
  | true => exact long_ok h he
  | false =>
    have := encode_ok h he
    rw [encW_eq, List.length_map] at this
    exact this

theorem enc_call_bad (e : Ent) (he : ¬ e.ok) (h : Heap) : E (encF e.long) [.agg e.cells] h = some (.tup [.sl .nil 0, .int .i64 (chkV e.op e.d e.a e.b e.n)], h) := by
  obtain ⟨op, d, a, b, n, long⟩ := e
  cases long with
  | true => exact long_bad h he
  | false => exact encode_bad h he

end Go.Proofs.Ytmfmnbldngfelaa.I
