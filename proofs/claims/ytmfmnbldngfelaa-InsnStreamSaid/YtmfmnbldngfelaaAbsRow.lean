/- Arguments of a row: what their reading says of them abstractly; they read behind the call as before. -/
import Derived.Test.YtmfmnbldngfelaaAbsData
import Derived.Carry
import Derived.ChangeOld
set_option linter.unusedVariables false
set_option linter.unusedSimpArgs false
namespace Go.Proofs.Ytmfmnbldngfelaa.Abs
open Go Go.RowKit

theorem trodAll_below {H : Type} {enc : TypeId × Value → H} {P : Program} (hl : laidOutB P = true) {W W' : World} (hb : Below W.heap.size W W') : ∀ {ts : List TypeId} {vs : List Value} {ds : List (DataW H)} {ps : List MemPlace},
    (∀ t ∈ ts, P.readableRec t = true ∧ t < P.types.size) → DataW.TrodAll enc P W 0 (fun _ => true) true ts vs ds ps → DataW.TrodAll enc P W' 0 (fun b => decide (b < W.heap.size)) true ts vs ds ps := by
  intro ts
  induction ts with
  | nil => intro vs ds ps _ h; cases vs <;> cases ds <;> first | exact h | exact h.elim
  | cons t ts ih =>
    intro vs ds ps hr h
    cases vs with
    | nil => exact h.elim
    | cons v vs =>
      cases ds with
      | nil => exact h.elim
      | cons d ds =>
        have hlt := DataW.TrodAll.lt h
        obtain ⟨p, q, h1, h2, rfl⟩ := h
        refine ⟨p, q, ?_, ih (fun t ht => hr t (.tail _ ht)) h2, rfl⟩
        exact Below.trod hl (hr t (.head _)).1 (hr t (.head _)).2 h1 hb fun x hx => hlt x (List.mem_append_left _ hx)

theorem arg_agg {H : Type} {enc : TypeId × Value → H} {P : Program} {W : World} {r : Go.Reach} {b : Nat} {spare : Nat → Bool} {held : Bool} {t : TypeId} {v : Value} {d : DataW H} {ps : List MemPlace} {fs : Array Field} (hu : P.underlying t = some (.struct fs))
    (hval : Value.okWide P W r b t v) (h : DataW.Trod enc P W 0 spare held t v d ps) : ∃ l f, argAV W v = .agg l ∧ IsTy P (ahW W) f t l := by
  unfold Value.okWide at hval
  rw [hu] at hval
  obtain ⟨cs, rfl, _, _⟩ := hval
  obtain ⟨f, hf⟩ := h
  exact ⟨_, f, rfl, isTy_of_trod f t _ d ps hf (fun _ _ => trivial)⟩

/-- Kinds of types whose values take one cell. -/
def oneK : TypeDesc → Bool
  | .bool | .int _ | .string | .slice _ => true
  | _ => false

theorem arg_one {H : Type} {enc : TypeId × Value → H} {P : Program} {W : World} {r : Go.Reach} {b : Nat} {spare : Nat → Bool} {held : Bool} {t : TypeId} {v : Value} {d : DataW H} {ps : List MemPlace} {u : TypeDesc} (hu : P.underlying t = some u) (hk : oneK u = true)
    (hval : Value.okWide P W r b t v) (h : DataW.Trod enc P W 0 spare held t v d ps) : ∃ f, IsTy P (ahW W) f t [argAV W v] := by
  obtain ⟨f, hf⟩ := h
  have := isTy_of_trod f t _ d ps hf (fun _ _ => trivial)
  refine ⟨f, ?_⟩
  have hv : ∀ cs, v ≠ .agg cs := by
    rintro cs rfl
    unfold Value.okWide at hval
    rw [hu] at hval
    cases u <;> simp [oneK] at hk <;> simp [Cell.okWide, Cell.ok, hu] at hval
  have e : v.cells.toList.map (toAV W) = [argAV W v] := by
    cases v with
    | agg cs => exact absurd rfl (hv cs)
    | _ => rfl
  rw [e] at this
  exact this

end Go.Proofs.Ytmfmnbldngfelaa.Abs
