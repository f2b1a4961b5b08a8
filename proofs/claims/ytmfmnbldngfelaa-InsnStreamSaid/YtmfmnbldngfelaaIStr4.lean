/- InsnStream: the writing loop's invariant and round. -/
import Derived.Test.YtmfmnbldngfelaaIStr3
set_option linter.unusedVariables false
set_option linter.unusedSimpArgs false
namespace Go.Proofs.Ytmfmnbldngfelaa.I
open Go Go.Proofs.Ytmfmnbldngfelaa.Abs Go.Proofs

/-- What holds while instructions are written. -/
structure WI (h0 h : Heap) (s5 : SA) (n5 : Nat) (s6 : SA) (n6 : Nat) (s7 : SA) (n7 : Nat) (os : List Ent) : Prop where
  g5 : GS h s5 n5 1 ((os.flatMap Ent.words).map (.int .i64))
  g6 : GS h s6 n6 5 (os.flatMap Ent.cells)
  g7 : GS h s7 n7 1 ((os.map Ent.size).map (.int .i64))
  l6 : os.length = n6
  l7 : n7 = n6
  l5 : n5 ≤ 2 * n6
  ok : ∀ e ∈ os, e.ok
  old : ∀ (b : Nat) (x : Blk), h0[b]? = some x → h[b]? = some x
  le : h0.length ≤ h.length
  o5 : ∀ b, inS s5 b → h0.length ≤ b
  o6 : ∀ b, inS s6 b → h0.length ≤ b
  o7 : ∀ b, inS s7 b → h0.length ≤ b
  d56 : ∀ b, inS s5 b → ¬ inS s6 b
  d57 : ∀ b, inS s5 b → ¬ inS s7 b
  d67 : ∀ b, inS s6 b → ¬ inS s7 b

theorem wi0 (h : Heap) : WI h h .nil 0 .nil 0 .nil 0 [] := by
  refine ⟨⟨rfl, rfl, .inl ⟨rfl, rfl⟩⟩, ⟨rfl, rfl, .inl ⟨rfl, rfl⟩⟩, ⟨rfl, rfl, .inl ⟨rfl, rfl⟩⟩, rfl, rfl, by omega, by simp, fun _ _ h => h, Nat.le_refl _, ?_, ?_, ?_, ?_, ?_, ?_⟩ <;> rintro b ⟨a, ha, _⟩ <;> cases ha

theorem fnK_fn {R : Type} (f : FuncId) (a c : List AV) (K : FuncId → List AV → List AV → Option R) : fnK (.fn f a c) K = K f a c := rfl

theorem flat_ints (l : List Int) : flatL (l.map (AV.int .i64)) = true := by
  induction l with
  | nil => rfl
  | cons x l ih => simpa [flatL, flatA] using ih

theorem flat_cells (os : List Ent) : flatL (os.flatMap Ent.cells) = true := by
  induction os with
  | nil => rfl
  | cons x l ih => rw [List.flatMap_cons]; simpa [Ent.cells, flatL, flatA] using ih

theorem ldSl_at {h : Heap} {b v : Nat} {c : List AV} {m : Abs.Mode} {n : Nat} (hb : h[b]? = some (.cells c m v)) (hn : c.length = n) (hf : flatL c = true) : ldSl h (.pos ⟨b, v, 0⟩) n = some c := by
  cases n with
  | zero =>
    have : c = [] := List.length_eq_zero_iff.1 hn
    subst this; rfl
  | succ n =>
    have ht : (c.drop 0).take (n + 1) = c := by rw [List.drop_zero, ← hn, List.take_length]
    simp only [ldSl, ldN, hb]
    rw [if_pos ⟨trivial, by omega, by rw [ht]; exact hf⟩, ht]

end Go.Proofs.Ytmfmnbldngfelaa.I
