/- pipe: what its functions answer. -/
import Derived.Test.YtepkdcgokedkdaaHCyc
set_option linter.unusedVariables false
set_option linter.unusedSimpArgs false
namespace Go.Proofs.Ytepkdcgokedkdaa.H
open Go Go.Proofs.Ytepkdcgokedkdaa.Abs Go.Proofs

/-- A pipe at block b; its writes lie in none of the blocks 'bad'. -/
def PR (bad : List Nat) (h : Heap) (b : Nat) (t : TS) (m : Int) (c : Nat) : Prop :=
  ∃ s n, h[b]? = some (.cells (tc t s n ++ [.int .i64 m]) .fix 0) ∧ VS intC 1 h s n t.ws ∧ n ≤ c ∧ ∀ q, inS s q → q ∉ bad

/-- All but one block stands. -/
def But (b : Nat) (h h' : Heap) : Prop := ∀ (q : Nat) (x : Blk), h[q]? = some x → q ≠ b → h'[q]? = some x

theorem But.trans {b : Nat} {h1 h2 h3 : Heap} (x : But b h1 h2) (y : But b h2 h3) : But b h1 h3 := fun q z hq hn => y q z (x q z hq hn) hn
theorem Old.but {h h' : Heap} (x : Old h h') (b : Nat) : But b h h' := fun q z hq _ => x q z hq
theorem but_set (b : Nat) (h : Heap) (x : Blk) : But b h (h.set b x) := fun q z hq hn => by rw [set_other (fun e => hn e.symm)]; exact hq

theorem vs_but {α : Type} {f : α → List AV} {es n b : Nat} {h h' : Heap} {s : SA} {l : List α} (H : VS f es h s n l) (hk : But b h h') (hs : ¬ inS s b) : VS f es h' s n l := by
  obtain ⟨hl, H | ⟨bb, v, o, c, m, rfl, hb, hc⟩⟩ := H
  · exact ⟨hl, .inl H⟩
  · exact ⟨hl, .inr ⟨bb, v, o, c, m, rfl, hk _ _ hb (fun e => hs ⟨_, rfl, e⟩), hc⟩⟩

theorem PR.but {bad : List Nat} {h h' : Heap} {b b2 : Nat} {t : TS} {m : Int} {c : Nat} (H : PR bad h b2 t m c) (hk : But b h h') (hb : b ∈ bad) (hne : b2 ≠ b) : PR bad h' b2 t m c := by
  obtain ⟨s, n, h1, h2, h3, h4⟩ := H
  exact ⟨s, n, hk _ _ h1 hne, vs_but h2 hk (fun hi => h4 b hi hb), h3, h4⟩

theorem PR.old {bad : List Nat} {h h' : Heap} {b : Nat} {t : TS} {m : Int} {c : Nat} (H : PR bad h b t m c) (hk : Old h h') : PR bad h' b t m c := by
  obtain ⟨s, n, h1, h2, h3, h4⟩ := H
  exact ⟨s, n, hk _ _ h1, vs_old h2 hk, h3, h4⟩

theorem splice_pre : ∀ (a b r : List AV), a.length = b.length → splice 0 a (b ++ r) = a ++ r
  | [], [], r, _ => by cases r <;> rfl
  | x :: a, y :: b, r, h => by
    have := splice_pre a b r (by simpa using h)
    simp [splice, this]
  | [], y :: b, r, h => by simp at h
  | x :: a, [], r, h => by simp at h

theorem stN_at {h : Heap} {b : Nat} {c xs r : List AV} {m : Abs.Mode} (hb : h[b]? = some (.cells (c ++ r) m 0)) (hm : m ≠ .ro) (hl : xs.length = c.length) : stN h ⟨b, 0, 0⟩ xs = some (h.set b (.cells (xs ++ r) m 0)) := by
  unfold stN
  simp only [hb]
  rw [if_pos ⟨trivial, hm, by rw [List.length_append]; omega⟩, splice_pre _ _ _ hl]

end Go.Proofs.Ytepkdcgokedkdaa.H
