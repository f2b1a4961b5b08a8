/- Slices of one's own with room behind them. -/
import Derived.Test.YtnmdadadjneaiaaConDk
import Derived.Test.YtnmdadadjneaiaaDGen5
set_option linter.unusedVariables false
set_option linter.unusedSimpArgs false
namespace Go.Proofs.Ytnmdadadjneaiaa.D
open Go Go.Proofs.Ytnmdadadjneaiaa.Abs Go.Proofs
def RS (h : Heap) (s : SA) (n es : Nat) (cs : List AV) : Prop :=
 cs.length = n * es ∧ flatL cs = true ∧ ((s = .nil ∧ n = 0) ∨ ∃ b v c, s = .pos ⟨b, v, 0⟩ ∧ h[b]? = some (.cells c (.grow es) v) ∧ n * es ≤ c.length ∧ c.take (n * es) = cs)
theorem gs_rs {h : Heap} {s : SA} {n es : Nat} {cs : List AV} (H : GS h s n es cs) : RS h s n es cs := by
 obtain ⟨h1, h2, h3⟩ := H
 refine ⟨h1, h2, h3.imp id fun ⟨b, v, e, hb⟩ => ⟨b, v, cs, e, hb, by omega, by rw [← h1, List.take_length]⟩⟩
theorem rs_kp {S : Nat → Prop} {h h' : Heap} {s : SA} {n es : Nat} {cs : List AV} (H : RS h s n es cs) (k : Kp S h h') (hs : ∀ b, inS s b → ¬ S b) : RS h' s n es cs := by
 obtain ⟨h1, h2, h3⟩ := H
 refine ⟨h1, h2, h3.imp id fun ⟨b, v, c, e, hb, h4, h5⟩ => ⟨b, v, c, e, k _ _ hb (hs b ⟨_, e, rfl⟩), h4, h5⟩⟩
theorem rs_lt {h : Heap} {s : SA} {n es : Nat} {cs : List AV} (H : RS h s n es cs) {b : Nat} (hb : inS s b) : b < h.length := by
 obtain ⟨_, _, ⟨rfl, _⟩ | ⟨b', v, c, rfl, h', _⟩⟩ := H
 · obtain ⟨a, ha, _⟩ := hb; cases ha
 · obtain ⟨a, ha, rfl⟩ := hb
   cases ha
   exact (List.getElem?_eq_some_iff.1 h').1
theorem rs_cut {h : Heap} {s : SA} {n m es : Nat} {cs : List AV} (H : RS h s n es cs) (hm : m ≤ n) : RS h s m es (cs.take (m * es)) := by
 obtain ⟨h1, h2, h3⟩ := H
 have le : m * es ≤ n * es := Nat.mul_le_mul_right _ hm
 refine ⟨by rw [List.length_take]; omega, ?_, h3.imp (fun ⟨a, b⟩ => ⟨a, by omega⟩) fun ⟨b, v, c, e, hb, h4, h5⟩ => ⟨b, v, c, e, hb, by omega, ?_⟩⟩
 · have : ∀ (l : List AV) (k : Nat), flatL l = true → flatL (l.take k) = true := fun l => by
    induction l with
    | nil => intro k h; simp [flatL]
    | cons x l ih =>
     intro k h
     cases k with
     | zero => rfl
     | succ k =>
      simp only [flatL, Bool.and_eq_true, List.take_succ_cons] at h ⊢
      exact ⟨h.1, ih k h.2⟩
   exact this _ _ h2
 · rw [← h5, List.take_take, Nat.min_eq_left le]
theorem rs_vs {α : Type} {f : α → List AV} {es n : Nat} (hf : ∀ x, (f x).length = es) {h : Heap} {s : SA} {l : List α} (hn : l.length = n) (H : RS h s n es (l.flatMap f)) : VS f es h s n l := by
 obtain ⟨h1, h2, h3⟩ := H
 refine ⟨hn, h3.imp (fun h => h.2) fun ⟨b, v, c, e, hb, h4, h5⟩ => ⟨b, v, 0, c, _, e, hb, fun i x hx => ?_⟩⟩
 have hi := (List.getElem?_eq_some_iff.1 hx).1
 have hm : i * es + es ≤ n * es := by rw [← Nat.succ_mul]; exact Nat.mul_le_mul_right _ (by omega)
 refine ⟨by omega, ?_⟩
 rw [Nat.zero_add]
 have key : ∀ (l : List α) (i : Nat) (x : α), l[i]? = some x → ((l.flatMap f).drop (i * es)).take es = f x := fun l => by
  induction l with
  | nil => intro i x h; cases h
  | cons y l ih =>
   intro i x h
   cases i with
   | zero =>
    rw [List.getElem?_cons_zero] at h
    cases h
    rw [Nat.zero_mul, List.drop_zero, List.flatMap_cons, List.take_left' (hf y)]
   | succ i =>
    rw [List.getElem?_cons_succ] at h
    rw [List.flatMap_cons, Nat.succ_mul, Nat.add_comm, ← List.drop_drop, List.drop_left' (hf y)]
    exact ih i x h
 have := key l i x hx
 rw [← h5, List.drop_take, List.take_take, Nat.min_eq_left (by omega)] at this
 exact this
theorem rs_push {h : Heap} {s : SA} {n es bytes : Nat} {cs y : List AV} (H : RS h s n es cs) (he : 0 < es) (hy : y.length = es) (fy : flatL y = true) (fa : flatL (cs ++ y) = true) (hb : (n + 1) * bytes ≤ 140737488355328) :
 ∃ s' h', apnd h (.sl s n) es bytes y 1 = some (.sl s' (n + 1), h') ∧ RS h' s' (n + 1) es (cs ++ y) ∧ Kp (inS s) h h' ∧ (∀ b, inS s' b → inS s b ∨ h.length ≤ b) ∧ h.length ≤ h'.length := by
 obtain ⟨h1, h2, ⟨rfl, rfl⟩ | ⟨b, v, c, rfl, hb', h4, h5⟩⟩ := H
 · obtain ⟨s', h', a1, a2, a3, a4, a5⟩ := apnd_GS (m := 1) (bytes := bytes) (ys := y) (cs := cs) (h := h) (s := .nil) (n := 0) ⟨h1, h2, .inl ⟨rfl, rfl⟩⟩ (by omega) he (by omega) fy fa hb
   exact ⟨s', h', a1, gs_rs a2, fun b x hx hn => a4 b x hx hn, a5, a3⟩
 · have e1 : (n + 1) * es = n * es + es := Nat.succ_mul n es
   have kp : ∀ x, Kp (inS (.pos ⟨b, v, 0⟩)) h (h.set b x) := fun x => kp_set _ _ _ _ ⟨_, rfl, rfl⟩
   by_cases hc : (n + 1) * es ≤ c.length
   · have sl := splice_length (n * es) y c (by omega)
     refine ⟨.pos ⟨b, v, 0⟩, h.set b (.cells (splice (n * es) y c) (.grow es) v), ?_, ⟨by rw [List.length_append]; omega, fa, .inr ⟨b, v, _, rfl, set_same hb', by omega, ?_⟩⟩, kp _, fun b hb => .inl hb, by simp⟩
     · simp only [apnd, hb']
       rw [if_pos ⟨trivial, trivial, by omega, hb⟩, if_pos (by omega), Nat.zero_add]
     · apply List.ext_getElem?
       intro i
       rw [List.getElem?_take]
       by_cases hi : i < (n + 1) * es
       · rw [if_pos hi, splice_get (n * es) y c (by omega)]
         by_cases h6 : n * es ≤ i
         · rw [if_pos (by omega), List.getElem?_append_right (by omega), h1]
         · rw [if_neg (by omega), List.getElem?_append_left (by omega), ← h5, List.getElem?_take, if_pos (by omega)]
       · rw [if_neg hi, List.getElem?_eq_none (by rw [List.length_append]; omega)]
   · refine ⟨.pos ⟨b, v + 1, 0⟩, h.set b (.cells (cs ++ y) (.grow es) (v + 1)), ?_, ⟨by rw [List.length_append]; omega, fa, .inr ⟨b, v + 1, _, rfl, set_same hb', by rw [List.length_append]; omega, List.take_of_length_le (by rw [List.length_append]; omega)⟩⟩, kp _, fun z ⟨a, ha, hz⟩ => ?_, by simp⟩
     · simp only [apnd, hb']
       rw [if_pos ⟨trivial, trivial, by omega, hb⟩, if_neg (by omega), List.drop_zero, h5, if_pos h2]
     · cases ha
       exact .inl ⟨_, rfl, hz⟩
end Go.Proofs.Ytnmdadadjneaiaa.D
