/- slices.Equal on blocks of whole numbers, and the law InsnUnique. -/
import Derived.Test.YtmfmnbldngfelaaICon
set_option linter.unusedVariables false
set_option linter.unusedSimpArgs false
namespace Go.Proofs.Ytmfmnbldngfelaa.I
open Go Go.Proofs.Ytmfmnbldngfelaa.Abs Go.Proofs

/-- A slice that reads as a list of whole numbers. -/
def IS (h : Heap) (s : SA) (n : Nat) (l : List Int) : Prop :=
  l.length = n ∧ (n = 0 ∨ ∃ b v o c m, s = .pos ⟨b, v, o⟩ ∧ h[b]? = some (.cells c m v) ∧ ∀ i, i < n → c[o + i]? = some (.int .i64 (l.getD i 0)))

theorem is_ld {h : Heap} {s : SA} {n : Nat} {l : List Int} (H : IS h s n l) (i : Nat) (hi : i < n) : ∃ a, adP s = some a ∧ ld1 h (Ad.add a i) = some (.int .i64 (l.getD i 0)) := by
  obtain ⟨_, H | ⟨b, v, o, c, m, rfl, hb, hc⟩⟩ := H
  · omega
  · exact ⟨_, rfl, ld1_at hb (hc i hi) rfl⟩

theorem is_app {h l' : Heap} {s : SA} {n : Nat} {l : List Int} (H : IS h s n l) : IS (h ++ l') s n l := by
  obtain ⟨hl, H | ⟨b, v, o, c, m, rfl, hb, hc⟩⟩ := H
  · exact ⟨hl, .inl H⟩
  · exact ⟨hl, .inr ⟨b, v, o, c, m, rfl, app_old hb, hc⟩⟩

theorem is_new (h : Heap) (l : List Int) : IS (h ++ [.cells (l.map (.int .i64)) (.grow 1) 0]) (.pos ⟨h.length, 0, 0⟩) l.length l := by
  refine ⟨rfl, .inr ⟨_, _, _, _, _, rfl, by rw [List.getElem?_append_right (Nat.le_refl _), Nat.sub_self]; rfl, fun i hi => ?_⟩⟩
  simp [hi]

theorem drop_eq (l m : List Int) (j : Nat) (h1 : j < l.length) (h2 : j < m.length) : (l.drop j = m.drop j) ↔ (l.getD j 0 = m.getD j 0 ∧ l.drop (j + 1) = m.drop (j + 1)) := by
  rw [List.drop_eq_getElem_cons h1, List.drop_eq_getElem_cons h2, List.cons.injEq, show l.getD j 0 = l[j] by simp [h1], show m.getD j 0 = m[j] by simp [h2]]

theorem eq_loop {h : Heap} {s0 s1 : SA} {n : Nat} {l0 l1 : List Int} (H0 : IS h s0 n l0) (H1 : IS h s1 n l1) (hn : n < 4611686018427387904) : ∀ (k j : Nat), j + k = n →
    L26x9 mk0 E s0 n s1 n ((n : Nat) : Int) ((j : Nat) : Int) h (Q26x9 mk0 E) = some (.bool (decide (l0.drop j = l1.drop j)), h) := by
  intro k
  induction k with
  | zero =>
    intro j hj
    rw [L26x9xeq]
    have e0 := H0.1
    have e1 := H1.1
    have : ¬ ((j : Int) < (n : Int)) := by omega
    simp only [letK_eq, this, decide_false, Bool.false_eq_true, if_false, X26x9xe0]
    rw [List.drop_eq_nil_of_le (by omega), List.drop_eq_nil_of_le (by omega)]
    rfl
  | succ k ih =>
    intro j hj
    rw [L26x9xeq]
    have e0 := H0.1
    have e1 := H1.1
    have hlt : (j : Int) < (n : Int) := by omega
    obtain ⟨a, ha, la⟩ := is_ld H0 j (by omega)
    obtain ⟨b, hb, lb⟩ := is_ld H1 j (by omega)
    simp only [letK_eq, hlt, decide_true, if_true]
    rw [chk_of (by intro _; constructor <;> first | omega | trivial)]
    simp only [ha, Int.toNat_natCast, Nat.mul_one]
    simp only [atP_of, la, gI_of]
    rw [chk_of (by intro _; constructor <;> first | omega | trivial)]
    simp only [hb, atP_of, lb, gI_of]
    rw [wrap64 (by omega) (by omega), show ((j : Int) + 1) = ((j + 1 : Nat) : Int) by omega, ih (j + 1) (by omega)]
    have hd := drop_eq l0 l1 j (by omega) (by omega)
    by_cases hx : l0.getD j 0 = l1.getD j 0
    · simp only [hx, decide_true, Bool.not_true, Bool.false_eq_true, if_false]
      congr 3
      exact decide_eq_decide.2 ⟨fun h => hd.2 ⟨hx, h⟩, fun h => (hd.1 h).2⟩
    · have : ¬ l0.drop j = l1.drop j := by rw [hd]; exact fun hh => hx hh.1
      simp only [hx, this, decide_false, Bool.not_false, if_true, X26x9xr]

theorem equal_ok {h : Heap} {s0 s1 : SA} {n0 n1 : Nat} {l0 l1 : List Int} (H0 : IS h s0 n0 l0) (H1 : IS h s1 n1 l1) (hn : n0 < 4611686018427387904) :
    E 26 [.sl s0 n0, .sl s1 n1] h = some (.bool (decide (l0 = l1)), h) := by
  rw [e26]
  by_cases e : n0 = n1
  · subst e
    simp only [letK_eq, decide_true, Bool.not_true, Bool.false_eq_true, if_false]
    have := eq_loop H0 H1 hn n0 0 (by omega)
    simpa using this
  · have e0 := H0.1
    have e1 := H1.1
    have : ¬ l0 = l1 := fun h => e (by rw [← e0, ← e1, h])
    have e' : ¬ ((n0 : Int) = (n1 : Int)) := by omega
    simp only [letK_eq, e', this, decide_false, Bool.not_false, if_true]

/-- The words of an encoding. -/
def encL (op d a b n : Int) : List Int := if inB n (-128) 127 = true then [wordV op d a b + n % 256] else [wordV op d a b + 67108864, n % 4294967296]
theorem encW_eq (op d a b n : Int) : encW op d a b n = (encL op d a b n).map (.int .i64) := by
  unfold encW encL
  split <;> rfl
theorem encL_len (op d a b n : Int) : (encL op d a b n).length ≤ 2 := by
  unfold encL
  split <;> simp

theorem encL_inj {op d a b n op' d' a' b' n' : Int} (h : chkV op d a b n = 0) (h' : chkV op' d' a' b' n' = 0) :
    encL op d a b n = encL op' d' a' b' n' ↔ op = op' ∧ d = d' ∧ a = a' ∧ b = b' ∧ n = n' := by
  obtain ⟨o0, o1, d0, d1, a0, a1, b0, b1, n0, n1⟩ := chk_bd h
  obtain ⟨o0', o1', d0', d1', a0', a1', b0', b1', n0', n1'⟩ := chk_bd h'
  constructor
  · intro e
    unfold encL at e
    by_cases x : inB n (-128) 127 = true <;> by_cases x' : inB n' (-128) 127 = true <;> simp only [x, x', if_true, if_false, List.cons.injEq, and_true, reduceCtorEq, and_false, wordV] at e <;> simp [inB] at x x' <;> omega
  · rintro ⟨rfl, rfl, rfl, rfl, rfl⟩
    rfl

theorem eqInts (x0 x1 x2 x3 x4 y0 y1 y2 y3 y4 : Int) : eqCells [false, false, false, false, false] [.int .i64 x0, .int .i64 x1, .int .i64 x2, .int .i64 x3, .int .i64 x4] [.int .i64 y0, .int .i64 y1, .int .i64 y2, .int .i64 y3, .int .i64 y4] =
    some (decide (x0 = y0 ∧ x1 = y1 ∧ x2 = y2 ∧ x3 = y3 ∧ x4 = y4)) := by
  simp [eqCells, Bool.decide_and]

theorem insnUnique_ok (op d a b n op' d' a' b' n' : Int) (h : Heap) : ∃ h', E 7 [.agg [.int .i64 op, .int .i64 d, .int .i64 a, .int .i64 b, .int .i64 n], .agg [.int .i64 op', .int .i64 d', .int .i64 a', .int .i64 b', .int .i64 n']] h = some (.bool true, h') := by
  rw [e7]
  by_cases hc : chkV op d a b n = 0
  · rw [encode_ok h hc]
    simp only [Option.bind_some, gT2_of, List.getD_cons_zero, List.getD_cons_succ, gL_of, gI_of, letK_eq]
    by_cases hc' : chkV op' d' a' b' n' = 0
    · rw [encode_ok _ hc']
      simp only [Option.bind_some, gT2_of, List.getD_cons_zero, List.getD_cons_succ, gL_of, gI_of, letK_eq, decide_true, Bool.not_true, Bool.false_eq_true, if_false]
      obtain ⟨h', he, hh⟩ := fact_ok ((h ++ [.cells (encW op d a b n) (.grow 1) 0]) ++ [.cells (encW op' d' a' b' n') (.grow 1) 0])
      rw [he]
      refine ⟨h', ?_⟩
      simp only [Option.bind_some, gB_of, letK_eq, if_true, gI_of, Bool.not_false, andB_true]
      rw [chk_of (by intro _; omega), chk_of (by intro _; omega), eqInts]
      have H0 : IS h' (.pos ⟨h.length, 0, 0⟩) (encW op d a b n).length (encL op d a b n) := by
        rw [hh, encW_eq, List.length_map]
        exact is_app (is_app (is_new h _))
      have H1 : IS h' (.pos ⟨(h ++ [Blk.cells (encW op d a b n) (.grow 1) 0]).length, 0, 0⟩) (encW op' d' a' b' n').length (encL op' d' a' b' n') := by
        rw [hh, encW_eq op' d' a' b' n', List.length_map]
        exact is_app (is_new _ _)
      rw [equal_ok H0 H1 (by have := encL_len op d a b n; rw [encW_eq, List.length_map]; omega)]
      simp only [callO_true, Option.bind_some, gB_of, gb, letK_eq, encL_inj hc hc']
      simp
    · rw [encode_bad _ hc']
      obtain ⟨h', he, hh⟩ := fact_ok (h ++ [.cells (encW op d a b n) (.grow 1) 0])
      refine ⟨h', ?_⟩
      simp [he, hc', chk_of, gI_false, eqInts]
  · rw [encode_bad h hc]
    simp only [Option.bind_some, gT2_of, List.getD_cons_zero, List.getD_cons_succ, gL_of, gI_of, letK_eq]
    by_cases hc' : chkV op' d' a' b' n' = 0
    · rw [encode_ok _ hc']
      obtain ⟨h', he, hh⟩ := fact_ok (h ++ [.cells (encW op' d' a' b' n') (.grow 1) 0])
      refine ⟨h', ?_⟩
      simp [he, hc, chk_of, gI_false, eqInts]
    · rw [encode_bad _ hc']
      obtain ⟨h', he, hh⟩ := fact_ok h
      refine ⟨h', ?_⟩
      simp [he, hc, hc', chk_of, gI_false, eqInts]

end Go.Proofs.Ytmfmnbldngfelaa.I
