/- PredictLoops answers true. -/
import Derived.Test.YtmfmnbldngfelaaPCon
set_option linter.unusedVariables false
set_option linter.unusedSimpArgs false
namespace Go.Proofs.Ytmfmnbldngfelaa.T
open Go Go.Proofs.Ytmfmnbldngfelaa.Abs Go.Proofs

/-- The counter, and what is predicted wrongly, behind j branches that are taken. -/
def ci (c : Int) (j : Nat) : Int := min (c + j) 3
def wi (c : Int) (j : Nat) : Int := if c = 1 ∧ 1 ≤ j then 1 else 0

theorem ci_step {c : Int} (hc : c = 1 ∨ c = 2) (j : Nat) : step (ci c j) true = ci c (j + 1) := by
  unfold step ci
  rcases hc with rfl | rfl <;> simp <;> omega
theorem wi_step {c : Int} (hc : c = 1 ∨ c = 2) (j : Nat) : wi c j + miss (ci c j) true = wi c (j + 1) := by
  unfold wi miss ci
  rcases hc with rfl | rfl
  · cases j with
    | zero => simp; omega
    | succ j => simp; omega
  · simp; omega

theorem inner_loop {p : Ad} {pc a b i27 i28 : Int} {r : Nat} (h0 : 0 ≤ pc) (h1 : pc < 16384) (hr : r ≤ 100) {c w : Int} (hc : c = 1 ∨ c = 2) (w0 : 0 ≤ w) (w1 : w ≤ 1000) {Q : Kont (AV × Heap)} :
    ∀ (k j : Nat) (h : Heap) (l : List Int), j + k = r → l.length = 64 → l[(pc % 64).toNat]? = some (ci c j) → Pr h p l (w + wi c j) →
    ∃ h' l', L5x21 mk0 E pc a b (some p) i27 i28 r j h Q = Q (.exit 2) (S5xe2 pc a b (some p) i27 i28 h') ∧ l'.length = 64 ∧ l'[(pc % 64).toNat]? = some (ci c r) ∧ Pr h' p l' (w + wi c r) := by
  intro k
  induction k with
  | zero =>
    intro j h l hj hl hcj H
    have hj : j = r := by omega
    subst hj
    refine ⟨h, l, ?_, hl, hcj, H⟩
    rw [L5x21xeq]
    simp only [letK_eq, decide_eq_true_eq]
    rw [if_neg (by omega)]
  | succ k ih =>
    intro j h l hj hl hcj H
    have hb : 0 ≤ ci c j ∧ ci c j ≤ 3 := by unfold ci; rcases hc with rfl | rfl <;> omega
    have hw : 0 ≤ wi c j ∧ wi c j ≤ 1 := by unfold wi; split <;> omega
    obtain ⟨h2, g1, g2⟩ := update_ok (t := true) H h0 h1 (by rw [hl]; exact hcj) hb.1 hb.2 (by omega) (by omega)
    rw [ci_step hc, Int.add_assoc, wi_step hc, hl] at g2
    have p3 := Int.emod_nonneg pc (show (64 : Int) ≠ 0 by omega)
    have p4 := Int.emod_lt_of_pos pc (show (0 : Int) < 64 by omega)
    obtain ⟨h', l', e1, e2, e3, e4⟩ := ih (j + 1) h2 _ (by omega) (by simpa using hl) (by rw [List.getElem?_set]; simp; omega) g2
    refine ⟨h', l', ?_, e2, e3, e4⟩
    rw [L5x21xeq]
    simp only [letK_eq, decide_eq_true_eq]
    rw [if_pos (by omega), g1]
    simp only [Option.bind_some, gT2_of, List.getD_cons_zero, List.getD_cons_succ, gB_of, gI_of]
    rw [wrap64 (by omega) (by omega)]
    exact e1

/-- The counter, and what was predicted wrongly, behind k loops. -/
def co (k : Nat) : Int := if k = 0 then 1 else 2
def wo (k : Nat) : Int := if k = 0 then 0 else k + 1

theorem outer_loop {p : Ad} {pc : Int} {r m : Nat} (h0 : 0 ≤ pc) (h1 : pc < 16384) (hr : r ≤ 100) (hr2 : 2 ≤ r) (hm : m ≤ 100) {b : Int} {Q : Kont (AV × Heap)} : ∀ (k i : Nat) (h : Heap) (l : List Int), i + k = m → l.length = 64 →
    l[(pc % 64).toNat]? = some (co i) → Pr h p l (wo i) →
    ∃ h' l', L5x11 mk0 E pc r b (some p) m i h Q = Q (.exit 0) (S5xe0 b (some p) h') ∧ Pr h' p l' (wo m) := by
  intro k
  induction k with
  | zero =>
    intro i h l hi hl hc H
    have hi : i = m := by omega
    subst hi
    refine ⟨h, l, ?_, H⟩
    rw [L5x11xeq]
    simp only [letK_eq, decide_eq_true_eq]
    rw [if_neg (by omega)]
  | succ k ih =>
    intro i h l hi hl hc H
    have hco : co i = 1 ∨ co i = 2 := by unfold co; split <;> omega
    have hwo : 0 ≤ wo i ∧ wo i ≤ 102 := by unfold wo; split <;> omega
    have z1 : ci (co i) 0 = co i := by unfold ci; rcases hco with e | e <;> rw [e] <;> rfl
    have z2 : wi (co i) 0 = 0 := by unfold wi; rw [if_neg (by omega)]
    obtain ⟨h2, l2, e1, e2, e3, e4⟩ := inner_loop (p := p) (a := r) (b := b) (i27 := m) (i28 := i) (r := r) h0 h1 hr hco hwo.1 (by omega) (Q := Q5x21 mk0 E Q) r 0 h l (by omega) hl (by rw [z1]; exact hc) (by rw [z2, Int.add_zero]; exact H)
    have z3 : ci (co i) r = 3 := by unfold ci; rcases hco with e | e <;> rw [e] <;> omega
    have z4 : 0 ≤ wi (co i) r ∧ wi (co i) r ≤ 1 := by unfold wi; split <;> omega
    rw [z3] at e3
    obtain ⟨h3, g1, g2⟩ := update_ok (t := false) e4 h0 h1 (by rw [e2]; exact e3) (by omega) (by omega) (by omega) (by omega)
    have z5 : step 3 false = co (i + 1) := rfl
    have z6 : wo i + wi (co i) r + miss 3 false = wo (i + 1) := by
      unfold wo wi co miss
      cases i with
      | zero => simp; rw [if_pos (by omega)]; rfl
      | succ i => simp
    rw [z5, z6, e2] at g2
    have p3 := Int.emod_nonneg pc (show (64 : Int) ≠ 0 by omega)
    have p4 := Int.emod_lt_of_pos pc (show (0 : Int) < 64 by omega)
    obtain ⟨h', l', f1, f2⟩ := ih (i + 1) h3 _ (by omega) (by simpa using e2) (by rw [List.getElem?_set]; simp; omega) g2
    refine ⟨h', l', ?_, f2⟩
    rw [L5x11xeq]
    simp only [letK_eq, decide_eq_true_eq]
    rw [if_pos (by omega)]
    refine (show L5x21 mk0 E pc r b (some p) m i r ((0 : Nat) : Int) h (Q5x21 mk0 E Q) = _ from e1).trans ?_
    rw [X5x21xe2, g1]
    simp only [Option.bind_some, gT2_of, List.getD_cons_zero, List.getD_cons_succ, gB_of, gI_of, letK_eq]
    rw [wrap64 (by omega) (by omega)]
    exact f1

theorem predictLoops_ok (a b m : Int) (h : Heap) : ∃ h', E 5 [.int .i64 a, .int .i64 b, .int .i64 m] h = some (.bool true, h') := by
  have a1 := Int.emod_nonneg a (show (16384 : Int) ≠ 0 by omega)
  have a2 := Int.emod_lt_of_pos a (show (0 : Int) < 16384 by omega)
  have b1 := Int.emod_nonneg b (show (10 : Int) ≠ 0 by omega)
  have b2 := Int.emod_lt_of_pos b (show (0 : Int) < 10 by omega)
  have m1 := Int.emod_nonneg m (show (10 : Int) ≠ 0 by omega)
  have m2 := Int.emod_lt_of_pos m (show (0 : Int) < 10 by omega)
  obtain ⟨r, hr⟩ : ∃ r : Nat, 2 + b % 10 = r := ⟨(2 + b % 10).toNat, by omega⟩
  obtain ⟨j, hj⟩ : ∃ j : Nat, 1 + m % 10 = ((j + 1 : Nat) : Int) := ⟨(m % 10).toNat, by omega⟩
  generalize hpc : a % 16384 = pc at *
  obtain ⟨h2, p, g1, g2⟩ := new_ok 64 h (by omega) (by omega)
  have p3 := Int.emod_nonneg pc (show (64 : Int) ≠ 0 by omega)
  have p4 := Int.emod_lt_of_pos pc (show (0 : Int) < 64 by omega)
  obtain ⟨h3, l', f1, f2⟩ := outer_loop (p := p) (pc := pc) (r := r) (m := j + 1) a1 a2 (by omega) (by omega) (by omega) (b := ((j + 1 : Nat) : Int)) (Q := Q5x11 mk0 E) (j + 1) 0 h2 (List.replicate 64 1) (by omega) (by simp)
    (by rw [List.getElem?_replicate, if_pos (by omega)]; rfl) g2
  have hw := wrong_ok f2
  have hwo : wo (j + 1) = j + 2 := by unfold wo; simp; omega
  refine ⟨h3, ?_⟩
  rw [e5]
  rw [show (64 : Int) = ((64 : Nat) : Int) from rfl, g1]
  simp only [Option.bind_some, gT2_of, List.getD_cons_zero, List.getD_cons_succ, gP_of, gI_of, letK_eq, decide_true, Bool.not_true, Bool.false_eq_true, if_false, Option.isNone_some]
  rw [rest_ok a 16384 h2 (by omega) (by omega)]
  simp only [Option.bind_some, gI_of]
  rw [rest_ok b 10 h2 (by omega) (by omega)]
  simp only [Option.bind_some, gI_of, letK_eq]
  rw [rest_ok m 10 h2 (by omega) (by omega)]
  simp only [Option.bind_some, gI_of, letK_eq]
  rw [wrap64 (by omega) (by omega), wrap64 (by omega) (by omega), hj, hr, hpc]
  refine (show L5x11 mk0 E pc r ((j + 1 : Nat) : Int) (some p) ((j + 1 : Nat) : Int) ((0 : Nat) : Int) h2 (Q5x11 mk0 E) = _ from f1).trans ?_
  rw [X5x11xe0, hw]
  simp only [Option.bind_some, gI_of, letK_eq]
  have d1 : ((j + 1 : Nat) : Int) ≤ wo (j + 1) := by rw [hwo]; omega
  rw [wrap64 (by omega) (by omega)]
  have d2 : wo (j + 1) ≤ ((j + 1 : Nat) : Int) + 2 := by rw [hwo]; omega
  simp only [d1, decide_true, callO_true, hw, Option.bind_some, gI_of, d2, if_true]

end Go.Proofs.Ytmfmnbldngfelaa.T
