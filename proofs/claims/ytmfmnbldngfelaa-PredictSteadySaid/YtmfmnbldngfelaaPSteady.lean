/- PredictSteady answers true. -/
import Derived.Test.YtmfmnbldngfelaaPCon
set_option linter.unusedVariables false
set_option linter.unusedSimpArgs false
namespace Go.Proofs.Ytmfmnbldngfelaa.T
open Go Go.Proofs.Ytmfmnbldngfelaa.Abs Go.Proofs

def cs (t : Bool) (k : Nat) : Int := if k = 0 then 1 else if t = true then min (1 + k) 3 else 0
def ws (t : Bool) (k : Nat) : Int := if k = 0 then 0 else if t = true then 1 else 0

theorem cs_step (t : Bool) (k : Nat) : step (cs t k) t = cs t (k + 1) := by
  unfold step cs
  cases t <;> cases k <;> simp <;> omega
theorem ws_step (t : Bool) (k : Nat) : ws t k + miss (cs t k) t = ws t (k + 1) := by
  unfold miss ws cs
  cases t <;> cases k <;> simp
  split
  · rfl
  · omega
theorem cs_bd (t : Bool) (k : Nat) : 0 ≤ cs t k ∧ cs t k ≤ 3 := by
  unfold cs
  cases t <;> cases k <;> simp <;> omega
theorem ws_bd (t : Bool) (k : Nat) : 0 ≤ ws t k ∧ ws t k ≤ 1 := by
  unfold ws
  cases t <;> cases k <;> simp
theorem cs_end (t : Bool) (k : Nat) : decide (2 ≤ cs t (k + 1)) = t := by
  unfold cs
  cases t <;> simp; omega

theorem steady_loop {p : Ad} {pc : Int} {t : Bool} {n m : Nat} (h0 : 0 ≤ pc) (h1 : pc < 16384) (hm : m ≤ 100) (hn : 0 < n) {Q : Kont (AV × Heap)} : ∀ (k i : Nat) (h : Heap) (l : List Int), i + k = m → l.length = n →
    l[(pc % n).toNat]? = some (cs t i) → Pr h p l (ws t i) →
    ∃ h' l', L4x11 mk0 E pc t (some p) m i h Q = Q (.exit 0) (S4xe0 pc t (some p) h') ∧ l'.length = n ∧ l'[(pc % n).toNat]? = some (cs t m) ∧ Pr h' p l' (ws t m) := by
  intro k
  induction k with
  | zero =>
    intro i h l hi hl hc H
    have hi : i = m := by omega
    subst hi
    refine ⟨h, l, ?_, hl, hc, H⟩
    rw [L4x11xeq]
    simp only [letK_eq, decide_eq_true_eq]
    rw [if_neg (by omega)]
  | succ k ih =>
    intro i h l hi hl hc H
    obtain ⟨h2, g1, g2⟩ := update_ok (t := t) H h0 h1 (by rw [hl]; exact hc) (cs_bd t i).1 (cs_bd t i).2 (ws_bd t i).1 (by have := (ws_bd t i).2; omega)
    rw [cs_step, ws_step, hl] at g2
    have p3 := Int.emod_nonneg pc (show (n : Int) ≠ 0 by omega)
    have p4 := Int.emod_lt_of_pos pc (show (0 : Int) < n by omega)
    obtain ⟨h', l', e1, e2, e3, e4⟩ := ih (i + 1) h2 _ (by omega) (by simpa using hl) (by rw [List.getElem?_set, if_pos rfl, if_pos (by omega)]) g2
    refine ⟨h', l', ?_, e2, e3, e4⟩
    rw [L4x11xeq]
    simp only [letK_eq, decide_eq_true_eq]
    rw [if_pos (by omega), g1]
    simp only [Option.bind_some, gT2_of, List.getD_cons_zero, List.getD_cons_succ, gB_of, gI_of, decide_true, Bool.not_true, Bool.false_eq_true, if_false]
    rw [wrap64 (by omega) (by omega)]
    exact e1

theorem predictSteady_ok (a b m : Int) (t : Bool) (h : Heap) : ∃ h', E 4 [.int .i64 a, .int .i64 b, .bool t, .int .i64 m] h = some (.bool true, h') := by
  have a1 := Int.emod_nonneg a (show (1024 : Int) ≠ 0 by omega)
  have a2 := Int.emod_lt_of_pos a (show (0 : Int) < 1024 by omega)
  have b1 := Int.emod_nonneg b (show (16384 : Int) ≠ 0 by omega)
  have b2 := Int.emod_lt_of_pos b (show (0 : Int) < 16384 by omega)
  have m1 := Int.emod_nonneg m (show (20 : Int) ≠ 0 by omega)
  have m2 := Int.emod_lt_of_pos m (show (0 : Int) < 20 by omega)
  obtain ⟨n, hn⟩ : ∃ n : Nat, 1 + a % 1024 = n := ⟨(1 + a % 1024).toNat, by omega⟩
  obtain ⟨j, hj⟩ : ∃ j : Nat, 1 + m % 20 = ((j + 1 : Nat) : Int) := ⟨(m % 20).toNat, by omega⟩
  generalize hpc : b % 16384 = pc at *
  obtain ⟨h2, p, g1, g2⟩ := new_ok n h (by omega) (by omega)
  have p3 := Int.emod_nonneg pc (show (n : Int) ≠ 0 by omega)
  have p4 := Int.emod_lt_of_pos pc (show (0 : Int) < n by omega)
  obtain ⟨h3, l', e1, e2, e3, e4⟩ := steady_loop (p := p) (pc := pc) (t := t) (n := n) (m := j + 1) b1 b2 (by omega) (by omega) (Q := Q4x11 mk0 E) (j + 1) 0 h2 (List.replicate n 1) (by omega) (by simp)
    (by rw [List.getElem?_replicate, if_pos (by omega)]; rfl) g2
  have ht := taken_ok e4 b1 b2 (by rw [e2]; exact e3)
  have hw := wrong_ok e4
  rw [cs_end] at ht
  refine ⟨h3, ?_⟩
  rw [Go.Proofs.Ytmfmnbldngfelaa.T.e4, rest_ok a 1024 h (by omega) (by omega)]
  simp only [Option.bind_some, gI_of, letK_eq]
  rw [wrap64 (by omega) (by omega), hn, g1]
  simp only [Option.bind_some, gT2_of, List.getD_cons_zero, List.getD_cons_succ, gP_of, gI_of, decide_true, Bool.not_true, Bool.false_eq_true, if_false, Option.isNone_some]
  rw [rest_ok b 16384 h2 (by omega) (by omega)]
  simp only [Option.bind_some, gI_of]
  rw [rest_ok m 20 h2 (by omega) (by omega)]
  simp only [Option.bind_some, gI_of, letK_eq]
  rw [wrap64 (by omega) (by omega), hj, hpc]
  refine (show L4x11 mk0 E pc t (some p) ((j + 1 : Nat) : Int) ((0 : Nat) : Int) h2 (Q4x11 mk0 E) = _ from e1).trans ?_
  rw [X4x11xe0, ht]
  simp only [Option.bind_some, gT2_of, List.getD_cons_zero, List.getD_cons_succ, gB_of, gI_of]
  have fin : ∀ x : Int, x = ws t (j + 1) → J4x28 mk0 E t (some p) 0 t x h3 = some (.bool true, h3) := by
    intro x hx
    rw [J4x28xeq]
    simp only [letK_eq, decide_true, if_true, BEq.rfl, callO_true, hw, Option.bind_some, gI_of, hx]
  cases t with
  | true => rw [if_pos rfl]; exact fin 1 rfl
  | false => rw [if_neg (by simp)]; exact fin 0 rfl

end Go.Proofs.Ytmfmnbldngfelaa.T
