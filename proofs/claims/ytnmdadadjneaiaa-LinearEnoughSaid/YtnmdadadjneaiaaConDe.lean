/- Small functions; remainders; renamed allocations. -/
import Derived.Test.YtnmdadadjneaiaaConDd
set_option linter.unusedVariables false
set_option linter.unusedSimpArgs false
namespace Go.Proofs.Ytnmdadadjneaiaa.D
open Go Go.Proofs.Ytnmdadadjneaiaa.Abs Go.Proofs
theorem modulo_ok (n m : Int) (h : Heap) (h1 : 0 < m) (h2 : m ≤ 1000000000) : E 33 [.int .i64 n, .int .i64 m] h = some (.int .i64 (n % m), h) := by
 rw [e33]
 have hne : ¬ m = 0 := by omega
 rw [chk_of (fun _ => hne)]
 simp only [letK_eq, decide_eq_true_eq]
 have key : n % m = if n.tmod m < 0 then n.tmod m + m else n.tmod m := by
  have e := Int.tmod_def n m
  by_cases hn : n < 0
  · have e1 : n.tmod m = -((-n) % m) := by
     have := Int.neg_tmod n m
     rw [Int.tmod_eq_emod_of_nonneg (by omega : 0 ≤ -n)] at this
     omega
    have p1 := Int.emod_nonneg (-n) hne
    have p2 := Int.emod_lt_of_pos (-n) h1
    have p3 := Int.emod_nonneg n hne
    have p4 := Int.emod_lt_of_pos n h1
    have q1 := Int.emod_add_mul_ediv n m
    have q2 := Int.emod_add_mul_ediv (-n) m
    by_cases hz : (-n) % m = 0
    · have : n % m = 0 := by
       have := Int.dvd_of_emod_eq_zero hz
       exact Int.emod_eq_zero_of_dvd ((Int.dvd_neg).1 this)
      rw [if_neg (by omega), e1, hz, this]; rfl
    · rw [if_pos (by omega), e1]
      have hs : m * (n / m) + m * (-n / m) = -(n % m) - (-n) % m := by omega
      rw [← Int.mul_add] at hs
      have hr : n / m + -n / m = -1 := by
       have a1 : -2 * m < m * (n / m + -n / m) := by omega
       have a2 : m * (n / m + -n / m) < 0 := by omega
       have a3 : -2 < n / m + -n / m := by
        apply Int.lt_of_mul_lt_mul_left (a := m) _ (by omega)
        rw [Int.mul_comm m (-2)]; exact a1
       have a4 : n / m + -n / m < 0 := by
        apply Int.lt_of_mul_lt_mul_left (a := m) _ (by omega)
        rw [Int.mul_zero]; exact a2
       omega
      rw [hr] at hs
      omega
  · have hn : 0 ≤ n := by omega
    rw [Int.tmod_eq_emod_of_nonneg hn, if_neg (by have := Int.emod_nonneg n hne; omega)]
 have p3 := Int.emod_nonneg n hne
 have p4 := Int.emod_lt_of_pos n h1
 split
 · rename_i hlt
   rw [if_pos hlt] at key
   rw [wrap64 (by omega) (by omega), key]
 · rename_i hlt
   rw [if_neg hlt] at key
   rw [key]
theorem rest_ok (n m : Int) (h : Heap) (h1 : 0 < m) (h2 : m ≤ 1000000000) : E 11 [.int .i64 n, .int .i64 m] h = some (.int .i64 (n % m), h) := by
 rw [e11, modulo_ok n m h h1 h2, Option.bind_some, gI_of]
theorem small_loop {h : Heap} {f : VF} (R : f.R h) (B : f.B) (Q : Kont (AV × Heap)) : ∀ (k j : Nat), j + k = f.blocks.length → ∀ (i3 : Int),
 ∃ i : Int, L10x5 mk0 E f.nm f.sp f.params.length f.regs f.sb f.blocks.length i3 f.sb f.blocks.length ((f.blocks.length : Nat) : Int) ((j : Nat) : Int) h Q = Q (.exit 0) (S10xe0 f.nm f.sp f.params.length f.regs f.sb f.blocks.length i h) ∧
  ∀ m : Nat, i3 = ((m : Nat) : Int) → m + sumI (f.blocks.drop j) ≤ 4096 → i = ((m + sumI (f.blocks.drop j) : Nat) : Int) := by
 have bb := B.b
 intro k
 induction k with
 | zero =>
  intro j hj i3
  rw [L10x5xeq, letK_eq, if_neg (by simp; omega), List.drop_eq_nil_of_le (by omega)]
  exact ⟨i3, rfl, fun m h _ => by rw [h]; rfl⟩
 | succ k ih =>
  intro j hj i3
  obtain ⟨x, hx⟩ := at_lt (l := f.blocks) (i := j) (by omega)
  obtain ⟨a, ha, la⟩ := vs_ld R.b vb_flat j x hx
  simp only [VB.cells, VE.cells] at la
  have sm : sumI (f.blocks.drop j) = x.ins.length + sumI (f.blocks.drop (j + 1)) := by rw [drop_at hx]; rfl
  rw [L10x5xeq, letK_eq, if_pos (by simp; omega), chk_of (by intro _; omega), ha, atP_of, Int.toNat_natCast, la, gCells_of]
  simp only [List.getElem?_cons_zero, List.getElem?_cons_succ]
  rw [gL_of, gI_of, gI_of, gI_of, gI_of, gI_of, gL_of, letK_eq, letK_eq, wrap64 (x := ((j : Nat) : Int) + 1) (by omega) (by omega), show ((j : Int) + 1) = ((j + 1 : Nat) : Int) by omega]
  obtain ⟨i, r1, r2⟩ := ih (j + 1) (by omega) (IntKind.wrap .i64 (i3 + ((x.ins.length : Nat) : Int)))
  refine ⟨i, r1, fun m hm hs => ?_⟩
  have := r2 (m + x.ins.length) (by rw [hm, wrap64 (by omega) (by omega)]; omega) (by omega)
  rw [this, sm]; omega
theorem small_ok {h : Heap} {f : VF} (R : f.R h) (B : f.B) : ∃ h', ∃ b : Bool, E 10 [.agg f.cells] h = some (.bool b, h') ∧ Old h h' ∧ (b = true → f.ok ∧ f.regs ≤ 60 ∧ f.blocks.length ≤ 20 ∧ sumI f.blocks ≤ 100) := by
 obtain ⟨i, l1, l2⟩ := small_loop R B (Q10x5 mk0 E) f.blocks.length 0 (by omega) 0
 rw [show (((0 : Nat) : Int)) = 0 from rfl] at l1
 obtain ⟨h', e, c1, c2, c3⟩ := check_ok R B
 unfold VF.cells at *
 rw [e10, l1, X10x5xe0, letK_eq, gL_any, letK_eq, letK_eq, letK_eq, letK_eq]
 generalize hb : (if (if decide (f.regs ≤ 60) = true then decide ((((f.blocks.length : Nat) : Int) : Int) ≤ 20) else false) = true then decide (i ≤ 100) else false) = b
 rw [chk_of (by intro _; omega), gI_any, gL_any, gI_any, gL_any, c1]
 cases b with
 | false =>
  rw [callO_false, Option.bind_some, gI_any, letK_eq, letK_eq]
  exact ⟨h, false, rfl, Old.refl _, fun h => by cases h⟩
 | true =>
  rw [callO_true, Option.bind_some, gI_any, letK_eq, letK_eq]
  refine ⟨h', _, rfl, c2, fun he => ?_⟩
  have e0 : e = 0 := by simpa using he
  have fo := c3.1 e0
  have h60 : f.regs ≤ 60 ∧ f.blocks.length ≤ 20 ∧ i ≤ 100 := by
   by_cases h1 : f.regs ≤ 60
   · by_cases h2 : (((f.blocks.length : Nat) : Int) : Int) ≤ 20
     · by_cases h3 : i ≤ 100
       · exact ⟨h1, by omega, h3⟩
       · simp [h1, h2, h3] at hb
     · simp [h1, h2] at hb
   · simp [h1] at hb
  have := l2 0 rfl (by rw [List.drop_zero]; have := fo.sum; omega)
  rw [List.drop_zero] at this
  exact ⟨fo, h60.1, h60.2.1, by omega⟩
end Go.Proofs.Ytnmdadadjneaiaa.D
/- AlloccheckRenames. -/
set_option linter.unusedVariables false
set_option linter.unusedSimpArgs false
namespace Go.Proofs.Ytnmdadadjneaiaa.D
open Go Go.Proofs.Ytnmdadadjneaiaa.Abs Go.Proofs
theorem fact8 (h : Heap) : E 8 [] h = some (.bool true, h) := by
 have : E 8 [] h = factP [] h := EV_prim (by unfold T0; rfl) [] h
 rw [this]; rfl
end Go.Proofs.Ytnmdadadjneaiaa.D
