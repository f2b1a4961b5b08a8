/- HeapLive. -/
import Derived.Test.YtecgpcpgklholaaConK2
set_option linter.unusedVariables false
set_option linter.unusedSimpArgs false
namespace Go.Proofs.Ytecgpcpgklholaa.K
open Go Go.Proofs.Ytecgpcpgklholaa.Abs Go.Proofs

theorem live_loop {b q z many n : Nat} (hz : 1 ≤ z) (hz2 : z ≤ 3) (hn : n ≤ 1000) : ∀ (j k : Nat), k + j = n → ∀ (h : Heap) (S : MS) (ys os : List Nat), MP h b q S → CH S z ys os →
    ∃ h' S', L4x12 mk0 E ((many : Nat) : Int) ((z : Nat) : Int) (some ⟨b, 0, 0⟩) (hw 1 (ys ++ os)) true ((n : Nat) : Int) ((k : Nat) : Int) h (Q4x12 mk0 E) = Q4x12 mk0 E (.exit 0) (S4xe0 ((many : Nat) : Int) ((z : Nat) : Int) (some ⟨b, 0, 0⟩) (hw 1 (ys ++ os)) true h') ∧ MP h' b q S' ∧ CH S' z ys os ∧ SameK S S' := by
  intro j
  induction j with
  | zero =>
    intro k hk h S ys os H C
    obtain rfl : k = n := by omega
    exact ⟨h, S, by rw [L4x12xeq, letK_eq, if_neg (by simp)], H, C, SameK.refl _⟩
  | succ j ih =>
    intro k hk h S ys os H C
    have hnu := C.B.nu
    have hbd := hw_bd C
    have rm : E 13 [.ptr (some ⟨b, 0, 0⟩), .int .i64 2] h = some (.bool (decide (S.yo + 2 + 1 ≤ S.nu)), h) := room_of H C.B (n := 2) (by omega)
    rw [L4x12xeq, letK_eq, if_pos (by simp; omega), rm, Option.bind_some, gB_of]
    by_cases hr : S.yo + 2 + 1 ≤ S.nu
    · obtain ⟨h2, a1, a2, a3⟩ := alloc_of (t := 5) (n := 2) H C.B (by omega) (by omega) (by omega) hr (v := hw 1 (ys ++ os)) (by omega) (by omega)
      have a1' : E 14 [.ptr (some ⟨b, 0, 0⟩), .int .i64 5, .int .i64 2, .int .i64 (hw 1 (ys ++ os))] h = some (.tup [.int .i64 (2 * (S.yo : Int)), .int .i64 0], h2) := a1
      rw [decide_eq_true hr, if_pos (by rfl), a1', Option.bind_some, gT2_of]
      simp only [List.getD_cons_zero, List.getD_cons_succ]
      rw [gI_of, gI_of, J4x21xeq, letK_eq, wrap64 (by omega) (by omega), show ((k : Int) + 1) = ((k + 1 : Nat) : Int) by omega]
      obtain ⟨h', S', r1, r2, r3, r4⟩ := ih (k + 1) (by omega) h2 _ ys os a2 (ch_garb C (by omega) (by omega) hr (.inr rfl))
      exact ⟨h', S', r1, r2, r3, SameK.trans ⟨rfl, rfl, rfl⟩ r4⟩
    · rw [decide_eq_false hr, if_neg (by simp), J4x21xeq, letK_eq, wrap64 (by omega) (by omega), show ((k : Int) + 1) = ((k + 1 : Nat) : Int) by omega]
      exact ih (k + 1) (by omega) h S ys os H C

theorem heapLive_ok (h : Heap) (x0 x1 x2 x3 : Int) : ∃ h', E 4 [.int .i64 x0, .int .i64 x1, .int .i64 x2, .int .i64 x3] h = some (.bool true, h') := by
  have e0 := Int.emod_nonneg x0 (show (200 : Int) ≠ 0 by omega)
  have e1 := Int.emod_lt_of_pos x0 (show (0 : Int) < 200 by omega)
  have e2 := Int.emod_nonneg x1 (show (15 : Int) ≠ 0 by omega)
  have e3' := Int.emod_lt_of_pos x1 (show (0 : Int) < 15 by omega)
  have e4' := Int.emod_nonneg x2 (show (3 : Int) ≠ 0 by omega)
  have e5' := Int.emod_lt_of_pos x2 (show (0 : Int) < 3 by omega)
  have e6' := Int.emod_nonneg x3 (show (10 : Int) ≠ 0 by omega)
  have e7' := Int.emod_lt_of_pos x3 (show (0 : Int) < 10 by omega)
  obtain ⟨m, hm⟩ := Int.eq_ofNat_of_zero_le e0
  obtain ⟨many, hmany⟩ := Int.eq_ofNat_of_zero_le e2
  obtain ⟨z0, hz0⟩ := Int.eq_ofNat_of_zero_le e4'
  obtain ⟨g, hg⟩ := Int.eq_ofNat_of_zero_le e6'
  obtain ⟨h1, n1, n2, n3⟩ := fresh_ok (m := 300 + m) (s := 8) (y := 20) h (by omega) (by omega) (by omega) (by omega) (by omega) (by omega)
  have n1' : E 10 [.int .i64 (300 + (m : Int)), .int .i64 8, .int .i64 20] h = some (.tup [.ptr (some ⟨h.length + 1, 0, 0⟩), .int .i64 0], h1) := by
    have t1 : ((300 + m : Nat) : Int) = 300 + (m : Int) := by omega
    rw [t1] at n1
    exact n1
  obtain ⟨h2, f1, f2⟩ := hfact_ok h1
  have H2 : MP h2 (h.length + 1) h.length (fresh (300 + m) 8 20) := ⟨f2 _ _ n2.c, f2 _ _ n2.m, n2.ne⟩
  have C2 : CH (fresh (300 + m) 8 20) (1 + z0) [] [] := ch_new (fresh_B (by omega) (by omega) (by omega) (by omega) (by omega)) rfl rfl rfl
  have hmul : many * (1 + z0 + 1) ≤ 14 * 4 := Nat.mul_le_mul (by omega) (by omega)
  obtain ⟨h3, S3, ys, os, c1, c2, c3, c4, c5, c6⟩ := chain_ok (many := many) (z := 1 + z0) (by omega) (by omega) (by omega) H2 C2 (by show _ ≤ (300 + m - 8 - 1 - 20) / 2; omega)
  have c1' : E 18 [.ptr (some ⟨h.length + 1, 0, 0⟩), .int .i64 ((many : Nat) : Int), .int .i64 (1 + (z0 : Int))] h2 = some (.tup [.int .i64 (hw 1 (ys ++ os)), .bool true], h3) := by
    have t1 : ((1 + z0 : Nat) : Int) = 1 + (z0 : Int) := by omega
    rw [t1] at c1
    exact c1
  have ha3 : S3.ha = (300 + m - 8 - 1 - 20) / 2 := c5.2.2
  obtain ⟨h4, S4, l1, l2, l3, l4⟩ := live_loop (many := many) (z := 1 + z0) (n := g) (by omega) (by omega) (by omega) g 0 (by omega) h3 S3 ys os c2 c3
  have l1' : L4x12 mk0 E ((many : Nat) : Int) (1 + (z0 : Int)) (some ⟨h.length + 1, 0, 0⟩) (hw 1 (ys ++ os)) true ((g : Nat) : Int) 0 h3 (Q4x12 mk0 E) = Q4x12 mk0 E (.exit 0) (S4xe0 ((many : Nat) : Int) (1 + (z0 : Int)) (some ⟨h.length + 1, 0, 0⟩) (hw 1 (ys ++ os)) true h4) := by
    have t1 : ((1 + z0 : Nat) : Int) = 1 + (z0 : Int) := by omega
    rw [t1] at l1
    exact l1
  have hbl := lt_of_get l2.c
  have hql := lt_of_get l2.m
  obtain ⟨h5, S5, os5, ob5, m1, m2, m3, m4, m5, m6, m7, m8, m9, m10⟩ := ch_major (l2.app [.cells [.int .i64 (hw 1 (ys ++ os))] (.grow 1) 0]) l3 (by omega) (by omega) (by rw [c4, l4.2.2, ha3]; omega) (root_new h4 _) (by omega) (by omega)
  obtain ⟨h6, S6, os6, ob6, k1, k2, k3, k4, k5, k6, k7, k8, k9, k10⟩ := ch_major m2 m3 (by omega) (by omega) (by rw [List.nil_append, m4, c4, m5.2.2, l4.2.2, ha3]; omega) m7 m8 m9
  have u5 : S5.ol - S5.fr = many * (1 + z0 + 1) := by
    have := m3.ol
    rw [m4, c4] at this
    omega
  have u6 : S6.ol - S6.fr = many * (1 + z0 + 1) := by
    have := k3.ol
    rw [k4, List.nil_append, m4, c4] at this
    omega
  rw [e4, rest_ok _ _ _ (by omega) (by omega), Option.bind_some, gI_of, hm, letK_eq, wrap64 (by omega) (by omega), n1', Option.bind_some, gT2_of]
  simp only [List.getD_cons_zero, List.getD_cons_succ]
  rw [gP_of, gI_of, f1, Option.bind_some, gB_of, letK_eq, letK_eq, letK_eq, letK_eq, if_neg (by simp), rest_ok _ _ _ (by omega) (by omega), Option.bind_some, gI_of, hmany, rest_ok _ _ _ (by omega) (by omega), Option.bind_some, gI_of, hz0, letK_eq, wrap64 (by omega) (by omega)]
  show ∃ h', (E 18 [.ptr (some ⟨h.length + 1, 0, 0⟩), .int .i64 ((many : Nat) : Int), .int .i64 (1 + (z0 : Int))] h2).bind _ = _
  rw [c1', Option.bind_some, gT2_of]
  simp only [List.getD_cons_zero, List.getD_cons_succ]
  rw [gI_of, gB_of, rest_ok _ _ _ (by omega) (by omega), Option.bind_some, gI_of, hg]
  show ∃ h', L4x12 mk0 E ((many : Nat) : Int) (1 + (z0 : Int)) (some ⟨h.length + 1, 0, 0⟩) (hw 1 (ys ++ os)) true ((g : Nat) : Int) 0 h3 (Q4x12 mk0 E) = _
  rw [l1', X4x12xe0, newK_eq, m1, Option.bind_some, gT2_of]
  simp only [List.getD_cons_zero, List.getD_cons_succ]
  rw [gL_of, gI_of, letK_eq, letK_eq, letK_eq, if_neg (by simp), used_of m2 m3.B, Option.bind_some, gT2_of]
  simp only [List.getD_cons_zero, List.getD_cons_succ]
  rw [gI_of, gI_of, k1, Option.bind_some, gT2_of]
  simp only [List.getD_cons_zero, List.getD_cons_succ]
  rw [gL_of, gI_of, used_of k2 k3.B, Option.bind_some, gT2_of]
  simp only [List.getD_cons_zero, List.getD_cons_succ]
  rw [gI_of, gI_of]
  iterate 12 rw [letK_eq]
  have w1 : IntKind.wrap .i64 (1 + (z0 : Int) + 1) = ((1 + z0 + 1 : Nat) : Int) := by rw [wrap64 (by omega) (by omega)]; omega
  have w2 : IntKind.wrap .i64 (((many : Nat) : Int) * ((1 + z0 + 1 : Nat) : Int)) = ((many * (1 + z0 + 1) : Nat) : Int) := by
    rw [show ((many : Nat) : Int) * ((1 + z0 + 1 : Nat) : Int) = ((many * (1 + z0 + 1) : Nat) : Int) by rw [Int.natCast_mul], wrap64 (by omega) (by omega)]
  have y5 : S5.yo - 1 = 0 := by omega
  have y6 : S6.yo - 1 = 0 := by omega
  refine ⟨h6, ?_⟩
  rw [u5, u6, y5, y6]
  simp only [letK_eq]
  rw [w1]
  rw [w2]
  simp
end Go.Proofs.Ytecgpcpgklholaa.K
