/- HeapChains. -/
import Derived.Test.YtecgpcpgklholaaKCheck
set_option linter.unusedVariables false
set_option linter.unusedSimpArgs false
namespace Go.Proofs.Ytecgpcpgklholaa.K
open Go Go.Proofs.Ytecgpcpgklholaa.Abs Go.Proofs

theorem tm_nat (a c : Nat) : Int.tmod ((a : Nat) : Int) ((c : Nat) : Int) = ((a % c : Nat) : Int) := by
  rw [Int.tmod_eq_emod_of_nonneg (by omega)]
  omega

theorem garb_loop {b q z : Nat} {ys os : List Nat} (i2 i13 i58 i59 : Int) (b14 : Bool) (Q : Kont (AV × Heap)) : ∀ (j k : Nat), k + j = 30 → ∀ (h : Heap) (S : MS), MP h b q S → CH S z ys os →
    ∃ h' S', L6x32 mk0 E i2 ((z : Nat) : Int) (some ⟨b, 0, 0⟩) i13 b14 ((k : Nat) : Int) i58 i59 h Q = Q (.exit 2) (S6xe2 i2 ((z : Nat) : Int) (some ⟨b, 0, 0⟩) i13 b14 i58 i59 h') ∧ MP h' b q S' ∧ CH S' z ys os ∧ SameK S S' := by
  intro j
  induction j with
  | zero =>
    intro k hk h S H C
    obtain rfl : k = 30 := by omega
    have hnu := C.B.nu
    have rm : E 13 [.ptr (some ⟨b, 0, 0⟩), .int .i64 0] h = some (.bool (decide (S.yo + 0 + 1 ≤ S.nu)), h) := room_of H C.B (n := 0) (by omega)
    have t0 : Int.tmod ((30 : Nat) : Int) 3 = 0 := by decide
    refine ⟨h, S, ?_, H, C, SameK.refl _⟩
    rw [L6x32xeq, letK_eq, t0, rm, Option.bind_some, gB_of, letK_eq, letK_eq, if_neg (by simp)]
  | succ j ih =>
    intro k hk h S H C
    have hnu := C.B.nu
    have t3 : Int.tmod ((k : Nat) : Int) 3 = ((k % 3 : Nat) : Int) := tm_nat k 3
    rw [L6x32xeq, letK_eq, t3, room_of H C.B (by omega), Option.bind_some, gB_of, letK_eq, letK_eq]
    by_cases hr : S.yo + k % 3 + 1 ≤ S.nu
    · obtain ⟨h2, a1, a2, a3⟩ := alloc_of (t := k) (n := k % 3) H C.B (by omega) (by omega) (by omega) hr (v := 1) (by omega) (by omega)
      rw [decide_eq_true hr, if_pos (by simp; omega), letK_eq]
      dsimp only
      rw [a1, Option.bind_some, gT2_of]
      simp only [List.getD_cons_zero, List.getD_cons_succ]
      rw [gI_of, gI_of, letK_eq, wrap64 (by omega) (by omega), show ((k : Int) + 1) = ((k + 1 : Nat) : Int) by omega]
      obtain ⟨h', S', r1, r2, r3, r4⟩ := ih (k + 1) (by omega) h2 _ a2 (ch_garb C (by omega) (by omega) hr (.inl rfl))
      exact ⟨h', S', r1, r2, r3, SameK.trans ⟨rfl, rfl, rfl⟩ r4⟩
    · refine ⟨h, S, ?_, H, C, SameK.refl _⟩
      rw [decide_eq_false hr, if_neg (by simp)]

theorem round_loop {b q z many n : Nat} (hz : 1 ≤ z) (hz2 : z ≤ 3) (hn : n ≤ 1000) : ∀ (j k : Nat), k + j = n → ∀ (h : Heap) (S : MS) (ys os : List Nat), MP h b q S → CH S z ys os → (ys ++ os).length = many → many * (z + 1) ≤ S.ha →
    ∃ h' S' ys' os', L6x12 mk0 E ((many : Nat) : Int) ((z : Nat) : Int) (some ⟨b, 0, 0⟩) (hw 1 (ys ++ os)) true ((n : Nat) : Int) ((k : Nat) : Int) h (Q6x12 mk0 E) = Q6x12 mk0 E (.exit 0) (S6xe0 ((many : Nat) : Int) ((z : Nat) : Int) (some ⟨b, 0, 0⟩) (hw 1 (ys' ++ os')) true h') ∧ MP h' b q S' ∧ CH S' z ys' os' ∧ (ys' ++ os').length = many := by
  intro j
  induction j with
  | zero =>
    intro k hk h S ys os H C hl hcap
    obtain rfl : k = n := by omega
    exact ⟨h, S, ys, os, by rw [L6x12xeq, letK_eq, if_neg (by simp)], H, C, hl⟩
  | succ j ih =>
    intro k hk h S ys os H C hl hcap
    have hbl := lt_of_get H.c
    have hql := lt_of_get H.m
    -- behind a collection
    have next : ∀ (h : Heap) (S : MS) (ys os : List Nat), MP h b q S → CH S z ys os → (ys ++ os).length = many → many * (z + 1) ≤ S.ha →
        ∃ h' S' ys' os', J6x29 mk0 E ((many : Nat) : Int) ((z : Nat) : Int) (some ⟨b, 0, 0⟩) (hw 1 (ys ++ os)) true ((n : Nat) : Int) ((k : Nat) : Int) h (Q6x12 mk0 E) = Q6x12 mk0 E (.exit 0) (S6xe0 ((many : Nat) : Int) ((z : Nat) : Int) (some ⟨b, 0, 0⟩) (hw 1 (ys' ++ os')) true h') ∧ MP h' b q S' ∧ CH S' z ys' os' ∧ (ys' ++ os').length = many := by
      intro h S ys os H C hl hcap
      obtain ⟨h2, S2, g1, g2, g3, g4⟩ := garb_loop ((many : Nat) : Int) (hw 1 (ys ++ os)) ((n : Nat) : Int) ((k : Nat) : Int) true (Q6x32 mk0 E (Q6x12 mk0 E)) 30 0 (by omega) h S H C
      have g1' : L6x32 mk0 E ((many : Nat) : Int) ((z : Nat) : Int) (some ⟨b, 0, 0⟩) (hw 1 (ys ++ os)) true 0 ((n : Nat) : Int) ((k : Nat) : Int) h (Q6x32 mk0 E (Q6x12 mk0 E)) = _ := g1
      rw [J6x29xeq, g1', X6x32xe2, letK_eq, wrap64 (by omega) (by omega), show ((k : Int) + 1) = ((k + 1 : Nat) : Int) by omega]
      exact ih (k + 1) (by omega) h2 S2 ys os g2 g3 hl (by rw [g4.2.2]; exact hcap)
    have t2 : Int.tmod ((k : Nat) : Int) 2 = ((k % 2 : Nat) : Int) := tm_nat k 2
    rw [L6x12xeq, letK_eq, if_pos (by simp; omega), letK_eq, t2, letK_eq]
    by_cases hk2 : k % 2 = 1
    · rw [if_pos (by simp; omega), J6x24xeq, newK_eq, fnK_of]
      simp only [List.cons_append, List.nil_append, List.append_nil]
      obtain ⟨h', S', os', ob, m1, m2, m3, m4, m5, m6, m7, m8, m9, m10⟩ := ch_major (H.app [.cells [.int .i64 (hw 1 (ys ++ os))] (.grow 1) 0]) C hz (by omega) (by rw [hl]; exact hcap) (root_new h _) (by omega) (by omega)
      rw [m1, Option.bind_some, gT2_of]
      simp only [List.getD_cons_zero, List.getD_cons_succ]
      rw [gL_of, gI_of, letK_eq, letK_eq, letK_eq, if_pos (by simp), chk_of (by intro _; omega), adP_pos, atP_of, add_mk, show Int.toNat 0 = 0 from rfl, m7.ld, gI_of]
      exact next h' S' [] os' m2 m3 (by rw [List.nil_append, m4, hl]) (by rw [m5.2.2]; exact hcap)
    · rw [if_neg (by simp; omega), J6x24xeq, newK_eq, fnK_of]
      simp only [List.cons_append, List.nil_append, List.append_nil]
      rcases ch_minor (H.app [.cells [.int .i64 (hw 1 (ys ++ os))] (.grow 1) 0]) C hz (by omega) (root_new h _) (by omega) (by omega) with m | ⟨h1, S1, os1, ob, m1, m2, m3, m4, m5, m7, m8, m9, m10⟩
      · rw [m, Option.bind_some, gT2_of]
        simp only [List.getD_cons_zero, List.getD_cons_succ]
        rw [gL_of, gI_of, letK_eq, letK_eq, letK_eq, if_neg (by simp)]
        exact next _ S ys os (H.app _) C hl hcap
      · rw [m1, Option.bind_some, gT2_of]
        simp only [List.getD_cons_zero, List.getD_cons_succ]
        rw [gL_of, gI_of, letK_eq, letK_eq, letK_eq, if_pos (by simp), chk_of (by intro _; omega), adP_pos, atP_of, add_mk, show Int.toNat 0 = 0 from rfl, m7.ld, gI_of]
        exact next h1 S1 [] os1 m2 m3 (by rw [List.nil_append, m4, hl]) (by rw [m5.2.2]; exact hcap)

theorem walk_loop {h : Heap} {b q z many : Nat} {S : MS} (H : MP h b q S) (B : MB S) (hz : 1 ≤ z) (hz2 : z ≤ 3) (hm : many ≤ 1000) : ∀ (ps : List Nat) (k : Nat), k + ps.length = many → Lt S.f 1 z 1 ps → (∀ x ∈ ps, Obj S x 1 z) →
    L6x43 mk0 E ((many : Nat) : Int) ((z : Nat) : Int) (some ⟨b, 0, 0⟩) true ((k : Nat) : Int) (hw 1 ps) h (Q6x43 mk0 E) = Q6x43 mk0 E (.exit 4) (S6xe4 ((many : Nat) : Int) (some ⟨b, 0, 0⟩) true ((many : Nat) : Int) h) := by
  intro ps
  induction ps with
  | nil =>
    intro k hk _ _
    obtain rfl : k = many := by simpa using hk
    have t1 : Int.tmod 1 2 = 1 := by decide
    show L6x43 mk0 E ((k : Nat) : Int) ((z : Nat) : Int) (some ⟨b, 0, 0⟩) true ((k : Nat) : Int) 1 h (Q6x43 mk0 E) = _
    rw [L6x43xeq, letK_eq, t1, letK_eq, letK_eq, letK_eq, if_neg (by simp)]
  | cons p ps ih =>
    intro k hk L O
    have Op := O p (by simp)
    obtain ⟨L1, L2, L3⟩ := L
    have hpM : p + 1 < S.M ∧ p ≤ 65536 := by
      obtain ⟨a1, a2, a3, a4, a5, a6, a7, a8⟩ := B
      obtain ⟨o1, o2, o3, o4, o5⟩ := Op
      omega
    have t2 : Int.tmod (2 * ((p : Nat) : Int)) 2 = 0 := by
      rw [Int.tmod_eq_emod_of_nonneg (by omega)]; omega
    have lf := L2 1 (by omega) hz
    have hlen : (p :: ps).length = ps.length + 1 := rfl
    rw [hlen] at hk
    have ld := load_ok H B (i := p + 1) (by omega) hpM.1
    rw [lf] at ld
    show L6x43 mk0 E ((many : Nat) : Int) ((z : Nat) : Int) (some ⟨b, 0, 0⟩) true ((k : Nat) : Int) (2 * ((p : Nat) : Int)) h (Q6x43 mk0 E) = _
    rw [L6x43xeq, letK_eq, t2, letK_eq, letK_eq, letK_eq, if_pos (by simp; omega), tag_of H B Op, Option.bind_some, gT3_of]
    simp only [List.getD_cons_zero, List.getD_cons_succ]
    rw [gI_of, gI_of, gI_of, letK_eq, letK_eq, letK_eq, letK_eq, letK_eq, if_neg (by simp), letK_eq, wrap64 (by omega) (by omega), show (2 * (p : Int) + 2) = 2 * ((p + 1 : Nat) : Int) by omega, ld, Option.bind_some, gT2_of]
    simp only [List.getD_cons_zero, List.getD_cons_succ]
    rw [gI_of, gI_of, letK_eq, if_neg (by simp), letK_eq, wrap64 (by omega) (by omega), show ((k : Int) + 1) = ((k + 1 : Nat) : Int) by omega]
    exact ih (k + 1) (by omega) L3 fun x hx => O x (by simp [hx])

theorem heapChains_ok (h : Heap) (x0 x1 x2 x3 x4 : Int) : ∃ h', E 6 [.int .i64 x0, .int .i64 x1, .int .i64 x2, .int .i64 x3, .int .i64 x4] h = some (.bool true, h') := by
  have e0 := Int.emod_nonneg x0 (show (300 : Int) ≠ 0 by omega)
  have e1 := Int.emod_lt_of_pos x0 (show (0 : Int) < 300 by omega)
  have e8 := Int.emod_nonneg x1 (show (40 : Int) ≠ 0 by omega)
  have e9 := Int.emod_lt_of_pos x1 (show (0 : Int) < 40 by omega)
  have e2 := Int.emod_nonneg x2 (show (15 : Int) ≠ 0 by omega)
  have e3' := Int.emod_lt_of_pos x2 (show (0 : Int) < 15 by omega)
  have e4' := Int.emod_nonneg x3 (show (3 : Int) ≠ 0 by omega)
  have e5' := Int.emod_lt_of_pos x3 (show (0 : Int) < 3 by omega)
  have e6' := Int.emod_nonneg x4 (show (6 : Int) ≠ 0 by omega)
  have e7' := Int.emod_lt_of_pos x4 (show (0 : Int) < 6 by omega)
  obtain ⟨m, hm⟩ := Int.eq_ofNat_of_zero_le e0
  obtain ⟨y, hy⟩ := Int.eq_ofNat_of_zero_le e8
  obtain ⟨many, hmany⟩ := Int.eq_ofNat_of_zero_le e2
  obtain ⟨z0, hz0⟩ := Int.eq_ofNat_of_zero_le e4'
  obtain ⟨g, hg⟩ := Int.eq_ofNat_of_zero_le e6'
  obtain ⟨h1, n1, n2, n3⟩ := fresh_ok (m := 200 + m) (s := 8) (y := 4 + y) h (by omega) (by omega) (by omega) (by omega) (by omega) (by omega)
  have n1' : E 10 [.int .i64 (200 + (m : Int)), .int .i64 8, .int .i64 (4 + (y : Int))] h = some (.tup [.ptr (some ⟨h.length + 1, 0, 0⟩), .int .i64 0], h1) := by
    have t1 : ((200 + m : Nat) : Int) = 200 + (m : Int) := by omega
    have t2 : ((4 + y : Nat) : Int) = 4 + (y : Int) := by omega
    rw [t1, t2] at n1
    exact n1
  obtain ⟨h2, f1, f2⟩ := hfact_ok h1
  have H2 : MP h2 (h.length + 1) h.length (fresh (200 + m) 8 (4 + y)) := ⟨f2 _ _ n2.c, f2 _ _ n2.m, n2.ne⟩
  have C2 : CH (fresh (200 + m) 8 (4 + y)) (1 + z0) [] [] := ch_new (fresh_B (by omega) (by omega) (by omega) (by omega) (by omega)) rfl rfl rfl
  have hmul : many * (1 + z0 + 1) ≤ 14 * 4 := Nat.mul_le_mul (by omega) (by omega)
  obtain ⟨h3, S3, ys, os, c1, c2, c3, c4, c5, c6⟩ := chain_ok (many := many) (z := 1 + z0) (by omega) (by omega) (by omega) H2 C2 (by show _ ≤ (200 + m - 8 - 1 - (4 + y)) / 2; omega)
  have ha3 : S3.ha = (200 + m - 8 - 1 - (4 + y)) / 2 := c5.2.2
  obtain ⟨h4, S4, ys4, os4, l1, l2, l3, l4⟩ := round_loop (many := many) (z := 1 + z0) (n := g) (by omega) (by omega) (by omega) g 0 (by omega) h3 S3 ys os c2 c3 c4 (by rw [ha3]; omega)
  have O4 : ∀ x ∈ ys4 ++ os4, Obj S4 x 1 (1 + z0) := by
    intro x hx
    have hom := fun x hx => CH.om (x := x) l3 hx
    have hlt := (lt_mem l3.lk hx).1
    obtain ⟨a1, a2, a3, a4, a5, a6, a7, a8⟩ := l3.B
    rcases List.mem_append.1 hx with hx | hx
    · have := dn_mem l3.dn hx
      exact ⟨by omega, by omega, by omega, hlt, .inl (by omega)⟩
    · have := hom _ hx
      exact ⟨by omega, by omega, by omega, hlt, .inr (by omega)⟩
  have wl := walk_loop l2 l3.B (z := 1 + z0) (many := many) (by omega) (by omega) (by omega) (ys4 ++ os4) 0 (by omega) l3.lk O4
  obtain ⟨h5, ck⟩ := check_of l2 l3 (by omega)
  have t1 : ((1 + z0 : Nat) : Int) = 1 + (z0 : Int) := by omega
  rw [t1] at c1 l1 wl
  have l1' : L6x12 mk0 E ((many : Nat) : Int) (1 + (z0 : Int)) (some ⟨h.length + 1, 0, 0⟩) (hw 1 (ys ++ os)) true ((g : Nat) : Int) 0 h3 (Q6x12 mk0 E) = _ := l1
  have wl' : L6x43 mk0 E ((many : Nat) : Int) (1 + (z0 : Int)) (some ⟨h.length + 1, 0, 0⟩) true 0 (hw 1 (ys4 ++ os4)) h4 (Q6x43 mk0 E) = _ := wl
  rw [e6, rest_ok _ _ _ (by omega) (by omega), Option.bind_some, gI_of, hm, letK_eq, wrap64 (by omega) (by omega), rest_ok _ _ _ (by omega) (by omega), Option.bind_some, gI_of, hy, letK_eq, wrap64 (by omega) (by omega), n1', Option.bind_some, gT2_of]
  simp only [List.getD_cons_zero, List.getD_cons_succ]
  rw [gP_of, gI_of, f1, Option.bind_some, gB_of, letK_eq, letK_eq, letK_eq, letK_eq, if_neg (by simp), rest_ok _ _ _ (by omega) (by omega), Option.bind_some, gI_of, hmany, rest_ok _ _ _ (by omega) (by omega), Option.bind_some, gI_of, hz0, letK_eq, wrap64 (by omega) (by omega)]
  show ∃ h', (E 18 [.ptr (some ⟨h.length + 1, 0, 0⟩), .int .i64 ((many : Nat) : Int), .int .i64 (1 + (z0 : Int))] h2).bind _ = _
  rw [c1, Option.bind_some, gT2_of]
  simp only [List.getD_cons_zero, List.getD_cons_succ]
  rw [gI_of, gB_of, rest_ok _ _ _ (by omega) (by omega), Option.bind_some, gI_of, hg]
  show ∃ h', L6x12 mk0 E ((many : Nat) : Int) (1 + (z0 : Int)) (some ⟨h.length + 1, 0, 0⟩) (hw 1 (ys ++ os)) true ((g : Nat) : Int) 0 h3 (Q6x12 mk0 E) = _
  rw [l1', X6x12xe0, wl', X6x43xe4, ck, Option.bind_some, gB_of, letK_eq, letK_eq, letK_eq]
  refine ⟨h5, ?_⟩
  simp
end Go.Proofs.Ytecgpcpgklholaa.K
