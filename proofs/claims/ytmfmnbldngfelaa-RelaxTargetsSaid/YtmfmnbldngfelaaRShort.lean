/- RelaxShorter. -/
import Derived.Test.YtmfmnbldngfelaaConR
set_option linter.unusedVariables false
set_option linter.unusedSimpArgs false
namespace Go.Proofs.Ytmfmnbldngfelaa.I
open Go Go.Proofs.Ytmfmnbldngfelaa.Abs Go.Proofs

theorem short_loop {h : Heap} {s66 : SA} {n p B : Nat} {its : List It} {bs : List Bool} (HI : VS It.cells 6 h s66 n its) (hf : ∀ x ∈ its, It.fit n x) (hn : n ≤ 300) (F : Final its bs)
    (hp : h[p]? = some (.cells ((posL bs n).map (.int .i64)) (.grow 1) 0)) (hB : h[B]? = some (.cells (bs.map .bool) (.grow 1) 0)) : ∀ (k j : Nat), j + k = n →
    L10x18 mk0 E (.pos ⟨p, 0, 0⟩) n (.pos ⟨B, 0, 0⟩) n s66 n ((n : Nat) : Int) ((j : Nat) : Int) h (Q10x18 mk0 E) = some (.bool true, h) := by
  intro k
  have hil := HI.1
  have hbl : bs.length = n := by rw [F.len, hil]
  induction k with
  | zero =>
    intro j hj
    rw [L10x18xeq, letK_eq, if_neg (by simp; omega), X10x18xe0]
  | succ k ih =>
    intro j hj
    obtain ⟨x, hx⟩ : ∃ x, its[j]? = some x := ⟨its[j]'(by omega), List.getElem?_eq_getElem (by omega)⟩
    obtain ⟨a, ha, la⟩ := vs_ld HI it_flat j x hx
    have hxo := hf x (List.mem_of_getElem? hx)
    have hbj : bs[j]? = some (gt bs j) := by
      rw [List.getElem?_eq_getElem (by omega)]
      simp [gt, List.getD, show j < bs.length by omega]
    have lb : ld1 h ⟨B, 0, 0 + j * 1⟩ = some (.bool (gt bs j)) := ld1_at hB (by rw [Nat.zero_add, Nat.mul_one, List.getElem?_map, hbj]; rfl) rfl
    have at_pos : ∀ i, i ≤ n → ld1 h ⟨p, 0, 0 + i * 1⟩ = some (.int .i64 (pos bs i)) := fun i hi => ld1_at hp (by unfold posL; rw [Nat.zero_add, Nat.mul_one, List.getElem?_map, range_get (by omega)]; rfl) rfl
    have skip : J10x35 mk0 E (.pos ⟨p, 0, 0⟩) n (.pos ⟨B, 0, 0⟩) n s66 n ((n : Nat) : Int) ((j : Nat) : Int) h (Q10x18 mk0 E) = some (.bool true, h) := by
      rw [J10x35xeq, letK_eq, wrap64 (by omega) (by omega), show ((j : Int) + 1) = ((j + 1 : Nat) : Int) by omega]
      exact ih (j + 1) (by omega)
    rw [L10x18xeq, letK_eq, if_pos (by simp; omega), chk_of (by intro _; omega), ha, atP_of, Int.toNat_natCast, la, gCells_of]
    simp only [It.cells, List.getElem?_cons_zero, List.getElem?_cons_succ]
    rw [gI_of, gI_of, gI_of, gI_of, gI_of, gI_of, letK_eq, chk_of (by intro _; omega), adP_pos, atP_of, atP_of, add_mk, lb, gB_any, letK_eq]
    by_cases h0 : x.to < 0
    · rw [if_pos (by simp [h0])]
      exact skip
    · cases hg : gt bs j with
      | false =>
        rw [if_pos (by simp)]
        exact skip
      | true =>
        have hfar := F.f3 j x hx (by omega) hg
        obtain ⟨t, ht⟩ := Int.eq_ofNat_of_zero_le (show 0 ≤ x.to by omega)
        have htn := hxo.2
        unfold far at hfar
        rw [hx] at hfar
        dsimp only at hfar
        rw [ht, Int.toNat_natCast] at hfar
        have q0 := pos_lo bs t
        have q1 := pos_hi bs t
        have q2 := pos_lo bs j
        have q3 := pos_hi bs j
        have hfar' : ¬ (-128 ≤ pos bs t - pos bs j - 1 ∧ pos bs t - pos bs j - 1 ≤ 127) := by
          rintro ⟨g1, g2⟩
          simp [inB, g1, g2] at hfar
        rw [if_neg (by simp; omega), ht, chk_of (by intro _; omega), adP_pos, atP_of, add_mk, Int.toNat_natCast, at_pos t (by omega), gI_of, chk_of (by intro _; omega), atP_of, add_mk, at_pos j (by omega), gI_of, letK_eq, wrap64 (by omega) (by omega), letK_eq, letK_eq, letK_eq, if_neg (by
          by_cases g1 : (-127) < pos bs t - pos bs j
          · rw [if_pos (by simpa using g1)]; simp; omega
          · rw [if_neg (by simpa using g1)]; simp)]
        exact skip

theorem le_lng {its : List It} {bs : List Bool} (F : Final its bs) (all : Bool) : LeB bs (lng its bs all) := by
  intro i hi
  by_cases h : i < its.length
  · rw [gt_lng h, lngAt, hi]; rfl
  · rw [gt_out (by rw [F.len]; omega)] at hi; cases hi

theorem relaxShorter_ok {h : Heap} {s0 : SA} {n0 : Nat} {l : List It} (HI : VS It.cells 6 h s0 n0 l) : ∃ h', E 10 [.sl s0 n0] h = some (.bool true, h') := by
  obtain ⟨h1, e1, o1⟩ := rfact_ok h
  obtain ⟨h2, s, n, its, hn, e2, o2, hl, H2, hf⟩ := items_ok (vs_old HI o1)
  have hv : ∀ x ∈ its, It.ok n x := fun x hx => (hf x hx).1
  obtain ⟨bs, F, r3⟩ := rencode_ok false H2 hv (by omega)
  have hi1 := pos_hi (lng its bs false) n
  rcases r3 with ⟨c, _⟩ | ⟨_, h3, s12, n12, p, e3, o3, g3, _, hp, b3⟩
  · omega
  obtain ⟨bs', F', r4⟩ := rencode_ok true (vs_old H2 o3) hv (by omega)
  obtain rfl := final_unique F F'
  have hi2 := pos_hi (lng its bs true) n
  rcases r4 with ⟨c, _⟩ | ⟨_, h4, s22, n22, p2, e4, o4, g4, _, _, b4⟩
  · omega
  obtain ⟨bs', h5, e5, o5, F', b5⟩ := sizes_ok (vs_old H2 (o3.trans o4)) hv (by omega)
  obtain rfl := final_unique F F'
  have w1 := pos_words (all := false) F n (by omega)
  have w2 := pos_words (all := true) F n (by omega)
  rw [List.take_of_length_le (by simp [ents, hl])] at w1 w2
  have l1 := g3.1
  have l2 := g4.1
  rw [List.length_map] at l1 l2
  have ld := pos_diff (le_lng F true) 0 n
  rw [Nat.zero_add] at ld
  have z1 : pos bs 0 = 0 := rfl
  have z2 : pos (lng its bs true) 0 = 0 := rfl
  rw [lng_false F.len] at w1 b3 l1
  rw [e10, e1, Option.bind_some, gB_of, if_neg (by simp), e2, Option.bind_some, gL_of, e3, Option.bind_some, gT3_of]
  simp only [List.getD_cons_zero, List.getD_cons_succ]
  rw [gL_of, gL_of, gI_of, e4, Option.bind_some, gT3_of]
  simp only [List.getD_cons_zero, List.getD_cons_succ]
  rw [gL_of, gL_of, gI_of, e5, Option.bind_some, gT2_of]
  simp only [List.getD_cons_zero, List.getD_cons_succ]
  rw [gL_of, gI_of]
  iterate 11 rw [letK_eq]
  rw [if_neg (by simp; omega)]
  refine ⟨h5, ?_⟩
  exact short_loop (vs_old H2 ((o3.trans o4).trans o5)) hf hn F (o5 _ _ (o4 _ _ b3)) b5 n 0 (by omega)

end Go.Proofs.Ytmfmnbldngfelaa.I
