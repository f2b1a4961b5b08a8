/- HeapMinor. -/
import Derived.Test.YtecgpcpgklholaaConK2
set_option linter.unusedVariables false
set_option linter.unusedSimpArgs false
namespace Go.Proofs.Ytecgpcpgklholaa.K
open Go Go.Proofs.Ytecgpcpgklholaa.Abs Go.Proofs

theorem contains_nil (i : Int) (h : Heap) : E 42 [.sl .nil 0, .int .i64 i] h = some (.bool false, h) := by
  have e : E 47 [.sl .nil 0, .int .i64 i] h = some (.int .i64 (-1), h) := by
    rw [e47, L47x4xeq, letK_eq, if_neg (by simp), X47x4xe0]
  rw [e42, e, Option.bind_some, gI_of, letK_eq]
  simp

theorem store_rem {h : Heap} {b q : Nat} {S : MS} (H : MP h b q S) (B : MB S) (hrs : S.rs = .nil) (hrn : S.rn = 0) {i p : Nat} (i1 : S.fr ≤ i) (i2 : i < S.fr + S.ha) (p1 : 1 ≤ p) (p2 : p < S.nu) :
    ∃ h' rb, E 21 [.ptr (some ⟨b, 0, 0⟩), .int .i64 (2 * (i : Int)), .int .i64 (2 * (p : Int))] h = some (.int .i64 0, h') ∧ MP h' b q { S with f := upd S.f i (2 * (p : Int)), rs := .pos ⟨rb, 0, 0⟩, rn := 1 } ∧ Root h' rb ((i : Nat) : Int) ∧ h.length ≤ rb ∧ ButL [q, b] h h' := by
  obtain ⟨a1, a2, a3, a4, a5, a6, a7, a8⟩ := B
  have B : MB S := ⟨a1, a2, a3, a4, a5, a6, a7, a8⟩
  have hbl := lt_of_get H.c
  have hql := lt_of_get H.m
  have hne := H.ne
  have v1 : inB (2 * (p : Int)) (-2147483648) 2147483647 = true := by simp [inB]; omega
  have y1 : yng S.nu (2 * (p : Int)) = true := by rw [yng_ptr _ _ p1]; simp [p2]
  have f1 : inB (i : Int) (S.fr : Int) ((S.fr : Int) + (S.ha : Int) - 1) = true := by simp [inB]; omega
  obtain ⟨w1, w2⟩ := H.wr i (2 * (p : Int)) (by omega)
  have o1 : ButL [q, b] h (h.set q (.cells (cel S.M (upd S.f i (2 * (p : Int)))) (.grow 1) 0)) := ButL.set _ _ _ _ (by simp)
  have ll : (h.set q (.cells (cel S.M (upd S.f i (2 * (p : Int)))) (.grow 1) 0)).length = h.length := by simp
  generalize h.set q (.cells (cel S.M (upd S.f i (2 * (p : Int)))) (.grow 1) 0) = h2 at w1 w2 o1 ll
  have B2 : MB { S with f := upd S.f i (2 * (p : Int)) } := ⟨a1, a2, a3, a4, a5, a6, a7, a8⟩
  have r7 : ld1 h2 ⟨b, 0, 0 + 7⟩ = some (.sl .nil 0) := by
    have := w2.r7
    dsimp only at this
    rw [hrs, hrn] at this
    exact this
  have H3 := w2.app [.cells [.int .i64 ((i : Nat) : Int)] (.grow 1) 0]
  have put : E 29 [.ptr (some ⟨b, 0, 0⟩), .int .i64 ((i : Nat) : Int), .int .i64 (2 * (p : Int))] h = some (.tup [], (h2 ++ [Blk.cells [.int .i64 ((i : Nat) : Int)] (.grow 1) 0] ++ [Blk.cells [.int .i64 ((i : Nat) : Int)] (.grow 1) 0]).set b (.cells ((mc { S with f := upd S.f i (2 * (p : Int)) } q).set 7 (.sl (.pos ⟨h2.length + 1, 0, 0⟩) 1)) .fix 0)) := by
    rw [e29, atP_of, add_mk, H.r0, gL_of, chk_of (by intro _; omega), adP_pos, atP_of, add_mk, Int.toNat_natCast, w1, Option.bind_some, atP_of, add_mk, w2.r5, gI_of, atP_of, add_mk, w2.r5, gI_of, atP_of, add_mk, w2.r4, gI_of, letK_eq, letK_eq]
    dsimp only
    rw [wrap64 (x := (S.fr : Int) + (S.ha : Int)) (by omega) (by omega), wrap64 (by omega) (by omega), in_ok, f1, Option.bind_some, gB_of, callO_true, yng_ok w2 B2 (by omega) (by omega)]
    dsimp only
    rw [y1, Option.bind_some, gB_of, letK_eq, if_pos (by rfl), atP_of, atP_of, add_mk, atP_of, r7, gL_of, callO_true, contains_nil, Option.bind_some, gB_of, letK_eq, if_pos (by rfl), atP_of, add_mk, r7, gL_of, newK_eq, show ldSl (h2 ++ [Blk.cells [AV.int .i64 ((i : Nat) : Int)] (.grow 1) 0]) (.pos ⟨h2.length, 0, 0⟩) (1 * 1) = some [.int .i64 ((i : Nat) : Int)] from ldSl_at (last_get _ _) rfl rfl, Option.bind_some]
    have ap : apnd (h2 ++ [Blk.cells [AV.int .i64 ((i : Nat) : Int)] (.grow 1) 0]) (.sl .nil 0) 1 8 [.int .i64 ((i : Nat) : Int)] 1 = some (.sl (.pos ⟨h2.length + 1, 0, 0⟩) 1, h2 ++ [Blk.cells [.int .i64 ((i : Nat) : Int)] (.grow 1) 0] ++ [Blk.cells [.int .i64 ((i : Nat) : Int)] (.grow 1) 0]) := by
      have e1 : (h2 ++ [Blk.cells [AV.int .i64 ((i : Nat) : Int)] (.grow 1) 0]).length = h2.length + 1 := by simp
      rw [← e1]
      unfold apnd
      simp
    rw [ap, Option.bind_some, gL_of, atP_of, add_mk]
    dsimp only
    rw [st1_at (H3.app [.cells [.int .i64 ((i : Nat) : Int)] (.grow 1) 0]).c (by simp) (by rw [mc_len]; omega), Option.bind_some, J29x3xeq]
  have l3 : (h2 ++ [Blk.cells [AV.int .i64 ((i : Nat) : Int)] (.grow 1) 0]).length = h2.length + 1 := by simp
  have g4 := last_get (h2 ++ [Blk.cells [AV.int .i64 ((i : Nat) : Int)] (.grow 1) 0]) (Blk.cells [.int .i64 ((i : Nat) : Int)] (.grow 1) 0)
  rw [l3] at g4
  have H4 := H3.app [.cells [.int .i64 ((i : Nat) : Int)] (.grow 1) 0]
  have o4 : Old h2 (h2 ++ [Blk.cells [.int .i64 ((i : Nat) : Int)] (.grow 1) 0] ++ [Blk.cells [.int .i64 ((i : Nat) : Int)] (.grow 1) 0]) := (old_app _ _).app _
  generalize h2 ++ [Blk.cells [.int .i64 ((i : Nat) : Int)] (.grow 1) 0] ++ [Blk.cells [.int .i64 ((i : Nat) : Int)] (.grow 1) 0] = h4 at put g4 H4 o4
  refine ⟨_, h2.length + 1, ?_, ⟨set_same H4.c, ?_, hne⟩, ⟨.grow 1, ?_⟩, by omega, ?_⟩
  · rw [e21, index_ok H B (by omega) (by omega), Option.bind_some, gI_of, letK_eq, if_neg (by simp), in_ok, v1, Option.bind_some, gB_of, if_neg (by simp), put, Option.bind_some, gT0_of]
    rfl
  · rw [set_other (fun e => hne e.symm)]; exact H4.m
  · rw [set_other (by omega)]; exact g4
  · exact (o1.trans (ButL.of_old o4)).trans (ButL.set _ _ _ _ (by simp))

/-- Minor without roots, of one object to which one old word leads. -/
theorem minor_rem {h : Heap} {b q : Nat} {S : MS} (H : MP h b q S) (B : MB S) {rb i p τ z : Nat} {t : Int} (hrs : S.rs = .pos ⟨rb, 0, 0⟩) (hrn : S.rn = 1) (hrb : Root h rb ((i : Nat) : Int)) (hτ : τ ≤ 258) (hz : 1 ≤ z) (hz2 : z ≤ 4000) (t1 : -4294967296 ≤ t) (t2 : t ≤ 4294967296) (hst : t % 2 = 1)
    (hi1 : S.fr ≤ i) (hi2 : i < S.ol) (hfi : S.f i = 2 * (p : Int)) (hp1 : 1 ≤ p) (hp2 : p + z < S.yo) (hhd : S.f p = hd τ z) (hfl : ∀ k, 1 ≤ k → k ≤ z → S.f (p + k) = t) (hroom : S.ol + S.yo ≤ S.fr + S.ha + 1) (rn1 : rb ≠ b) (rn2 : rb ≠ q) :
    ∃ h' g' s', E 20 [.ptr (some ⟨b, 0, 0⟩), .sl .nil 0] h = some (.tup [.sl s' 0, .int .i64 0], h') ∧ MP h' b q { S with f := g', ol := S.ol + (z + 1), yo := 1, rs := .nil, rn := 0 } ∧ ButL [q, b] h h' ∧ g' i = 2 * (S.ol : Int) ∧ g' S.ol = hd τ z ∧ (∀ k, 1 ≤ k → k ≤ z → g' (S.ol + k) = t) := by
  obtain ⟨a1, a2, a3, a4, a5, a6, a7, a8⟩ := B
  have B : MB S := ⟨a1, a2, a3, a4, a5, a6, a7, a8⟩
  have hbl := lt_of_get H.c
  have hql := lt_of_get H.m
  obtain ⟨m, hm⟩ := hrb
  have hrl := lt_of_get hm
  obtain ⟨h4, k1, k2, k3, k4, k5⟩ := start_ok H S.ol (S.fr + S.ha) true 0
  have O : Obj S p τ z := ⟨hp1, hτ, hz2, hhd, .inl (by omega)⟩
  obtain ⟨h5, v1, v2, v3, v4⟩ := val_move k3 k2 B O (fun _ => by omega) (by simp) (by omega) (by omega)
  obtain ⟨w1, w2⟩ := v2.wr i (2 * (S.ol : Int)) (by show i < S.M; omega)
  have o6 : ButL [q] h5 (h5.set q (.cells (cel S.M (upd (cpF S.f p S.ol z) i (2 * (S.ol : Int)))) (.grow 1) 0)) := ButL.set _ _ _ _ (by simp)
  dsimp only at w1 w2
  generalize h5.set q (.cells (cel S.M (upd (cpF S.f p S.ol z) i (2 * (S.ol : Int)))) (.grow 1) 0) = h6 at w1 w2 o6
  have V6 : MV h6 (h.length + 1) h.length b q (S.ol + z + 1) (S.fr + S.ha) true ([] ++ [(p, S.ol)]) := ⟨o6 _ _ v3.c (by simp; omega), o6 _ _ v3.m (by simp; omega), v3.d1, v3.d2, v3.d3, v3.d4, v3.d5⟩
  have B6 : MB { S with f := upd (cpF S.f p S.ol z) i (2 * (S.ol : Int)) } := ⟨a1, a2, a3, a4, a5, a6, a7, a8⟩
  obtain ⟨h7, g7, l7, s1, s2, s3, s4, s5, s6⟩ := scan_go (b := b) (q := q) (bm := h.length + 1) (mm := h.length) (yg := true) (S := { S with f := upd (cpF S.f p S.ol z) i (2 * (S.ol : Int)) }) B6 (τ := τ) (z := z) (lim := S.fr + S.ha) (B0 := S.ol) (t := t) hτ hz hz2 (by dsimp only; omega) t1 t2 (.inl hst) [] S.ol (upd (cpF S.f p S.ol z) i (2 * (S.ol : Int))) _ h6 w2 V6 trivial (by simp) (fun _ _ => rfl) (Nat.le_refl _)
    (by unfold upd cpF; rw [if_neg (by omega), if_pos (by omega), Nat.sub_self, Nat.add_zero]; exact hhd) (fun k k1 k2 => by unfold upd cpF; rw [if_neg (by omega), if_pos (by omega), show S.ol + k - S.ol = k by omega]; exact hfl k k1 k2) List.nodup_nil (by simp) (by simp; omega)
  have hfin : S.ol + (([] : List Nat).length + 1) * (z + 1) = S.ol + (z + 1) := by simp
  rw [hfin] at s3 s5
  have r7 : ld1 h4 ⟨b, 0, 0 + 7⟩ = some (.sl (.pos ⟨rb, 0, 0⟩) 1) := by
    have := k2.r7
    rw [hrs, hrn] at this
    exact this
  have rr : ld1 h4 ⟨rb, 0, 0 + 0 * 1⟩ = some (.int .i64 ((i : Nat) : Int)) := ld1_at (k5 _ _ hm) rfl rfl
  have wi := k2.w i (by omega)
  rw [hfi] at wi
  rw [e20, letK_eq, if_neg (by simp), atP_of, add_mk, H.r6, gI_of, atP_of, add_mk, H.r3, gI_of, letK_eq, wrap64 (x := (S.ol : Int) + S.yo) (by omega) (by omega), letK_eq, wrap64 (by omega) (by omega), atP_of, add_mk, H.r5, gI_of, atP_of, add_mk, H.r4, gI_of, letK_eq, wrap64 (by omega) (by omega), letK_eq, if_neg (by simp <;> omega), atP_of, add_mk, H.r6, gI_of, atP_of, add_mk, H.r5, gI_of, atP_of, add_mk, H.r4, gI_of, letK_eq, wrap64 (by omega) (by omega), newK_eq, newK_eq]
  have l2 : (h ++ [Blk.map []]).length = h.length + 1 := by simp
  have c0 : (h ++ [Blk.map []] ++ [Blk.cells [.ptr (some ⟨b, 0, 0⟩), .int .i64 ((S.ol : Nat) : Int), .int .i64 ((S.fr : Int) + (S.ha : Int)), .map (some h.length), .bool true, .bool false] .fix 0])[h.length + 1]? = some (.cells [.ptr (some ⟨b, 0, 0⟩), .int .i64 ((S.ol : Nat) : Int), .int .i64 ((S.fr : Int) + (S.ha : Int)), .map (some h.length), .bool true, .bool false] .fix 0) := by rw [← l2]; exact last_get _ _
  have l3 : (h ++ [Blk.map []] ++ [Blk.cells [.ptr (some ⟨b, 0, 0⟩), .int .i64 ((S.ol : Nat) : Int), .int .i64 ((S.fr : Int) + (S.ha : Int)), .map (some h.length), .bool true, .bool false] .fix 0]).length = h.length + 2 := by simp
  rw [l2, add_mk, ld1_at (x := .int .i64 ((S.ol : Nat) : Int)) c0 rfl rfl, gI_of, chk_of (by omega), newK_eq, letK_eq, l3, Int.toNat_natCast, show (S.fr : Int) + (S.ha : Int) = ((S.fr + S.ha : Nat) : Int) by omega, k1]
  rw [L20x17xeq, letK_eq, if_neg (by simp), X20x17xe0, atP_of, add_mk, r7, gL_of, L20x28xeq, letK_eq, if_pos (by simp), chk_of (by intro _; omega), adP_pos, atP_of, add_mk, show Int.toNat 0 = 0 from rfl, rr, gI_of, atP_of, add_mk, k2.r0, gL_of, atP_of, add_mk, k2.r0, gL_of, chk_of (by intro _; omega), adP_pos, atP_of, add_mk, Int.toNat_natCast, wi, gI_of, v1, Option.bind_some, gI_of, chkC_of (by intro _; exact v2.n0.trans k2.n0.symm), chk_of (by intro _; omega), atP_of, add_mk]
  dsimp only
  rw [w1, Option.bind_some, letK_eq, wrap64 (by omega) (by omega), L20x28xeq, letK_eq, if_neg (by simp), X20x28xe2, e35, s1, Option.bind_some, gT0_of, atP_of, add_mk, s3.r1, gI_of, atP_of, add_mk, st1_at s2.c (by simp) (by rw [mc_len]; omega), Option.bind_some]
  have o7 : ButL [b] h7 (h7.set b (.cells ((mc { S with f := g7 } q).set (0 + 6) (.int .i64 ((S.ol + (z + 1) : Nat) : Int))) .fix 0)) := ButL.set _ _ _ _ (by simp)
  have c7 := set_same (x := Blk.cells ((mc { S with f := g7 } q).set (0 + 6) (.int .i64 ((S.ol + (z + 1) : Nat) : Int))) .fix 0) s2.c
  show ∃ h' g' s', (atP _ true fun a => _) = _ ∧ _
  generalize h7.set b (.cells ((mc { S with f := g7 } q).set (0 + 6) (.int .i64 ((S.ol + (z + 1) : Nat) : Int))) .fix 0) = h8 at o7 c7
  rw [atP_of, add_mk, st1_at c7 (by simp) (by simp only [List.length_set, mc_len]; omega), Option.bind_some]
  have o8 : ButL [b] h8 (h8.set b (.cells (((mc { S with f := g7 } q).set (0 + 6) (.int .i64 ((S.ol + (z + 1) : Nat) : Int))).set (0 + 3) (.int .i64 1)) .fix 0)) := ButL.set _ _ _ _ (by simp)
  have c8 := set_same (x := Blk.cells (((mc { S with f := g7 } q).set (0 + 6) (.int .i64 ((S.ol + (z + 1) : Nat) : Int))).set (0 + 3) (.int .i64 1)) .fix 0) c7
  generalize h8.set b (.cells (((mc { S with f := g7 } q).set (0 + 6) (.int .i64 ((S.ol + (z + 1) : Nat) : Int))).set (0 + 3) (.int .i64 1)) .fix 0) = h9 at o8 c8
  rw [atP_of, add_mk, st1_at c8 (by simp) (by simp only [List.length_set, mc_len]; omega), Option.bind_some]
  have o9 : ButL [b] h9 (h9.set b (.cells ((((mc { S with f := g7 } q).set (0 + 6) (.int .i64 ((S.ol + (z + 1) : Nat) : Int))).set (0 + 3) (.int .i64 1)).set (0 + 7) (.sl .nil 0)) .fix 0)) := ButL.set _ _ _ _ (by simp)
  have c9 := set_same (x := Blk.cells ((((mc { S with f := g7 } q).set (0 + 6) (.int .i64 ((S.ol + (z + 1) : Nat) : Int))).set (0 + 3) (.int .i64 1)).set (0 + 7) (.sl .nil 0)) .fix 0) c8
  generalize h9.set b (.cells ((((mc { S with f := g7 } q).set (0 + 6) (.int .i64 ((S.ol + (z + 1) : Nat) : Int))).set (0 + 3) (.int .i64 1)).set (0 + 7) (.sl .nil 0)) .fix 0) = h10 at o9 c9
  have o710 : ButL [b] h7 h10 := (o7.trans o8).trans o9
  refine ⟨h10, g7, _, rfl, ⟨c9, o710 _ _ s2.m (by simp; exact H.ne), H.ne⟩, ?_, ?_, s6.1, s6.2.1⟩
  · intro k x hk hn
    simp at hn
    have kl := lt_of_get hk
    exact o710 _ _ (s4 _ _ (o6 _ _ (v4 _ _ (k5 _ _ hk) (by simp; omega)) (by simp; omega)) (by simp; omega)) (by simp; omega)
  · rw [s5 i (.inl hi2)]
    unfold upd
    rw [if_pos rfl]

/-- The memory of the law. -/
def st200 (yo ol : Nat) (f : Nat → Int) (rs : SA) (rn : Nat) : MS := { M := 200, st := 192, nu := 21, yo := yo, ha := 85, fr := 21, ol := ol, f := f, rs := rs, rn := rn }
theorem b200 (yo ol : Nat) (f : Nat → Int) (rs : SA) (rn : Nat) (h1 : 1 ≤ yo) (h2 : yo ≤ 21) (h3 : 21 ≤ ol) (h4 : ol ≤ 106) : MB (st200 yo ol f rs rn) := ⟨by show 200 ≤ 65536; omega, by show 5 ≤ 21; omega, by show 21 + 2 * 85 ≤ 200; omega, .inl rfl, h1, h2, h3, h4⟩

theorem heapMinor_ok (h : Heap) (x0 x1 : Int) : ∃ h', E 5 [.int .i64 x0, .int .i64 x1] h = some (.bool true, h') := by
  have e0 := Int.emod_nonneg x0 (show (4 : Int) ≠ 0 by omega)
  have e1 := Int.emod_lt_of_pos x0 (show (0 : Int) < 4 by omega)
  have e2 := Int.emod_nonneg x1 (show (1000 : Int) ≠ 0 by omega)
  have e3' := Int.emod_lt_of_pos x1 (show (0 : Int) < 1000 by omega)
  obtain ⟨z0, hz0⟩ := Int.eq_ofNat_of_zero_le e0
  obtain ⟨w, hw0⟩ := Int.eq_ofNat_of_zero_le e2
  obtain ⟨h1, n1, n2, n3⟩ := fresh_ok (m := 200) (s := 8) (y := 20) h (by omega) (by omega) (by omega) (by omega) (by omega) (by omega)
  have n1' : E 10 [.int .i64 200, .int .i64 8, .int .i64 20] h = some (.tup [.ptr (some ⟨h.length + 1, 0, 0⟩), .int .i64 0], h1) := n1
  obtain ⟨h2, f1, f2⟩ := hfact_ok h1
  have H2 : MP h2 (h.length + 1) h.length (st200 1 21 (fun _ => 0) .nil 0) := ⟨f2 _ _ n2.c, f2 _ _ n2.m, n2.ne⟩
  have B2 := b200 1 21 (fun _ => 0) .nil 0 (by omega) (by omega) (by omega) (by omega)
  have hbl := lt_of_get H2.c
  have hql := lt_of_get H2.m
  -- the first object
  obtain ⟨h3, a1, a2, a3⟩ := alloc_of (t := 2) (n := 1) (v := 1) H2 B2 (by omega) (by omega) (by show 3 ≤ 21; omega) (by show 3 ≤ 21; omega) (by omega) (by omega)
  have a1' : E 14 [.ptr (some ⟨h.length + 1, 0, 0⟩), .int .i64 2, .int .i64 1, .int .i64 1] h2 = some (.tup [.int .i64 2, .int .i64 0], h3) := a1
  have H3 : MP h3 (h.length + 1) h.length (st200 3 21 (fillO (fun _ => 0) 1 2 1 1 2) .nil 0) := a2
  have B3 := b200 3 21 (fillO (fun _ => 0) 1 2 1 1 2) .nil 0 (by omega) (by omega) (by omega) (by omega)
  have hbl3 := lt_of_get a2.c
  have hql3 := lt_of_get a2.m
  obtain ⟨h4, g4, ob, m1, m2, m3, m4, m5, m6, m7, m8, m9⟩ := minor_one (H3.app [.cells [.int .i64 2] (.grow 1) 0]) B3 rfl (τ := 2) (z := 1) (t := 1) (by omega) (by omega) (by omega) (by omega) (by omega) (.inl (by omega)) [1] ⟨rfl, fun k k1 k2 => by
      obtain rfl : k = 1 := by omega
      rfl, trivial⟩ (fun x hx => by
      have hx1 : x = 1 := List.mem_singleton.1 hx
      rw [hx1]
      exact ⟨by omega, by show 1 + 1 < 3; omega⟩) (by simp) (by show 1 * (1 + 1) + 1 ≤ 3; omega) (by show 21 + 3 ≤ 21 + 85 + 1; omega) (root_new h3 2) (by omega) (by omega)
  have m3' : Root h4 ob 42 := m3
  have B4 := b200 1 23 g4 .nil 0 (by omega) (by omega) (by omega) (by omega)
  have H4 : MP h4 (h.length + 1) h.length (st200 1 23 g4 .nil 0) := m2
  -- the second object
  obtain ⟨h5, b1, b2, b3⟩ := alloc_of (t := 3) (n := 1 + z0) (v := 2 * ((w : Nat) : Int) + 1) H4 B4 (by omega) (by omega) (by show 1 + z0 + 2 ≤ 21; omega) (by show 1 + (1 + z0) + 1 ≤ 21; omega) (by omega) (by omega)
  have b1' : E 14 [.ptr (some ⟨h.length + 1, 0, 0⟩), .int .i64 3, .int .i64 (1 + (z0 : Int)), .int .i64 (2 * ((w : Nat) : Int) + 1)] h4 = some (.tup [.int .i64 2, .int .i64 0], h5) := by
    have t1 : ((1 + z0 : Nat) : Int) = 1 + (z0 : Int) := by omega
    rw [t1] at b1
    exact b1
  have H5 : MP h5 (h.length + 1) h.length (st200 (1 + (1 + z0) + 1) 23 (fillO g4 1 3 (1 + z0) (2 * ((w : Nat) : Int) + 1) (1 + z0 + 1)) .nil 0) := b2
  have B5 := b200 (1 + (1 + z0) + 1) 23 (fillO g4 1 3 (1 + z0) (2 * ((w : Nat) : Int) + 1) (1 + z0 + 1)) .nil 0 (by omega) (by omega) (by omega) (by omega)
  have m3' : Root h4 ob 42 := m3
  have R5 : Root h5 ob 42 := m3'.of b3 (by simp; omega)
  -- the old object refers to it
  obtain ⟨h6, rb, c1, c2, c3, c4, c5⟩ := store_rem H5 B5 rfl rfl (i := 22) (p := 1) (by show 21 ≤ 22; omega) (by show 22 < 21 + 85; omega) (by omega) (by show 1 < 21; omega)
  have c1' : E 21 [.ptr (some ⟨h.length + 1, 0, 0⟩), .int .i64 44, .int .i64 2] h5 = some (.int .i64 0, h6) := c1
  have R6 : Root h6 ob 42 := R5.of c5 (by simp; omega)
  have hbl5 := lt_of_get H5.c
  have hql5 := lt_of_get H5.m
  have B6 := b200 (1 + (1 + z0) + 1) 23 (upd (fillO g4 1 3 (1 + z0) (2 * ((w : Nat) : Int) + 1) (1 + z0 + 1)) 22 (2 * ((1 : Nat) : Int))) (.pos ⟨rb, 0, 0⟩) 1 (by omega) (by omega) (by omega) (by omega)
  have H6 : MP h6 (h.length + 1) h.length (st200 (1 + (1 + z0) + 1) 23 (upd (fillO g4 1 3 (1 + z0) (2 * ((w : Nat) : Int) + 1) (1 + z0 + 1)) 22 (2 * ((1 : Nat) : Int))) (.pos ⟨rb, 0, 0⟩) 1) := c2
  obtain ⟨h7, g7, s7, d1, d2, d3, d4, d5, d6⟩ := minor_rem H6 B6 (i := 22) (p := 1) (τ := 3) (z := 1 + z0) (t := 2 * ((w : Nat) : Int) + 1) rfl rfl c3 (by omega) (by omega) (by omega) (by omega) (by omega) (by omega) (by show 21 ≤ 22; omega) (by show 22 < 23; omega) rfl (by omega) (by show 1 + (1 + z0) < 1 + (1 + z0) + 1; omega) (by
      show upd (fillO g4 1 3 (1 + z0) (2 * ((w : Nat) : Int) + 1) (1 + z0 + 1)) 22 (2 * ((1 : Nat) : Int)) 1 = _
      unfold upd fillO
      rw [if_neg (by omega), if_pos rfl]) (fun k k1 k2 => by
      show upd (fillO g4 1 3 (1 + z0) (2 * ((w : Nat) : Int) + 1) (1 + z0 + 1)) 22 (2 * ((1 : Nat) : Int)) (1 + k) = _
      unfold upd fillO
      rw [if_neg (by omega), if_neg (by omega), if_pos (by omega)]) (by show 23 + (1 + (1 + z0) + 1) ≤ 21 + 85 + 1; omega) (by omega) (by omega)
  have R7 : Root h7 ob 42 := R6.of d3 (by simp; omega)
  have H7 : MP h7 (h.length + 1) h.length (st200 1 (23 + (1 + z0 + 1)) g7 .nil 0) := d2
  have B7 := b200 1 (23 + (1 + z0 + 1)) g7 .nil 0 (by omega) (by omega) (by omega) (by omega)
  have u7 : E 16 [.ptr (some ⟨h.length + 1, 0, 0⟩)] h7 = some (.tup [.int .i64 0, .int .i64 ((23 + (1 + z0 + 1) - 21 : Nat) : Int)], h7) := used_of H7 B7
  have q1 : E 22 [.ptr (some ⟨h.length + 1, 0, 0⟩), .int .i64 44] h7 = some (.tup [.int .i64 46, .int .i64 0], h7) := by
    have := load_ok H7 B7 (i := 22) (by omega) (by show 22 < 200; omega)
    have d4' : (st200 1 (23 + (1 + z0 + 1)) g7 .nil 0).f 22 = 46 := d4
    rw [d4'] at this
    exact this
  have d5' : g7 23 = hd 3 (1 + z0) := d5
  have q2 : E 15 [.ptr (some ⟨h.length + 1, 0, 0⟩), .int .i64 46] h7 = some (.tup [.int .i64 3, .int .i64 ((1 + z0 : Nat) : Int), .int .i64 0], h7) := tag_of H7 B7 (p := 23) (t := 3) (n := 1 + z0) ⟨by omega, by omega, by omega, d5', .inr ⟨by show 21 ≤ 23; omega, by show 21 ≤ 23; omega, by show 23 + (1 + z0) < 23 + (1 + z0 + 1); omega⟩⟩
  have q3 : E 22 [.ptr (some ⟨h.length + 1, 0, 0⟩), .int .i64 (2 * ((23 + (1 + z0) : Nat) : Int))] h7 = some (.tup [.int .i64 (2 * ((w : Nat) : Int) + 1), .int .i64 0], h7) := by
    have := load_ok H7 B7 (i := 23 + (1 + z0)) (by omega) (by show 23 + (1 + z0) < 200; omega)
    have d6' : (st200 1 (23 + (1 + z0 + 1)) g7 .nil 0).f (23 + (1 + z0)) = 2 * ((w : Nat) : Int) + 1 := d6 (1 + z0) (by omega) (by omega)
    rw [d6'] at this
    exact this
  rw [e5, n1', Option.bind_some, gT2_of]
  simp only [List.getD_cons_zero, List.getD_cons_succ]
  rw [gP_of, gI_of, f1, Option.bind_some, gB_of, letK_eq, letK_eq, letK_eq, letK_eq, if_neg (by simp), rest_ok _ _ _ (by omega) (by omega), Option.bind_some, gI_of, hz0, letK_eq, wrap64 (by omega) (by omega), rest_ok _ _ _ (by omega) (by omega), Option.bind_some, gI_of, hw0]
  dsimp only
  rw [a1', Option.bind_some, gT2_of]
  simp only [List.getD_cons_zero, List.getD_cons_succ]
  rw [gI_of, gI_of, newK_eq, m1, Option.bind_some, gT2_of]
  simp only [List.getD_cons_zero, List.getD_cons_succ]
  rw [gL_of, gI_of, letK_eq, letK_eq, letK_eq, letK_eq, letK_eq, if_neg (by simp), letK_eq, wrap64 (x := 2 * ((w : Nat) : Int)) (by omega) (by omega), letK_eq, wrap64 (x := 2 * ((w : Nat) : Int) + 1) (by omega) (by omega)]
  show ∃ h', (E 14 [.ptr (some ⟨h.length + 1, 0, 0⟩), .int .i64 3, .int .i64 (1 + (z0 : Int)), .int .i64 (2 * ((w : Nat) : Int) + 1)] h4).bind _ = _
  rw [b1', Option.bind_some, gT2_of]
  simp only [List.getD_cons_zero, List.getD_cons_succ]
  rw [gI_of, gI_of, letK_eq, chk_of (by intro _; omega), adP_pos, atP_of, atP_of, add_mk, show Int.toNat 0 = 0 from rfl, R5.ld, gI_of, letK_eq, wrap64 (x := 42 + 2) (by omega) (by omega)]
  show ∃ h', (callO true (E 21 [.ptr (some ⟨h.length + 1, 0, 0⟩), .int .i64 44, .int .i64 2] h5) (.int .i64 0) h5).bind _ = _
  rw [callO_true, c1', Option.bind_some, gI_of, letK_eq, letK_eq, if_neg (by simp), d1, Option.bind_some, gT2_of]
  simp only [List.getD_cons_zero, List.getD_cons_succ]
  rw [gL_of, gI_of, letK_eq, if_neg (by simp), u7, Option.bind_some, gT2_of]
  simp only [List.getD_cons_zero, List.getD_cons_succ]
  rw [gI_of, gI_of, chk_of (by intro _; omega), atP_of, add_mk, R7.ld, gI_of, letK_eq, wrap64 (x := 42 + 2) (by omega) (by omega)]
  show ∃ h', (E 22 [.ptr (some ⟨h.length + 1, 0, 0⟩), .int .i64 44] h7).bind _ = _
  rw [q1, Option.bind_some, gT2_of]
  simp only [List.getD_cons_zero, List.getD_cons_succ]
  rw [gI_of, gI_of, q2, Option.bind_some, gT3_of]
  simp only [List.getD_cons_zero, List.getD_cons_succ]
  rw [gI_of, gI_of, gI_of, letK_eq, wrap64 (x := 2 * (1 + (z0 : Int))) (by omega) (by omega), letK_eq, wrap64 (by omega) (by omega), show (46 + 2 * (1 + (z0 : Int))) = 2 * ((23 + (1 + z0) : Nat) : Int) by omega, q3, Option.bind_some, gT2_of]
  simp only [List.getD_cons_zero, List.getD_cons_succ]
  rw [gI_of, gI_of]
  have w1 : IntKind.wrap .i64 (2 + (1 + (z0 : Int))) = 2 + (1 + (z0 : Int)) := wrap64 (by omega) (by omega)
  have w2 : IntKind.wrap .i64 (2 + (1 + (z0 : Int)) + 1) = ((23 + (1 + z0 + 1) - 21 : Nat) : Int) := by rw [wrap64 (by omega) (by omega)]; omega
  have w3 : IntKind.wrap .i64 (2 * ((w : Nat) : Int)) = 2 * ((w : Nat) : Int) := wrap64 (by omega) (by omega)
  have w4 : IntKind.wrap .i64 (2 * ((w : Nat) : Int) + 1) = 2 * ((w : Nat) : Int) + 1 := wrap64 (by omega) (by omega)
  have w5 : ((1 + z0 : Nat) : Int) = 1 + (z0 : Int) := by omega
  refine ⟨h7, ?_⟩
  simp only [letK_eq]
  simp [w1, w2, w3, w4, w5]
end Go.Proofs.Ytecgpcpgklholaa.K
