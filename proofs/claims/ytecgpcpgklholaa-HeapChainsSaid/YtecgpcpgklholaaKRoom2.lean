/- heap: Check; HeapRoom. -/
import Derived.Test.YtecgpcpgklholaaConK
set_option linter.unusedVariables false
set_option linter.unusedSimpArgs false
namespace Go.Proofs.Ytecgpcpgklholaa.K
open Go Go.Proofs.Ytecgpcpgklholaa.Abs Go.Proofs

theorem objects_ok {h : Heap} {b q : Nat} {S : HS} (H : HP h b q S) (B : HB S) {e a : Nat} (he : e ≤ S.M) {zs : List Nat} (L : Lay S.f a zs e) : ∃ h' s', E 32 [.ptr (some ⟨b, 0, 0⟩), .int .i64 ((a : Nat) : Int), .int .i64 ((e : Nat) : Int)] h = some (.tup [.sl s' (starts a zs).length, .bool true], h') ∧ Old h h' ∧ GS h' s' (starts a zs).length 1 ((castN (starts a zs)).map (.int .i64)) ∧ (∀ k, inS s' k → h.length ≤ k) := by
  obtain ⟨h', s', r1, r2, r3, r4⟩ := objects_loop H B he zs a L h .nil [] (Old.refl _) ⟨rfl, rfl, .inl ⟨rfl, rfl⟩⟩ (by rintro k ⟨x, hx, _⟩; cases hx) (by simp)
  rw [List.nil_append] at r1 r3
  exact ⟨h', s', by rw [e32]; exact r1, r2, r3, r4⟩

theorem starts_lt {f : Nat → Int} : ∀ {zs : List Nat} {a e : Nat}, Lay f a zs e → (starts a zs).length ≤ e - a
  | [], a, e, _ => by simp [starts]
  | z :: zs, a, e, h => by
    have := starts_lt h.2.2.2
    have := lay_le h.2.2.2
    simp only [starts, List.length_cons]
    omega

theorem field_loop {h : Heap} {b q p z : Nat} {S : HS} (H : HP h b q S) (hM : p + z < S.M) (hm : S.M ≤ 65536) (hf : ∀ k, 1 ≤ k → k ≤ z → S.f (p + k) = 1) (s7 s48 : SA) (n7 n48 : Nat) (i49 i50 : Int) (Q : Kont (AV × Heap)) : ∀ (j k : Nat), k + j = z + 1 → 1 ≤ k →
    L17x23 mk0 E (some ⟨b, 0, 0⟩) s7 n7 ((p : Nat) : Int) ((z : Nat) : Int) ((p + k : Nat) : Int) s48 n48 i49 i50 h Q = Q (.exit 2) (S17xe2 (some ⟨b, 0, 0⟩) s7 n7 s48 n48 i49 i50 h) := by
  intro j
  induction j with
  | zero =>
    intro k hk h1
    rw [L17x23xeq, letK_eq, wrap64 (by omega) (by omega), letK_eq, if_neg (by simp; omega)]
  | succ j ih =>
    intro k hk h1
    have r0 : ld1 h ⟨b, 0, 0 + 0⟩ = some (.sl (.pos ⟨q, 0, 0⟩) S.M) := ld1_at H.c rfl rfl
    have hmm := mem_ld H (p + k) (by omega)
    rw [hf k h1 (by omega)] at hmm
    rw [L17x23xeq, letK_eq, wrap64 (by omega) (by omega), letK_eq, if_pos (by simp; omega), atP_of, add_mk, r0, gL_of, chk_of (by intro _; omega), adP_pos, atP_of, add_mk, Int.toNat_natCast, hmm, gI_of, letK_eq, and1, letK_eq, letK_eq, letK_eq, if_pos (by decide), J17x40xeq, letK_eq, wrap64 (by omega) (by omega), show (((p + k : Nat) : Int) + 1) = ((p + (k + 1) : Nat) : Int) by omega]
    exact ih (k + 1) (by omega) (by omega)

theorem all_loop {h : Heap} {b q n : Nat} {S : HS} {s : SA} {ps : List Nat} (H : HP h b q S) (hm : S.M ≤ 65536) (HV : VS intC 1 h s n (castN ps)) (hp : ∀ p ∈ ps, ∃ z : Nat, z ≤ 4000 ∧ S.f p = hdr z ∧ (∀ k, 1 ≤ k → k ≤ z → S.f (p + k) = 1) ∧ p + z < S.M) (hn : n ≤ 100000) : ∀ (j i : Nat), i + j = n →
    L17x12 mk0 E (some ⟨b, 0, 0⟩) s n s n ((n : Nat) : Int) ((i : Nat) : Int) h (Q17x12 mk0 E) = some (.bool true, h) := by
  have hl : ps.length = n := by have := HV.1; simpa [castN] using this
  intro j
  induction j with
  | zero =>
    intro i hi
    rw [L17x12xeq, letK_eq, if_neg (by simp; omega), X17x12xe0]
  | succ j ih =>
    intro i hi
    obtain ⟨p, hpi⟩ : ∃ p, ps[i]? = some p := ⟨ps[i]'(by omega), List.getElem?_eq_getElem (by omega)⟩
    have hc : (castN ps)[i]? = some ((p : Nat) : Int) := by simp [castN, hpi]
    obtain ⟨a, ha, la⟩ := vs_ld1 (g := AV.int .i64) HV (fun _ => rfl) i _ hc
    obtain ⟨z, z1, z2, z3, z4⟩ := hp p (List.mem_of_getElem? hpi)
    have r0 : ld1 h ⟨b, 0, 0 + 0⟩ = some (.sl (.pos ⟨q, 0, 0⟩) S.M) := ld1_at H.c rfl rfl
    have hmm := mem_ld H p (by omega)
    rw [z2] at hmm
    have fl := field_loop H z4 hm z3 s s n n ((n : Nat) : Int) ((i : Nat) : Int) (Q17x23 mk0 E (Q17x12 mk0 E)) z 1 (by omega) (by omega)
    rw [L17x12xeq, letK_eq, if_pos (by simp; omega), chk_of (by intro _; omega), ha, atP_of, Int.toNat_natCast, la, gI_of, atP_of, add_mk, r0, gL_of, chk_of (by intro _; omega), adP_pos, atP_of, add_mk, Int.toNat_natCast, hmm, gI_of, split_ok _ _ (by omega) (by omega), Option.bind_some, gT3_of]
    simp only [List.getD_cons_zero, List.getD_cons_succ]
    rw [gI_of, gI_of, gB_of, letK_eq, wrap64 (by omega) (by omega), show ((p : Int) + 1) = ((p + 1 : Nat) : Int) by omega, fl, X17x23xe2, letK_eq, wrap64 (by omega) (by omega), show ((i : Int) + 1) = ((i + 1 : Nat) : Int) by omega]
    exact ih (i + 1) (by omega)

theorem check_ok {h : Heap} {b q : Nat} {S : HS} (H : HP h b q S) (G : HG S) : ∃ h', E 17 [.ptr (some ⟨b, 0, 0⟩)] h = some (.bool true, h') := by
  have B := G.toHB
  obtain ⟨ys, hy⟩ := G.y
  obtain ⟨os, ho⟩ := G.o
  obtain ⟨a1, a2, a3, a4, a5, a6, a7, a8, a9⟩ := B
  obtain ⟨Y, hY⟩ := Int.eq_ofNat_of_zero_le (show 0 ≤ S.yo by omega)
  obtain ⟨N, hN⟩ := Int.eq_ofNat_of_zero_le (show 0 ≤ S.nu by omega)
  obtain ⟨O, hO⟩ := Int.eq_ofNat_of_zero_le (show 0 ≤ S.ol by omega)
  rw [hY, Int.toNat_natCast] at hy
  rw [hO, hN, Int.toNat_natCast, Int.toNat_natCast] at ho
  obtain ⟨h1, s1, e1, o1, g1, f1⟩ := objects_ok H G.toHB (by omega) hy
  have H1 : HP h1 b q S := ⟨o1 _ _ H.c, o1 _ _ H.m, H.ne⟩
  obtain ⟨h2, s2, e2, o2, g2, f2⟩ := objects_ok H1 G.toHB (by omega) ho
  have H2 : HP h2 b q S := ⟨o2 _ _ H1.c, o2 _ _ H1.m, H.ne⟩
  have l1 := starts_lt hy
  have l2 := starts_lt ho
  have r3 : ld1 h ⟨b, 0, 0 + 3⟩ = some (.int .i64 S.yo) := ld1_at H.c rfl rfl
  have r5 : ld1 h1 ⟨b, 0, 0 + 5⟩ = some (.int .i64 S.fr) := ld1_at H1.c rfl rfl
  have r6 : ld1 h1 ⟨b, 0, 0 + 6⟩ = some (.int .i64 S.ol) := ld1_at H1.c rfl rfl
  have e1' : E 32 [.ptr (some ⟨b, 0, 0⟩), .int .i64 1, .int .i64 S.yo] h = some (.tup [.sl s1 (starts 1 ys).length, .bool true], h1) := by rw [hY]; exact e1
  have e2' : E 32 [.ptr (some ⟨b, 0, 0⟩), .int .i64 S.fr, .int .i64 S.ol] h1 = some (.tup [.sl s2 (starts N os).length, .bool true], h2) := by rw [a3, hN, hO]; exact e2
  have hp : ∀ p ∈ starts 1 ys ++ starts N os, ∃ z : Nat, z ≤ 4000 ∧ S.f p = hdr z ∧ (∀ k, 1 ≤ k → k ≤ z → S.f (p + k) = 1) ∧ p + z < S.M := by
    intro p hp
    rcases List.mem_append.1 hp with hp | hp
    · obtain ⟨z, z1, z2, z3, z4⟩ := lay_starts hy hp
      exact ⟨z, z1, z2, z3, by omega⟩
    · obtain ⟨z, z1, z2, z3, z4⟩ := lay_starts ho hp
      exact ⟨z, z1, z2, z3, by omega⟩
  have vs_of : ∀ (hh : Heap) (ss : SA) (m : Nat) (l : List Int), GS hh ss m 1 (l.map (.int .i64)) → VS intC 1 hh ss m l := by
    intro hh ss m l g
    have e1 : (l.map (AV.int .i64)) = l.flatMap intC := (rows_one _ _).symm
    have h1 := g.1
    rw [List.length_map] at h1
    rw [e1] at g
    exact vs_GS (f := intC) (es := 1) (fun _ => rfl) (by omega) g
  rw [e17, atP_of, add_mk, r3, gI_of, e1', Option.bind_some, gT2_of]
  simp only [List.getD_cons_zero, List.getD_cons_succ]
  rw [gL_of, gB_of, atP_of, add_mk, r5, gI_of, atP_of, add_mk, r6, gI_of, e2', Option.bind_some, gT2_of]
  simp only [List.getD_cons_zero, List.getD_cons_succ]
  rw [gL_of, gB_of, letK_eq, if_neg (by simp)]
  have ldo : ldSl h2 s2 ((starts N os).length * 1) = some ((castN (starts N os)).map (.int .i64)) := by
    obtain ⟨q1, q2, q3 | ⟨bb, v, rfl, q4⟩⟩ := g2
    · obtain ⟨rfl, hz⟩ := q3
      have : starts N os = [] := List.length_eq_zero_iff.1 hz
      rw [this]; rfl
    · rw [Nat.mul_one]
      exact ldSl_at q4 (by simpa using q1) (flat_ints _)
  rw [ldo, Option.bind_some]
  have g1' := gs_app (l := []) g1
  cases hlen : (starts N os).length with
  | zero =>
    have hnil : starts N os = [] := List.length_eq_zero_iff.1 hlen
    rw [hnil] at hp ⊢
    rw [List.append_nil] at hp
    have g1'' : GS h2 s1 (starts 1 ys).length 1 ((castN (starts 1 ys)).map (.int .i64)) := by
      obtain ⟨w1, w2, w3 | ⟨bb, v, w3, w4⟩⟩ := g1
      · exact ⟨w1, w2, .inl w3⟩
      · exact ⟨w1, w2, .inr ⟨bb, v, w3, o2 _ _ w4⟩⟩
    have al := all_loop H2 a1 (vs_of _ _ _ _ g1'') hp (by omega) (starts 1 ys).length 0 (by omega)
    rw [show (((0 : Nat) : Int)) = 0 from rfl] at al
    refine ⟨h2, ?_⟩
    show (apnd h2 (.sl s1 (starts 1 ys).length) 1 8 _ 0).bind _ = _
    rw [show ∀ ys' : List AV, apnd h2 (.sl s1 (starts 1 ys).length) 1 8 ys' 0 = some (.sl s1 (starts 1 ys).length, h2) from fun _ => rfl, Option.bind_some, gL_of]
    exact al
  | succ w =>
    have g1'' : GS h2 s1 (starts 1 ys).length 1 ((castN (starts 1 ys)).map (.int .i64)) := by
      obtain ⟨w1, w2, w3 | ⟨bb, v, w3, w4⟩⟩ := g1
      · exact ⟨w1, w2, .inl w3⟩
      · exact ⟨w1, w2, .inr ⟨bb, v, w3, o2 _ _ w4⟩⟩
    obtain ⟨t, h4, e5, w5, le5, kp5, nw5⟩ := apnd_GS (m := w + 1) (bytes := 8) (ys := (castN (starts N os)).map (.int .i64)) g1'' (by omega) (by omega) (by simp [castN, hlen]) (flat_ints _) (by rw [← List.map_append]; exact flat_ints _) (by omega)
    have hbl := (List.getElem?_eq_some_iff.1 H.c).1
    have hql := (List.getElem?_eq_some_iff.1 H.m).1
    have H4 : HP h4 b q S := ⟨kp5 _ _ H2.c fun hh => by have := f1 _ hh; omega, kp5 _ _ H2.m fun hh => by have := f1 _ hh; omega, H.ne⟩
    have w5' : GS h4 t ((starts 1 ys).length + (w + 1)) 1 ((castN (starts 1 ys ++ starts N os)).map (.int .i64)) := by
      have : castN (starts 1 ys ++ starts N os) = castN (starts 1 ys) ++ castN (starts N os) := by simp [castN]
      rw [this, List.map_append]
      exact w5
    have al := all_loop H4 a1 (vs_of _ _ _ _ w5') hp (by omega) ((starts 1 ys).length + (w + 1)) 0 (by omega)
    rw [show (((0 : Nat) : Int)) = 0 from rfl] at al
    rw [e5, Option.bind_some, gL_of]
    exact ⟨h4, al⟩

theorem room_loop {h0 : Heap} {s44 : SA} {n : Nat} {zs : List Int} (HA : VS intC 1 h0 s44 n zs) (hn : n ≤ 40) {b q : Nat} (hb : h0.length ≤ b) (hq : h0.length ≤ q) : ∀ (j i : Nat), i + j = n → ∀ (h : Heap) (S : HS), Old h0 h → HP h b q S → HG S →
    ∃ h', L3x11 mk0 E (some ⟨b, 0, 0⟩) ((S.yo - 1) + (S.ol - S.fr)) s44 n ((n : Nat) : Int) ((i : Nat) : Int) h (Q3x11 mk0 E) = some (.bool true, h') := by
  have hl := HA.1
  intro j
  induction j with
  | zero =>
    intro i hi h S ho H G
    obtain ⟨h', e⟩ := check_ok H G
    rw [L3x11xeq, letK_eq, if_neg (by simp; omega), X3x11xe0, e, Option.bind_some, gB_of]
    exact ⟨h', rfl⟩
  | succ j ih =>
    intro i hi h S ho H G
    obtain ⟨x, hx⟩ : ∃ x, zs[i]? = some x := ⟨zs[i]'(by omega), List.getElem?_eq_getElem (by omega)⟩
    obtain ⟨a, ha, la⟩ := vs_ld1 (g := AV.int .i64) (vs_old HA ho) (fun _ => rfl) i _ hx
    have e0 := Int.emod_nonneg x (show (60 : Int) ≠ 0 by omega)
    have e1 := Int.emod_lt_of_pos x (show (0 : Int) < 60 by omega)
    obtain ⟨m, hm⟩ := Int.eq_ofNat_of_zero_le e0
    have B := G.toHB
    have B' := B
    obtain ⟨a1, a2, a3, a4, a5, a6, a7, a8, a9⟩ := B'
    have next : ∀ (h2 : Heap) (S2 : HS), Old h0 h2 → HP h2 b q S2 → HG S2 → ∃ h', J3x36 mk0 E (some ⟨b, 0, 0⟩) ((S2.yo - 1) + (S2.ol - S2.fr)) s44 n ((n : Nat) : Int) ((i : Nat) : Int) h2 (Q3x11 mk0 E) = some (.bool true, h') := by
      intro h2 S2 o2 H2 G2
      have B2 := G2.toHB
      obtain ⟨c1, c2, c3, c4, c5, c6, c7, c8, c9⟩ := B2
      rw [J3x36xeq, used_ok H2 G2.toHB, Option.bind_some, gT2_of]
      simp only [List.getD_cons_zero, List.getD_cons_succ]
      rw [gI_of, gI_of, letK_eq, wrap64 (by omega) (by omega), letK_eq, if_neg (by simp), letK_eq, wrap64 (by omega) (by omega), show ((i : Int) + 1) = ((i + 1 : Nat) : Int) by omega]
      exact ih (i + 1) (by omega) h2 S2 o2 H2 G2
    rw [L3x11xeq, letK_eq, if_pos (by simp; omega), chk_of (by intro _; omega), ha, atP_of, Int.toNat_natCast, la, gI_of, rest_ok _ _ _ (by omega) (by omega), Option.bind_some, gI_of, hm, room_ok H B _ (by omega) (by omega), Option.bind_some, gB_of]
    cases hr : room S ((m : Nat) : Int) with
    | false =>
      rw [alloc_full H B (by omega) hr, Option.bind_some, gT2_of]
      simp only [List.getD_cons_zero, List.getD_cons_succ]
      rw [gI_of, gI_of, letK_eq, letK_eq, letK_eq, letK_eq, letK_eq, if_neg (by simp), if_neg (by simp)]
      exact next h S ho H G
    | true =>
      obtain ⟨h2, c1, c2, c3⟩ := alloc_ok H B (n := m) (by omega) hr
      have G2 := alc_good G (n := m) (by omega) hr
      have B2 := G2.toHB
      have hw : (S.yo - 1) + (S.ol - S.fr) + ((m : Int) + 1) = ((alc S m).yo - 1) + ((alc S m).ol - (alc S m).fr) := by
        unfold alc
        split <;> dsimp only <;> omega
      have o2 : Old h0 h2 := fun k y hk => by
        have := (List.getElem?_eq_some_iff.1 hk).1
        exact c3 k y (ho k y hk) (by omega) (by omega)
      rw [c1, Option.bind_some, gT2_of]
      simp only [List.getD_cons_zero, List.getD_cons_succ]
      rw [gI_of, gI_of, letK_eq, letK_eq, letK_eq, letK_eq, letK_eq, if_neg (by simp), if_pos (by simp), letK_eq, wrap64 (x := (m : Int) + 1) (by omega) (by omega), letK_eq, wrap64 (by omega) (by omega), tag_ok c2 B hr (by omega), Option.bind_some, gT3_of]
      simp only [List.getD_cons_zero, List.getD_cons_succ]
      rw [gI_of, gI_of, gI_of, letK_eq, letK_eq, letK_eq, letK_eq, letK_eq, if_neg (by simp), hw]
      exact next h2 (alc S m) o2 c2 G2

theorem heapRoom_ok {h : Heap} {s2 : SA} {n2 : Nat} {zs : List Int} (x y : Int) (HA : VS intC 1 h s2 n2 zs) : ∃ h', E 3 [.int .i64 x, .int .i64 y, .sl s2 n2] h = some (.bool true, h') := by
  have e0 := Int.emod_nonneg x (show (300 : Int) ≠ 0 by omega)
  have e1 := Int.emod_lt_of_pos x (show (0 : Int) < 300 by omega)
  have e2 := Int.emod_nonneg y (show (20 : Int) ≠ 0 by omega)
  have e3' := Int.emod_lt_of_pos y (show (0 : Int) < 20 by omega)
  obtain ⟨m, hm⟩ := Int.eq_ofNat_of_zero_le e0
  obtain ⟨k, hk⟩ := Int.eq_ofNat_of_zero_le e2
  obtain ⟨h1, S, n1, c2, c3, c4, c5, c6, c7, c8⟩ := new_ok (m := 64 + m) (s := 8) (y := 4 + k) h (by omega) (by omega) (by omega) (by omega) (by omega) (by omega)
  obtain ⟨h2, f1, f2⟩ := hfact_ok h1
  have n1' : E 10 [.int .i64 (64 + (m : Int)), .int .i64 8, .int .i64 (4 + (k : Int))] h = some (.tup [.ptr (some ⟨h.length + 1, 0, 0⟩), .int .i64 0], h1) := by
    have t1 : ((64 + m : Nat) : Int) = 64 + (m : Int) := by omega
    have t2 : ((4 + k : Nat) : Int) = 4 + (k : Int) := by omega
    rw [t1, t2] at n1
    exact n1
  have H2 : HP h2 (h.length + 1) h.length S := ⟨f2 _ _ c2.c, f2 _ _ c2.m, c2.ne⟩
  rw [e3, rest_ok _ _ _ (by omega) (by omega), Option.bind_some, gI_of, hm, letK_eq, wrap64 (by omega) (by omega), rest_ok _ _ _ (by omega) (by omega), Option.bind_some, gI_of, hk, letK_eq, wrap64 (by omega) (by omega), n1', Option.bind_some, gT2_of]
  simp only [List.getD_cons_zero, List.getD_cons_succ]
  rw [gP_of, gI_of, f1, Option.bind_some, gB_of, letK_eq, letK_eq, letK_eq, letK_eq, if_neg (by simp), letK_eq, mm_min, chkC_of (by intro _; exact ⟨by omega, .inl (by omega)⟩), letK_eq]
  have hm1 : (min (n2 : Int) 40).toNat ≤ n2 := by omega
  have hm2 : (min (n2 : Int) 40).toNat ≤ 40 := by omega
  generalize (min (n2 : Int) 40).toNat = n at hm1 hm2
  obtain ⟨h', r⟩ := room_loop (vs_take HA n hm1) hm2 (b := h.length + 1) (q := h.length) (by omega) (by omega) n 0 (by omega) h2 S (c7.trans f2) H2 c3
  rw [c4, c5, show (((0 : Nat) : Int)) = 0 from rfl] at r
  refine ⟨h', ?_⟩
  have z : (1 - 1 : Int) + (S.fr - S.fr) = 0 := by omega
  rw [z] at r
  exact r

end Go.Proofs.Ytecgpcpgklholaa.K
