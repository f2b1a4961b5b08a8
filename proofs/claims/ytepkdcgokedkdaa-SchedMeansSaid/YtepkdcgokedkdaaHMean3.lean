/- sched: scheduling changes no meaning. -/
import Derived.Test.YtepkdcgokedkdaaHMean2
import Derived.Test.YtepkdcgokedkdaaConHd
set_option linter.unusedVariables false
set_option linter.unusedSimpArgs false
namespace Go.Proofs.Ytepkdcgokedkdaa.H
open Go Go.Proofs.Ytepkdcgokedkdaa.Abs Go.Proofs

theorem eq_loop {h : Heap} {s0 s1 : SA} {n0 n1 : Nat} {l : List Int} (H0 : VS intC 1 h s0 n0 l) (H1 : VS intC 1 h s1 n1 l) (hn : n0 ≤ 10000) : ∀ (k j : Nat), j + k = n0 →
    L27x9 mk0 E s0 n0 s1 n1 ((n0 : Nat) : Int) ((j : Nat) : Int) h (Q27x9 mk0 E) = some (.bool true, h) := by
  have hl0 := H0.1
  have hl1 := H1.1
  intro k
  induction k with
  | zero =>
    intro j hj
    rw [L27x9xeq, letK_eq, if_neg (by simp; omega), X27x9xe0]
  | succ k ih =>
    intro j hj
    obtain ⟨x, hx⟩ : ∃ x, l[j]? = some x := ⟨_, List.getElem?_eq_getElem (by omega)⟩
    obtain ⟨a0, ha0, la0⟩ := vs_ld1 (g := AV.int .i64) H0 (fun _ => rfl) j x hx
    obtain ⟨a1, ha1, la1⟩ := vs_ld1 (g := AV.int .i64) H1 (fun _ => rfl) j x hx
    rw [L27x9xeq, letK_eq, if_pos (by simp; omega), chk_of (by intro _; omega), ha0, atP_of, Int.toNat_natCast, la0, gI_of, chk_of (by intro _; omega), ha1, atP_of, la1, gI_of, letK_eq, if_neg (by simp), letK_eq, wrap64 (by omega) (by omega), show ((j : Int) + 1) = ((j + 1 : Nat) : Int) by omega]
    exact ih (j + 1) (by omega)

theorem eqi_ok {h : Heap} {s0 s1 : SA} {n0 n1 : Nat} {l : List Int} (H0 : VS intC 1 h s0 n0 l) (H1 : VS intC 1 h s1 n1 l) (hn : n0 ≤ 10000) : E 27 [.sl s0 n0, .sl s1 n1] h = some (.bool true, h) := by
  have hl0 := H0.1
  have hl1 := H1.1
  rw [e27, letK_eq, if_neg (by simp; omega)]
  exact eq_loop H0 H1 hn n0 0 (by omega)

theorem eqc_same : ∀ (l : List Int), eqCells (List.replicate l.length false) (l.map (.int .i64)) (l.map (.int .i64)) = some true
  | [] => rfl
  | x :: l => by
    have := eqc_same l
    simp only [List.length_cons, List.replicate_succ, List.map_cons, eqCells, this]
    simp

/-- Those that neither call nor return are kept. -/
theorem keep_loop {h1 : Heap} {s22 : SA} {n22 : Nat} {l : List Ins} (H : VS Ins.cells 5 h1 s22 n22 l) (hv : ∀ e ∈ l, e.ok) (hn : n22 ≤ 60) (s1 : SA) (n1 : Nat) : ∀ (k j : Nat), j + k = n22 →
    ∀ (h : Heap) (s5 : SA) (out : List Ins), Old h1 h → GS h s5 out.length 5 (out.flatMap Ins.cells) → out.length ≤ j → (∀ e ∈ out, e.ok ∧ e.op ≠ 14 ∧ e.op ≠ 15) → (∀ x, inS s5 x → h1.length ≤ x) →
      ∃ h' s5' out', L10x10 mk0 E s1 n1 s5 out.length s22 n22 ((n22 : Nat) : Int) ((j : Nat) : Int) h (Q10x10 mk0 E) = L10x25 mk0 E s1 n1 s5' (out' : List Ins).length (List.replicate 16 (.int .i64 0)) 0 h' (Q10x25 mk0 E) ∧ Old h1 h' ∧ GS h' s5' out'.length 5 (out'.flatMap Ins.cells) ∧ out'.length ≤ n22 ∧ (∀ e ∈ out', e.ok ∧ e.op ≠ 14 ∧ e.op ≠ 15) := by
  have hl := H.1
  intro k
  induction k with
  | zero =>
    intro j hj h s5 out ho g hj2 hq hd
    rw [L10x10xeq, letK_eq, if_neg (by simp; omega), X10x10xe0]
    exact ⟨h, s5, out, rfl, ho, g, by omega, hq⟩
  | succ k ih =>
    intro j hj h s5 out ho g hj2 hq hd
    obtain ⟨e, hx⟩ : ∃ e, l[j]? = some e := ⟨_, List.getElem?_eq_getElem (by omega)⟩
    obtain ⟨a, ha, la⟩ := vs_ld (vs_old H ho) ins_flat j e hx
    have he := hv e (List.mem_of_getElem? hx)
    rw [L10x10xeq, letK_eq, if_pos (by simp; omega), chk_of (by intro _; omega), ha, atP_of, Int.toNat_natCast, la, gCells_of]
    simp only [Ins.cells, List.getElem?_cons_zero, List.getElem?_cons_succ]
    rw [gI_of, gI_of, gI_of, gI_of, gI_of, letK_eq, gI_any, letK_eq, letK_eq]
    by_cases hc : e.op ≠ 14 ∧ e.op ≠ 15
    · have hlen : (out.flatMap Ins.cells ++ e.cells) = (out ++ [e]).flatMap Ins.cells := by simp
      obtain ⟨s8, h2, a1, a2, a3, a4, a5⟩ := apnd_GS (m := 1) (bytes := 40) (ys := e.cells) (gs_app (l := [.cells e.cells (.grow 5) 0]) g) (by omega) (by omega) rfl rfl (by rw [hlen]; exact rows_flat ins_flat _) (by omega)
      have l1 : ldSl (h ++ [.cells e.cells (.grow 5) 0]) (.pos ⟨h.length, 0, 0⟩) (1 * 5) = some e.cells := ldSl_at (last_get _ _) rfl (ins_flat e)
      rw [if_pos (by simp [hc.1, hc.2]), newK_eq]
      simp only [Ins.cells] at a1 l1
      rw [l1, Option.bind_some, a1, Option.bind_some, gL_of, J10x20xeq, letK_eq, wrap64 (by omega) (by omega), show ((j : Int) + 1) = ((j + 1 : Nat) : Int) by omega]
      have := ih (j + 1) (by omega) h2 s8 (out ++ [e]) (fun q x hq => a4 q x (app_old (ho q x hq)) fun hi => by
        have := hd q hi
        have := (List.getElem?_eq_some_iff.1 hq).1
        omega) (by rw [List.length_append, List.length_singleton, ← hlen]; exact a2) (by simp; omega) (by
          intro x hx
          rw [List.mem_append, List.mem_singleton] at hx
          rcases hx with hx | rfl
          · exact hq x hx
          · exact ⟨he, hc.1, hc.2⟩) (fun x hx => by
            rcases a5 x hx with h5 | h5
            · exact hd x h5
            · have := ho.le
              rw [List.length_append] at h5; omega)
      rw [List.length_append, List.length_singleton] at this
      exact this
    · rw [if_neg (by simp; omega), J10x20xeq, letK_eq, wrap64 (by omega) (by omega), show ((j : Int) + 1) = ((j + 1 : Nat) : Int) by omega]
      exact ih (j + 1) (by omega) h s5 out ho g (by omega) hq hd

theorem regs_loop {h : Heap} {s1 : SA} {n1 : Nat} {r : List Int} (H : VS intC 1 h s1 n1 r) (s5 : SA) (n5 : Nat) : ∀ (k i : Nat), i + k = 15 → ∀ (rs : List Int), rs.length = 16 →
    ∃ rs' : List Int, rs'.length = 16 ∧ L10x25 mk0 E s1 n1 s5 n5 (rs.map (.int .i64)) ((i : Nat) : Int) h (Q10x25 mk0 E) = Q10x25 mk0 E (.exit 2) (S10xe2 s5 n5 (rs'.map (.int .i64)) h) := by
  have hl := H.1
  intro k
  induction k with
  | zero =>
    intro i hi rs hr
    rw [L10x25xeq, letK_eq, letK_eq, letK_eq, if_neg (by simp; omega)]
    exact ⟨rs, hr, rfl⟩
  | succ k ih =>
    intro i hi rs hr
    by_cases hn : i < n1
    · obtain ⟨x, hx⟩ : ∃ x, r[i]? = some x := ⟨_, List.getElem?_eq_getElem (by omega)⟩
      obtain ⟨a0, ha0, la0⟩ := vs_ld1 (g := AV.int .i64) H (fun _ => rfl) i x hx
      have e1 : ((i : Int) + 1).toNat = i + 1 := by omega
      have hm : (rs.map (AV.int .i64)).length = 16 := by rw [List.length_map, hr]
      rw [L10x25xeq, letK_eq, letK_eq, letK_eq, if_pos (by simp; omega), letK_eq, wrap64 (by omega) (by omega), chk_of (by intro _; omega), ha0, atP_of, Int.toNat_natCast, la0, gI_of, small_ok, Option.bind_some, gI_of, chk_of (by intro _; omega), e1, chk_of (by refine ⟨rfl, ?_⟩; omega), letK_eq, letK_eq, show ((i : Int) + 1) = ((i + 1 : Nat) : Int) by omega, Nat.zero_add, Nat.mul_one, ← List.map_set]
      exact ih (i + 1) (by omega) (rs.set (i + 1) (small x)) (by rw [List.length_set]; exact hr)
    · rw [L10x25xeq, letK_eq, letK_eq, letK_eq, if_neg (by simp; omega)]
      exact ⟨rs, hr, rfl⟩

theorem schedMeans_ok {h : Heap} {s0 s1 : SA} {n0 n1 : Nat} {l : List Ins} {r : List Int} (H : VS Ins.cells 5 h s0 n0 l) (HR : VS intC 1 h s1 n1 r) : ∃ h', E 10 [.sl s0 n0, .sl s1 n1] h = some (.bool true, h') := by
  obtain ⟨h1, f1, f2⟩ := sfact_ok h
  obtain ⟨h2, s, n, l2, r1, r2, r3, r4, r5, r6⟩ := strl_ok (vs_old H f2)
  obtain ⟨h3, s5, out, k1, k2, k3, k4, k5⟩ := keep_loop r3 r5 r4 s1 n1 n 0 (by omega) h2 .nil [] (Old.refl _) ⟨rfl, rfl, .inl ⟨rfl, rfl⟩⟩ (by simp) (by simp) (by rintro q ⟨a, ha, _⟩; cases ha)
  obtain ⟨rs, hr, g1⟩ := regs_loop (vs_old HR ((f2.trans r2).trans k2)) s5 out.length 15 0 (by omega) (List.replicate 16 0) rfl
  have HV : VS Ins.cells 5 h3 s5 out.length out := vs_GS ins_len rfl k3
  obtain ⟨h4, s', ord, o1, o2, o3, o4, o5⟩ := schedule_ok HV (fun e he => (k5 e he).1) (by omega)
  rw [show (((0 : Nat) : Int)) = 0 from rfl] at k1 g1
  have g1' : L10x25 mk0 E s1 n1 s5 out.length (List.replicate 16 (.int .i64 0)) 0 h3 (Q10x25 mk0 E) = Q10x25 mk0 E (.exit 2) (S10xe2 s5 out.length (rs.map (.int .i64)) h3) := g1
  have k1' : L10x10 mk0 E s1 n1 .nil 0 s n ((n : Nat) : Int) 0 h2 (Q10x10 mk0 E) = L10x25 mk0 E s1 n1 s5 out.length (List.replicate 16 (.int .i64 0)) 0 h3 (Q10x25 mk0 E) := k1
  have hrl : (rs.map (AV.int .i64)).length = 16 := by rw [List.length_map, hr]
  have ht : ((rs.map (AV.int .i64)).drop 0).take 16 = rs.map (.int .i64) := by rw [List.drop_zero, List.take_of_length_le (by omega)]
  have r64 : repl (Int.toNat 64) [AV.int .i64 0] = (List.replicate 64 (0 : Int)).map (.int .i64) := rfl
  rw [e10, f1, Option.bind_some, gB_of, if_neg (by simp), r1, Option.bind_some, gL_of, k1', g1', X10x25xe2, o1, Option.bind_some, gT2_of]
  simp only [List.getD_cons_zero, List.getD_cons_succ]
  rw [gL_of, gI_of, chk_of (by omega), newK_eq, newK_eq, chk_of (by omega), newK_eq, newK_eq, chk_of (by intro _; omega), ht, r64, show Int.toNat 64 = 64 from rfl]
  simp only [List.length_append, List.length_singleton, List.append_assoc, List.singleton_append, List.cons_append, List.nil_append, List.length_cons, List.length_nil]
  have W : ∀ q, h4.length ≤ q → 0 < out.length → ¬ inS s5 q ∧ ¬ inS s' q := by
    intro q hq hz
    have aux : ∀ {hh : Heap} {t : SA} {l : List Ins}, hh.length ≤ h4.length → VS Ins.cells 5 hh t out.length l → ¬ inS t q := by
      intro hh t l hle X
      obtain ⟨q1, q2 | ⟨bb, v, o, c, md, q3, q4, q5⟩⟩ := X
      · omega
      · rintro ⟨a, ha, hb⟩
        rw [q3] at ha
        cases ha
        have h1 := (List.getElem?_eq_some_iff.1 q4).1
        have h2 : bb = q := hb
        omega
    exact ⟨aux o2.le HV, aux (Nat.le_refl _) o3⟩
  simp only [Nat.zero_add, Nat.reduceAdd]
  generalize hb5 : h4 ++ _ = h5
  have old5 : Old h4 h5 := by rw [← hb5]; exact old_app _ _
  have len5 : h5.length = h4.length + 4 := by rw [← hb5, List.length_append]; rfl
  have at0 : h5[h4.length]? = some (.cells ((List.replicate 64 (0 : Int)).map (.int .i64)) (.grow 1) 0) := by rw [← hb5, List.getElem?_append_right (Nat.le_refl _), Nat.sub_self]; rfl
  have at1 : h5[h4.length + 1]? = some (.cells [.sl (.pos ⟨h4.length, 0, 0⟩) 64, .int .i64 0] .fix 0) := by rw [← hb5, List.getElem?_append_right (by omega), show h4.length + 1 - h4.length = 1 by omega]; rfl
  have at2 : h5[h4.length + 2]? = some (.cells ((List.replicate 64 (0 : Int)).map (.int .i64)) (.grow 1) 0) := by rw [← hb5, List.getElem?_append_right (by omega), show h4.length + 2 - h4.length = 2 by omega]; rfl
  have at3 : h5[h4.length + 3]? = some (.cells [.sl (.pos ⟨h4.length + 2, 0, 0⟩) 64, .int .i64 0] .fix 0) := by rw [← hb5, List.getElem?_append_right (by omega), show h4.length + 3 - h4.length = 3 by omega]; rfl
  have mem2 : ∀ e ∈ perm out ord, e.ok ∧ e.op ≠ 14 ∧ e.op ≠ 15 := fun e he => k5 e (perm_mem e he)
  have run1 := plain_loop (p := h4.length + 1) (q := h4.length) (vs_old HV (o2.trans old5)) k5 (by omega) at1 (by omega) (fun hz => (W _ (Nat.le_refl _) hz).1) (by omega) out.length 0 (by omega) h5 .nil 0 ⟨rs, [], List.replicate 64 0⟩ ((Old.refl _).but _) at0 (List.length_replicate ..) hr ⟨rfl, rfl, .inl ⟨rfl, rfl⟩⟩ (by omega) (by rintro q ⟨a, ha, _⟩; cases ha)
  rw [List.drop_zero, show (((0 : Nat) : Int)) = 0 from rfl] at run1
  cases hex : execL out ⟨rs, [], List.replicate 64 0⟩ with
  | none =>
    rw [hex] at run1
    obtain ⟨h6, rs1, t1, m1, c, q1, q2, q3⟩ := run1
    have hl1 : (rs1.map (AV.int .i64)).length = 16 := by rw [List.length_map, q3]
    dsimp only at q1
    rw [e26, q1, Option.bind_some, gT3_of]
    simp only [List.getD_cons_zero, List.getD_cons_succ]
    rw [gA_of, chk_of (fun _ => hl1), gL_of, gI_of, chk_of ⟨hl1, flat_ints _, by omega⟩, letK_eq, letK_eq, letK_eq, letK_eq, if_pos (by simp [q2]), letK_eq]
    exact ⟨h6, by simp⟩
  | some st =>
    rw [hex] at run1
    obtain ⟨h6, t1, m1, q1, b6, w6, q2, q3, v6, q4, d6⟩ := run1
    have at1' := b6 _ _ at1 (by omega)
    have at2' := b6 _ _ at2 (by omega)
    have at3' := b6 _ _ at3 (by omega)
    have le6 : h4.length + 3 < h6.length := (List.getElem?_eq_some_iff.1 at3').1
    have HV2 : VS Ins.cells 5 h6 s' out.length (perm out ord) := by
      obtain ⟨z1, z2 | ⟨bb, v, o, c, md, z3, z4, z5⟩⟩ := o3
      · exact ⟨z1, .inl z2⟩
      · refine ⟨z1, .inr ⟨bb, v, o, c, md, z3, b6 _ _ (old5 _ _ z4) ?_, z5⟩⟩
        have := (List.getElem?_eq_some_iff.1 z4).1
        omega
    have run2 := plain_loop (p := h4.length + 3) (q := h4.length + 2) HV2 mem2 (by omega) at3' (by omega) (fun hz => (W _ (by omega) hz).2) (by omega) out.length 0 (by omega) h6 .nil 0 ⟨rs, [], List.replicate 64 0⟩ ((Old.refl _).but _) at2' (List.length_replicate ..) hr ⟨rfl, rfl, .inl ⟨rfl, rfl⟩⟩ (by omega) (by rintro q ⟨a, ha, _⟩; cases ha)
    rw [List.drop_zero, show (((0 : Nat) : Int)) = 0 from rfl, sched_same rfl (fun e he => (k5 e he).1) o4 hex] at run2
    obtain ⟨h7, t2, m2, p1, b7, w7, p2, p3, v7, p4, d7⟩ := run2
    have at1'' := b7 _ _ at1' (by omega)
    have at3'' := b7 _ _ at3' (by omega)
    have at0'' := b7 _ _ w6 (by omega)
    have V1 : VS intC 1 h7 t1 m1 st.pr := vs_but v6 b7 (fun hi => by have := d6 _ hi; omega)
    have hl1 : (st.rs.map (AV.int .i64)).length = 16 := by rw [List.length_map, q3]
    have hs1 : splice 0 (st.rs.map (AV.int .i64)) (List.replicate 16 (.int .i64 0)) = st.rs.map (.int .i64) := splice_all _ _ (by rw [hl1]; rfl)
    have ht1 : ((st.rs.map (AV.int .i64)).drop 0).take 16 = st.rs.map (.int .i64) := by rw [List.drop_zero, List.take_of_length_le (by omega)]
    have heq : eqCells [false, false, false, false, false, false, false, false, false, false, false, false, false, false, false, false] (st.rs.map (.int .i64)) (st.rs.map (.int .i64)) = some true := by
      have := eqc_same st.rs
      rw [q3] at this
      exact this
    have rd1 : ld1 h7 ⟨h4.length + 1, 0, 0 + 0⟩ = some (.sl (.pos ⟨h4.length, 0, 0⟩) 64) := ld1_at at1'' rfl rfl
    have rd2 : ld1 h7 ⟨h4.length + 3, 0, 0 + 0⟩ = some (.sl (.pos ⟨h4.length + 2, 0, 0⟩) 64) := ld1_at at3'' rfl rfl
    have M1 : VS intC 1 h7 (.pos ⟨h4.length, 0, 0⟩) 64 st.ws := by
      have := vs_blk (f := intC) (es := 1) (l := st.ws) (fun _ => rfl) (by rw [show st.ws.flatMap intC = st.ws.map (.int .i64) from rows_one _ _]; exact at0'')
      rw [q2] at this
      exact this
    have M2 : VS intC 1 h7 (.pos ⟨h4.length + 2, 0, 0⟩) 64 st.ws := by
      have := vs_blk (f := intC) (es := 1) (l := st.ws) (fun _ => rfl) (by rw [show st.ws.flatMap intC = st.ws.map (.int .i64) from rows_one _ _]; exact w7)
      rw [q2] at this
      exact this
    dsimp only at q1 p1
    rw [e26, q1, Option.bind_some, gT3_of]
    simp only [List.getD_cons_zero, List.getD_cons_succ]
    rw [gA_of, chk_of (fun _ => hl1), gL_of, gI_of, chk_of ⟨hl1, flat_ints _, by omega⟩, letK_eq, letK_eq, letK_eq, letK_eq, if_neg (by simp), chk_of (by intro _; omega), e26, p1, Option.bind_some, gT3_of]
    simp only [List.getD_cons_zero, List.getD_cons_succ]
    rw [gA_of, chk_of (fun _ => hl1), gL_of, gI_of, chk_of ⟨hl1, flat_ints _, by omega⟩, letK_eq, letK_eq, hs1, chk_of (by intro _; omega), chk_of (by intro _; omega), ht1, heq, gb_some, letK_eq]
    simp only [decide_true, if_true]
    rw [callO_true, eqi_ok V1 v7 (by omega), Option.bind_some, gB_of, letK_eq]
    simp only [if_true]
    rw [atP_of, atP_of, atP_of, add_mk, rd1, gL_of, atP_of, atP_of, atP_of, add_mk, rd2, gL_of, callO_true, eqi_ok M1 M2 (by omega), Option.bind_some, gB_of, letK_eq]
    exact ⟨h7, by simp⟩

end Go.Proofs.Ytepkdcgokedkdaa.H
