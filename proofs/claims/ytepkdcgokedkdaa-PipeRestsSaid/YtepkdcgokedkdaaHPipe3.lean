/- PipeRests and PipeDelays. -/
import Derived.Test.YtepkdcgokedkdaaHPipe2
set_option linter.unusedVariables false
set_option linter.unusedSimpArgs false
namespace Go.Proofs.Ytepkdcgokedkdaa.H
open Go Go.Proofs.Ytepkdcgokedkdaa.Abs Go.Proofs

theorem tmod3 (j : Nat) : 0 ≤ Int.tmod (j : Int) 3 ∧ Int.tmod (j : Int) 3 ≤ 2 := by
  rw [Int.tmod_eq_emod_of_nonneg (by omega)]
  omega

theorem rests_loop {bad : List Nat} {h0 : Heap} {s : SA} {n b1 b2 : Nat} {l : List Ins} (hb1 : b1 ∈ bad) (hb2 : b2 ∈ bad) (hne : b1 ≠ b2) (hbad : ∀ q ∈ bad, q < h0.length) (hv : ∀ e ∈ l, e.ok) (hn : n ≤ 60) (hln : l.length = n) (kk : Int) (hs1 : ¬ inS s b1) (hs2 : ¬ inS s b2) : ∀ (k j : Nat), j + k = n →
    ∀ (h : Heap) (t : TS) (m : Int), VS Ins.cells 5 h s n l → h0.length ≤ h.length → PR bad h b1 t m j → PR bad h b2 t m j → TOk t (10 * j) → t.nx ≤ t.dn → m = j →
    ∃ h', L6x12 mk0 E kk (some ⟨b1, 0, 0⟩) (some ⟨b2, 0, 0⟩) s n ((n : Nat) : Int) ((j : Nat) : Int) h (Q6x12 mk0 E) = some (.bool true, h') := by
  intro k
  induction k with
  | zero =>
    intro j hj h t m H hle p1 p2 ok hnd hm
    rw [L6x12xeq, letK_eq, if_neg (by simp; omega), X6x12xe0, cyc_get p1, Option.bind_some, gI_of, cyc_get p2, Option.bind_some, gI_of, letK_eq]
    exact ⟨h, by simp⟩
  | succ k ih =>
    intro j hj h t m H hle p1 p2 ok hnd hm
    obtain ⟨e, he⟩ : ∃ e, l[j]? = some e := ⟨l[j]'(by omega), List.getElem?_eq_getElem (by omega)⟩
    obtain ⟨ad, ha, la⟩ := vs_ld H ins_flat j e he
    have hev := hv e (List.mem_of_getElem? he)
    obtain ⟨x0, x1⟩ := tmod3 j
    rw [L6x12xeq, letK_eq, if_pos (by simp; omega), chk_of (by intro _; omega), ha, atP_of, Int.toNat_natCast, la, gCells_of]
    simp only [Ins.cells, List.getElem?_cons_zero, List.getElem?_cons_succ]
    rw [gI_of, gI_of, gI_of, gI_of, gI_of]
    rw [show [AV.int .i64 e.op, .int .i64 e.d, .int .i64 e.a, .int .i64 e.b, .int .i64 e.n] = e.cells from rfl]
    -- the rest, if any, changes nothing
    have rest : ∃ h1, callO (decide (((j : Nat) : Int) = kk)) (E 20 [.ptr (some ⟨b1, 0, 0⟩), .int .i64 0] h) (.int .i64 0) h = some (.int .i64 0, h1) ∧ PR bad h1 b1 t m j ∧ But b1 h h1 ∧ h.length ≤ h1.length := by
      by_cases hk : ((j : Nat) : Int) = kk
      · rw [decide_eq_true hk, callO_true]
        obtain ⟨h1, f1, f2, f3, f4⟩ := flush_ok (cy := 0) p1 hb1 (fun q hq => by have := hbad q hq; omega) ok (by omega) (by omega) (by omega) (by omega)
        rw [fl_zero ok hnd] at f2
        exact ⟨h1, f1, f2, f3, f4⟩
      · rw [decide_eq_false hk, callO_false]
        exact ⟨h, rfl, p1, fun _ _ h _ => h, Nat.le_refl _⟩
    obtain ⟨h1, f1, f2, f3, f4⟩ := rest
    have q2 := p2.but f3 hb1 (fun e => hne e.symm)
    rw [letK_eq, f1, Option.bind_some, gI_any, letK_eq, letK_eq, if_neg (by simp), letK_eq]
    obtain ⟨h2, o1, o2, o3, o4⟩ := op_ok (e := e) (ex := Int.tmod (j : Int) 3) f2 (fun q hq => by have := hbad q hq; omega) ok (by omega) (by omega) hev x0 (by omega) (by omega) (by omega)
    have q3 := q2.but o3 hb1 (fun e => hne e.symm)
    obtain ⟨h3, w1, w2, w3, w4⟩ := op_ok (e := e) (ex := Int.tmod (j : Int) 3) q3 (fun q hq => by have := hbad q hq; omega) ok (by omega) (by omega) hev x0 (by omega) (by omega) (by omega)
    have o5 := o2.but w3 hb2 hne
    obtain ⟨sk, k2, k3, k4, k5, k6⟩ := step_ok (op := e.op) (d := e.d) (a := e.a) (b := e.b) (ex := Int.tmod (j : Int) 3) ok x0
    dsimp only
    rw [o1, Option.bind_some, gT2_of]
    simp only [List.getD_cons_zero, List.getD_cons_succ]
    rw [gI_of, gI_of, letK_eq, w1, Option.bind_some, gT2_of]
    simp only [List.getD_cons_zero, List.getD_cons_succ]
    rw [gI_of, gI_of, letK_eq, letK_eq, letK_eq, letK_eq, letK_eq, if_neg (by simp), letK_eq, wrap64 (by omega) (by omega), show ((j : Int) + 1) = ((j + 1 : Nat) : Int) by omega]
    have H3 := vs_but (vs_but (vs_but H f3 hs1) o3 hs1) w3 hs2
    exact ih (j + 1) (by omega) h3 (iss t e (Int.tmod (j : Int) 3)).1 (m + 1) H3 (by omega) o5 w2 (sk.wide (by omega)) k3 (by omega)

theorem pipeRests_ok {h : Heap} {s0 : SA} {n0 : Nat} {l : List Ins} (k : Int) (H : VS Ins.cells 5 h s0 n0 l) : ∃ h', E 6 [.sl s0 n0, .int .i64 k] h = some (.bool true, h') := by
  obtain ⟨p1, p2⟩ := new_ok h [h.length, h.length + 1]
  generalize hA : h ++ [.cells (tc TS.zero .nil 0 ++ [.int .i64 0]) .fix 0] = hh at p1 p2
  have hl1 : hh.length = h.length + 1 := by rw [← hA]; simp
  obtain ⟨q1, q2⟩ := new_ok hh [h.length, h.length + 1]
  rw [hl1] at q1 q2
  generalize hB : hh ++ [.cells (tc TS.zero .nil 0 ++ [.int .i64 0]) .fix 0] = hh2 at q1 q2
  have hl2 : hh2.length = h.length + 2 := by rw [← hB]; simp [hl1]
  have oA : Old h hh := by rw [← hA]; exact old_app _ _
  have oB : Old hh hh2 := by rw [← hB]; exact old_app _ _
  obtain ⟨h1, f1, f2⟩ := tfact_ok hh2
  have o1 : Old h h1 := (oA.trans oB).trans f2
  obtain ⟨h2, s, n, out, r1, r2, r3, r4, r5, r6⟩ := strl_ok (vs_old H o1)
  have hbl := f2.le
  have hbl2 := r2.le
  have e0 := Int.emod_nonneg k (show ((n : Int) + 1) ≠ 0 by omega)
  obtain ⟨h3, g⟩ := rests_loop (bad := [h.length, h.length + 1]) (h0 := h2) (b1 := h.length) (b2 := h.length + 1) (by simp) (by simp) (by omega)
    (by intro q hq; have : q = h.length ∨ q = h.length + 1 := (by simpa using hq); omega) r5 r4 r3.1 (k % ((n : Int) + 1)) (fun hi => by have := r6 _ hi; omega) (fun hi => by have := r6 _ hi; omega)
    n 0 (by omega) h2 TS.zero 0 r3 (Nat.le_refl _) (((p2.old oB).old f2).old r2) ((q2.old f2).old r2) (zero_ok.wide (by omega)) (Int.le_refl _) rfl
  rw [show (((0 : Nat) : Int)) = 0 from rfl] at g
  refine ⟨h3, ?_⟩
  rw [e6, p1, Option.bind_some, gP_of, q1, Option.bind_some, gP_of, f1, Option.bind_some, gB_of, letK_eq, letK_eq, letK_eq, letK_eq, if_neg (by simp), r1, Option.bind_some, gL_of, letK_eq, wrap64 (by omega) (by omega), rest_ok _ _ _ (by omega) (by omega), Option.bind_some, gI_of]
  exact g

theorem delays_loop {bad : List Nat} {h0 ha : Heap} {s s1 : SA} {n n1 b : Nat} {l : List Ins} {ex : List Int} (hb : b ∈ bad) (hbad : ∀ q ∈ bad, q < h0.length) (hv : ∀ e ∈ l, e.ok) (hn : n ≤ 60) (hln : l.length = n) (hs : ¬ inS s b) (HX : VS intC 1 ha s1 n1 ex) (hab : ha.length ≤ b) (i2 : Int) : ∀ (k j : Nat), j + k = n →
    ∀ (h : Heap) (t : TS) (m : Int), VS Ins.cells 5 h s n l → Old ha h → h0.length ≤ h.length → PR bad h b t m j → TOk t (30 * j) → t.nx ≤ t.dn → m = j →
    ∃ h' t', L7x10 mk0 E s1 n1 i2 (some ⟨b, 0, 0⟩) s n ((n : Nat) : Int) ((j : Nat) : Int) h (Q7x10 mk0 E) = Q7x10 mk0 E (.exit 0) (S7xe0 i2 (some ⟨b, 0, 0⟩) h') ∧ PR bad h' b t' n n ∧ TOk t' 1800 ∧ t'.nx ≤ t'.dn ∧ h0.length ≤ h'.length := by
  intro k
  induction k with
  | zero =>
    intro j hj h t m H hoa hle p ok hnd hm
    obtain rfl : j = n := by omega
    subst hm
    exact ⟨h, t, by rw [L7x10xeq, letK_eq, if_neg (by simp)], p, ok.wide (by omega), hnd, hle⟩
  | succ k ih =>
    intro j hj h t m H hoa hle p ok hnd hm
    obtain ⟨e, he⟩ : ∃ e, l[j]? = some e := ⟨l[j]'(by omega), List.getElem?_eq_getElem (by omega)⟩
    obtain ⟨ad, hda, la⟩ := vs_ld H ins_flat j e he
    have hev := hv e (List.mem_of_getElem? he)
    rw [L7x10xeq, letK_eq, if_pos (by simp; omega), chk_of (by intro _; omega), hda, atP_of, Int.toNat_natCast, la, gCells_of]
    simp only [Ins.cells, List.getElem?_cons_zero, List.getElem?_cons_succ]
    rw [gI_of, gI_of, gI_of, gI_of, gI_of, letK_eq]
    have core : ∀ x : Int, 0 ≤ x → x ≤ 19 → ∃ h' t', J7x22 mk0 E s1 n1 i2 (some ⟨b, 0, 0⟩) e.op e.d e.a e.b e.n x s n ((n : Nat) : Int) ((j : Nat) : Int) h (Q7x10 mk0 E) = Q7x10 mk0 E (.exit 0) (S7xe0 i2 (some ⟨b, 0, 0⟩) h') ∧ PR bad h' b t' n n ∧ TOk t' 1800 ∧ t'.nx ≤ t'.dn ∧ h0.length ≤ h'.length := by
      intro x x0 x1
      obtain ⟨h2, o1, o2, o3, o4⟩ := op_ok (e := e) (ex := x) p (fun q hq => by have := hbad q hq; omega) ok (by omega) (by omega) hev x0 (by omega) (by omega) (by omega)
      obtain ⟨sk, k2, k3, k4, k5, k6⟩ := step_ok (op := e.op) (d := e.d) (a := e.a) (b := e.b) (ex := x) ok x0
      rw [J7x22xeq]
      rw [show [AV.int .i64 e.op, .int .i64 e.d, .int .i64 e.a, .int .i64 e.b, .int .i64 e.n] = e.cells from rfl, o1, Option.bind_some, gT2_of]
      simp only [List.getD_cons_zero, List.getD_cons_succ]
      rw [gI_of, gI_of, letK_eq, if_neg (by simp), letK_eq, wrap64 (by omega) (by omega), show ((j : Int) + 1) = ((j + 1 : Nat) : Int) by omega]
      refine ih (j + 1) (by omega) h2 (iss t e x).1 (m + 1) (vs_but H o3 hs) (fun q y hq => ?_) (by omega) o2 (sk.wide (by omega)) k3 (by omega)
      have := (List.getElem?_eq_some_iff.1 hq).1
      exact o3 q y (hoa q y hq) (by omega)
    have hxl := HX.1
    by_cases hj1 : j < n1
    · obtain ⟨x, hx⟩ : ∃ x, ex[j]? = some x := ⟨ex[j]'(by omega), List.getElem?_eq_getElem (by omega)⟩
      obtain ⟨ad1, hda1, la1⟩ := vs_ld1 (g := AV.int .i64) (vs_old HX hoa) (fun _ => rfl) j _ hx
      have e0 := Int.emod_nonneg x (show (20 : Int) ≠ 0 by omega)
      have e1 := Int.emod_lt_of_pos x (show (0 : Int) < 20 by omega)
      rw [if_pos (by simp; omega), chk_of (by intro _; omega), hda1, atP_of, la1, gI_of, rest_ok _ _ _ (by omega) (by omega), Option.bind_some, gI_of]
      exact core (x % 20) e0 (by omega)
    · rw [if_neg (by simp; omega)]
      exact core 0 (by omega) (by omega)

theorem pipeDelays_ok {h : Heap} {s0 s1 : SA} {n0 n1 : Nat} {l : List Ins} {ex : List Int} (cy : Int) (H : VS Ins.cells 5 h s0 n0 l) (HX : VS intC 1 h s1 n1 ex) : ∃ h', E 7 [.sl s0 n0, .sl s1 n1, .int .i64 cy] h = some (.bool true, h') := by
  obtain ⟨p1, p2⟩ := new_ok h [h.length]
  generalize hA : h ++ [.cells (tc TS.zero .nil 0 ++ [.int .i64 0]) .fix 0] = hh at p1 p2
  have hl1 : hh.length = h.length + 1 := by rw [← hA]; simp
  have oA : Old h hh := by rw [← hA]; exact old_app _ _
  obtain ⟨h1, f1, f2⟩ := tfact_ok hh
  have o1 : Old h h1 := oA.trans f2
  obtain ⟨h2, s, n, out, r1, r2, r3, r4, r5, r6⟩ := strl_ok (vs_old H o1)
  have hbl := f2.le
  have hbl2 := r2.le
  have hb : h.length ∈ [h.length] := by simp
  have hbad : ∀ q ∈ [h.length], q < h2.length := by intro q hq; have : q = h.length := (by simpa using hq); omega
  obtain ⟨h3, t, g1, g2, g3, g4, g5⟩ := delays_loop (bad := [h.length]) (h0 := h2) (ha := h) (b := h.length) hb hbad r5 r4 r3.1 (fun hi => by have := r6 _ hi; omega) HX (Nat.le_refl _) cy
    n 0 (by omega) h2 TS.zero 0 r3 (o1.trans r2) (Nat.le_refl _) ((p2.old f2).old r2) (zero_ok.wide (by omega)) (Int.le_refl _) rfl
  rw [show (((0 : Nat) : Int)) = 0 from rfl] at g1
  have e0 := Int.emod_nonneg cy (show (101 : Int) ≠ 0 by omega)
  have e1 := Int.emod_lt_of_pos cy (show (0 : Int) < 101 by omega)
  obtain ⟨h4, w1, w2, w3, w4⟩ := flush_ok (cy := cy % 101) g2 hb (fun q hq => by have := hbad q hq; omega) g3 (by omega) (by omega) e0 (by omega)
  have n0' := g3.nx0
  have d0 := g3.dn0
  have dk := g3.dnK
  rw [e7, p1, Option.bind_some, gP_of, f1, Option.bind_some, gB_of, letK_eq, letK_eq, if_neg (by simp), r1, Option.bind_some, gL_of, g1, X7x10xe0, cyc_get g2, Option.bind_some, gI_of, rest_ok _ _ _ (by omega) (by omega), Option.bind_some, gI_of, w1, Option.bind_some, gI_of, letK_eq]
  simp only [decide_true, Bool.not_true, Bool.not_false]
  rw [callO_true, flush_bad _ _ _ (.inr (by omega)), Option.bind_some, gI_of, letK_eq, letK_eq, if_neg (by simp), cyc_get w2, Option.bind_some, gI_of, letK_eq]
  have hd : (fl t (cy % 101)).dn = max t.dn (t.nx + cy % 101) := rfl
  rw [decide_eq_true (show t.dn ≤ (fl t (cy % 101)).dn by rw [hd]; omega), callO_true, cyc_get w2, Option.bind_some, gI_of, letK_eq, wrap64 (by omega) (by omega), letK_eq, letK_eq]
  refine ⟨h4, ?_⟩
  rw [decide_eq_true (show (fl t (cy % 101)).dn ≤ t.dn + cy % 101 by rw [hd]; omega)]
  rfl

end Go.Proofs.Ytepkdcgokedkdaa.H
