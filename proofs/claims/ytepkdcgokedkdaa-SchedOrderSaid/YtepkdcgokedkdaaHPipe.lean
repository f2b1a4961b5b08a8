/- pipe: what its functions answer. -/
import Derived.Test.YtepkdcgokedkdaaHCyc
set_option linter.unusedVariables false
set_option linter.unusedSimpArgs false
namespace Go.Proofs.Ytepkdcgokedkdaa.H
open Go Go.Proofs.Ytepkdcgokedkdaa.Abs Go.Proofs

/-- A pipe at block b; its writes lie in none of the blocks 'bad'. -/
def PR (bad : List Nat) (h : Heap) (b : Nat) (t : TS) (m : Int) (c : Nat) : Prop :=
  ∃ s n, h[b]? = some (.cells (tc t s n ++ [.int .i64 m]) .fix 0) ∧ VS intC 1 h s n t.ws ∧ n ≤ c ∧ ∀ q, inS s q → q ∉ bad

/-- All but one block stands. -/
def But (b : Nat) (h h' : Heap) : Prop := ∀ (q : Nat) (x : Blk), h[q]? = some x → q ≠ b → h'[q]? = some x

theorem But.trans {b : Nat} {h1 h2 h3 : Heap} (x : But b h1 h2) (y : But b h2 h3) : But b h1 h3 := fun q z hq hn => y q z (x q z hq hn) hn
theorem Old.but {h h' : Heap} (x : Old h h') (b : Nat) : But b h h' := fun q z hq _ => x q z hq
theorem but_set (b : Nat) (h : Heap) (x : Blk) : But b h (h.set b x) := fun q z hq hn => by rw [set_other (fun e => hn e.symm)]; exact hq

theorem vs_but {α : Type} {f : α → List AV} {es n b : Nat} {h h' : Heap} {s : SA} {l : List α} (H : VS f es h s n l) (hk : But b h h') (hs : ¬ inS s b) : VS f es h' s n l := by
  obtain ⟨hl, H | ⟨bb, v, o, c, m, rfl, hb, hc⟩⟩ := H
  · exact ⟨hl, .inl H⟩
  · exact ⟨hl, .inr ⟨bb, v, o, c, m, rfl, hk _ _ hb (fun e => hs ⟨_, rfl, e⟩), hc⟩⟩

theorem PR.but {bad : List Nat} {h h' : Heap} {b b2 : Nat} {t : TS} {m : Int} {c : Nat} (H : PR bad h b2 t m c) (hk : But b h h') (hb : b ∈ bad) (hne : b2 ≠ b) : PR bad h' b2 t m c := by
  obtain ⟨s, n, h1, h2, h3, h4⟩ := H
  exact ⟨s, n, hk _ _ h1 hne, vs_but h2 hk (fun hi => h4 b hi hb), h3, h4⟩

theorem PR.old {bad : List Nat} {h h' : Heap} {b : Nat} {t : TS} {m : Int} {c : Nat} (H : PR bad h b t m c) (hk : Old h h') : PR bad h' b t m c := by
  obtain ⟨s, n, h1, h2, h3, h4⟩ := H
  exact ⟨s, n, hk _ _ h1, vs_old h2 hk, h3, h4⟩

theorem new_ok (h : Heap) (bad : List Nat) : E 16 [] h = some (.ptr (some ⟨h.length, 0, 0⟩), h ++ [.cells (tc TS.zero .nil 0 ++ [.int .i64 0]) .fix 0]) ∧ PR bad (h ++ [.cells (tc TS.zero .nil 0 ++ [.int .i64 0]) .fix 0]) h.length TS.zero 0 0 := by
  refine ⟨by rw [e16, newK_eq]; rfl, .nil, 0, last_get _ _, ⟨rfl, .inl rfl⟩, Nat.le_refl _, by rintro q ⟨a, ha, _⟩; cases ha⟩

theorem splice_pre : ∀ (a b r : List AV), a.length = b.length → splice 0 a (b ++ r) = a ++ r
  | [], [], r, _ => by cases r <;> rfl
  | x :: a, y :: b, r, h => by
    have := splice_pre a b r (by simpa using h)
    simp [splice, this]
  | [], y :: b, r, h => by simp at h
  | x :: a, [], r, h => by simp at h

theorem stN_at {h : Heap} {b : Nat} {c xs r : List AV} {m : Abs.Mode} (hb : h[b]? = some (.cells (c ++ r) m 0)) (hm : m ≠ .ro) (hl : xs.length = c.length) : stN h ⟨b, 0, 0⟩ xs = some (h.set b (.cells (xs ++ r) m 0)) := by
  unfold stN
  simp only [hb]
  rw [if_pos ⟨trivial, hm, by rw [List.length_append]; omega⟩, splice_pre _ _ _ hl]

theorem op_ok {bad : List Nat} {h : Heap} {b c : Nat} {t : TS} {m K ex : Int} {e : Ins} (H : PR bad h b t m c) (hbad : ∀ q ∈ bad, q < h.length) (ok : TOk t K) (hc : c ≤ 10000) (hK : K < 10000000) (he : e.ok) (h0 : 0 ≤ ex) (h1 : ex ≤ 10000) (hm0 : 0 ≤ m) (hm1 : m < 1000000) :
    ∃ h', E 17 [.ptr (some ⟨b, 0, 0⟩), .agg e.cells, .int .i64 ex] h = some (.tup [.int .i64 (iss t e ex).2, .int .i64 0], h') ∧ PR bad h' b (iss t e ex).1 (m + 1) (c + 1) ∧ But b h h' ∧ h.length ≤ h'.length := by
  obtain ⟨s, n, g1, g2, g3, g4⟩ := H
  obtain ⟨h2, s', n', i1, i2, i3, i4, i5⟩ := issue_ok (ex := ex) ok g2 (by omega) hK he.1 h0 h1
  obtain ⟨sk, -⟩ := step_ok (op := e.op) (d := e.d) (a := e.a) (b := e.b) ok h0
  have l20 := tc_len (t := t) (s := s) (n := n) ok.len
  have l20' := tc_len (t := (step t e.op e.d e.a e.b ex).1) (s := s') (n := n') sk.len
  have lN : ldN h (Ad.add ⟨b, 0, 0⟩ 0) 20 = some (tc t s n) := by
    have ht : ((tc t s n ++ [AV.int .i64 m]).drop 0).take 20 = tc t s n := by rw [List.drop_zero, ← l20, List.take_left]
    simp only [ldN, Ad.add, g1]
    rw [if_pos ⟨trivial, by simp [l20], by rw [ht]; exact flat_tc _ _ _⟩, ht]
  have hb2 := i2 _ _ g1
  have s1 := stN_at (xs := tc (step t e.op e.d e.a e.b ex).1 s' n') hb2 (by simp) (by rw [l20, l20'])
  have hbl := (List.getElem?_eq_some_iff.1 hb2).1
  have hb3 : (h2.set b (.cells (tc (step t e.op e.d e.a e.b ex).1 s' n' ++ [.int .i64 m]) .fix 0))[b]? = some (.cells (tc (step t e.op e.d e.a e.b ex).1 s' n' ++ [.int .i64 m]) .fix 0) := set_same hb2
  have get20 : (tc (step t e.op e.d e.a e.b ex).1 s' n' ++ [AV.int .i64 m])[20]? = some (.int .i64 m) := by
    rw [List.getElem?_append_right (by omega), l20']; rfl
  have set20 : (tc (step t e.op e.d e.a e.b ex).1 s' n' ++ [AV.int .i64 m]).set 20 (.int .i64 (m + 1)) = tc (step t e.op e.d e.a e.b ex).1 s' n' ++ [AV.int .i64 (m + 1)] := by
    rw [List.set_append_right _ _ (by omega), l20']; rfl
  have hz : (List.drop 0 (tc (step t e.op e.d e.a e.b ex).1 s' n')).take 20 = tc (step t e.op e.d e.a e.b ex).1 s' n' := tc_all sk.len
  show ∃ h', E 17 [.ptr (some ⟨b, 0, 0⟩), .agg [.int .i64 e.op, .int .i64 e.d, .int .i64 e.a, .int .i64 e.b, .int .i64 e.n], .int .i64 ex] h = _ ∧ _
  rw [e17, atP_of, lN, gCells_of, i1, Option.bind_some, gT3_of]
  simp only [List.getD_cons_zero, List.getD_cons_succ]
  rw [gA_of, chk_of (by intro _; exact l20'), gI_of, gI_of, chk_of ⟨l20', flat_tc _ _ _, by omega⟩, letK_eq, splice_all _ _ (by rw [l20']; rfl), letK_eq, if_neg (by simp), chk_of (by rw [l20']; intro _; omega), atP_of, hz, chk_of ⟨l20', flat_tc _ _ _⟩]
  dsimp only [Ad.add]
  rw [s1, Option.bind_some, atP_of]
  dsimp only [Ad.add]
  rw [ld1_at hb3 get20 rfl, gI_of, letK_eq, wrap64 (by omega) (by omega), atP_of]
  dsimp only [Ad.add]
  rw [st1_at hb3 (by simp) (by simp [l20']), Option.bind_some, set20]
  have bt : But b h (((h2.set b (.cells (tc (step t e.op e.d e.a e.b ex).1 s' n' ++ [.int .i64 m]) .fix 0)).set b (.cells (tc (step t e.op e.d e.a e.b ex).1 s' n' ++ [.int .i64 (m + 1)]) .fix 0))) := ((i2.but b).trans (but_set b _ _)).trans (but_set b _ _)
  have il := i2.le
  have hbh := (List.getElem?_eq_some_iff.1 g1).1
  refine ⟨_, rfl, ⟨s', n', set_same hb3, ?_, by omega, fun q hq hb => ?_⟩, bt, by simp only [List.length_set]; exact il⟩
  · exact vs_but (b := b) i3 ((but_set b _ _).trans (but_set b _ _)) (fun hi => by have := i5 b hi; omega)
  · have := i5 q hq
    have := hbad q hb
    omega

theorem cyc_get {bad : List Nat} {h : Heap} {b c : Nat} {t : TS} {m : Int} (H : PR bad h b t m c) : E 18 [.ptr (some ⟨b, 0, 0⟩)] h = some (.int .i64 t.dn, h) := by
  obtain ⟨s, n, g1, g2, g3, g4⟩ := H
  rw [e18, atP_of]
  dsimp only [Ad.add]
  rw [ld1_at (x := .int .i64 t.dn) g1 rfl rfl, gI_of]

theorem ops_get {bad : List Nat} {h : Heap} {b c : Nat} {t : TS} {m : Int} (H : PR bad h b t m c) (hl : t.rg.length = 16) : E 19 [.ptr (some ⟨b, 0, 0⟩)] h = some (.int .i64 m, h) := by
  obtain ⟨s, n, g1, g2, g3, g4⟩ := H
  have l20 := tc_len (t := t) (s := s) (n := n) hl
  rw [e19, atP_of]
  dsimp only [Ad.add]
  rw [ld1_at (x := .int .i64 m) g1 (by rw [List.getElem?_append_right (by omega), l20]; rfl) rfl, gI_of]

theorem pipe_loop {bad : List Nat} {h0 : Heap} {s : SA} {n b : Nat} {l : List Ins} (hb : b ∈ bad) (hbad : ∀ q ∈ bad, q < h0.length) (hv : ∀ e ∈ l, e.ok) (hn : n ≤ 60) (hln : l.length = n) (s0 : SA) (n0 : Nat) : ∀ (k j : Nat), j + k = n →
    ∀ (h : Heap) (t : TS) (m last : Int), VS Ins.cells 5 h s n l → (¬ inS s b) → h0.length ≤ h.length → PR bad h b t m j → TOk t (8 * j) → m = j → last < t.nx →
    ∃ h', L5x12 mk0 E s0 n0 (some ⟨b, 0, 0⟩) last s n ((n : Nat) : Int) ((j : Nat) : Int) h (Q5x12 mk0 E) = Q5x12 mk0 E (.exit 0) (S5xe0 s0 n0 (some ⟨b, 0, 0⟩) h') ∧ PR bad h' b (runL t (l.drop j)) n n ∧ But b h h' := by
  intro k
  induction k with
  | zero =>
    intro j hj h t m last H hs hle hp ok hm hlast
    obtain rfl : j = n := by omega
    refine ⟨h, by rw [L5x12xeq, letK_eq, if_neg (by simp)], ?_, fun _ _ h _ => h⟩
    rw [List.drop_eq_nil_of_le (by omega)]
    subst hm
    exact hp
  | succ k ih =>
    intro j hj h t m last H hs hle hp ok hm hlast
    obtain ⟨e, he⟩ : ∃ e, l[j]? = some e := ⟨l[j]'(by omega), List.getElem?_eq_getElem (by omega)⟩
    obtain ⟨ad, ha, la⟩ := vs_ld H ins_flat j e he
    obtain ⟨h', o1, o2, o3, o4⟩ := op_ok (e := e) (ex := 0) hp (fun q hq => by have := hbad q hq; omega) ok (by omega) (by omega) (hv e (List.mem_of_getElem? he)) (by omega) (by omega) (by omega) (by omega)
    obtain ⟨sk, k2, k3, k4, k5, k6⟩ := step_ok (op := e.op) (d := e.d) (a := e.a) (b := e.b) (ex := 0) ok (by omega)
    have k5' : t.nx ≤ (iss t e 0).2 := k5
    have k6' : (iss t e 0).1.nx = (iss t e 0).2 + 1 + 0 := k6
    rw [L5x12xeq, letK_eq, if_pos (by simp; omega), chk_of (by intro _; omega), ha, atP_of, Int.toNat_natCast, la, gCells_of]
    simp only [Ins.cells, List.getElem?_cons_zero, List.getElem?_cons_succ]
    rw [gI_of, gI_of, gI_of, gI_of, gI_of]
    rw [show [AV.int .i64 e.op, .int .i64 e.d, .int .i64 e.a, .int .i64 e.b, .int .i64 e.n] = e.cells from rfl, o1, Option.bind_some, gT2_of]
    simp only [List.getD_cons_zero, List.getD_cons_succ]
    rw [gI_of, gI_of, letK_eq, letK_eq, letK_eq, if_neg (by simp; omega), letK_eq, wrap64 (by omega) (by omega), show ((j : Int) + 1) = ((j + 1 : Nat) : Int) by omega]
    obtain ⟨h'', r1, r2, r3⟩ := ih (j + 1) (by omega) h' (iss t e 0).1 (m + 1) (iss t e 0).2 (vs_but H o3 hs) hs (by omega) o2 (sk.wide (by omega)) (by omega) (by omega)
    refine ⟨h'', r1, ?_, o3.trans r3⟩
    rw [drop_get he]
    exact r2

theorem pipeCycles_ok {h : Heap} {s0 : SA} {n0 : Nat} {l : List Ins} (H : VS Ins.cells 5 h s0 n0 l) : ∃ h', E 5 [.sl s0 n0] h = some (.bool true, h') := by
  obtain ⟨p1, p2⟩ := new_ok h [h.length]
  obtain ⟨h1, f1, f2⟩ := tfact_ok (h ++ [.cells (tc TS.zero .nil 0 ++ [.int .i64 0]) .fix 0])
  have o1 : Old h h1 := (old_app _ _).trans f2
  obtain ⟨h2, s, n, out, r1, r2, r3, r4, r5, r6⟩ := strl_ok (vs_old H o1)
  have pp := (p2.old f2).old r2
  have hbl := f2.le
  have hbl2 := r2.le
  rw [List.length_append, List.length_singleton] at hbl
  obtain ⟨h3, g1, g2, g3⟩ := pipe_loop (bad := [h.length]) (h0 := h2) (b := h.length) (by simp) (by intro q hq; have : q = h.length := (by simpa using hq); omega) r5 r4 r3.1 s n n 0 (by omega) h2 TS.zero 0 (-1) r3 (fun hi => by have := r6 _ hi; omega) (Nat.le_refl _) pp (zero_ok.wide (by omega)) rfl (by show (-1 : Int) < 0; omega)
  rw [show (((0 : Nat) : Int)) = 0 from rfl] at g1
  rw [List.drop_zero] at g2
  have r3' := vs_but r3 g3 (fun hi => by have := r6 _ hi; omega)
  obtain ⟨h4, c1, c2⟩ := cycles_ok r3' r5 (by omega)
  have g4 := g2.old c2
  have kr := (run_ok out TS.zero 0 zero_ok (Int.le_refl _)).1
  rw [e5, p1, Option.bind_some, gP_of, f1, Option.bind_some, gB_of, letK_eq, letK_eq, if_neg (by simp), r1, Option.bind_some, gL_of, g1, X5x12xe0, c1, Option.bind_some, gT2_of]
  simp only [List.getD_cons_zero, List.getD_cons_succ]
  rw [gI_of, gI_of, letK_eq]
  refine ⟨h4, ?_⟩
  simp only [decide_true]
  rw [callO_true, cyc_get g4, Option.bind_some, gI_of, letK_eq, letK_eq]
  simp only [decide_true, if_true]
  rw [callO_true, ops_get g4 kr.len, Option.bind_some, gI_of, letK_eq, letK_eq]
  simp

end Go.Proofs.Ytepkdcgokedkdaa.H
