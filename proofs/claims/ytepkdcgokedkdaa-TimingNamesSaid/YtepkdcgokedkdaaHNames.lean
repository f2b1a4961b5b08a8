/- TimingNames. -/
import Derived.Test.YtepkdcgokedkdaaHCyc
set_option linter.unusedVariables false
set_option linter.unusedSimpArgs false
namespace Go.Proofs.Ytepkdcgokedkdaa.H
open Go Go.Proofs.Ytepkdcgokedkdaa.Abs Go.Proofs

/-- A register's new name. -/
def rn (y r : Int) : Int := if r = 0 then 0 else 1 + (r - 1 + y) % 15
def Ins.ren (y : Int) (e : Ins) : Ins := ⟨e.op, rn y e.d, rn y e.a, rn y e.b, e.n⟩

theorem rn_bd {y r : Int} : 0 ≤ rn y r ∧ rn y r ≤ 15 := by
  unfold rn; split <;> omega
theorem rn_zero {y r : Int} : rn y r = 0 ↔ r = 0 := by
  unfold rn; split <;> omega
theorem rn_inj {y r s : Int} (r0 : 0 ≤ r) (r1 : r ≤ 15) (s0 : 0 ≤ s) (s1 : s ≤ 15) (h : rn y r = rn y s) : r = s := by
  unfold rn at h
  split at h <;> split at h <;> omega

theorem ren_ok {y : Int} {e : Ins} (h : e.ok) : (e.ren y).ok := by
  refine ⟨?_, h.2⟩
  have hb := chk_bd h.1
  have hc := h.1
  have d1 := rn_bd (y := y) (r := e.d)
  have a1 := rn_bd (y := y) (r := e.a)
  have b1 := rn_bd (y := y) (r := e.b)
  have zd : decide (rn y e.d = 0) = decide (e.d = 0) := decide_eq_decide.2 rn_zero
  have za : decide (rn y e.a = 0) = decide (e.a = 0) := decide_eq_decide.2 rn_zero
  have zb : decide (rn y e.b = 0) = decide (e.b = 0) := decide_eq_decide.2 rn_zero
  have i1 : inB (rn y e.d) 0 15 = inB e.d 0 15 := by simp [inB, d1, hb]
  have i2 : inB (rn y e.a) 0 15 = inB e.a 0 15 := by simp [inB, a1, hb]
  have i3 : inB (rn y e.b) 0 15 = inB e.b 0 15 := by simp [inB, b1, hb]
  show chkV e.op (rn y e.d) (rn y e.a) (rn y e.b) e.n = 0
  unfold chkV at hc ⊢
  rw [zd, za, zb, i1, i2, i3]
  exact hc

/-- Two states that differ in the names of the registers. -/
structure Sm (y : Int) (t t' : TS) : Prop where
  nx : t'.nx = t.nx
  dv : t'.dv = t.dv
  dn : t'.dn = t.dn
  ws : t'.ws = t.ws
  rg : ∀ r : Int, 0 ≤ r → r ≤ 15 → reg t' (rn y r) = reg t r
  l1 : t.rg.length = 16
  l2 : t'.rg.length = 16

theorem nz_ren (y : Int) (l : List Int) : nz (l.map (rn y)) = (nz l).map (rn y) := by
  unfold nz
  induction l with
  | nil => rfl
  | cons x l ih =>
    have : decide (rn y x = 0) = decide (x = 0) := decide_eq_decide.2 rn_zero
    simp only [List.map_cons, List.filter_cons, this, ih]
    by_cases h : x = 0 <;> simp [h]

theorem fold_ren {y : Int} {t t' : TS} (S : Sm y t t') : ∀ (l : List Int) (x : Int), (∀ r ∈ l, 0 ≤ r ∧ r ≤ 15) → (l.map (rn y)).foldl (fun x r => max x (reg t' r)) x = l.foldl (fun x r => max x (reg t r)) x := by
  intro l
  induction l with
  | nil => intro x _; rfl
  | cons z l ih =>
    intro x h
    have hz := h z List.mem_cons_self
    rw [List.map_cons, List.foldl_cons, List.foldl_cons, S.rg z hz.1 hz.2]
    exact ih _ fun r hr => h r (List.mem_cons_of_mem _ hr)

theorem att_ren {y : Int} {t t' : TS} (S : Sm y t t') {e : Ins} (he : e.ok) (lt : Int) : att t' e.op (rn y e.d) (rn y e.a) (rn y e.b) lt = att t e.op e.d e.a e.b lt := by
  obtain ⟨o0, o1, d0, d1, a0, a1, b0, b1, -, -⟩ := chk_bd he.1
  have hs := he.2
  have hop : (1 ≤ e.op ∧ e.op ≤ 15) ∨ e.op = 23 := by simpa [strt] using hs
  have hrd : rd e.op (rn y e.a) (rn y e.b) = (rd e.op e.a e.b).map (rn y) := by
    unfold rd
    rw [← nz_ren]
    congr 1
    unfold rdR
    rw [if_neg (by omega), if_neg (by omega), if_neg (show ¬ e.op = 0 by omega), if_neg (show ¬ e.op = 22 by omega)]
    repeat' split
    all_goals simp
  have hwr : wr e.op (rn y e.d) = rn y (wr e.op e.d) := by
    unfold wr
    rw [if_neg (by omega), if_neg (show ¬ (e.op = 20 ∨ e.op = 21) by omega)]
    split
    · rfl
    · rfl
  have hwb : 0 ≤ wr e.op e.d ∧ wr e.op e.d ≤ 15 := by
    unfold wr
    split
    · omega
    · split <;> omega
  unfold att
  rw [hrd, fold_ren S _ _ (rd_bd a0 a1 b0 b1), hwr, S.nx, S.dv, S.ws, S.rg _ hwb.1 hwb.2]
  dsimp only
  by_cases hw : wr e.op e.d = 0
  · rw [if_pos (rn_zero.2 hw), if_pos hw]
  · rw [if_neg (fun h => hw (rn_zero.1 h)), if_neg hw]

theorem reg_set {t : TS} (hl : t.rg.length = 16) {w e r : Int} (w0 : 0 ≤ w) (w1 : w ≤ 15) (r0 : 0 ≤ r) (r1 : r ≤ 15) (l : List Int) (hr : l = t.rg.set w.toNat e) : l.getD r.toNat 0 = if r = w then e else reg t r := by
  subst hr
  unfold reg
  by_cases h : r = w
  · subst h
    rw [if_pos rfl]
    simp [List.getD, show r.toNat < t.rg.length by omega]
  · rw [if_neg h]
    have : w.toNat ≠ r.toNat := by omega
    simp [List.getD, List.getElem?_set, this]

theorem iss_ren {y : Int} {t t' : TS} (S : Sm y t t') {e : Ins} (he : e.ok) : Sm y (iss t e 0).1 (iss t' (e.ren y) 0).1 := by
  have ha := att_ren S he (lat e.op + 0)
  have hs := he.2
  have hop : (1 ≤ e.op ∧ e.op ≤ 15) ∨ e.op = 23 := by simpa [strt] using hs
  obtain ⟨o0, o1, d0, d1, a0, a1, b0, b1, -, -⟩ := chk_bd he.1
  have hwr : wr e.op (rn y e.d) = rn y (wr e.op e.d) := by
    unfold wr
    rw [if_neg (by omega), if_neg (show ¬ (e.op = 20 ∨ e.op = 21) by omega)]
    split
    · rfl
    · rfl
  have hwb : 0 ≤ wr e.op e.d ∧ wr e.op e.d ≤ 15 := by
    unfold wr
    split
    · omega
    · split <;> omega
  have hwz : (rn y (wr e.op e.d) = 0) = (wr e.op e.d = 0) := propext rn_zero
  unfold iss step Ins.ren
  dsimp only
  rw [ha, hwr, S.dv, S.dn, S.ws]
  refine ⟨rfl, rfl, rfl, ?_, ?_, ?_, ?_⟩
  · dsimp only; simp only [hwz]
  · intro r r0 r1
    unfold reg
    dsimp only
    by_cases hw : wr e.op e.d = 0
    · rw [if_pos (rn_zero.2 hw), if_pos hw]
      exact S.rg r r0 r1
    · rw [if_neg (fun h => hw (rn_zero.1 h)), if_neg hw]
      have nb := rn_bd (y := y) (r := wr e.op e.d)
      have rb := rn_bd (y := y) (r := r)
      rw [reg_set S.l2 nb.1 nb.2 rb.1 rb.2 _ rfl, reg_set S.l1 hwb.1 hwb.2 r0 r1 _ rfl]
      by_cases h : r = wr e.op e.d
      · rw [if_pos h, if_pos (by rw [h])]
      · rw [if_neg h, if_neg (fun h' => h (rn_inj r0 r1 hwb.1 hwb.2 h'))]
        exact S.rg r r0 r1
  · dsimp only
    split
    · exact S.l1
    · rw [List.length_set]; exact S.l1
  · dsimp only
    split
    · exact S.l2
    · rw [List.length_set]; exact S.l2

theorem run_ren {y : Int} : ∀ (l : List Ins) (t t' : TS), Sm y t t' → (∀ e ∈ l, e.ok) → (runL t' (l.map (Ins.ren y))).dn = (runL t l).dn := by
  intro l
  induction l with
  | nil => intro t t' S _; exact S.dn
  | cons e l ih =>
    intro t t' S hv
    exact ih (iss t e 0).1 (iss t' (e.ren y) 0).1 (iss_ren S (hv e List.mem_cons_self)) (fun x hx => hv x (List.mem_cons_of_mem _ hx))

theorem sm_zero (y : Int) : Sm y TS.zero TS.zero := by
  refine ⟨rfl, rfl, rfl, rfl, fun r _ _ => ?_, rfl, rfl⟩
  have key : ∀ r : Int, reg TS.zero r = 0 := by
    intro r
    unfold reg TS.zero
    dsimp only
    simp only [List.getD, List.getElem?_replicate]
    split <;> rfl
  rw [key, key]

theorem rename_ok {h : Heap} {b : Nat} {y : Int} (hb : h[b]? = some (.cells [.int .i64 y] .fix 0)) (y0 : 0 ≤ y) (y1 : y ≤ 14) {r : Int} (r0 : 0 ≤ r) (r1 : r ≤ 15) : E 15 [.int .i64 r, .ptr (some ⟨b, 0, 0⟩)] h = some (.int .i64 (rn y r), h) := by
  rw [e15, letK_eq]
  by_cases hr : r = 0
  · rw [if_pos (by simpa using hr)]
    simp [rn, hr]
  · have l1 : ld1 h ⟨b, 0, 0⟩ = some (.int .i64 y) := ld1_at hb rfl rfl
    have tm : Int.tmod (r - 1 + y) 15 = (r - 1 + y) % 15 := Int.tmod_eq_emod_of_nonneg (by omega)
    rw [if_neg (by simpa using hr), letK_eq, wrap64 (by omega) (by omega), atP_of, l1, gI_of, letK_eq, wrap64 (by omega) (by omega), letK_eq, tm, letK_eq, wrap64 (by omega) (by omega)]
    simp [rn, hr]

theorem names_loop {h0 : Heap} {s : SA} {n b : Nat} {l : List Ins} {y : Int} (H : VS Ins.cells 5 h0 s n l) (hb : h0[b]? = some (.cells [.int .i64 y] .fix 0)) (y0 : 0 ≤ y) (y1 : y ≤ 14) (hv : ∀ e ∈ l, e.ok) (hn : n ≤ 60) (s0 : SA) (n0 : Nat) : ∀ (k j : Nat), j + k = n →
    ∀ (h : Heap) (s6 : SA), Old h0 h → GS h s6 j 5 (((l.take j).map (Ins.ren y)).flatMap Ins.cells) → (∀ q, inS s6 q → h0.length ≤ q) →
    ∃ h' s', L4x13 mk0 E s0 n0 (some ⟨b, 0, 0⟩) s6 j s n ((n : Nat) : Int) ((j : Nat) : Int) h (Q4x13 mk0 E) = Q4x13 mk0 E (.exit 0) (S4xe0 s0 n0 s' n h') ∧ Old h0 h' ∧ VS Ins.cells 5 h' s' n (l.map (Ins.ren y)) := by
  intro k
  have hl := H.1
  induction k with
  | zero =>
    intro j hj h s6 ho hg hi
    obtain rfl : j = n := by omega
    refine ⟨h, s6, by rw [L4x13xeq, letK_eq, if_neg (by simp)], ho, ?_⟩
    rw [List.take_of_length_le (by omega)] at hg
    exact vs_GS ins_len (by simpa using hl) hg
  | succ k ih =>
    intro j hj h s6 ho hg hi
    obtain ⟨e, he⟩ : ∃ e, l[j]? = some e := ⟨l[j]'(by omega), List.getElem?_eq_getElem (by omega)⟩
    obtain ⟨ad, ha, la⟩ := vs_ld (vs_old H ho) ins_flat j e he
    obtain ⟨o0, o1, d0, d1, a0, a1, b0, b1, -, -⟩ := chk_bd (hv e (List.mem_of_getElem? he)).1
    have hbh := ho _ _ hb
    rw [L4x13xeq, letK_eq, if_pos (by simp; omega), chk_of (by intro _; omega), ha, atP_of, Int.toNat_natCast, la, gCells_of]
    simp only [Ins.cells, List.getElem?_cons_zero, List.getElem?_cons_succ]
    rw [gI_of, gI_of, gI_of, gI_of, gI_of, rename_ok hbh y0 y1 d0 d1, Option.bind_some, gI_of, rename_ok hbh y0 y1 a0 a1, Option.bind_some, gI_of, rename_ok hbh y0 y1 b0 b1, Option.bind_some, gI_of, newK_eq]
    dsimp only
    rw [show [AV.int .i64 e.op, .int .i64 (rn y e.d), .int .i64 (rn y e.a), .int .i64 (rn y e.b), .int .i64 e.n] = (e.ren y).cells from rfl]
    rw [show ldSl (h ++ [Blk.cells (e.ren y).cells (.grow 5) 0]) (.pos ⟨h.length, 0, 0⟩) (1 * 5) = some (e.ren y).cells from ldSl_at (last_get _ _) rfl rfl, Option.bind_some]
    obtain ⟨t, h4, e5, w5, le5, kp5, nw5⟩ := apnd_GS (m := 1) (bytes := 40) (ys := (e.ren y).cells) (gs_app (l := [Blk.cells (e.ren y).cells (.grow 5) 0]) hg) (by omega) (by omega) rfl rfl (by have := rows_flat ins_flat ((l.take j).map (Ins.ren y) ++ [e.ren y]); simpa using this) (by omega)
    rw [e5, Option.bind_some, gL_of, letK_eq, wrap64 (by omega) (by omega), show ((j : Int) + 1) = ((j + 1 : Nat) : Int) by omega]
    dsimp only
    refine ih (j + 1) (by omega) h4 t ?_ ?_ ?_
    · intro q z hq
      have hb := (List.getElem?_eq_some_iff.1 hq).1
      exact kp5 _ _ (app_old (ho _ _ hq)) fun hh => by have := hi q hh; omega
    · rw [List.take_add_one, he, Option.toList_some, List.map_append, List.flatMap_append]
      simpa using w5
    · intro q hq
      have := ho.le
      rcases nw5 q hq with h | h
      · exact hi q h
      · rw [List.length_append] at h; omega

theorem timingNames_ok {h : Heap} {s0 : SA} {n0 : Nat} {l : List Ins} (y : Int) (H : VS Ins.cells 5 h s0 n0 l) : ∃ h', E 4 [.sl s0 n0, .int .i64 y] h = some (.bool true, h') := by
  generalize hA : h ++ [Blk.cells [AV.int .i64 y] .fix 0] = hh
  have oA : Old h hh := by rw [← hA]; exact old_app _ _
  have hl1 : hh.length = h.length + 1 := by rw [← hA]; simp
  have k0 : hh[h.length]? = some (.cells [.int .i64 y] .fix 0) := by rw [← hA]; exact last_get _ _
  obtain ⟨h1, f1, f2⟩ := tfact_ok hh
  obtain ⟨h2, s, n, out, r1, r2, r3, r4, r5, r6⟩ := strl_ok (vs_old H (oA.trans f2))
  have hbl := f2.le
  have hbl2 := r2.le
  have k2 := r2 _ _ (f2 _ _ k0)
  have e0 := Int.emod_nonneg y (show (15 : Int) ≠ 0 by omega)
  have e1 := Int.emod_lt_of_pos y (show (0 : Int) < 15 by omega)
  have k3 : (h2.set h.length (.cells [.int .i64 (y % 15)] .fix 0))[h.length]? = some (.cells [.int .i64 (y % 15)] .fix 0) := set_same k2
  have r3' : VS Ins.cells 5 (h2.set h.length (.cells [.int .i64 (y % 15)] .fix 0)) s n out := by
    obtain ⟨hl, Hc | ⟨bb, v, o, c, m, rfl, hb, hc⟩⟩ := r3
    · exact ⟨hl, .inl Hc⟩
    · refine ⟨hl, .inr ⟨bb, v, o, c, m, rfl, ?_, hc⟩⟩
      have := r6 bb ⟨_, rfl, rfl⟩
      rw [set_other (by omega)]
      exact hb
  obtain ⟨h3, s', g1, g2, g3⟩ := names_loop r3' k3 e0 (by omega) r5 r4 s n n 0 (by omega) _ .nil (Old.refl _) ⟨rfl, rfl, .inl ⟨rfl, rfl⟩⟩ (by rintro q ⟨a, ha, _⟩; cases ha)
  rw [show (((0 : Nat) : Int)) = 0 from rfl] at g1
  obtain ⟨h4, c1, c2⟩ := cycles_ok (vs_old r3' g2) r5 (by omega)
  obtain ⟨h5, d1, d2⟩ := cycles_ok (vs_old g3 c2) (fun e he => by
    obtain ⟨x, hx, rfl⟩ := List.mem_map.1 he
    exact ren_ok (r5 x hx)) (by omega)
  have eq := run_ren (y := y % 15) out TS.zero TS.zero (sm_zero _) r5
  rw [e4, newK_eq, hA, f1, Option.bind_some, gB_of, if_neg (by simp), r1, Option.bind_some, gL_of]
  dsimp only
  rw [ld1_at k2 rfl rfl, gI_of, rest_ok _ _ _ (by omega) (by omega), Option.bind_some, gI_of, st1_at k2 (by simp) (by simp), Option.bind_some]
  rw [show [AV.int .i64 y].set 0 (.int .i64 (y % 15)) = [.int .i64 (y % 15)] from rfl, g1, X4x13xe0, c1, Option.bind_some, gT2_of]
  simp only [List.getD_cons_zero, List.getD_cons_succ]
  rw [gI_of, gI_of, d1, Option.bind_some, gT2_of]
  simp only [List.getD_cons_zero, List.getD_cons_succ]
  rw [gI_of, gI_of]
  refine ⟨h5, ?_⟩
  iterate 5 rw [letK_eq]
  rw [eq]
  simp

end Go.Proofs.Ytepkdcgokedkdaa.H
