/- pipe: Flush; PipeRests and PipeDelays. -/
import Derived.Test.YtepkdcgokedkdaaHPipe
set_option linter.unusedVariables false
set_option linter.unusedSimpArgs false
namespace Go.Proofs.Ytepkdcgokedkdaa.H
open Go Go.Proofs.Ytepkdcgokedkdaa.Abs Go.Proofs

/-- The state after a delay. -/
def fl (t : TS) (c : Int) : TS := { t with nx := t.nx + c, dn := max t.dn (t.nx + c), ws := t.ws.filter fun w => decide (t.nx + c ≤ w) }

theorem fl_ok {t : TS} {K c : Int} (ok : TOk t K) (h0 : 0 ≤ c) : TOk (fl t c) (K + c) where
  len := ok.len
  nx0 := by have := ok.nx0; show 0 ≤ t.nx + c; omega
  nxK := by have := ok.nxK; show t.nx + c ≤ K + c; omega
  dv0 := ok.dv0
  dvK := by have := ok.dvK; show t.dv ≤ K + c; omega
  dn0 := by have := ok.dn0; show 0 ≤ max t.dn (t.nx + c); omega
  dnK := by have := ok.dnK; have := ok.nxK; show max t.dn (t.nx + c) ≤ K + c; omega
  rg0 := fun r hr => by have := ok.rg0 r hr; omega
  ws0 := fun w hw => by
    obtain ⟨h1, h2⟩ := List.mem_filter.1 hw
    have := ok.ws0 w h1
    have : t.nx + c ≤ w := by simpa using h2
    show t.nx + c ≤ w ∧ w ≤ K + c
    omega
  srt := ok.srt.sublist List.filter_sublist

theorem fl_zero {t : TS} {K : Int} (ok : TOk t K) (h : t.nx ≤ t.dn) : fl t 0 = t := by
  unfold fl
  have e1 : t.nx + 0 = t.nx := by omega
  have e2 : max t.dn (t.nx + 0) = t.dn := by omega
  have e3 : t.ws.filter (fun w => decide (t.nx + 0 ≤ w)) = t.ws := by
    rw [List.filter_eq_self]
    intro w hw
    have := (ok.ws0 w hw).1
    simp; omega
  rw [e2, e3, e1]

theorem fl_loop {h1 : Heap} {b : Nat} {cs : List AV} {s43 : SA} {n43 : Nat} {ws : List Int} {nx : Int} (hb1 : h1[b]? = some (.cells cs .fix 0)) (hc : cs[0]? = some (.int .i64 nx)) (H : VS intC 1 h1 s43 n43 ws) (hn : n43 ≤ 16384) : ∀ (k j : Nat), j + k = n43 →
    ∀ (h : Heap) (s5 : SA) (n5 : Nat), Old h1 h → GS h s5 n5 1 (((ws.take j).filter fun w => decide (nx ≤ w)).map (.int .i64)) → n5 ≤ j → (∀ q, inS s5 q → h1.length ≤ q) →
    ∃ h' s' n', L20x12 mk0 E (some ⟨b, 0, 0⟩) s5 n5 s43 n43 ((n43 : Nat) : Int) ((j : Nat) : Int) h (Q20x12 mk0 E) = Q20x12 mk0 E (.exit 0) (S20xe0 (some ⟨b, 0, 0⟩) s' n' h') ∧
      Old h1 h' ∧ GS h' s' n' 1 ((ws.filter fun w => decide (nx ≤ w)).map (.int .i64)) ∧ n' ≤ n43 ∧ (∀ q, inS s' q → h1.length ≤ q) := by
  intro k
  have hl := H.1
  induction k with
  | zero =>
    intro j hj h s5 n5 ho hg hle hi
    refine ⟨h, s5, n5, by rw [L20x12xeq, letK_eq, if_neg (by simp; omega)], ho, ?_, by omega, hi⟩
    rw [List.take_of_length_le (by omega)] at hg
    exact hg
  | succ k ih =>
    intro j hj h s5 n5 ho hg hle hi
    obtain ⟨x, hx⟩ : ∃ x, ws[j]? = some x := ⟨ws[j]'(by omega), List.getElem?_eq_getElem (by omega)⟩
    obtain ⟨ad, ha, la⟩ := vs_ld1 (g := AV.int .i64) (vs_old H ho) (fun _ => rfl) j _ hx
    have wj : IntKind.wrap .i64 ((j : Int) + 1) = ((j + 1 : Nat) : Int) := by rw [wrap64 (by omega) (by omega)]; omega
    have ht : (ws.take (j + 1)).filter (fun w => decide (nx ≤ w)) = (ws.take j).filter (fun w => decide (nx ≤ w)) ++ (if nx ≤ x then [x] else []) := by
      rw [List.take_add_one, hx, List.filter_append]
      congr 1
      by_cases h : nx ≤ x <;> simp [h]
    rw [L20x12xeq, letK_eq, if_pos (by simp; omega), chk_of (by intro _; omega), ha, atP_of, Int.toNat_natCast, la, gI_of, atP_of]
    dsimp only [Ad.add]
    rw [ld1_at (ho _ _ hb1) hc rfl, gI_of, letK_eq]
    by_cases hge : nx ≤ x
    · rw [if_pos (by simpa using hge), newK_eq, show ldSl (h ++ [Blk.cells [AV.int .i64 x] (.grow 1) 0]) (.pos ⟨h.length, 0, 0⟩) (1 * 1) = some [.int .i64 x] from ldSl_at (last_get _ _) rfl rfl, Option.bind_some]
      obtain ⟨tt, h4, e5, w5, le5, kp5, nw5⟩ := apnd_GS (m := 1) (bytes := 8) (ys := [AV.int .i64 x]) (gs_app (l := [Blk.cells [AV.int .i64 x] (.grow 1) 0]) hg) (by omega) (by omega) rfl rfl (by have := flat_ints ((ws.take j).filter (fun w => decide (nx ≤ w)) ++ [x]); simpa using this) (by omega)
      rw [e5, Option.bind_some, gL_of, J20x22xeq, letK_eq, wj]
      dsimp only
      refine ih (j + 1) (by omega) h4 tt (n5 + 1) ?_ ?_ (by omega) ?_
      · intro q y hq
        have hb := (List.getElem?_eq_some_iff.1 hq).1
        exact kp5 _ _ (app_old (ho _ _ hq)) fun hh => by have := hi q hh; omega
      · rw [ht, if_pos hge, List.map_append]
        exact w5
      · intro q hq
        have := ho.le
        rcases nw5 q hq with h | h
        · exact hi q h
        · rw [List.length_append] at h; omega
    · rw [if_neg (by simpa using hge), J20x22xeq, letK_eq, wj]
      refine ih (j + 1) (by omega) h s5 n5 ho ?_ (by omega) hi
      rw [ht, if_neg hge, List.append_nil]
      exact hg

theorem flush_bad (p : Option Ad) (c : Int) (h : Heap) (hc : c < 0 ∨ 100 < c) : E 20 [.ptr p, .int .i64 c] h = some (.int .i64 4, h) := by
  rw [e20, letK_eq, letK_eq, letK_eq, if_pos (by rcases hc with h | h <;> simp [h])]

theorem flush_ok {bad : List Nat} {h : Heap} {b c : Nat} {t : TS} {m K cy : Int} (H : PR bad h b t m c) (hbb : b ∈ bad) (hbad : ∀ q ∈ bad, q < h.length) (ok : TOk t K) (hc : c ≤ 10000) (hK : K < 10000000) (h0 : 0 ≤ cy) (h1 : cy ≤ 100) :
    ∃ h', E 20 [.ptr (some ⟨b, 0, 0⟩), .int .i64 cy] h = some (.int .i64 0, h') ∧ PR bad h' b (fl t cy) m c ∧ But b h h' ∧ h.length ≤ h'.length := by
  obtain ⟨s, n, g1, g2, g3, g4⟩ := H
  have n0 := ok.nx0
  have nk := ok.nxK
  have d0 := ok.dn0
  have dk := ok.dnK
  have hbh := (List.getElem?_eq_some_iff.1 g1).1
  have len := ok.len
  rw [e20, letK_eq, letK_eq, letK_eq, if_neg (by simp; omega), atP_of]
  dsimp only [Ad.add]
  rw [ld1_at (x := .int .i64 t.nx) g1 rfl rfl, gI_of, letK_eq, wrap64 (by omega) (by omega), atP_of]
  dsimp only [Ad.add]
  rw [st1_at g1 (by simp) (by simp), Option.bind_some, show (tc t s n ++ [AV.int .i64 m]).set (0 + 0 + 0) (.int .i64 (t.nx + cy)) = tc { t with nx := t.nx + cy } s n ++ [AV.int .i64 m] from rfl]
  have k1 : (h.set b (.cells (tc { t with nx := t.nx + cy } s n ++ [AV.int .i64 m]) .fix 0))[b]? = some (.cells (tc { t with nx := t.nx + cy } s n ++ [AV.int .i64 m]) .fix 0) := set_same g1
  rw [atP_of]
  dsimp only [Ad.add]
  rw [ld1_at (x := .int .i64 t.dn) k1 rfl rfl, gI_of, atP_of]
  dsimp only [Ad.add]
  rw [ld1_at (x := .int .i64 (t.nx + cy)) k1 rfl rfl, gI_of, letK_eq, mm_max, atP_of]
  dsimp only [Ad.add]
  rw [st1_at k1 (by simp) (by simp [tc]), Option.bind_some, show (tc { t with nx := t.nx + cy } s n ++ [AV.int .i64 m]).set (0 + 0 + 2) (.int .i64 (max t.dn (t.nx + cy))) = tc { t with nx := t.nx + cy, dn := max t.dn (t.nx + cy) } s n ++ [AV.int .i64 m] from rfl]
  generalize hh2 : (h.set b (.cells (tc { t with nx := t.nx + cy } s n ++ [AV.int .i64 m]) .fix 0)).set b (.cells (tc { t with nx := t.nx + cy, dn := max t.dn (t.nx + cy) } s n ++ [AV.int .i64 m]) .fix 0) = h2
  have k2 : h2[b]? = some (.cells (tc { t with nx := t.nx + cy, dn := max t.dn (t.nx + cy) } s n ++ [AV.int .i64 m]) .fix 0) := by rw [← hh2]; exact set_same k1
  have bt : But b h h2 := by rw [← hh2]; exact (but_set b _ _).trans (but_set b _ _)
  have hlen : h2.length = h.length := by rw [← hh2]; simp
  have l20 := tc_len (t := { t with nx := t.nx + cy, dn := max t.dn (t.nx + cy) }) (s := s) (n := n) len
  have get19 : (tc { t with nx := t.nx + cy, dn := max t.dn (t.nx + cy) } s n ++ [AV.int .i64 m])[19]? = some (.sl s n) := by
    rw [List.getElem?_append_left (by omega), tc_ws (t := { t with nx := t.nx + cy, dn := max t.dn (t.nx + cy) }) len]
  rw [atP_of]
  dsimp only [Ad.add]
  rw [ld1_at k2 get19 rfl, gL_of]
  have hsb : ¬ inS s b := fun hi => g4 b hi hbb
  obtain ⟨h3, s', n', f1, f2, f3, f4, f5⟩ := fl_loop (nx := t.nx + cy) k2 rfl (vs_but g2 bt hsb) (by omega) n 0 (by omega) h2 .nil 0 (Old.refl _) ⟨rfl, rfl, .inl ⟨rfl, rfl⟩⟩ (by omega) (by rintro q ⟨a, ha, _⟩; cases ha)
  rw [show (((0 : Nat) : Int)) = 0 from rfl] at f1
  rw [f1, X20x12xe0, atP_of]
  dsimp only [Ad.add]
  rw [st1_at (f2 _ _ k2) (by simp) (by simp [l20]), Option.bind_some, List.set_append_left _ _ (by omega), tc_set19 (t := { t with nx := t.nx + cy, dn := max t.dn (t.nx + cy) }) len]
  have hlf := f3.1
  rw [List.length_map, Nat.mul_one] at hlf
  refine ⟨_, rfl, ⟨s', n', set_same (f2 _ _ k2), ?_, by omega, fun q hq hb => ?_⟩, (bt.trans (f2.but b)).trans (but_set b _ _), ?_⟩
  · have e1 : ((t.ws.filter fun w => decide (t.nx + cy ≤ w)).map (AV.int .i64)) = (t.ws.filter fun w => decide (t.nx + cy ≤ w)).flatMap intC := (rows_one _ _).symm
    rw [e1] at f3
    exact vs_but (b := b) (vs_GS (f := intC) (es := 1) (fun _ => rfl) hlf f3) (but_set b _ _) (fun hi => by have := f5 b hi; omega)
  · have := f5 q hq
    have := hbad q hb
    omega
  · have := f2.le
    simp only [List.length_set]; omega

end Go.Proofs.Ytepkdcgokedkdaa.H
