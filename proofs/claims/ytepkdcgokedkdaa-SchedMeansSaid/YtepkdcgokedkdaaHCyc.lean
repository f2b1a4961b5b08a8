/- timing: Cycles; the laws' list of straight instructions; TimingGrows. -/
import Derived.Test.YtepkdcgokedkdaaConHb
import Derived.Test.YtepkdcgokedkdaaHGen2
set_option linter.unusedVariables false
set_option linter.unusedSimpArgs false
namespace Go.Proofs.Ytepkdcgokedkdaa.H
open Go Go.Proofs.Ytepkdcgokedkdaa.Abs Go.Proofs

structure Ins where
  op : Int
  d : Int
  a : Int
  b : Int
  n : Int

def Ins.cells (e : Ins) : List AV := [.int .i64 e.op, .int .i64 e.d, .int .i64 e.a, .int .i64 e.b, .int .i64 e.n]
theorem ins_len (e : Ins) : e.cells.length = 5 := rfl
theorem ins_flat (e : Ins) : flatL e.cells = true := rfl
/-- Valid, and neither a jump nor an end. -/
def Ins.ok (e : Ins) : Prop := chkV e.op e.d e.a e.b e.n = 0 ∧ strt e.op = true

/-- Issued after a state. -/
def iss (t : TS) (e : Ins) (ex : Int) : TS × Int := step t e.op e.d e.a e.b ex
def runL (t : TS) (l : List Ins) : TS := l.foldl (fun t e => (iss t e 0).1) t

theorem zero_ok : TOk TS.zero 0 where
  len := rfl
  nx0 := Int.le_refl _
  nxK := Int.le_refl _
  dv0 := Int.le_refl _
  dvK := Int.le_refl _
  dn0 := Int.le_refl _
  dnK := Int.le_refl _
  rg0 := fun r hr => by
    have := (List.mem_replicate.1 hr).2
    omega
  ws0 := fun w hw => by cases hw
  srt := List.Pairwise.nil

theorem TOk.wide {t : TS} {K K' : Int} (h : TOk t K) (hk : K ≤ K') : TOk t K' where
  len := h.len
  nx0 := h.nx0
  nxK := by have := h.nxK; omega
  dv0 := h.dv0
  dvK := by have := h.dvK; omega
  dn0 := h.dn0
  dnK := by have := h.dnK; omega
  rg0 := fun r hr => by have := h.rg0 r hr; omega
  ws0 := fun w hw => by have := h.ws0 w hw; omega
  srt := h.srt

theorem run_ok : ∀ (l : List Ins) (t : TS) (K : Int), TOk t K → t.nx ≤ t.dn → TOk (runL t l) (K + 8 * l.length) ∧ t.nx + l.length ≤ (runL t l).nx ∧ (runL t l).nx ≤ (runL t l).dn ∧ t.dn ≤ (runL t l).dn := by
  intro l
  induction l with
  | nil => intro t K h hn; exact ⟨by simpa [runL] using h, by simp [runL], hn, Int.le_refl _⟩
  | cons e l ih =>
    intro t K h hn
    obtain ⟨s1, s2, s3, s4, s5, s6⟩ := step_ok (op := e.op) (d := e.d) (a := e.a) (b := e.b) (ex := 0) h (by omega)
    obtain ⟨r1, r2, r3, r4⟩ := ih (iss t e 0).1 (K + 8 + 0) s1 s3
    have e1 : (iss t e 0).1 = (step t e.op e.d e.a e.b 0).1 := rfl
    rw [e1] at r1 r2 r3 r4
    show TOk (runL (step t e.op e.d e.a e.b 0).1 l) _ ∧ _ ≤ (runL (step t e.op e.d e.a e.b 0).1 l).nx ∧ (runL (step t e.op e.d e.a e.b 0).1 l).nx ≤ (runL (step t e.op e.d e.a e.b 0).1 l).dn ∧ _ ≤ (runL (step t e.op e.d e.a e.b 0).1 l).dn
    simp only [List.length_cons]
    refine ⟨r1.wide (by omega), by omega, r3, by omega⟩

theorem check_loop {h : Heap} {s : SA} {n : Nat} {l : List Ins} (H : VS Ins.cells 5 h s n l) (hv : ∀ e ∈ l, e.ok) (hn : n < 1000000) : ∀ (k j : Nat), j + k = n →
    L13x9 mk0 E s n s n ((n : Nat) : Int) ((j : Nat) : Int) h (Q13x9 mk0 E) = Q13x9 mk0 E (.exit 0) (S13xe0 s n h) := by
  intro k
  have hl := H.1
  induction k with
  | zero => intro j hj; rw [L13x9xeq, letK_eq, if_neg (by simp; omega)]
  | succ k ih =>
    intro j hj
    obtain ⟨e, he⟩ : ∃ e, l[j]? = some e := ⟨l[j]'(by omega), List.getElem?_eq_getElem (by omega)⟩
    obtain ⟨ad, ha, la⟩ := vs_ld H ins_flat j e he
    obtain ⟨c1, c2⟩ := hv e (List.mem_of_getElem? he)
    rw [L13x9xeq, letK_eq, if_pos (by simp; omega), chk_of (by intro _; omega), ha, atP_of, Int.toNat_natCast, la, gCells_of]
    simp only [Ins.cells, List.getElem?_cons_zero, List.getElem?_cons_succ]
    rw [gI_of, gI_of, gI_of, gI_of, gI_of, check_ok, Option.bind_some, c1, gI_of, letK_eq, if_neg (by simp), straight_ok, Option.bind_some, c2, gB_of, if_neg (by simp), letK_eq, wrap64 (by omega) (by omega), show ((j : Int) + 1) = ((j + 1 : Nat) : Int) by omega]
    exact ih (j + 1) (by omega)

theorem cyc_loop {h0 : Heap} {s : SA} {n : Nat} {l : List Ins} (H : VS Ins.cells 5 h0 s n l) (hv : ∀ e ∈ l, e.ok) (hn : n ≤ 4096) : ∀ (k j : Nat), j + k = n →
    ∀ (h : Heap) (t : TS) (s7 : SA) (n7 : Nat), Old h0 h → TOk t (8 * j) → TR h t s7 n7 → n7 ≤ j →
    ∃ h', L13x31 mk0 E (tc t s7 n7) s n ((n : Nat) : Int) ((j : Nat) : Int) h (Q13x31 mk0 E) = some (.tup [.int .i64 (runL t (l.drop j)).dn, .int .i64 0], h') ∧ Old h0 h' := by
  intro k
  have hl := H.1
  induction k with
  | zero =>
    intro j hj h t s7 n7 ho ok hr hle
    refine ⟨h, ?_, ho⟩
    rw [L13x31xeq, letK_eq, if_neg (by simp; omega), X13x31xe2, tc_dn, gI_of, List.drop_eq_nil_of_le (by omega)]
    rfl
  | succ k ih =>
    intro j hj h t s7 n7 ho ok hr hle
    obtain ⟨e, he⟩ : ∃ e, l[j]? = some e := ⟨l[j]'(by omega), List.getElem?_eq_getElem (by omega)⟩
    obtain ⟨ad, ha, la⟩ := vs_ld (vs_old H ho) ins_flat j e he
    obtain ⟨c1, c2⟩ := hv e (List.mem_of_getElem? he)
    obtain ⟨h', s', n', i1, i2, i3, i4, -⟩ := issue_ok (ex := 0) ok hr (by omega) (by omega) c1 (by omega) (by omega)
    obtain ⟨sk, -⟩ := step_ok (op := e.op) (d := e.d) (a := e.a) (b := e.b) (ex := 0) ok (by omega)
    have l20 := tc_len (t := t) (s := s7) (n := n7) ok.len
    have l20' := tc_len (t := (step t e.op e.d e.a e.b 0).1) (s := s') (n := n') sk.len
    rw [L13x31xeq, letK_eq, if_pos (by simp; omega), chk_of (by intro _; omega), ha, atP_of, Int.toNat_natCast, la, gCells_of]
    simp only [Ins.cells, List.getElem?_cons_zero, List.getElem?_cons_succ]
    rw [gI_of, gI_of, gI_of, gI_of, gI_of, chk_of (by rw [l20]; intro _; omega), tc_all ok.len, i1, Option.bind_some, gT3_of]
    simp only [List.getD_cons_zero, List.getD_cons_succ]
    rw [gA_of, chk_of (by intro _; exact l20'), gI_of, gI_of, chk_of ⟨l20', flat_tc _ _ _, by rw [l20]; omega⟩, letK_eq, splice_all _ _ (by rw [l20, l20']), letK_eq, wrap64 (by omega) (by omega), show ((j : Int) + 1) = ((j + 1 : Nat) : Int) by omega]
    obtain ⟨h'', r1, r2⟩ := ih (j + 1) (by omega) h' (step t e.op e.d e.a e.b 0).1 s' n' (ho.trans i2) (sk.wide (by omega)) i3 (by omega)
    refine ⟨h'', ?_, r2⟩
    rw [drop_get he]
    exact r1

theorem cycles_ok {h : Heap} {s : SA} {n : Nat} {l : List Ins} (H : VS Ins.cells 5 h s n l) (hv : ∀ e ∈ l, e.ok) (hn : n ≤ 4096) :
    ∃ h', E 13 [.sl s n] h = some (.tup [.int .i64 (runL TS.zero l).dn, .int .i64 0], h') ∧ Old h h' := by
  have c := check_loop H hv (by omega) n 0 (by omega)
  rw [show (((0 : Nat) : Int)) = 0 from rfl] at c
  rw [e13, letK_eq, if_neg (by simp; omega), c, X13x9xe0]
  obtain ⟨h', r1, r2⟩ := cyc_loop H hv hn n 0 (by omega) h TS.zero .nil 0 (Old.refl _) (zero_ok.wide (by omega)) ⟨rfl, .inl rfl⟩ (by omega)
  rw [List.drop_zero] at r1
  exact ⟨h', r1, r2⟩

theorem str_loop {h0 : Heap} {s : SA} {n : Nat} {l : List Ins} (H : VS Ins.cells 5 h0 s n l) (hn : n ≤ 60) : ∀ (k j : Nat), j + k = n →
    ∀ (h : Heap) (s3 : SA) (n3 : Nat) (out : List Ins), Old h0 h → GS h s3 n3 5 (out.flatMap Ins.cells) → n3 ≤ j → out.length = n3 → (∀ e ∈ out, e.ok) → (∀ q, inS s3 q → h0.length ≤ q) →
    ∃ (h' : Heap) (s' : SA) (n' : Nat) (out' : List Ins), L12x5 mk0 E s3 n3 s n ((n : Nat) : Int) ((j : Nat) : Int) h (Q12x5 mk0 E) = some (.sl s' n', h') ∧ Old h0 h' ∧ GS h' s' n' 5 (out'.flatMap Ins.cells) ∧ n' ≤ n ∧ out'.length = n' ∧ (∀ e ∈ out', e.ok) ∧ (∀ q, inS s' q → h0.length ≤ q) := by
  intro k
  have hl := H.1
  induction k with
  | zero =>
    intro j hj h s3 n3 out ho hg hle ho3 hv hi
    exact ⟨h, s3, n3, out, by rw [L12x5xeq, letK_eq, if_neg (by simp; omega), X12x5xe0], ho, hg, by omega, ho3, hv, hi⟩
  | succ k ih =>
    intro j hj h s3 n3 out ho hg hle ho3 hv hi
    obtain ⟨e, he⟩ : ∃ e, l[j]? = some e := ⟨l[j]'(by omega), List.getElem?_eq_getElem (by omega)⟩
    obtain ⟨ad, ha, la⟩ := vs_ld (vs_old H ho) ins_flat j e he
    have wj : IntKind.wrap .i64 ((j : Int) + 1) = ((j + 1 : Nat) : Int) := by rw [wrap64 (by omega) (by omega)]; omega
    rw [L12x5xeq, letK_eq, if_pos (by simp; omega), chk_of (by intro _; omega), ha, atP_of, Int.toNat_natCast, la, gCells_of]
    simp only [Ins.cells, List.getElem?_cons_zero, List.getElem?_cons_succ]
    rw [gI_of, gI_of, gI_of, gI_of, gI_of, check_ok, Option.bind_some, gI_of, letK_eq, gI_any, straight_ok]
    have skip : ∃ (h' : Heap) (s' : SA) (n' : Nat) (out' : List Ins), J12x15 mk0 E s3 n3 s n ((n : Nat) : Int) ((j : Nat) : Int) h (Q12x5 mk0 E) = some (.sl s' n', h') ∧ Old h0 h' ∧ GS h' s' n' 5 (out'.flatMap Ins.cells) ∧ n' ≤ n ∧ out'.length = n' ∧ (∀ e ∈ out', e.ok) ∧ (∀ q, inS s' q → h0.length ≤ q) := by
      rw [J12x15xeq, letK_eq, wj]
      exact ih (j + 1) (by omega) h s3 n3 out ho hg (by omega) ho3 hv hi
    by_cases hc : chkV e.op e.d e.a e.b e.n = 0
    · rw [decide_eq_true hc, callO_true, Option.bind_some, gB_of, letK_eq, if_pos rfl]
      cases hs : strt e.op with
      | false =>
        rw [if_neg (by simp)]
        exact skip
      | true =>
        rw [if_pos rfl, newK_eq, show ldSl (h ++ [Blk.cells [.int .i64 e.op, .int .i64 e.d, .int .i64 e.a, .int .i64 e.b, .int .i64 e.n] (.grow 5) 0]) (.pos ⟨h.length, 0, 0⟩) (1 * 5) = some e.cells from ldSl_at (last_get _ _) rfl rfl, Option.bind_some]
        obtain ⟨t, h4, e5, w5, le5, kp5, nw5⟩ := apnd_GS (m := 1) (bytes := 40) (ys := e.cells) (gs_app (l := [Blk.cells [.int .i64 e.op, .int .i64 e.d, .int .i64 e.a, .int .i64 e.b, .int .i64 e.n] (.grow 5) 0]) hg) (by omega) (by omega) rfl rfl (by have := rows_flat ins_flat (out ++ [e]); simpa using this) (by omega)
        rw [e5, Option.bind_some, gL_of, J12x15xeq, letK_eq, wj]
        dsimp only
        refine ih (j + 1) (by omega) h4 t (n3 + 1) (out ++ [e]) ?_ (by simpa using w5) (by omega) (by simp [ho3]) ?_ ?_
        · intro q y hq
          have hb := (List.getElem?_eq_some_iff.1 hq).1
          exact kp5 _ _ (app_old (ho _ _ hq)) fun hh => by have := hi q hh; omega
        · intro x hx
          rcases List.mem_append.1 hx with hx | hx
          · exact hv x hx
          · obtain rfl : x = e := by simpa using hx
            exact ⟨hc, hs⟩
        · intro q hq
          have := ho.le
          rcases nw5 q hq with h | h
          · exact hi q h
          · rw [List.length_append] at h; omega
    · rw [decide_eq_false hc, callO_false, Option.bind_some, gB_any, letK_eq, if_neg (by simp)]
      exact skip

theorem strl_ok {h : Heap} {s : SA} {n : Nat} {l : List Ins} (H : VS Ins.cells 5 h s n l) :
    ∃ (h' : Heap) (s' : SA) (n' : Nat) (out : List Ins), E 12 [.sl s n] h = some (.sl s' n', h') ∧ Old h h' ∧ VS Ins.cells 5 h' s' n' out ∧ n' ≤ 60 ∧ (∀ e ∈ out, e.ok) ∧ (∀ q, inS s' q → h.length ≤ q) := by
  rw [e12, letK_eq, mm_min, chkC_of (by intro _; exact ⟨by omega, .inl (by omega)⟩)]
  have hm : (min (n : Int) 60).toNat ≤ n := by omega
  have hm2 : (min (n : Int) 60).toNat ≤ 60 := by omega
  generalize (min (n : Int) 60).toNat = m at hm hm2
  obtain ⟨h', s', n', out, r1, r2, r3, r4, r5, r6, r7⟩ := str_loop (vs_take H m hm) hm2 m 0 (by omega) h .nil 0 [] (Old.refl _) ⟨rfl, rfl, .inl ⟨rfl, rfl⟩⟩ (by omega) rfl (by simp) (by rintro q ⟨a, ha, _⟩; cases ha)
  exact ⟨h', s', n', out, r1, r2, vs_GS ins_len r5 r3, by omega, r6, r7⟩

theorem run_append (t : TS) (a b : List Ins) : runL t (a ++ b) = runL (runL t a) b := by simp [runL]

end Go.Proofs.Ytepkdcgokedkdaa.H
