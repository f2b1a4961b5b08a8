/- caches: small functions; lists of lines in cells; IndexFunc and Delete of cache lines. -/
import Derived.Test.YtecgpcpgklholaaZGen
import Derived.Test.YtecgpcpgklholaaKList
set_option linter.unusedVariables false
set_option linter.unusedSimpArgs false
namespace Go.Proofs.Ytecgpcpgklholaa.Z
open Go Go.Proofs.Ytecgpcpgklholaa.Abs Go.Proofs
open Go.Proofs.Ytecgpcpgklholaa.K (Old gI_any gB_any last_get set_last range_set range_get flat_ints ldSl_at VS vs_ld1 vs_take vs_old intC old_app)

theorem modulo_ok (n m : Int) (h : Heap) (h1 : 0 < m) (h2 : m ≤ 1000000000) : E 27 [.int .i64 n, .int .i64 m] h = some (.int .i64 (n % m), h) := by
  rw [e27]
  have hne : ¬ m = 0 := by omega
  rw [chk_of (fun _ => hne)]
  simp only [letK_eq, decide_eq_true_eq]
  have key : n % m = if n.tmod m < 0 then n.tmod m + m else n.tmod m := by
    have e := Int.tmod_def n m
    by_cases hn : n < 0
    · have e1 : n.tmod m = -((-n) % m) := by
        have := Int.neg_tmod n m
        rw [Int.tmod_eq_emod_of_nonneg (by omega : 0 ≤ -n)] at this
        omega
      have p1 := Int.emod_nonneg (-n) hne
      have p2 := Int.emod_lt_of_pos (-n) h1
      have p3 := Int.emod_nonneg n hne
      have p4 := Int.emod_lt_of_pos n h1
      have q1 := Int.emod_add_mul_ediv n m
      have q2 := Int.emod_add_mul_ediv (-n) m
      by_cases hz : (-n) % m = 0
      · have : n % m = 0 := by
          have := Int.dvd_of_emod_eq_zero hz
          exact Int.emod_eq_zero_of_dvd ((Int.dvd_neg).1 this)
        rw [if_neg (by omega), e1, hz, this]; rfl
      · rw [if_pos (by omega), e1]
        have hs : m * (n / m) + m * (-n / m) = -(n % m) - (-n) % m := by omega
        rw [← Int.mul_add] at hs
        have hr : n / m + -n / m = -1 := by
          have a1 : -2 * m < m * (n / m + -n / m) := by omega
          have a2 : m * (n / m + -n / m) < 0 := by omega
          have a3 : -2 < n / m + -n / m := by
            apply Int.lt_of_mul_lt_mul_left (a := m) _ (by omega)
            rw [Int.mul_comm m (-2)]; exact a1
          have a4 : n / m + -n / m < 0 := by
            apply Int.lt_of_mul_lt_mul_left (a := m) _ (by omega)
            rw [Int.mul_zero]; exact a2
          omega
        rw [hr] at hs
        omega
    · have hn : 0 ≤ n := by omega
      rw [Int.tmod_eq_emod_of_nonneg hn, if_neg (by have := Int.emod_nonneg n hne; omega)]
  have p3 := Int.emod_nonneg n hne
  have p4 := Int.emod_lt_of_pos n h1
  split
  · rename_i hlt
    rw [if_pos hlt] at key
    rw [wrap64 (by omega) (by omega), key]
  · rename_i hlt
    rw [if_neg hlt] at key
    rw [key]

theorem rest_ok (n m : Int) (h : Heap) (h1 : 0 < m) (h2 : m ≤ 1000000000) : E 11 [.int .i64 n, .int .i64 m] h = some (.int .i64 (n % m), h) := by
  rw [e11, modulo_ok n m h h1 h2]
  simp



def inB (x lo hi : Int) : Bool := decide (lo ≤ x) && decide (x ≤ hi)

theorem in_ok (x lo hi : Int) (h : Heap) : E 39 [.int .i64 x, .int .i64 lo, .int .i64 hi] h = some (.bool (inB x lo hi), h) := by
  rw [e39]
  simp only [letK_eq, inB]
  by_cases a : lo ≤ x <;> by_cases b : x ≤ hi <;> simp [a, b]

/-- Is a configuration in range? -/
def okC (a b c d : Int) : Bool := inB a 1 64 && (inB b 1 256 && (inB c 1 8 && inB d 0 1000))

theorem check_ok (a b c d : Int) (h : Heap) : E 24 [.agg [.int .i64 a, .int .i64 b, .int .i64 c, .int .i64 d]] h = some (.int .i64 (if okC a b c d = true then 0 else 4), h) := by
  rw [e24, in_ok, Option.bind_some, gB_of, gI_any, in_ok, callO_bool, Option.bind_some, gB_any, letK_eq, gI_any, in_ok, callO_bool, Option.bind_some, gB_any, letK_eq, gI_any, in_ok, callO_bool, Option.bind_some, gB_any, letK_eq]
  unfold okC
  cases inB a 1 64 <;> cases inB b 1 256 <;> cases inB c 1 8 <;> cases inB d 0 1000 <;> rfl

/-- Clean lines. -/
def cln (ls : List Int) : List (Int × Bool) := ls.map fun x => (x, false)

theorem linC_get (l : List (Int × Bool)) (j : Nat) : (linC l)[j]? = (l[j / 2]?).map fun x => if j % 2 = 0 then AV.int .i64 x.1 else .bool x.2 := by
  induction l generalizing j with
  | nil => simp [linC]
  | cons x l ih =>
    have e : linC (x :: l) = .int .i64 x.1 :: .bool x.2 :: linC l := rfl
    rw [e]
    match j with
    | 0 => rfl
    | 1 => rfl
    | j + 2 =>
      have e1 : (j + 2) / 2 = j / 2 + 1 := by omega
      have e2 : (j + 2) % 2 = j % 2 := by omega
      rw [List.getElem?_cons_succ, List.getElem?_cons_succ, ih, e1, e2, List.getElem?_cons_succ]

theorem linC_inj : ∀ {l m : List (Int × Bool)}, linC l = linC m → l = m
  | [], [], _ => rfl
  | [], y :: m, h => by cases h
  | x :: l, [], h => by cases h
  | x :: l, y :: m, h => by
    have e1 : linC (x :: l) = .int .i64 x.1 :: .bool x.2 :: linC l := rfl
    have e2 : linC (y :: m) = .int .i64 y.1 :: .bool y.2 :: linC m := rfl
    rw [e1, e2] at h
    injection h with h1 h
    injection h with h2 h
    have := linC_inj h
    injection h1 with _ h1
    injection h2 with h2
    rw [this]
    congr 1
    exact Prod.ext h1 h2

theorem flat_lin (l : List (Int × Bool)) : flatL (linC l) = true := by
  induction l with
  | nil => rfl
  | cons x l ih => exact ih

theorem flat_get {l : List AV} (h : ∀ (i : Nat) u, l[i]? = some u → flatA u = true) : flatL l = true := by
  induction l with
  | nil => rfl
  | cons x l ih =>
    show (flatA x && flatL l) = true
    rw [h 0 x rfl, ih fun i u hu => h (i + 1) u (by simpa using hu)]
    rfl

/-- Lines in a block, ahead of what else it holds. -/
def Lin (h : Heap) (q v : Nat) (ls : List Int) : Prop := ∃ c, h[q]? = some (.cells c (.grow 2) v) ∧ c.take (ls.length * 2) = linC (cln ls) ∧ ls.length * 2 ≤ c.length

theorem cln_len (ls : List Int) : (cln ls).length = ls.length := by unfold cln; simp

theorem Lin.get {h : Heap} {q v : Nat} {ls : List Int} {c : List AV} (h2 : c.take (ls.length * 2) = linC (cln ls)) {k : Nat} {x : Int} (hk : ls[k]? = some x) : c[k * 2]? = some (.int .i64 x) ∧ c[k * 2 + 1]? = some (.bool false) := by
  have hl := (List.getElem?_eq_some_iff.1 hk).1
  have g : ∀ j, j < ls.length * 2 → c[j]? = (linC (cln ls))[j]? := by
    intro j hj
    rw [← h2, List.getElem?_take, if_pos hj]
  have hc : (cln ls)[k]? = some (x, false) := by unfold cln; rw [List.getElem?_map, hk]; rfl
  constructor
  · rw [g _ (by omega), linC_get, show k * 2 / 2 = k by omega, hc]
    simp
  · rw [g _ (by omega), linC_get, show (k * 2 + 1) / 2 = k by omega, hc]
    have : (k * 2 + 1) % 2 = 1 := by omega
    simp [this]

theorem lin_ldN {h : Heap} {q v : Nat} {ls : List Int} (L : Lin h q v ls) {k : Nat} {x : Int} (hk : ls[k]? = some x) : ldN h ⟨q, v, 0 + k * 2⟩ 2 = some [.int .i64 x, .bool false] := by
  obtain ⟨c, h1, h2, h3⟩ := L
  obtain ⟨g1, g2⟩ := Lin.get (h := h) (q := q) (v := v) h2 hk
  have hl := (List.getElem?_eq_some_iff.1 hk).1
  have e : (c.drop (0 + k * 2)).take 2 = [.int .i64 x, .bool false] := by
    apply List.ext_getElem?
    intro i
    rw [List.getElem?_take]
    by_cases hi : i < 2
    · rw [if_pos hi, List.getElem?_drop, Nat.zero_add]
      match i, hi with
      | 0, _ => rw [Nat.add_zero, g1]; rfl
      | 1, _ => rw [g2]; rfl
    · rw [if_neg hi]
      symm
      apply List.getElem?_eq_none
      simp; omega
  unfold ldN
  rw [h1]
  dsimp only
  rw [e, if_pos ⟨rfl, by omega, rfl⟩]

/-- The first place of a line from k on, or -1. -/
def idxF (x : Int) : List Int → Nat → Int
  | [], _ => -1
  | y :: l, k => if y = x then (k : Int) else idxF x l (k + 1)

theorem index_loop {h : Heap} {q v cb : Nat} {ls : List Int} {x : Int} (L : Lin h q v ls) (hc : h[cb]? = some (.cells [.int .i64 x] .fix 0)) (hn : ls.length ≤ 1000) : ∀ (r : List Int) (k : Nat), ls.drop k = r → k ≤ ls.length →
    L49x4 mk0 E (.pos ⟨q, v, 0⟩) ls.length (.fn 50 [] [.ptr (some ⟨cb, 0, 0⟩)]) ((ls.length : Nat) : Int) ((k : Nat) : Int) h (Q49x4 mk0 E) = some (.int .i64 (idxF x r k), h) := by
  intro r
  induction r with
  | nil =>
    intro k hr hk
    have : ls.length ≤ k := List.drop_eq_nil_iff.1 hr
    rw [L49x4xeq, letK_eq, if_neg (by simp; omega), X49x4xe0]
    rfl
  | cons y r ih =>
    intro k hr hk
    have hy : ls[k]? = some y := by
      have := congrArg (fun l => l[0]?) hr
      simpa using this
    have hl := (List.getElem?_eq_some_iff.1 hy).1
    have hx : ld1 h ⟨cb, 0, 0⟩ = some (.int .i64 x) := ld1_at hc rfl rfl
    have hr' : ls.drop (k + 1) = r := by
      have := congrArg List.tail hr
      rw [List.tail_drop] at this
      exact this
    rw [L49x4xeq, letK_eq, if_pos (by simp; omega), chk_of (by intro _; omega), adP_pos, atP_of, add_mk, Int.toNat_natCast, lin_ldN L hy, gCells_of]
    simp only [List.getElem?_cons_zero, List.getElem?_cons_succ]
    rw [gI_of, gB_of]
    show (Option.bind (E 50 [.agg [.int .i64 y, .bool false], .ptr (some ⟨cb, 0, 0⟩)] h) _) = _
    rw [e50, atP_of, hx, gI_of, letK_eq, Option.bind_some, gB_of]
    unfold idxF
    by_cases e : y = x
    · rw [if_pos e, if_pos (by simp [e]), X49x4xr]
    · rw [if_neg e, if_neg (by simp [e]), letK_eq, wrap64 (by omega) (by omega), show ((k : Int) + 1) = ((k + 1 : Nat) : Int) by omega]
      exact ih (k + 1) hr' (by omega)

end Go.Proofs.Ytecgpcpgklholaa.Z

/- caches: Delete and Insert of cache lines. -/
set_option linter.unusedVariables false
set_option linter.unusedSimpArgs false
namespace Go.Proofs.Ytecgpcpgklholaa.Z
open Go Go.Proofs.Ytecgpcpgklholaa.Abs Go.Proofs
open Go.Proofs.Ytecgpcpgklholaa.K (Old gI_any gB_any last_get set_last range_set range_get flat_ints ldSl_at VS vs_ld1 vs_take vs_old intC old_app)

theorem index_ok {h : Heap} {q v cb : Nat} {ls : List Int} {x : Int} (L : Lin h q v ls) (hc : h[cb]? = some (.cells [.int .i64 x] .fix 0)) (hn : ls.length ≤ 1000) : E 49 [.sl (.pos ⟨q, v, 0⟩) ls.length, .fn 50 [] [.ptr (some ⟨cb, 0, 0⟩)]] h = some (.int .i64 (idxF x ls 0), h) := by
  rw [e49]
  exact index_loop L hc hn ls 0 rfl (by omega)

theorem index_nil {h : Heap} {v1 : AV} : E 49 [.sl .nil 0, v1] h = some (.int .i64 (-1), h) := by
  rw [e49, L49x4xeq, letK_eq, if_neg (by simp), X49x4xe0]

theorem take_drop_flat {c : List AV} {l : List (Int × Bool)} {n a k : Nat} (h : c.take n = linC l) (hk : a + k ≤ n) : flatL ((c.drop a).take k) = true := by
  apply flat_get
  intro i u hu
  rw [List.getElem?_take] at hu
  split at hu
  · rename_i hi
    rw [List.getElem?_drop] at hu
    have : (linC l)[a + i]? = some u := by rw [← h, List.getElem?_take, if_pos (by omega)]; exact hu
    have := linC_pl this
    cases u <;> first | rfl | exact this.elim
  · cases hu

theorem stN_at {h : Heap} {q v o : Nat} {c : List AV} {m : Abs.Mode} {xs : List AV} (hb : h[q]? = some (.cells c m v)) (hm : m ≠ .ro) (ho : o + xs.length ≤ c.length) : stN h ⟨q, v, o⟩ xs = some (h.set q (.cells (splice o xs c) m v)) := by
  unfold stN
  simp only [hb]
  rw [if_pos ⟨trivial, hm, ho⟩]

theorem delete_ok {h : Heap} {q v i : Nat} {ls : List Int} (L : Lin h q v ls) (hi : i < ls.length) (hn : ls.length ≤ 1000) :
    ∃ h', E 51 [.sl (.pos ⟨q, v, 0⟩) ls.length, .int .i64 ((i : Nat) : Int), .int .i64 ((i + 1 : Nat) : Int)] h = some (.sl (.pos ⟨q, v, 0⟩) (ls.length - 1), h') ∧ Lin h' q v (ls.eraseIdx i) ∧ (∀ k x, h[k]? = some x → k ≠ q → h'[k]? = some x) ∧ h'.length = h.length := by
  obtain ⟨c, h1, h2, h3⟩ := L
  have es : ∀ (h : Heap) (c : List AV) (v : Nat), h[q]? = some (.cells c (.grow 2) v) → esOk h (.pos ⟨q, v, 0⟩) 2 := by
    intro h c v hb a ha
    cases ha
    exact ⟨_, hb, fun c e v he => by cases he; rfl⟩
  -- behind the append
  have app : ∃ ys h1' c1, (ldSl h (adS (.pos ⟨q, v, 0⟩) ((i + 1) * 2) (ls.length - (i + 1))) ((ls.length - (i + 1)) * 2)) = some ys ∧ apnd h (.sl (.pos ⟨q, v, 0⟩) i) 2 16 ys (ls.length - (i + 1)) = some (.sl (.pos ⟨q, v, 0⟩) (ls.length - 1), h1') ∧ h1'[q]? = some (.cells c1 (.grow 2) v) ∧ c1.length = c.length ∧
      (∀ j, c1[j]? = if i * 2 ≤ j ∧ j < (ls.length - 1) * 2 then c[j + 2]? else c[j]?) ∧ (∀ k x, h[k]? = some x → k ≠ q → h1'[k]? = some x) ∧ h1'.length = h.length := by
    cases hm : ls.length - (i + 1) with
    | zero =>
      refine ⟨[], h, c, rfl, ?_, h1, rfl, fun j => ?_, fun k x hk _ => hk, rfl⟩
      · rw [show ls.length - 1 = i by omega]; rfl
      · rw [if_neg (by omega)]
    | succ m =>
      have hfl : flatL ((c.drop ((i + 1) * 2)).take ((m + 1) * 2)) = true := take_drop_flat h2 (by omega)
      refine ⟨(c.drop ((i + 1) * 2)).take ((m + 1) * 2), h.set q (.cells (splice (i * 2) ((c.drop ((i + 1) * 2)).take ((m + 1) * 2)) c) (.grow 2) v), splice (i * 2) ((c.drop ((i + 1) * 2)).take ((m + 1) * 2)) c, ?_, ?_, set_same h1, ?_, fun j => ?_, fun k x hk hne => ?_, by simp⟩
      · show ldN h (Ad.add ⟨q, v, 0⟩ ((i + 1) * 2)) ((m + 1) * 2) = _
        rw [add_mk, Nat.zero_add]
        unfold ldN
        rw [h1]
        dsimp only
        rw [if_pos ⟨rfl, by omega, hfl⟩]
      · show (match h[q]? with
          | some (.cells c (.grow e) v') => _
          | _ => none) = _
        rw [h1]
        dsimp only
        rw [if_pos ⟨rfl, rfl, by omega, by omega⟩, if_pos (by omega), show i + (m + 1) = ls.length - 1 by omega, Nat.zero_add]
      · rw [splice_length]
        rw [List.length_take, List.length_drop]; omega
      · have hlen : ((c.drop ((i + 1) * 2)).take ((m + 1) * 2)).length = (m + 1) * 2 := by rw [List.length_take, List.length_drop]; omega
        rw [splice_get _ _ _ (by rw [hlen]; omega), hlen]
        by_cases hj : i * 2 ≤ j ∧ j < i * 2 + (m + 1) * 2
        · rw [if_pos hj, if_pos (by omega), List.getElem?_take, if_pos (by omega), List.getElem?_drop]
          congr 1; omega
        · rw [if_neg hj, if_neg (by omega)]
      · rw [set_other (fun e => hne e.symm)]; exact hk
  obtain ⟨ys, h1', c1, g1, g2, g3, g4, g5, g6, g7⟩ := app
  have hclr : clrM h1' (adS (.pos ⟨q, v, 0⟩) ((ls.length - 1) * 2) 1) 1 [.int .i64 0, .bool false] = some (h1'.set q (.cells (splice ((ls.length - 1) * 2) [.int .i64 0, .bool false] c1) (.grow 2) v)) := by
    show stN h1' (Ad.add ⟨q, v, 0⟩ ((ls.length - 1) * 2)) [.int .i64 0, .bool false] = _
    rw [add_mk, Nat.zero_add]
    exact stN_at g3 (by simp) (by simp only [List.length_cons, List.length_nil]; omega)
  refine ⟨h1'.set q (.cells (splice ((ls.length - 1) * 2) [.int .i64 0, .bool false] c1) (.grow 2) v), ?_, ⟨splice ((ls.length - 1) * 2) [.int .i64 0, .bool false] c1, set_same g3, ?_, ?_⟩, fun k x hk hne => ?_, by rw [List.length_set, g7]⟩
  · rw [e51, chkC_of (by intro _; exact ⟨by omega, by omega, by omega, .inl (by omega)⟩), letK_eq, if_neg (by simp; omega), chkC_of (by intro _; exact ⟨by omega, .inl (by omega)⟩), chkC_of (by intro _; exact ⟨by omega, by omega, es _ _ _ h1⟩), letK_eq, Int.toNat_natCast, letK_eq, g1, Option.bind_some, Int.toNat_natCast, g2, Option.bind_some, gL_of]
    dsimp only
    rw [chkC_of (by intro _; exact ⟨by omega, by omega, .inr ⟨_, _, _, rfl, g3, rfl, by show 0 + _ ≤ _; rw [Int.toNat_natCast]; omega⟩, es _ _ _ g3⟩), letK_eq, Int.toNat_natCast, Int.toNat_natCast, show ls.length - (ls.length - 1) = 1 by omega, letK_eq, hclr, Option.bind_some]
  · have hle : (ls.eraseIdx i).length = ls.length - 1 := by rw [List.length_eraseIdx, if_pos hi]
    rw [hle]
    apply List.ext_getElem?
    intro j
    rw [List.getElem?_take, linC_get]
    have hcl : ∀ k : Nat, (cln (ls.eraseIdx i))[k]? = ((ls.eraseIdx i)[k]?).map fun x => (x, false) := by intro k; unfold cln; rw [List.getElem?_map]
    by_cases hj : j < (ls.length - 1) * 2
    · rw [if_pos hj, splice_get _ _ _ (by simp only [List.length_cons, List.length_nil]; omega), if_neg (by omega), g5, hcl, List.getElem?_eraseIdx]
      have gc : ∀ k : Nat, k < ls.length * 2 → c[k]? = (linC (cln ls))[k]? := by
        intro k hk
        rw [← h2, List.getElem?_take, if_pos hk]
      have hcm : ∀ k : Nat, (cln ls)[k]? = (ls[k]?).map fun x => (x, false) := by intro k; unfold cln; rw [List.getElem?_map]
      by_cases hij : i * 2 ≤ j
      · rw [if_pos ⟨hij, hj⟩, if_neg (by omega), gc _ (by omega), linC_get, hcm, show (j + 2) / 2 = j / 2 + 1 by omega, show (j + 2) % 2 = j % 2 by omega]
      · rw [if_neg (by omega), if_pos (by omega), gc _ (by omega), linC_get, hcm]
    · rw [if_neg hj, hcl, List.getElem?_eq_none (by rw [hle]; omega)]
      rfl
  · rw [List.length_eraseIdx, if_pos hi, splice_length _ _ _ (by simp only [List.length_cons, List.length_nil]; omega)]
    omega
  · rw [set_other (fun e => hne e.symm)]
    exact g6 k x hk hne

theorem ins_nil {h : Heap} {va : Nat} {x : Int} {d : Bool} (hv : h[va]? = some (.cells [.int .i64 x, .bool d] (.grow 2) 0)) : E 52 [.sl .nil 0, .int .i64 0, .sl (.pos ⟨va, 0, 0⟩) 1] h = some (.sl (.pos ⟨h.length, 0, 0⟩) 1, h ++ [.cells (linC [(x, d)]) (.grow 2) 0]) := by
  unfold E
  rw [EV_prim (p := linP) (by unfold T0; rw [if_pos rfl])]
  unfold linP
  simp only [hv]
  simp only [Nat.zero_add, List.getElem?_cons_zero, List.getElem?_cons_succ]
  rw [if_pos ⟨trivial, by simp, trivial⟩, if_pos trivial]

theorem ins_ok {h : Heap} {q v va : Nat} {ls : List Int} {x : Int} {d : Bool} (L : Lin h q v ls) (hn : ls.length ≤ 1000) (hv : h[va]? = some (.cells [.int .i64 x, .bool d] (.grow 2) 0)) (hne : va ≠ q) : E 52 [.sl (.pos ⟨q, v, 0⟩) ls.length, .int .i64 0, .sl (.pos ⟨va, 0, 0⟩) 1] h = some (.sl (.pos ⟨q, v + 1, 0⟩) (ls.length + 1), h.set q (.cells (linC ((x, d) :: cln ls)) (.grow 2) (v + 1))) := by
  obtain ⟨c, h1, h2, h3⟩ := L
  have hl : ∃ l : List (Int × Bool), (c.drop 0).take (ls.length * 2) = linC l ∧ l.length = ls.length := ⟨cln ls, by rw [List.drop_zero]; exact h2, cln_len ls⟩
  unfold E
  rw [EV_prim (p := linP) (by unfold T0; rw [if_pos rfl])]
  unfold linP
  simp only [hv, h1]
  simp only [Nat.zero_add, List.getElem?_cons_zero, List.getElem?_cons_succ]
  rw [if_pos ⟨trivial, by simp, trivial⟩, dif_pos hl, if_pos ⟨trivial, by omega, hne, by omega⟩]
  have hcs := hl.choose_spec
  have : hl.choose = cln ls := by
    apply linC_inj
    rw [← hcs.1, List.drop_zero, h2]
  rw [this]

end Go.Proofs.Ytecgpcpgklholaa.Z

/- caches: a level in memory; an access to it. -/
set_option linter.unusedVariables false
set_option linter.unusedSimpArgs false
namespace Go.Proofs.Ytecgpcpgklholaa.Z
open Go Go.Proofs.Ytecgpcpgklholaa.Abs Go.Proofs
open Go.Proofs.Ytecgpcpgklholaa.K (Old gI_any gB_any last_get set_last range_set range_get flat_ints ldSl_at VS vs_ld1 vs_take vs_old intC old_app)

/-- The block of a header. -/
def hasB (u : AV) (q : Nat) : Prop := ∃ v n, u = .sl (.pos ⟨q, v, 0⟩) n

/-- A header and the lines behind it. -/
def SetAt (h : Heap) (u : AV) (ls : List Int) : Prop := (u = .sl .nil 0 ∧ ls = []) ∨ ∃ q v, u = .sl (.pos ⟨q, v, 0⟩) ls.length ∧ Lin h q v ls

theorem Lin.keep {h h' : Heap} {q v : Nat} {ls : List Int} (L : Lin h q v ls) (k : ∀ x, h[q]? = some x → h'[q]? = some x) : Lin h' q v ls := by
  obtain ⟨c, h1, h2, h3⟩ := L
  exact ⟨c, k _ h1, h2, h3⟩

theorem SetAt.keep {h h' : Heap} {u : AV} {ls : List Int} (A : SetAt h u ls) (k : ∀ q x, hasB u q → h[q]? = some x → h'[q]? = some x) : SetAt h' u ls := by
  rcases A with A | ⟨q, v, rfl, L⟩
  · exact .inl A
  · exact .inr ⟨q, v, rfl, L.keep fun x hx => k q x ⟨_, _, rfl⟩ hx⟩

theorem SetAt.lt {h : Heap} {u : AV} {ls : List Int} (A : SetAt h u ls) {q : Nat} (hq : hasB u q) : q < h.length := by
  rcases A with ⟨rfl, _⟩ | ⟨q', v, rfl, c, h1, _⟩
  · obtain ⟨v, n, e⟩ := hq; cases e
  · obtain ⟨v, n, e⟩ := hq
    cases e
    exact (List.getElem?_eq_some_iff.1 h1).1

theorem SetAt.flat {h : Heap} {u : AV} {ls : List Int} (A : SetAt h u ls) : flatA u = true := by
  rcases A with ⟨rfl, _⟩ | ⟨q', v, rfl, _⟩ <;> rfl

/-- A level: its bounds, for each set its lines and its header. -/
structure Lev where
  W : Int
  S : Nat
  K : Nat
  Mi : Int
  f : Nat → List Int
  u : Nat → AV

def Lev.put (L : Lev) (j : Nat) (u' : AV) (ls : List Int) : Lev := { L with f := fun i => if i = j then ls else L.f i, u := fun i => if i = j then u' else L.u i }

def Foot (L : Lev) (b sb q : Nat) : Prop := q = b ∨ q = sb ∨ ∃ i, i < L.S ∧ hasB (L.u i) q

def levC (L : Lev) (sb : Nat) : List AV := [.int .i64 L.W, .int .i64 (L.S : Int), .int .i64 (L.K : Int), .int .i64 L.Mi, .sl (.pos ⟨sb, 0, 0⟩) L.S]

structure LP (h : Heap) (b sb : Nat) (L : Lev) : Prop where
  c : h[b]? = some (.cells (levC L sb) .fix 0)
  s : h[sb]? = some (.cells ((List.range L.S).map L.u) (.grow 1) 0)
  n : b ≠ sb
  a : ∀ i, i < L.S → SetAt h (L.u i) (L.f i)
  d : ∀ i j q, i < L.S → j < L.S → i ≠ j → hasB (L.u i) q → ¬ hasB (L.u j) q
  e : ∀ i q, i < L.S → hasB (L.u i) q → q ≠ b ∧ q ≠ sb

theorem LP.lt {h : Heap} {b sb : Nat} {L : Lev} (P : LP h b sb L) {q : Nat} (hq : Foot L b sb q) : q < h.length := by
  rcases hq with rfl | rfl | ⟨i, hi, hq⟩
  · exact (List.getElem?_eq_some_iff.1 P.c).1
  · exact (List.getElem?_eq_some_iff.1 P.s).1
  · exact (P.a i hi).lt hq

theorem LP.keep {h h' : Heap} {b sb : Nat} {L : Lev} (P : LP h b sb L) (k : ∀ q x, Foot L b sb q → h[q]? = some x → h'[q]? = some x) : LP h' b sb L :=
  ⟨k _ _ (.inl rfl) P.c, k _ _ (.inr (.inl rfl)) P.s, P.n, fun i hi => (P.a i hi).keep fun q x hq hx => k q x (.inr (.inr ⟨i, hi, hq⟩)) hx, P.d, P.e⟩

theorem lev_set {h h1 : Heap} {b sb j : Nat} {L : Lev} (P : LP h b sb L) (hj : j < L.S) (k : ∀ q x, h[q]? = some x → ¬ hasB (L.u j) q → h1[q]? = some x) {u' : AV} {ls' : List Int} (A : SetAt h1 u' ls') (hb : ∀ q, hasB u' q → hasB (L.u j) q ∨ h.length ≤ q) :
    ∃ h2, st1 h1 ⟨sb, 0, 0 + j * 1⟩ u' = some h2 ∧ LP h2 b sb (L.put j u' ls') ∧ (∀ q x, h[q]? = some x → ¬ Foot L b sb q → h2[q]? = some x) ∧ (∀ q, Foot (L.put j u' ls') b sb q → Foot L b sb q ∨ h.length ≤ q) ∧ h2.length = h1.length := by
  have s1 : h1[sb]? = some (.cells ((List.range L.S).map L.u) (.grow 1) 0) := k _ _ P.s fun hh => (P.e j sb hj hh).2 rfl
  have b1 : h1[b]? = some (.cells (levC L sb) .fix 0) := k _ _ P.c fun hh => (P.e j b hj hh).1 rfl
  have lb := (List.getElem?_eq_some_iff.1 P.c).1
  have ls := (List.getElem?_eq_some_iff.1 P.s).1
  refine ⟨h1.set sb (.cells ((List.range L.S).map (L.put j u' ls').u) (.grow 1) 0), ?_, ⟨?_, set_same s1, P.n, ?_, ?_, ?_⟩, ?_, ?_, by simp⟩
  · rw [st1_at s1 (by simp) (by simp; omega), show 0 + j * 1 = j by omega, range_set]
    rfl
  · rw [set_other (fun e => P.n e.symm)]; exact b1
  · intro i hi
    show SetAt _ (if i = j then u' else L.u i) (if i = j then ls' else L.f i)
    by_cases e : i = j
    · rw [if_pos e, if_pos e]
      refine A.keep fun q x hq hx => ?_
      rw [set_other]
      · exact hx
      · intro e'
        rcases hb q hq with hh | hh
        · exact (P.e j q hj hh).2 e'.symm
        · omega
    · rw [if_neg e, if_neg e]
      refine (P.a i hi).keep fun q x hq hx => ?_
      rw [set_other fun e' => (P.e i q hi hq).2 e'.symm]
      exact k q x hx (P.d i j q hi hj e hq)
  · intro i m q hi hm hne h1q h2q
    have h1q' : hasB (if i = j then u' else L.u i) q := h1q
    have h2q' : hasB (if m = j then u' else L.u m) q := h2q
    by_cases ei : i = j
    · rw [if_pos ei] at h1q'
      rw [if_neg (by omega)] at h2q'
      rcases hb q h1q' with hh | hh
      · exact P.d j m q hj hm (by omega) hh h2q'
      · have := (P.a m hm).lt h2q'; omega
    · rw [if_neg ei] at h1q'
      by_cases em : m = j
      · rw [if_pos em] at h2q'
        rcases hb q h2q' with hh | hh
        · exact P.d i j q hi hj ei h1q' hh
        · have := (P.a i hi).lt h1q'; omega
      · rw [if_neg em] at h2q'
        exact P.d i m q hi hm hne h1q' h2q'
  · intro i q hi hq
    have hq' : hasB (if i = j then u' else L.u i) q := hq
    by_cases ei : i = j
    · rw [if_pos ei] at hq'
      rcases hb q hq' with hh | hh
      · exact P.e j q hj hh
      · exact ⟨by omega, by omega⟩
    · rw [if_neg ei] at hq'
      exact P.e i q hi hq'
  · intro q x hx hn
    rw [set_other fun e => hn (.inr (.inl e.symm))]
    exact k q x hx fun hh => hn (.inr (.inr ⟨j, hj, hh⟩))
  · rintro q (hq | hq | ⟨i, hi, hq⟩)
    · exact .inl (.inl hq)
    · exact .inl (.inr (.inl hq))
    · have hq' : hasB (if i = j then u' else L.u i) q := hq
      by_cases ei : i = j
      · rw [if_pos ei] at hq'
        rcases hb q hq' with hh | hh
        · exact .inl (.inr (.inr ⟨j, hj, hh⟩))
        · exact .inr hh
      · rw [if_neg ei] at hq'
        exact .inl (.inr (.inr ⟨i, hi, hq'⟩))

theorem put_put (L : Lev) (j : Nat) (u v : AV) (ls ms : List Int) : (L.put j u ls).put j v ms = L.put j v ms := by
  unfold Lev.put
  congr 1
  · funext i; dsimp only; split <;> rfl
  · funext i; dsimp only; split <;> rfl

theorem tail_ok {h : Heap} {b sb j : Nat} {L : Lev} (P : LP h b sb L) (hj : j < L.S) (hl : (L.f j).length ≤ 900) (i11 old line : Int) (d : Bool) :
    ∃ h' u', J46x14 mk0 E false old d (some ⟨sb, 0, 0 + j * 1⟩) i11 line false h = some (.tup [.bool (decide (0 ≤ i11)), .int .i64 old, .bool d], h') ∧ LP h' b sb (L.put j u' (line :: L.f j)) ∧ (∀ q x, h[q]? = some x → ¬ Foot L b sb q → h'[q]? = some x) ∧ (∀ q, Foot (L.put j u' (line :: L.f j)) b sb q → Foot L b sb q ∨ h.length ≤ q) ∧ h.length ≤ h'.length := by
  have g1 : ld1 h ⟨sb, 0, 0 + j * 1⟩ = some (L.u j) := ld1_at P.s (by rw [show 0 + j * 1 = j by omega]; exact range_get hj) (P.a j hj).flat
  have A := P.a j hj
  have ga : ∀ (K : Ad → Res) (a : Ad), atP (some a) true K = K a := fun _ _ => rfl
  have cl : cln [line] = [(line, false)] := rfl
  have fb : (if false = true then true else false) = false := rfl
  rw [J46x14xeq, letK_eq, ga, g1, fb]
  rcases A with ⟨e, el⟩ | ⟨q, v, e, Li⟩
  · rw [e, gL_of, newK_eq, ins_nil (va := h.length) (x := line) (d := false) (last_get _ _), Option.bind_some, gL_of, ga]
    obtain ⟨h2, t1, t2, t3, t4, t5⟩ := lev_set (h1 := h ++ [Blk.cells [.int .i64 line, .bool false] (.grow 2) 0] ++ [.cells (linC [(line, false)]) (.grow 2) 0]) P hj (u' := .sl (.pos ⟨(h ++ [Blk.cells [.int .i64 line, .bool false] (.grow 2) 0]).length, 0, 0⟩) 1) (ls' := [line])
      (fun q x hx _ => app_old (app_old hx))
      (.inr ⟨_, _, rfl, _, last_get _ _, by rfl, Nat.le_refl _⟩)
      (by rintro q ⟨v, n, e⟩; cases e; exact .inr (by simp))
    rw [el]
    refine ⟨h2, _, ?_, t2, t3, t4, by rw [t5]; simp; try omega⟩
    dsimp only
    rw [t1]
    rfl
  · have hne : h.length ≠ q := by
      obtain ⟨c, h1, _⟩ := Li
      have := (List.getElem?_eq_some_iff.1 h1).1
      omega
    have Li' : Lin (h ++ [.cells [.int .i64 line, .bool false] (.grow 2) 0]) q v (L.f j) := Li.keep fun x hx => app_old hx
    rw [e, gL_of, newK_eq, ins_ok Li' (by omega) (va := h.length) (x := line) (d := false) (last_get _ _) hne, Option.bind_some, gL_of, ga]
    obtain ⟨h2, t1, t2, t3, t4, t5⟩ := lev_set (h1 := (h ++ [Blk.cells [.int .i64 line, .bool false] (.grow 2) 0]).set q (Blk.cells (linC ((line, false) :: cln (L.f j))) (.grow 2) (v + 1))) P hj (u' := .sl (.pos ⟨q, v + 1, 0⟩) ((L.f j).length + 1)) (ls' := line :: L.f j)
      (fun q' x hx hn => by
        rw [set_other (fun e' => hn (by rw [e, ← e']; exact ⟨_, _, rfl⟩))]
        exact app_old hx)
      (.inr ⟨q, v + 1, rfl, linC ((line, false) :: cln (L.f j)), by
        obtain ⟨c, h1, _⟩ := Li'
        exact set_same h1, by
        have : linC (cln (line :: L.f j)) = linC ((line, false) :: cln (L.f j)) := rfl
        rw [this]
        apply List.take_of_length_le
        rw [linC_len]
        simp [cln_len], by rw [linC_len]; simp [cln_len]⟩)
      (by rintro q' ⟨v', n', e'⟩; cases e'; exact .inl (by rw [e]; exact ⟨_, _, rfl⟩))
    refine ⟨h2, _, ?_, t2, t3, t4, by rw [t5]; simp; try omega⟩
    dsimp only
    rw [t1]
    rfl

/-- What an access makes of the lines of a set. -/
def touch (K : Nat) (x : Int) (ls : List Int) : List Int := x :: (if 0 ≤ idxF x ls 0 then ls.eraseIdx (idxF x ls 0).toNat else if ls.length = K then ls.dropLast else ls)

theorem idxF_spec (x : Int) : ∀ (ls : List Int) (k : Nat), (idxF x ls k = -1 ∧ x ∉ ls) ∨ ∃ i : Nat, idxF x ls k = ((k + i : Nat) : Int) ∧ ls[i]? = some x ∧ ∀ m, m < i → ls[m]? ≠ some x
  | [], k => .inl ⟨rfl, by simp⟩
  | y :: l, k => by
    unfold idxF
    by_cases e : y = x
    · rw [if_pos e]
      exact .inr ⟨0, rfl, by simp [e], fun m hm => by omega⟩
    · rw [if_neg e]
      rcases idxF_spec x l (k + 1) with ⟨h1, h2⟩ | ⟨i, h1, h2, h3⟩
      · exact .inl ⟨h1, by simp [h2]; exact fun h => e h.symm⟩
      · refine .inr ⟨i + 1, by rw [h1]; congr 1; omega, by simpa using h2, fun m hm => ?_⟩
        cases m with
        | zero => simpa using e
        | succ m => rw [List.getElem?_cons_succ]; exact h3 m (by omega)

theorem access_ok {h : Heap} {b sb : Nat} {L : Lev} (P : LP h b sb L) (hW : 1 ≤ L.W) (hS : 1 ≤ L.S) (hS2 : L.S ≤ 256) (hK : 1 ≤ L.K) (hK2 : L.K ≤ 8) (hl : ∀ i, i < L.S → (L.f i).length ≤ L.K) {w : Int} (h0 : 0 ≤ w) (h1 : w ≤ 65535)
    {j : Nat} (hj : (w / L.W) % (L.S : Int) = (j : Int)) :
    ∃ h' u' old, E 46 [.ptr (some ⟨b, 0, 0⟩), .int .i64 w, .bool false] h = some (.tup [.bool (decide (0 ≤ idxF (w / L.W) (L.f j) 0)), .int .i64 old, .bool false], h') ∧ LP h' b sb (L.put j u' (touch L.K (w / L.W) (L.f j))) ∧ (∀ q x, h[q]? = some x → ¬ Foot L b sb q → h'[q]? = some x) ∧ (∀ q, Foot (L.put j u' (touch L.K (w / L.W) (L.f j))) b sb q → Foot L b sb q ∨ h.length ≤ q) ∧ h.length ≤ h'.length := by
  have ga : ∀ (K : Ad → Res) (a : Ad), atP (some a) true K = K a := fun _ _ => rfl
  have hjS : j < L.S := by
    have := Int.emod_lt_of_pos (w / L.W) (show (0 : Int) < L.S by omega)
    omega
  have r0 : ld1 h ⟨b, 0, 0 + 0 + 0⟩ = some (.int .i64 L.W) := ld1_at P.c rfl rfl
  have q0 : 0 ≤ w / L.W := Int.ediv_nonneg h0 (by omega)
  have q1 : w / L.W ≤ w := Int.ediv_le_self _ h0
  have td : Int.tdiv w L.W = w / L.W := Int.tdiv_eq_ediv_of_nonneg h0
  generalize hx : w / L.W = x at *
  generalize hh3 : h ++ [Blk.cells [AV.int .i64 x] .fix 0] = h3
  have hst : st1 (h ++ [Blk.cells [AV.int .i64 0] .fix 0]) ⟨h.length, 0, 0⟩ (.int .i64 x) = some h3 := by
    rw [st1_at (last_get _ _) (by simp) (by simp), set_last, ← hh3]
    rfl
  have old3 : ∀ q y, h[q]? = some y → h3[q]? = some y := fun q y hy => by rw [← hh3]; exact app_old hy
  have P3 : LP h3 b sb L := P.keep fun q y _ hy => old3 q y hy
  have len3 : h.length ≤ h3.length := by rw [← hh3]; simp
  have c3 : h3[h.length]? = some (.cells [.int .i64 x] .fix 0) := by rw [← hh3]; exact last_get _ _
  have r1 : ld1 h3 ⟨b, 0, 0 + 4⟩ = some (.sl (.pos ⟨sb, 0, 0⟩) L.S) := ld1_at P3.c rfl rfl
  have r2 : ld1 h3 ⟨h.length, 0, 0⟩ = some (.int .i64 x) := ld1_at c3 rfl rfl
  have r3 : ld1 h3 ⟨b, 0, 0 + 0 + 1⟩ = some (.int .i64 (L.S : Int)) := ld1_at P3.c rfl rfl
  have r4 : ld1 h3 ⟨sb, 0, 0 + j * 1⟩ = some (L.u j) := ld1_at P3.s (by rw [show 0 + j * 1 = j by omega]; exact range_get hjS) (P3.a j hjS).flat
  have r5 : ld1 h3 ⟨b, 0, 0 + 0 + 2⟩ = some (.int .i64 (L.K : Int)) := ld1_at P3.c rfl rfl
  have tm : Int.tmod x (L.S : Int) = (j : Int) := by rw [Int.tmod_eq_emod_of_nonneg q0]; exact hj
  have hlj := hl j hjS
  rw [e46, ga, add_mk, add_mk, r0, gI_of, chk_of (by intro _; omega), td, wrap64 (by omega) (by omega), letK_eq, newK_eq, hst, Option.bind_some, ga, add_mk, r1, gL_of, r2, gI_of, ga, add_mk, add_mk, r3, gI_of, chk_of (by intro _; omega), tm, letK_eq, chk_of (by intro _; omega), adP_pos, ga, add_mk, Int.toNat_natCast, r4]
  have hSA := P3.a j hjS
  rcases hSA with ⟨e, el⟩ | ⟨q, v, e, Li⟩
  · rw [e] at r4 ⊢
    have hi : idxF x (L.f j) 0 = -1 := by rw [el]; rfl
    have ht : touch L.K x (L.f j) = x :: L.f j := by
      unfold touch
      rw [hi, if_neg (by omega), el]
      split <;> rfl
    rw [gL_of, index_nil, Option.bind_some, gI_of, r2, gI_of, letK_eq, if_neg (by simp), r4, gL_of, ga, add_mk, add_mk, r5, gI_of, letK_eq, if_neg (by simp; omega), J46x13xeq]
    obtain ⟨h', u', t1, t2, t3, t4, t5⟩ := tail_ok P3 hjS (by omega) (-1) 0 x false
    refine ⟨h', u', 0, ?_, by rw [ht]; exact t2, fun q y hy hn => t3 q y (old3 q y hy) hn, fun q hq => ?_, by omega⟩
    · rw [t1, hi]
    · rw [ht] at hq
      rcases t4 q hq with hh | hh
      · exact .inl hh
      · exact .inr (by omega)
  · rw [e] at r4 ⊢
    rw [gL_of, index_ok Li c3 (by omega), Option.bind_some, gI_of, r2, gI_of, letK_eq]
    have oB : ∀ {h4 : Heap} {u4 : AV} {l4 : List Int} (hh : LP h4 b sb (L.put j u4 l4)) (i11 old : Int), l4.length ≤ 900 → (∀ q x, h3[q]? = some x → ¬ Foot L b sb q → h4[q]? = some x) → (∀ q, Foot (L.put j u4 l4) b sb q → Foot L b sb q ∨ h3.length ≤ q) → h4.length = h3.length →
        ∃ h' u', J46x14 mk0 E false old false (some ⟨sb, 0, 0 + j * 1⟩) i11 x false h4 = some (.tup [.bool (decide (0 ≤ i11)), .int .i64 old, .bool false], h') ∧ LP h' b sb (L.put j u' (x :: l4)) ∧ (∀ q x, h[q]? = some x → ¬ Foot L b sb q → h'[q]? = some x) ∧ (∀ q, Foot (L.put j u' (x :: l4)) b sb q → Foot L b sb q ∨ h.length ≤ q) ∧ h.length ≤ h'.length := by
      intro h4 u4 l4 P4 i11 old hl4 k4 f4 len4
      have fj : (L.put j u4 l4).f j = l4 := if_pos rfl
      obtain ⟨h', u', t1, t2, t3, t4, t5⟩ := tail_ok (j := j) P4 hjS (by rw [fj]; exact hl4) i11 old x false
      rw [put_put, fj] at t2 t4
      refine ⟨h', u', t1, t2, fun q y hy hn => t3 q y (k4 q y (old3 q y hy) hn) fun hh => ?_, fun q hq => ?_, by omega⟩
      · have := (List.getElem?_eq_some_iff.1 hy).1
        rcases f4 q hh with h5 | h5
        · exact hn h5
        · omega
      · rcases t4 q hq with hh | hh
        · rcases f4 q hh with h5 | h5
          · exact .inl h5
          · exact .inr (by omega)
        · exact .inr (by omega)
    rcases idxF_spec x (L.f j) 0 with ⟨hi, hnot⟩ | ⟨i, hi, hxi, _⟩
    · rw [hi, if_neg (by simp), r4, gL_of, ga, add_mk, add_mk, r5, gI_of, letK_eq]
      by_cases hfull : (L.f j).length = L.K
      · have hlast : ∃ y, (L.f j)[(L.f j).length - 1]? = some y := ⟨_, List.getElem?_eq_getElem (by omega)⟩
        obtain ⟨y, hy⟩ := hlast
        have hc : ((L.f j).length : Int) - 1 = (((L.f j).length - 1 : Nat) : Int) := by omega
        rw [if_pos (by simp [hfull]), gL_of, gL_of, letK_eq, wrap64 (by omega) (by omega), chk_of (by intro _; omega), adP_pos, ga, hc, Int.toNat_natCast, add_mk, lin_ldN Li hy, gCells_of]
        simp only [List.getElem?_cons_zero, List.getElem?_cons_succ]
        rw [gI_of, gB_of, gL_of, gL_of, letK_eq, wrap64 (by omega) (by omega), hc, chkC_of (by intro _; exact ⟨by omega, .inl (by omega)⟩), letK_eq, Int.toNat_natCast]
        have Ld : SetAt h3 (.sl (.pos ⟨q, v, 0⟩) ((L.f j).length - 1)) (L.f j).dropLast := by
          refine .inr ⟨q, v, by rw [List.length_dropLast], ?_⟩
          obtain ⟨c, k1, k2, k3⟩ := Li
          refine ⟨c, k1, ?_, by rw [List.length_dropLast]; omega⟩
          rw [List.length_dropLast]
          apply List.ext_getElem?
          intro m
          have := congrArg (fun l => l[m]?) k2
          simp only [List.getElem?_take, linC_get] at this ⊢
          have hcm : ∀ (l : List Int) (k : Nat), (cln l)[k]? = (l[k]?).map fun x => (x, false) := by intro l k; unfold cln; rw [List.getElem?_map]
          rw [hcm] at this ⊢
          rw [List.getElem?_dropLast]
          by_cases hm : m < ((L.f j).length - 1) * 2
          · rw [if_pos hm, if_pos (by omega)]
            rw [if_pos (by omega)] at this
            exact this
          · rw [if_neg hm, if_neg (by omega)]
            rfl
        obtain ⟨h4, s1, s2, s3, s4, s5⟩ := lev_set P3 hjS (h1 := h3) (fun _ _ hx _ => hx) Ld (by rintro q' ⟨v', n', e'⟩; cases e'; exact .inl (by rw [e]; exact ⟨_, _, rfl⟩))
        obtain ⟨h', u', t1, t2, t3, t4, t5⟩ := oB s2 (-1) y (by rw [List.length_dropLast]; omega) s3 s4 s5
        have ht : touch L.K x (L.f j) = x :: (L.f j).dropLast := by
          unfold touch
          rw [hi, if_neg (by omega), if_pos hfull]
        rw [s1, Option.bind_some, J46x13xeq, t1, ht]
        exact ⟨h', u', y, rfl, t2, t3, t4, t5⟩
      · rw [if_neg (by simp; omega), J46x13xeq]
        obtain ⟨h', u', t1, t2, t3, t4, t5⟩ := tail_ok P3 hjS (by omega) (-1) 0 x false
        have ht : touch L.K x (L.f j) = x :: L.f j := by
          unfold touch
          rw [hi, if_neg (by omega), if_neg hfull]
        refine ⟨h', u', 0, ?_, by rw [ht]; exact t2, fun q y hy hn => t3 q y (old3 q y hy) hn, fun q hq => ?_, by omega⟩
        · rw [t1]
        · rw [ht] at hq
          rcases t4 q hq with hh | hh
          · exact .inl hh
          · exact .inr (by omega)
    · have hil := (List.getElem?_eq_some_iff.1 hxi).1
      rw [Nat.zero_add] at hi
      rw [hi, if_pos (by simp), r4, gL_of, chk_of (by intro _; omega), adP_pos, ga, Int.toNat_natCast, add_mk, lin_ldN Li hxi, gCells_of]
      simp only [List.getElem?_cons_zero, List.getElem?_cons_succ]
      obtain ⟨h4, d1, d2, d3, d4⟩ := delete_ok Li hil (by omega)
      rw [gI_of, gB_of, gL_of, letK_eq, wrap64 (by omega) (by omega), show ((i : Int) + 1) = ((i + 1 : Nat) : Int) by omega, d1, Option.bind_some, gL_of]
      have Le : SetAt h4 (.sl (.pos ⟨q, v, 0⟩) ((L.f j).length - 1)) ((L.f j).eraseIdx i) := .inr ⟨q, v, by rw [List.length_eraseIdx, if_pos hil], d2⟩
      obtain ⟨h5, s1, s2, s3, s4, s5⟩ := lev_set P3 hjS (h1 := h4) (fun q' x hx hn => d3 q' x hx fun e' => hn (by rw [e, e']; exact ⟨_, _, rfl⟩)) Le (by rintro q' ⟨v', n', e'⟩; cases e'; exact .inl (by rw [e]; exact ⟨_, _, rfl⟩))
      obtain ⟨h', u', t1, t2, t3, t4, t5⟩ := oB s2 (i : Int) 0 (by rw [List.length_eraseIdx, if_pos hil]; omega) s3 s4 (s5.trans d4)
      have ht : touch L.K x (L.f j) = x :: (L.f j).eraseIdx i := by
        unfold touch
        rw [hi, if_pos (by omega), Int.toNat_natCast]
      rw [s1, Option.bind_some, t1, ht]
      exact ⟨h', u', 0, rfl, t2, t3, t4, t5⟩

end Go.Proofs.Ytecgpcpgklholaa.Z

/- caches: New, Access and the count of misses. -/
set_option linter.unusedVariables false
set_option linter.unusedSimpArgs false
namespace Go.Proofs.Ytecgpcpgklholaa.Z
open Go Go.Proofs.Ytecgpcpgklholaa.Abs Go.Proofs
open Go.Proofs.Ytecgpcpgklholaa.K (Old gI_any gB_any last_get set_last range_set range_get flat_ints ldSl_at VS vs_ld1 vs_take vs_old intC old_app)

structure LB (L : Lev) : Prop where
  w1 : 1 ≤ L.W
  w2 : L.W ≤ 64
  s1 : 1 ≤ L.S
  s2 : L.S ≤ 256
  k1 : 1 ≤ L.K
  k2 : L.K ≤ 8
  m1 : 0 ≤ L.Mi
  m2 : L.Mi ≤ 1000
  l : ∀ i, i < L.S → (L.f i).length ≤ L.K

theorem touch_len {K : Nat} {x : Int} {ls : List Int} (h : ls.length ≤ K) (hk : 1 ≤ K) : (touch K x ls).length ≤ K := by
  unfold touch
  rcases idxF_spec x ls 0 with ⟨h1, _⟩ | ⟨i, h1, h2, _⟩
  · rw [h1, if_neg (by omega)]
    split
    · rw [List.length_cons, List.length_dropLast]; omega
    · rw [List.length_cons]; omega
  · have := (List.getElem?_eq_some_iff.1 h2).1
    rw [h1, if_pos (by omega), Int.toNat_natCast, List.length_cons, List.length_eraseIdx, Nat.zero_add, if_pos this]
    omega

/-- Which set, is it there, and what is there behind it. -/
def Lev.at (L : Lev) (w : Int) : Nat := ((w / L.W) % (L.S : Int)).toNat
def Lev.hit (L : Lev) (w : Int) : Bool := decide (0 ≤ idxF (w / L.W) (L.f (L.at w)) 0)
def Lev.nf (L : Lev) (w : Int) : Nat → List Int := fun i => if i = L.at w then touch L.K (w / L.W) (L.f (L.at w)) else L.f i

theorem Lev.at_lt {L : Lev} (B : LB L) (w : Int) : L.at w < L.S ∧ (w / L.W) % (L.S : Int) = ((L.at w : Nat) : Int) := by
  have h1 := B.s1
  have := Int.emod_lt_of_pos (w / L.W) (show (0 : Int) < L.S by omega)
  have := Int.emod_nonneg (w / L.W) (show (L.S : Int) ≠ 0 by omega)
  unfold Lev.at
  omega

theorem acc_ok {h : Heap} {b sb : Nat} {L : Lev} (P : LP h b sb L) (B : LB L) {w : Int} (h0 : 0 ≤ w) (h1 : w ≤ 65535) :
    ∃ h' L' old, E 46 [.ptr (some ⟨b, 0, 0⟩), .int .i64 w, .bool false] h = some (.tup [.bool (L.hit w), .int .i64 old, .bool false], h') ∧ LP h' b sb L' ∧ LB L' ∧ L'.f = L.nf w ∧ L'.W = L.W ∧ L'.S = L.S ∧ L'.K = L.K ∧ L'.Mi = L.Mi ∧ (∀ q x, h[q]? = some x → ¬ Foot L b sb q → h'[q]? = some x) ∧ (∀ q, Foot L' b sb q → Foot L b sb q ∨ h.length ≤ q) ∧ h.length ≤ h'.length := by
  obtain ⟨h', u', old, t1, t2, t3, t4, t5⟩ := access_ok P B.w1 B.s1 B.s2 B.k1 B.k2 B.l h0 h1 (L.at_lt B w).2
  refine ⟨h', _, old, t1, t2, ⟨B.w1, B.w2, B.s1, B.s2, B.k1, B.k2, B.m1, B.m2, fun i hi => ?_⟩, rfl, rfl, rfl, rfl, rfl, t3, t4, t5⟩
  show (if i = L.at w then touch L.K (w / L.W) (L.f (L.at w)) else L.f i).length ≤ L.K
  split
  · exact touch_len (B.l _ (L.at_lt B w).1) B.k1
  · exact B.l i hi

structure CP (h : Heap) (cb b1 s1 b2 s2 : Nat) (L1 L2 : Lev) (m : Int) (n0 : Nat) : Prop where
  c : h[cb]? = some (.cells [.ptr (some ⟨b1, 0, 0⟩), .ptr (some ⟨b2, 0, 0⟩), .int .i64 m] .fix 0)
  p1 : LP h b1 s1 L1
  p2 : LP h b2 s2 L2
  d : ∀ q, Foot L1 b1 s1 q → ¬ Foot L2 b2 s2 q
  f1 : ¬ Foot L1 b1 s1 cb
  f2 : ¬ Foot L2 b2 s2 cb
  o1 : ∀ q, Foot L1 b1 s1 q → n0 ≤ q
  o2 : ∀ q, Foot L2 b2 s2 q → n0 ≤ q
  oc : n0 ≤ cb

theorem caccess_ok {h : Heap} {cb b1 s1 b2 s2 : Nat} {L1 L2 : Lev} {m : Int} {n0 : Nat} (C : CP h cb b1 s1 b2 s2 L1 L2 m n0) (B1 : LB L1) (B2 : LB L2) {w : Int} (h0 : 0 ≤ w) (h1 : w ≤ 65535) (m0 : 0 ≤ m) (m1 : m ≤ 1000) :
    ∃ h' L1' L2', E 38 [.ptr (some ⟨cb, 0, 0⟩), .int .i64 w, .bool false] h = some (.tup [.int .i64 (if L1.hit w = true then 0 else if L2.hit w = true then L1.Mi else L1.Mi + L2.Mi), .int .i64 0], h') ∧ CP h' cb b1 s1 b2 s2 L1' L2' (if L1.hit w = true then m else m + 1) n0 ∧ LB L1' ∧ LB L2' ∧
      L1'.f = L1.nf w ∧ L1'.W = L1.W ∧ L1'.S = L1.S ∧ L1'.K = L1.K ∧ (∀ q x, q < n0 → h[q]? = some x → h'[q]? = some x) := by
  have ga : ∀ (K : Ad → Res) (a : Ad), atP (some a) true K = K a := fun _ _ => rfl
  obtain ⟨h2, M1, old, t1, t2, t3, t4, t5, t6, t7, t8, t9, t10, t11⟩ := acc_ok C.p1 B1 h0 h1
  have r0 : ld1 h ⟨cb, 0, 0 + 0⟩ = some (.ptr (some ⟨b1, 0, 0⟩)) := ld1_at C.c rfl rfl
  have c2 := t9 _ _ C.c C.f1
  have lc := (List.getElem?_eq_some_iff.1 C.c).1
  have lt2 : ∀ q, Foot L2 b2 s2 q → q < h.length := fun q hq => C.p2.lt hq
  have n0h : n0 ≤ h.length := by have := C.oc; omega
  have P2 : LP h2 b2 s2 L2 := C.p2.keep fun q x hq hx => t9 q x hx fun hh => C.d q hh hq
  have hin : inB w 0 65535 = true := by simp [inB]; omega
  rw [e38, in_ok, hin, Option.bind_some, gB_of, if_neg (by simp), ga, add_mk, r0, gP_of, t1, Option.bind_some, gT3_of]
  simp only [List.getD_cons_zero, List.getD_cons_succ]
  rw [gB_of, gI_of, gB_of]
  cases hh : L1.hit w with
  | true =>
    simp only [if_true]
    refine ⟨h2, M1, L2, rfl, ⟨c2, t2, P2, ?_, ?_, C.f2, ?_, C.o2, C.oc⟩, t3, B2, t4, t5, t6, t7, fun q x hq hx => t9 q x hx fun hf => by have := C.o1 q hf; omega⟩
    · intro q hq
      rcases t10 q hq with h3 | h3
      · exact C.d q h3
      · intro h4; have := lt2 q h4; omega
    · intro hf
      rcases t10 _ hf with h3 | h3
      · exact C.f1 h3
      · omega
    · intro q hq
      rcases t10 q hq with h3 | h3
      · exact C.o1 q h3
      · omega
  | false =>
    simp only [Bool.false_eq_true, if_false]
    have r1 : ld1 h2 ⟨cb, 0, 0 + 2⟩ = some (.int .i64 m) := ld1_at c2 rfl rfl
    rw [ga, add_mk, r1, gI_of, letK_eq, wrap64 (by omega) (by omega), ga, add_mk, st1_at c2 (by simp) (by simp), Option.bind_some]
    have hset : ([.ptr (some ⟨b1, 0, 0⟩), .ptr (some ⟨b2, 0, 0⟩), .int .i64 m] : List AV).set (0 + 2) (.int .i64 (m + 1)) = [.ptr (some ⟨b1, 0, 0⟩), .ptr (some ⟨b2, 0, 0⟩), .int .i64 (m + 1)] := rfl
    rw [hset]
    generalize hg : h2.set cb (.cells [.ptr (some ⟨b1, 0, 0⟩), .ptr (some ⟨b2, 0, 0⟩), .int .i64 (m + 1)] .fix 0) = h3
    have c3 : h3[cb]? = some (.cells [.ptr (some ⟨b1, 0, 0⟩), .ptr (some ⟨b2, 0, 0⟩), .int .i64 (m + 1)] .fix 0) := by rw [← hg]; exact set_same c2
    have k3 : ∀ q x, q ≠ cb → h2[q]? = some x → h3[q]? = some x := fun q x hq hx => by rw [← hg, set_other (fun e => hq e.symm)]; exact hx
    have nf1 : ¬ Foot M1 b1 s1 cb := fun hf => by
      rcases t10 _ hf with h4 | h4
      · exact C.f1 h4
      · omega
    have P1' : LP h3 b1 s1 M1 := t2.keep fun q x hq hx => k3 q x (fun e => nf1 (by rw [← e]; exact hq)) hx
    have P2' : LP h3 b2 s2 L2 := P2.keep fun q x hq hx => k3 q x (fun e => C.f2 (by rw [← e]; exact hq)) hx
    have l32 : h3.length = h2.length := by rw [← hg]; simp
    obtain ⟨h4, M2, old2, u1, u2, u3, u4, u5, u6, u7, u8, u9, u10, u11⟩ := acc_ok P2' B2 h0 h1
    have q0 : ld1 h3 ⟨cb, 0, 0 + 0⟩ = some (.ptr (some ⟨b1, 0, 0⟩)) := ld1_at c3 rfl rfl
    have q1 : ld1 h3 ⟨cb, 0, 0 + 1⟩ = some (.ptr (some ⟨b2, 0, 0⟩)) := ld1_at c3 rfl rfl
    have q2 : ld1 h3 ⟨b1, 0, 0 + 0 + 3⟩ = some (.int .i64 L1.Mi) := by rw [← t8]; exact ld1_at P1'.c rfl rfl
    have c4 := u9 _ _ c3 C.f2
    have q3 : ld1 h4 ⟨cb, 0, 0 + 1⟩ = some (.ptr (some ⟨b2, 0, 0⟩)) := ld1_at c4 rfl rfl
    have q4 : ld1 h4 ⟨b2, 0, 0 + 0 + 3⟩ = some (.int .i64 L2.Mi) := by rw [← u8]; exact ld1_at u2.c rfl rfl
    have hm1 := B1.m1
    have hm2 := B1.m2
    have hm3 := B2.m1
    have hm4 := B2.m2
    rw [ga, add_mk, q0, gP_of, ga, add_mk, add_mk, q2, gI_of, J38x17xeq, ga, add_mk, q1, gP_of, u1, Option.bind_some, gT3_of]
    simp only [List.getD_cons_zero, List.getD_cons_succ]
    rw [gB_of, gI_of, gB_of]
    have fin : CP h4 cb b1 s1 b2 s2 M1 M2 (m + 1) n0 := by
      have nd : ∀ q, Foot M1 b1 s1 q → ¬ Foot L2 b2 s2 q := by
        intro q hq
        rcases t10 q hq with h5 | h5
        · exact C.d q h5
        · intro h6; have := lt2 q h6; omega
      refine ⟨c4, P1'.keep fun q x hq hx => u9 q x hx (nd q hq), u2, ?_, nf1, ?_, ?_, ?_, C.oc⟩
      · intro q hq h5
        rcases u10 q h5 with h6 | h6
        · exact nd q hq h6
        · have := P1'.lt hq; omega
      · intro h5
        rcases u10 _ h5 with h6 | h6
        · exact C.f2 h6
        · omega
      · intro q hq
        rcases t10 q hq with h5 | h5
        · exact C.o1 q h5
        · omega
      · intro q hq
        rcases u10 q hq with h5 | h5
        · exact C.o2 q h5
        · omega
    have fr : ∀ q x, q < n0 → h[q]? = some x → h4[q]? = some x := fun q x hq hx => u9 q x (k3 q x (by have := C.oc; omega) (t9 q x hx fun hf => by have := C.o1 q hf; omega)) fun hf => by have := C.o2 q hf; omega
    refine ⟨h4, M1, M2, ?_, fin, t3, u3, t4, t5, t6, t7, fr⟩
    cases hq : L2.hit w with
    | true => rw [if_neg (by simp), J38x22xeq]; rfl
    | false => rw [if_pos (by simp), ga, add_mk, q3, gP_of, ga, add_mk, add_mk, q4, gI_of, letK_eq, wrap64 (by omega) (by omega), J38x22xeq]; rfl

/-- A new level. -/
theorem level_ok (h : Heap) (W Mi : Int) (S K : Nat) (hS : S ≤ 256) (hS1 : 1 ≤ S) : ∃ u, E 45 [.agg [.int .i64 W, .int .i64 (S : Int), .int .i64 (K : Int), .int .i64 Mi]] h = some (.ptr (some ⟨h.length + 1, 0, 0⟩), h ++ [.cells ((List.range S).map u) (.grow 1) 0] ++ [.cells (levC ⟨W, S, K, Mi, fun _ => [], u⟩ h.length) .fix 0]) ∧ u = fun _ => .sl .nil 0 := by
  refine ⟨fun _ => .sl .nil 0, ?_, rfl⟩
  have r0 : repl S [AV.sl .nil 0] = (List.range S).map fun i => .sl .nil 0 := by
    show List.replicate S (AV.sl .nil 0) = _
    apply List.ext_getElem
    · simp
    · intro i a b; simp
  rw [e45, chk_of (by omega), newK_eq, letK_eq, newK_eq, Int.toNat_natCast, r0]
  simp only [List.length_append, List.length_cons, List.length_nil, Nat.zero_add]
  rfl

def lev0 (W : Int) (S K : Nat) (Mi : Int) : Lev := ⟨W, S, K, Mi, fun _ => [], fun _ => .sl .nil 0⟩

theorem foot0 {W Mi : Int} {S K b sb q : Nat} (hq : Foot (lev0 W S K Mi) b sb q) : q = b ∨ q = sb := by
  rcases hq with h | h | ⟨i, _, v, n, e⟩
  · exact .inl h
  · exact .inr h
  · cases e

theorem lp0 {h : Heap} {W Mi : Int} {S K b sb : Nat} (h1 : h[b]? = some (.cells (levC (lev0 W S K Mi) sb) .fix 0)) (h2 : h[sb]? = some (.cells ((List.range S).map (lev0 W S K Mi).u) (.grow 1) 0)) (hn : b ≠ sb) : LP h b sb (lev0 W S K Mi) :=
  ⟨h1, h2, hn, fun i hi => .inl ⟨rfl, rfl⟩, fun i j q _ _ _ hh => (by obtain ⟨v, n, e⟩ := hh; cases e), fun i q _ hh => (by obtain ⟨v, n, e⟩ := hh; cases e)⟩

theorem okC_iff (W S K Mi : Int) : okC W S K Mi = true ↔ ((1 ≤ W ∧ W ≤ 64) ∧ (1 ≤ S ∧ S ≤ 256) ∧ (1 ≤ K ∧ K ≤ 8) ∧ 0 ≤ Mi ∧ Mi ≤ 1000) := by
  unfold okC inB
  simp

theorem new_ok (h : Heap) (W Mi W2 Mi2 : Int) (S K S2 K2 : Nat) (c1 : okC W S K Mi = true) (c2 : okC W2 S2 K2 Mi2 = true) :
    ∃ h', E 37 [.agg [.int .i64 W, .int .i64 (S : Int), .int .i64 (K : Int), .int .i64 Mi], .agg [.int .i64 W2, .int .i64 (S2 : Int), .int .i64 (K2 : Int), .int .i64 Mi2]] h = some (.tup [.ptr (some ⟨h.length + 4, 0, 0⟩), .int .i64 0], h') ∧
      CP h' (h.length + 4) (h.length + 1) h.length (h.length + 3) (h.length + 2) (lev0 W S K Mi) (lev0 W2 S2 K2 Mi2) 0 h.length ∧ LB (lev0 W S K Mi) ∧ LB (lev0 W2 S2 K2 Mi2) ∧ Old h h' := by
  obtain ⟨a1, a2, a3, a5⟩ := (okC_iff _ _ _ _).1 c1
  obtain ⟨b1, b2, b3, b5⟩ := (okC_iff _ _ _ _).1 c2
  obtain ⟨u1, l1, rfl⟩ := level_ok h W Mi S K (by omega) (by omega)
  generalize hg : h ++ [Blk.cells ((List.range S).map fun _ => AV.sl .nil 0) (.grow 1) 0] ++ [Blk.cells (levC ⟨W, S, K, Mi, fun _ => [], fun _ => .sl .nil 0⟩ h.length) .fix 0] = h2 at l1
  have L2 : h2.length = h.length + 2 := by rw [← hg]; simp
  obtain ⟨u2, l2, rfl⟩ := level_ok h2 W2 Mi2 S2 K2 (by omega) (by omega)
  rw [L2] at l2
  have k1 : h2[h.length + 1]? = some (.cells (levC (lev0 W S K Mi) h.length) .fix 0) := by
    rw [← hg]
    have : (h ++ [Blk.cells ((List.range S).map fun _ => AV.sl .nil 0) (.grow 1) 0]).length = h.length + 1 := by simp
    rw [← this]
    exact last_get _ _
  have k2 : h2[h.length]? = some (.cells ((List.range S).map (lev0 W S K Mi).u) (.grow 1) 0) := by
    rw [← hg]; exact app_old (last_get _ _)
  have o2 : Old h h2 := by rw [← hg]; exact (old_app _ _).app _
  generalize hg3 : h2 ++ [Blk.cells ((List.range S2).map fun _ => AV.sl .nil 0) (.grow 1) 0] ++ [Blk.cells (levC ⟨W2, S2, K2, Mi2, fun _ => [], fun _ => .sl .nil 0⟩ (h.length + 2)) .fix 0] = h3 at l2
  have L3 : h3.length = h.length + 4 := by rw [← hg3]; simp [L2]
  have k3 : h3[h.length + 3]? = some (.cells (levC (lev0 W2 S2 K2 Mi2) (h.length + 2)) .fix 0) := by
    rw [← hg3]
    have : (h2 ++ [Blk.cells ((List.range S2).map fun _ => AV.sl .nil 0) (.grow 1) 0]).length = h.length + 3 := by simp [L2]
    rw [← this]
    exact last_get _ _
  have k4 : h3[h.length + 2]? = some (.cells ((List.range S2).map (lev0 W2 S2 K2 Mi2).u) (.grow 1) 0) := by
    rw [← hg3, ← L2]; exact app_old (last_get _ _)
  have o3 : Old h2 h3 := by rw [← hg3]; exact (old_app _ _).app _
  rw [e37, check_ok, c1, if_pos rfl, Option.bind_some, gI_of, letK_eq, if_neg (by simp), check_ok, c2, if_pos rfl, Option.bind_some, gI_of, letK_eq, if_neg (by simp), l1, Option.bind_some, gP_of, l2, Option.bind_some, gP_of, newK_eq, L3]
  refine ⟨_, rfl, ⟨by rw [← L3]; exact last_get _ _, lp0 (app_old (o3 _ _ k1)) (app_old (o3 _ _ k2)) (by omega), lp0 (app_old k3) (app_old k4) (by omega), ?_, ?_, ?_, ?_, ?_, by omega⟩,
    ⟨by exact a1.1, by exact a1.2, ?_, ?_, ?_, ?_, by exact a5.1, by exact a5.2, fun i _ => Nat.zero_le _⟩, ⟨by exact b1.1, by exact b1.2, ?_, ?_, ?_, ?_, by exact b5.1, by exact b5.2, fun i _ => Nat.zero_le _⟩, (o2.trans o3).trans (old_app _ _)⟩
  · intro q h5 h6
    have := foot0 h5
    have := foot0 h6
    omega
  · intro h5; have := foot0 h5; omega
  · intro h5; have := foot0 h5; omega
  · intro q h5; have := foot0 h5; omega
  · intro q h5; have := foot0 h5; omega
  all_goals (unfold lev0; dsimp only; omega)

theorem fact_ok (h : Heap) : ∃ h', E 23 [] h = some (.bool true, h') ∧ Old h h' := by
  obtain ⟨h2, n1, n2, n3, n4, n5⟩ := new_ok h 1 3 1 4 1 1 1 1 (by decide) (by decide)
  obtain ⟨h3, L1, L2, t1, t2, _, _, _, _, _, _, t3⟩ := caccess_ok n2 n3 n4 (w := 5) (by omega) (by omega) (by omega) (by omega)
  have z1 : (lev0 1 1 1 3).hit 5 = false := by decide
  have z2 : (lev0 1 1 1 4).hit 5 = false := by decide
  rw [z1, z2] at t1
  have n1' : E 37 [.agg [.int .i64 1, .int .i64 1, .int .i64 1, .int .i64 3], .agg [.int .i64 1, .int .i64 1, .int .i64 1, .int .i64 4]] h = some (.tup [.ptr (some ⟨h.length + 4, 0, 0⟩), .int .i64 0], h2) := n1
  rw [e23, n1', Option.bind_some, gT2_of]
  simp only [List.getD_cons_zero, List.getD_cons_succ]
  rw [gP_of, gI_of, letK_eq, letK_eq, letK_eq, if_neg (by simp), t1, Option.bind_some, gT2_of]
  simp only [List.getD_cons_zero, List.getD_cons_succ]
  rw [gI_of, gI_of, letK_eq, letK_eq, letK_eq]
  refine ⟨h3, rfl, fun q x hx => ?_⟩
  exact t3 q x (List.getElem?_eq_some_iff.1 hx).1 (n5 q x hx)

/-- The count of misses. -/
def cnt (W : Int) (S K : Nat) (Mi : Int) : (Nat → List Int) → List Int → Int
  | _, [] => 0
  | f, w :: r => (if (Lev.mk W S K Mi f fun _ => .opq).hit (w % 200) = true then 0 else 1) + cnt W S K Mi ((Lev.mk W S K Mi f fun _ => .opq).nf (w % 200)) r

theorem cnt_range (W : Int) (S K : Nat) (Mi : Int) : ∀ (r : List Int) (f : Nat → List Int), 0 ≤ cnt W S K Mi f r ∧ cnt W S K Mi f r ≤ r.length
  | [], f => ⟨by simp [cnt], by simp [cnt]⟩
  | w :: r, f => by
    have := cnt_range W S K Mi r ((Lev.mk W S K Mi f fun _ => .opq).nf (w % 200))
    unfold cnt
    rw [List.length_cons]
    split <;> omega

theorem misses_loop {s : SA} {n : Nat} {zs : List Int} {h0 : Heap} (HA : VS intC 1 h0 s n zs) (hn : n ≤ 60) {cb b1 s1 b2 s2 : Nat} (W : Int) (S K : Nat) (Mi : Int) :
    ∀ (j i : Nat), i + j = n → ∀ (h : Heap) (L1 L2 : Lev) (m : Int), (∀ q x, q < h0.length → h0[q]? = some x → h[q]? = some x) → CP h cb b1 s1 b2 s2 L1 L2 m h0.length → LB L1 → LB L2 → L1.W = W → L1.S = S → L1.K = K → 0 ≤ m → m ≤ i →
      ∃ h', L25x10 mk0 E (some ⟨cb, 0, 0⟩) s n ((n : Nat) : Int) ((i : Nat) : Int) h (Q25x10 mk0 E) = some (.int .i64 (m + cnt W S K Mi L1.f (zs.drop i)), h') ∧ Old h0 h' := by
  have hl := HA.1
  have ga : ∀ (K : Ad → Res) (a : Ad), atP (some a) true K = K a := fun _ _ => rfl
  intro j
  induction j with
  | zero =>
    intro i hi h L1 L2 m ho C B1 B2 eW eS eK m0 m1
    have r1 : ld1 h ⟨cb, 0, 0 + 2⟩ = some (.int .i64 m) := ld1_at C.c rfl rfl
    rw [L25x10xeq, letK_eq, if_neg (by simp; omega), X25x10xe0, e40, ga, add_mk, r1, gI_of, Option.bind_some, gI_of, List.drop_eq_nil_of_le (by omega)]
    exact ⟨h, by simp [cnt], fun q x hx => ho q x (List.getElem?_eq_some_iff.1 hx).1 hx⟩
  | succ j ih =>
    intro i hi h L1 L2 m ho C B1 B2 eW eS eK m0 m1
    obtain ⟨x, hx⟩ : ∃ x, zs[i]? = some x := ⟨zs[i]'(by omega), List.getElem?_eq_getElem (by omega)⟩
    have HA' : VS intC 1 h s n zs := vs_old HA fun q y hy => ho q y (List.getElem?_eq_some_iff.1 hy).1 hy
    obtain ⟨a, ha, la⟩ := vs_ld1 (g := AV.int .i64) HA' (fun _ => rfl) i _ hx
    have e0 := Int.emod_nonneg x (show (200 : Int) ≠ 0 by omega)
    have e1 := Int.emod_lt_of_pos x (show (0 : Int) < 200 by omega)
    obtain ⟨h2, M1, M2, t1, t2, t3, t4, t5, t6, t7, t8, t9⟩ := caccess_ok C B1 B2 (w := x % 200) (by omega) (by omega) m0 (by omega)
    rw [L25x10xeq, letK_eq, if_pos (by simp; omega), chk_of (by intro _; omega), ha, ga, Int.toNat_natCast, la, gI_of, rest_ok _ _ _ (by omega) (by omega), Option.bind_some, gI_of, t1, Option.bind_some, gT2_of]
    simp only [List.getD_cons_zero, List.getD_cons_succ]
    rw [gI_of, gI_of, letK_eq, wrap64 (by omega) (by omega), show ((i : Int) + 1) = ((i + 1 : Nat) : Int) by omega]
    obtain ⟨h', r1, r2⟩ := ih (i + 1) (by omega) h2 M1 M2 _ (fun q y hq hy => t9 q y hq (ho q y hq hy)) t2 t3 t4 (t6.trans eW) (t7.trans eS) (t8.trans eK) (by split <;> omega) (by split <;> omega)
    have hd : zs.drop i = x :: zs.drop (i + 1) := by
      obtain ⟨hlt, he⟩ := List.getElem?_eq_some_iff.1 hx
      rw [← he]; exact List.drop_eq_getElem_cons hlt
    refine ⟨h', ?_, r2⟩
    rw [r1, hd, t5]
    have hc : ∀ f, cnt W S K Mi f (x :: zs.drop (i + 1)) = (if (Lev.mk W S K Mi f fun _ => .opq).hit (x % 200) = true then 0 else 1) + cnt W S K Mi ((Lev.mk W S K Mi f fun _ => .opq).nf (x % 200)) (zs.drop (i + 1)) := fun _ => rfl
    rw [hc]
    subst eW eS eK
    have y1 : (Lev.mk L1.W L1.S L1.K Mi L1.f fun _ => AV.opq).hit (x % 200) = L1.hit (x % 200) := rfl
    have y2 : (Lev.mk L1.W L1.S L1.K Mi L1.f fun _ => AV.opq).nf (x % 200) = L1.nf (x % 200) := rfl
    rw [y1, y2]
    congr 3
    split <;> omega

theorem misses_ok {h : Heap} {s : SA} {n : Nat} {zs : List Int} (HA : VS intC 1 h s n zs) (W Mi W2 Mi2 : Int) (S K S2 K2 : Nat) (c1 : okC W S K Mi = true) (c2 : okC W2 S2 K2 Mi2 = true) :
    ∃ h', E 25 [.agg [.int .i64 W, .int .i64 (S : Int), .int .i64 (K : Int), .int .i64 Mi], .agg [.int .i64 W2, .int .i64 (S2 : Int), .int .i64 (K2 : Int), .int .i64 Mi2], .sl s n] h = some (.int .i64 (cnt W S K Mi (fun _ => []) (zs.take (min n 60))), h') ∧ Old h h' := by
  obtain ⟨h2, n1, n2, n3, n4, n5⟩ := new_ok h W Mi W2 Mi2 S K S2 K2 c1 c2
  rw [e25, n1, Option.bind_some, gT2_of]
  simp only [List.getD_cons_zero, List.getD_cons_succ]
  rw [gP_of, gI_of, letK_eq, letK_eq, letK_eq, if_neg (by simp), letK_eq, mm_min, chkC_of (by intro _; exact ⟨by omega, .inl (by omega)⟩), letK_eq]
  have hmin : (min (n : Int) 60).toNat = min n 60 := by omega
  rw [hmin]
  obtain ⟨h', r1, r2⟩ := misses_loop (vs_take HA (min n 60) (Nat.min_le_left _ _)) (Nat.min_le_right _ _) (cb := h.length + 4) (b1 := h.length + 1) (s1 := h.length) (b2 := h.length + 3) (s2 := h.length + 2) W S K Mi (min n 60) 0 (by omega) h2 _ _ 0 (fun q x _ hx => n5 q x hx) n2 n3 n4 rfl rfl rfl (by omega) (by omega)
  refine ⟨h', ?_, r2⟩
  have r1' := r1
  rw [List.drop_zero, Int.zero_add] at r1'
  exact r1'

end Go.Proofs.Ytecgpcpgklholaa.Z

/- caches: the three laws. -/
set_option linter.unusedVariables false
set_option linter.unusedSimpArgs false
namespace Go.Proofs.Ytecgpcpgklholaa.Z
open Go Go.Proofs.Ytecgpcpgklholaa.Abs Go.Proofs
open Go.Proofs.Ytecgpcpgklholaa.K (Old gI_any gB_any last_get set_last range_set range_get flat_ints ldSl_at VS vs_ld1 vs_take vs_old intC old_app)

theorem cacheLevels_ok {h : Heap} {s : SA} {n : Nat} {zs : List Int} (a0 a1 a2 a3 b0 b1 b2 b3 c0 c1 c2 c3 : Int) (HA : VS intC 1 h s n zs) :
    ∃ h', E 7 [.agg [.int .i64 a0, .int .i64 a1, .int .i64 a2, .int .i64 a3], .agg [.int .i64 b0, .int .i64 b1, .int .i64 b2, .int .i64 b3], .agg [.int .i64 c0, .int .i64 c1, .int .i64 c2, .int .i64 c3], .sl s n] h = some (.bool true, h') := by
  obtain ⟨h1, f1, o1⟩ := fact_ok h
  have HA1 := vs_old HA o1
  rw [e7, f1, Option.bind_some, gB_of, if_neg (by simp), check_ok, Option.bind_some, gI_of, letK_eq]
  cases ha : okC a0 a1 a2 a3 with
  | false =>
    refine ⟨h1, ?_⟩
    simp [gI_any, chk_of]
  | true =>
    rw [if_pos rfl, chk_of (by simp), gI_any, gI_any, gI_any, gI_any]
    rw [show (!!decide ((0 : Int) = 0)) = true from rfl, callO_true, check_ok, Option.bind_some, gI_of, letK_eq, letK_eq]
    cases hb : okC b0 b1 b2 b3 with
    | false =>
      refine ⟨h1, ?_⟩
      simp [gI_any, chk_of]
    | true =>
      rw [if_pos rfl, chk_of (by simp), gI_any, gI_any, gI_any, gI_any]
      rw [show (!if (!decide ((0 : Int) = 0)) = true then true else !decide ((0 : Int) = 0)) = true from rfl, callO_true, check_ok, Option.bind_some, gI_of, letK_eq, letK_eq]
      cases hc : okC c0 c1 c2 c3 with
      | false =>
        refine ⟨h1, ?_⟩
        simp
      | true =>
        obtain ⟨S, rfl⟩ := Int.eq_ofNat_of_zero_le (show 0 ≤ a1 by have := (okC_iff _ _ _ _).1 ha; omega)
        obtain ⟨K, rfl⟩ := Int.eq_ofNat_of_zero_le (show 0 ≤ a2 by have := (okC_iff _ _ _ _).1 ha; omega)
        obtain ⟨Sb, rfl⟩ := Int.eq_ofNat_of_zero_le (show 0 ≤ b1 by have := (okC_iff _ _ _ _).1 hb; omega)
        obtain ⟨Kb, rfl⟩ := Int.eq_ofNat_of_zero_le (show 0 ≤ b2 by have := (okC_iff _ _ _ _).1 hb; omega)
        obtain ⟨Sc, rfl⟩ := Int.eq_ofNat_of_zero_le (show 0 ≤ c1 by have := (okC_iff _ _ _ _).1 hc; omega)
        obtain ⟨Kc, rfl⟩ := Int.eq_ofNat_of_zero_le (show 0 ≤ c2 by have := (okC_iff _ _ _ _).1 hc; omega)
        obtain ⟨h2, m1, o2⟩ := misses_ok HA1 a0 a3 b0 b3 S K Sb Kb ha hb
        obtain ⟨h3, m2, o3⟩ := misses_ok (vs_old HA1 o2) a0 a3 c0 c3 S K Sc Kc ha hc
        have hr := cnt_range a0 S K a3 (zs.take (min n 60)) fun _ => []
        have hl : ((zs.take (min n 60)).length : Int) ≤ min (n : Int) 60 := by
          rw [List.length_take, HA.1]; omega
        rw [if_pos rfl, if_neg (by decide), m1, Option.bind_some, gI_of, letK_eq, chk_of (by simp), gI_any, gI_any, gI_any, gI_any, chk_of (by simp), gI_any, gI_any, gI_any, gI_any, decide_eq_true hr.1, callO_true, m2, Option.bind_some, gI_of, letK_eq, letK_eq, letK_eq, mm_min, letK_eq, letK_eq]
        refine ⟨h3, ?_⟩
        have hd : decide (cnt a0 S K a3 (fun _ => []) (zs.take (min n 60)) ≤ min (n : Int) 60) = true := decide_eq_true (by omega)
        rw [hd]
        simp

/-- One list is the other, or the other without its last line. -/
def Rl (K : Nat) (a b : List Int) : Prop := (b = a ∧ a.length ≤ K) ∨ ∃ y, b = a ++ [y] ∧ a.length = K

theorem idxF_neg {x : Int} {ls : List Int} (h : ¬ 0 ≤ idxF x ls 0) : x ∉ ls := by
  rcases idxF_spec x ls 0 with ⟨_, h2⟩ | ⟨i, h1, _⟩
  · exact h2
  · omega

theorem idxF_app {x : Int} {ls ms : List Int} : ∀ (k : Nat), x ∈ ls → idxF x (ls ++ ms) k = idxF x ls k := by
  induction ls with
  | nil => intro k h; simp at h
  | cons y l ih =>
    intro k h
    rw [List.cons_append]
    unfold idxF
    by_cases e : y = x
    · rw [if_pos e, if_pos e]
    · rw [if_neg e, if_neg e]
      refine ih _ ?_
      rcases List.mem_cons.1 h with h | h
      · exact absurd h.symm e
      · exact h

theorem idxF_end {x : Int} : ∀ (ls : List Int) (k : Nat), x ∉ ls → idxF x (ls ++ [x]) k = ((k + ls.length : Nat) : Int)
  | [], k, _ => by show idxF x [x] k = _; unfold idxF; rw [if_pos rfl]; rfl
  | y :: l, k, h => by
    rw [List.cons_append]
    unfold idxF
    rw [if_neg (fun e => h (by simp [e])), idxF_end l (k + 1) (fun hh => h (by simp [hh]))]
    simp only [List.length_cons]
    omega

theorem idxF_not {x : Int} {ls : List Int} (h : x ∉ ls) : idxF x ls 0 = -1 := by
  rcases idxF_spec x ls 0 with ⟨h1, _⟩ | ⟨i, h1, h2, _⟩
  · exact h1
  · exact absurd (List.mem_of_getElem? h2) h

theorem idxF_mem {x : Int} {ls : List Int} (h : x ∈ ls) : ∃ i : Nat, idxF x ls 0 = (i : Int) ∧ i < ls.length := by
  rcases idxF_spec x ls 0 with ⟨_, h1⟩ | ⟨i, h1, h2, _⟩
  · exact absurd h h1
  · exact ⟨i, by simpa using h1, (List.getElem?_eq_some_iff.1 h2).1⟩

theorem touch_rl {K : Nat} {x : Int} {a b : List Int} (hK : 1 ≤ K) (H : Rl K a b) : Rl K (touch K x a) (touch (K + 1) x b) ∧ (x ∈ a → x ∈ b) := by
  rcases H with ⟨rfl, hl⟩ | ⟨y, rfl, hl⟩
  · refine ⟨?_, id⟩
    by_cases hx : x ∈ b
    · obtain ⟨i, hi, hil⟩ := idxF_mem hx
      have t : ∀ k, touch k x b = x :: b.eraseIdx i := by
        intro k; unfold touch; rw [hi, if_pos (by omega), Int.toNat_natCast]
      rw [t, t]
      exact .inl ⟨rfl, by rw [List.length_cons, List.length_eraseIdx, if_pos hil]; omega⟩
    · have t : ∀ k, touch k x b = x :: (if b.length = k then b.dropLast else b) := by
        intro k; unfold touch; rw [idxF_not hx, if_neg (by omega)]
      rw [t, t, if_neg (show ¬ b.length = K + 1 by omega)]
      by_cases hf : b.length = K
      · rw [if_pos hf]
        refine .inr ⟨b.getLast (by intro e; rw [e] at hf; simp at hf; omega), ?_, by rw [List.length_cons, List.length_dropLast]; omega⟩
        rw [List.cons_append, List.dropLast_concat_getLast]
      · rw [if_neg hf]
        exact .inl ⟨rfl, by rw [List.length_cons]; omega⟩
  · refine ⟨?_, fun h => by simp [h]⟩
    by_cases hx : x ∈ a
    · obtain ⟨i, hi, hil⟩ := idxF_mem hx
      have t1 : touch K x a = x :: a.eraseIdx i := by unfold touch; rw [hi, if_pos (by omega), Int.toNat_natCast]
      have t2 : touch (K + 1) x (a ++ [y]) = x :: (a.eraseIdx i ++ [y]) := by
        unfold touch
        rw [idxF_app 0 hx, hi, if_pos (by omega), Int.toNat_natCast, List.eraseIdx_append_of_lt_length hil]
      rw [t1, t2]
      exact .inr ⟨y, rfl, by rw [List.length_cons, List.length_eraseIdx, if_pos hil]; omega⟩
    · have hne : a ≠ [] := by intro e; rw [e] at hl; simp at hl; omega
      have t1 : touch K x a = x :: a.dropLast := by unfold touch; rw [idxF_not hx, if_neg (by omega), if_pos hl]
      have t2 : touch (K + 1) x (a ++ [y]) = x :: a := by
        unfold touch
        by_cases e : x = y
        · subst e
          rw [idxF_end a 0 hx, if_pos (by omega), Int.toNat_natCast, Nat.zero_add, List.eraseIdx_append_of_length_le (Nat.le_refl _), Nat.sub_self]
          simp
        · rw [idxF_not (by simp [hx, e]), if_neg (by omega), if_pos (by simp [hl]), List.dropLast_concat]
      rw [t1, t2]
      refine .inr ⟨a.getLast hne, ?_, by rw [List.length_cons, List.length_dropLast]; omega⟩
      rw [List.cons_append, List.dropLast_concat_getLast]

theorem cnt_ways (W : Int) (S K : Nat) (Mi : Int) (hK : 1 ≤ K) : ∀ (r : List Int) (f g : Nat → List Int), (∀ i, Rl K (f i) (g i)) → cnt W S (K + 1) Mi g r ≤ cnt W S K Mi f r
  | [], f, g, _ => Int.le_refl _
  | w :: r, f, g, H => by
    have ht := touch_rl (x := w % 200 / W) hK (H ((Lev.mk W S K Mi f fun _ => .opq).at (w % 200)))
    have ih := cnt_ways W S K Mi hK r ((Lev.mk W S K Mi f fun _ => .opq).nf (w % 200)) ((Lev.mk W S (K + 1) Mi g fun _ => .opq).nf (w % 200)) fun i => by
      show Rl K (if i = (Lev.mk W S K Mi f fun _ => .opq).at (w % 200) then _ else _) (if i = (Lev.mk W S K Mi f fun _ => .opq).at (w % 200) then _ else _)
      by_cases e : i = (Lev.mk W S K Mi f fun _ => .opq).at (w % 200)
      · rw [if_pos e, if_pos e]; exact ht.1
      · rw [if_neg e, if_neg e]; exact H i
    unfold cnt
    have hh : (Lev.mk W S K Mi f fun _ => .opq).hit (w % 200) = true → (Lev.mk W S (K + 1) Mi g fun _ => .opq).hit (w % 200) = true := by
      intro h1
      have h1' : 0 ≤ idxF (w % 200 / W) (f ((Lev.mk W S K Mi f fun _ => .opq).at (w % 200))) 0 := of_decide_eq_true h1
      have hx : w % 200 / W ∈ f ((Lev.mk W S K Mi f fun _ => .opq).at (w % 200)) := by
        rcases idxF_spec (w % 200 / W) (f ((Lev.mk W S K Mi f fun _ => .opq).at (w % 200))) 0 with ⟨h2, _⟩ | ⟨i, _, h3, _⟩
        · omega
        · exact List.mem_of_getElem? h3
      obtain ⟨i, hi, _⟩ := idxF_mem (ht.2 hx)
      exact decide_eq_true (by show 0 ≤ idxF (w % 200 / W) (g ((Lev.mk W S K Mi f fun _ => .opq).at (w % 200))) 0; rw [hi]; omega)
    by_cases h1 : (Lev.mk W S K Mi f fun _ => .opq).hit (w % 200) = true
    · rw [if_pos h1, if_pos (hh h1)]; omega
    · rw [if_neg h1]
      split <;> omega

theorem cacheWays_ok {h : Heap} {s : SA} {n : Nat} {zs : List Int} (x y z : Int) (HA : VS intC 1 h s n zs) : ∃ h', E 8 [.int .i64 x, .int .i64 y, .int .i64 z, .sl s n] h = some (.bool true, h') := by
  obtain ⟨h1, f1, o1⟩ := fact_ok h
  have HA1 := vs_old HA o1
  have p0 := Int.emod_nonneg x (show (8 : Int) ≠ 0 by omega)
  have p1 := Int.emod_lt_of_pos x (show (0 : Int) < 8 by omega)
  have p2 := Int.emod_nonneg y (show (8 : Int) ≠ 0 by omega)
  have p3 := Int.emod_lt_of_pos y (show (0 : Int) < 8 by omega)
  have p4 := Int.emod_nonneg z (show (7 : Int) ≠ 0 by omega)
  have p5 := Int.emod_lt_of_pos z (show (0 : Int) < 7 by omega)
  obtain ⟨S, hS⟩ := Int.eq_ofNat_of_zero_le (show 0 ≤ 1 + y % 8 by omega)
  obtain ⟨K, hK⟩ := Int.eq_ofNat_of_zero_le (show 0 ≤ 1 + z % 7 by omega)
  have hK1 : (K : Int) + 1 = ((K + 1 : Nat) : Int) := by omega
  have ok1 : okC (1 + x % 8) S K 1 = true := (okC_iff _ _ _ _).2 (by omega)
  have ok2 : okC (1 + x % 8) S (K + 1 : Nat) 1 = true := (okC_iff _ _ _ _).2 (by omega)
  obtain ⟨h2, m1, o2⟩ := misses_ok HA1 (1 + x % 8) 1 (1 + x % 8) 1 S K S K ok1 ok1
  obtain ⟨h3, m2, o3⟩ := misses_ok (vs_old HA1 o2) (1 + x % 8) 1 (1 + x % 8) 1 S (K + 1) S K ok2 ok1
  have hr := cnt_range (1 + x % 8) S K 1 (zs.take (min n 60)) fun _ => []
  have hw := cnt_ways (1 + x % 8) S K 1 (by omega) (zs.take (min n 60)) (fun _ => []) (fun _ => []) fun _ => .inl ⟨rfl, Nat.zero_le _⟩
  rw [e8, f1, Option.bind_some, gB_of, if_neg (by simp), rest_ok _ _ _ (by omega) (by omega), Option.bind_some, gI_of, letK_eq, wrap64 (by omega) (by omega), rest_ok _ _ _ (by omega) (by omega), Option.bind_some, gI_of, letK_eq, wrap64 (by omega) (by omega), rest_ok _ _ _ (by omega) (by omega), Option.bind_some, gI_of, letK_eq, wrap64 (x := 1 + z % 7) (by omega) (by omega), letK_eq, wrap64 (by omega) (by omega), hS, hK]
  rw [m1, Option.bind_some, gI_of, letK_eq, chk_of (by simp), gI_any, gI_any, gI_any, gI_any, chk_of (by simp), gI_any, gI_any, gI_any, gI_any, decide_eq_true hr.1, callO_true, hK1, m2, Option.bind_some, gI_of, letK_eq, letK_eq]
  refine ⟨h3, ?_⟩
  rw [decide_eq_true hw]
  rfl

/-! ### All lines fit -/

def one (g : Nat → Bool) : Nat → List Int := fun k => if g k = true then [(k : Int)] else []

def cold (W : Int) : (Nat → Bool) → List Int → Int
  | _, [] => 0
  | g, w :: r => (if g (w % 200 / W).toNat = true then 0 else 1) + cold W (fun i => if i = (w % 200 / W).toNat then true else g i) r

theorem cnt_fits (W Mi : Int) (h1 : 1 ≤ W) : ∀ (r : List Int) (g : Nat → Bool), cnt W 256 1 Mi (one g) r = cold W g r
  | [], g => rfl
  | w :: r, g => by
    have p0 := Int.emod_nonneg w (show (200 : Int) ≠ 0 by omega)
    have p1 := Int.emod_lt_of_pos w (show (0 : Int) < 200 by omega)
    have q0 : 0 ≤ w % 200 / W := Int.ediv_nonneg p0 (by omega)
    have q1 : w % 200 / W ≤ w % 200 := Int.ediv_le_self _ p0
    have hat : ∀ f u, (Lev.mk W 256 1 Mi f u).at (w % 200) = (w % 200 / W).toNat := by
      intro f u
      unfold Lev.at
      dsimp only
      rw [Int.emod_eq_of_lt q0 (by omega)]
    have hx : (((w % 200 / W).toNat : Nat) : Int) = w % 200 / W := by omega
    unfold cnt cold
    have e1 : (Lev.mk W 256 1 Mi (one g) fun _ => .opq).hit (w % 200) = g (w % 200 / W).toNat := by
      have hf : one g (w % 200 / W).toNat = if g (w % 200 / W).toNat = true then [w % 200 / W] else [] := by unfold one; rw [hx]
      show decide (0 ≤ idxF (w % 200 / W) (one g ((Lev.mk W 256 1 Mi (one g) fun _ => .opq).at (w % 200))) 0) = _
      rw [hat, hf]
      cases hg : g (w % 200 / W).toNat with
      | true =>
        have : (if true = true then [w % 200 / W] else []) = [w % 200 / W] := rfl
        rw [this]
        unfold idxF
        rw [if_pos rfl]
        rfl
      | false => rfl
    have e2 : (Lev.mk W 256 1 Mi (one g) fun _ => .opq).nf (w % 200) = one fun i => if i = (w % 200 / W).toNat then true else g i := by
      have hf : one g (w % 200 / W).toNat = if g (w % 200 / W).toNat = true then [w % 200 / W] else [] := by unfold one; rw [hx]
      have hu : ∀ (g' : Nat → Bool) i b, g' i = b → one g' i = if b = true then [(i : Int)] else [] := by
        intro g' i b hb; subst hb; rfl
      funext i
      show (if i = (Lev.mk W 256 1 Mi (one g) fun _ => .opq).at (w % 200) then touch 1 (w % 200 / W) (one g ((Lev.mk W 256 1 Mi (one g) fun _ => .opq).at (w % 200))) else one g i) = _
      rw [hat, hf]
      by_cases e : i = (w % 200 / W).toNat
      · rw [if_pos e, hu _ i true (by rw [if_pos e]), if_pos rfl, e, hx]
        cases hg : g (w % 200 / W).toNat with
        | true =>
          rw [if_pos rfl]
          unfold touch idxF
          rw [if_pos rfl, if_pos (by decide)]
          rfl
        | false => rfl
      · rw [if_neg e, hu (fun i => if i = (w % 200 / W).toNat then true else g i) i (g i) (if_neg e)]
        rfl
    rw [e1, e2, cnt_fits W Mi h1 r]

theorem fits_loop {s s1 : SA} {n n1 : Nat} {zs : List Int} {h0 : Heap} (HA : VS intC 1 h0 s n zs) (hn : n ≤ 60) (W a b c : Int) (hW : 1 ≤ W) (hW2 : W ≤ 8) {sb : Nat} (hsb : h0.length ≤ sb) :
    ∀ (j i : Nat), i + j = n → ∀ (h : Heap) (g : Nat → Bool) (m : Int), Old h0 h → h[sb]? = some (.cells ((List.range 200).map fun k => .bool (g k)) (.grow 1) 0) → 0 ≤ m → m ≤ i →
      ∃ h', L9x12 mk0 E s1 n1 W a b c (.pos ⟨sb, 0, 0⟩) 200 m s n ((n : Nat) : Int) ((i : Nat) : Int) h (Q9x12 mk0 E) = Q9x12 mk0 E (.exit 0) (S9xe0 s1 n1 W a b c (m + cold W g (zs.drop i)) h') ∧ Old h0 h' := by
  have hl := HA.1
  have ga : ∀ {R : Type} (K : Ad → Option R) (a : Ad), atP (some a) true K = K a := fun _ _ => rfl
  intro j
  induction j with
  | zero =>
    intro i hi h g m ho hb m0 m1
    rw [L9x12xeq, letK_eq, if_neg (by simp; omega), List.drop_eq_nil_of_le (by omega)]
    exact ⟨h, by simp [cold], ho⟩
  | succ j ih =>
    intro i hi h g m ho hb m0 m1
    obtain ⟨x, hx⟩ : ∃ x, zs[i]? = some x := ⟨zs[i]'(by omega), List.getElem?_eq_getElem (by omega)⟩
    obtain ⟨a', ha, la⟩ := vs_ld1 (g := AV.int .i64) (vs_old HA ho) (fun _ => rfl) i _ hx
    have p0 := Int.emod_nonneg x (show (200 : Int) ≠ 0 by omega)
    have p1 := Int.emod_lt_of_pos x (show (0 : Int) < 200 by omega)
    have q0 : 0 ≤ x % 200 / W := Int.ediv_nonneg p0 (by omega)
    have q1 : x % 200 / W ≤ x % 200 := Int.ediv_le_self _ p0
    have td : Int.tdiv (x % 200) W = x % 200 / W := Int.tdiv_eq_ediv_of_nonneg p0
    obtain ⟨k, hk⟩ := Int.eq_ofNat_of_zero_le q0
    have hd : zs.drop i = x :: zs.drop (i + 1) := by
      obtain ⟨hlt, he⟩ := List.getElem?_eq_some_iff.1 hx
      rw [← he]; exact List.drop_eq_getElem_cons hlt
    have hc : cold W g (x :: zs.drop (i + 1)) = (if g k = true then 0 else 1) + cold W (fun i => if i = k then true else g i) (zs.drop (i + 1)) := by
      show (if g (x % 200 / W).toNat = true then 0 else 1) + cold W (fun i => if i = (x % 200 / W).toNat then true else g i) (zs.drop (i + 1)) = _
      rw [hk, Int.toNat_natCast]
    have rd : ld1 h ⟨sb, 0, 0 + k * 1⟩ = some (.bool (g k)) := ld1_at hb (by rw [show 0 + k * 1 = k by omega]; exact range_get (by omega)) rfl
    rw [L9x12xeq, letK_eq, if_pos (by simp; omega), chk_of (by intro _; omega), ha, ga, Int.toNat_natCast, la, gI_of, rest_ok _ _ _ (by omega) (by omega), Option.bind_some, gI_of, chk_of (by intro _; omega), td, wrap64 (by omega) (by omega), letK_eq, hk, chk_of (by intro _; omega), adP_pos, ga, add_mk, Int.toNat_natCast, rd, gB_of, hd, hc]
    cases hg : g k with
    | true =>
      have hgf : (fun i => if i = k then true else g i) = g := by
        funext i
        by_cases e : i = k
        · rw [if_pos e, e, hg]
        · rw [if_neg e]
      rw [if_neg (by simp), if_pos rfl, J9x24xeq, letK_eq, wrap64 (by omega) (by omega), show ((i : Int) + 1) = ((i + 1 : Nat) : Int) by omega, hgf, Int.zero_add]
      exact ih (i + 1) (by omega) h g m ho hb m0 (by omega)
    | false =>
      rw [if_pos (by simp), if_neg (by simp), chk_of (by intro _; omega), ga, add_mk, st1_at hb (by simp) (by simp; omega), Option.bind_some, letK_eq, wrap64 (by omega) (by omega), J9x24xeq, letK_eq, wrap64 (by omega) (by omega), show ((i : Int) + 1) = ((i + 1 : Nat) : Int) by omega, show 0 + k * 1 = k by omega, range_set, ← Int.add_assoc]
      refine ih (i + 1) (by omega) _ (fun i => if i = k then true else g i) (m + 1) (ho.set hsb _) ?_ (by omega) (by omega)
      rw [set_same hb]
      congr 2
      apply List.map_congr_left
      intro i _
      split <;> rfl

theorem cacheFits_ok {h : Heap} {s : SA} {n : Nat} {zs : List Int} (x : Int) (HA : VS intC 1 h s n zs) : ∃ h', E 9 [.int .i64 x, .sl s n] h = some (.bool true, h') := by
  obtain ⟨h1, f1, o1⟩ := fact_ok h
  have HA1 := vs_old HA o1
  have p0 := Int.emod_nonneg x (show (8 : Int) ≠ 0 by omega)
  have p1 := Int.emod_lt_of_pos x (show (0 : Int) < 8 by omega)
  have ok1 : okC (1 + x % 8) (256 : Nat) (1 : Nat) 1 = true := (okC_iff _ _ _ _).2 (by omega)
  have rN : ∀ N : Nat, repl N [AV.bool false] = (List.range N).map fun i => .bool ((fun _ => false) i) := by
    intro N
    show List.replicate N (AV.bool false) = _
    apply List.ext_getElem
    · simp
    · intro i a b; simp
  have r0 := rN 200
  have hmin : (min (n : Int) 60).toNat = min n 60 := by omega
  rw [e9, f1, Option.bind_some, gB_of, if_neg (by simp), rest_ok _ _ _ (by omega) (by omega), Option.bind_some, gI_of, letK_eq, wrap64 (by omega) (by omega), chk_of (by omega), newK_eq, letK_eq, letK_eq, mm_min, chkC_of (by intro _; exact ⟨by omega, .inl (by omega)⟩), letK_eq, hmin, show Int.toNat 200 = 200 from rfl, r0]
  obtain ⟨h2, l1, o2⟩ := fits_loop (vs_take HA1 (min n 60) (Nat.min_le_left _ _)) (Nat.min_le_right _ _) (s1 := s) (n1 := n) (1 + x % 8) 256 1 1 (by omega) (by omega) (sb := h1.length) (Nat.le_refl _) (min n 60) 0 (by omega) (h1 ++ [.cells ((List.range 200).map fun i => .bool ((fun _ => false) i)) (.grow 1) 0]) (fun _ => false) 0 (old_app _ _) (last_get _ _) (by omega) (by omega)
  obtain ⟨h3, m1, o3⟩ := misses_ok (vs_old HA1 o2) (1 + x % 8) 1 (1 + x % 8) 1 256 1 256 1 ok1 ok1
  have m1' : E 25 [.agg [.int .i64 (1 + x % 8), .int .i64 256, .int .i64 1, .int .i64 1], .agg [.int .i64 (1 + x % 8), .int .i64 256, .int .i64 1, .int .i64 1], .sl s n] h2 = some (.int .i64 (cnt (1 + x % 8) 256 1 1 (fun _ => []) (zs.take (min n 60))), h3) := m1
  have l1' : L9x12 mk0 E s n (1 + x % 8) 256 1 1 (.pos ⟨h1.length, 0, 0⟩) 200 0 s (min n 60) (((min n 60 : Nat)) : Int) 0 (h1 ++ [.cells ((List.range 200).map fun i => .bool ((fun _ => false) i)) (.grow 1) 0]) (Q9x12 mk0 E) = _ := l1
  have hone : (fun _ => [] : Nat → List Int) = one fun _ => false := rfl
  rw [l1', X9x12xe0, m1', Option.bind_some, gI_of, letK_eq, hone, cnt_fits _ _ (by omega), List.drop_zero, Int.zero_add]
  exact ⟨h3, by simp⟩

end Go.Proofs.Ytecgpcpgklholaa.Z
