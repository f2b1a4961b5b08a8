/- link: functions in memory; lists compared. -/
import Derived.Test.YtmfmnbldngfelaaConR
import Derived.Test.YtmfmnbldngfelaaLGen2
set_option linter.unusedVariables false
set_option linter.unusedSimpArgs false
namespace Go.Proofs.Ytmfmnbldngfelaa.I
open Go Go.Proofs.Ytmfmnbldngfelaa.Abs Go.Proofs

theorem gL_any {R : Type} (s : SA) (n : Nat) (bc : Bool) (K : SA → Nat → Option R) : gL (some (AV.sl s n)) bc K = K s n := by cases bc <;> rfl

theorem atP_any {R : Type} (p : Ad) (bc : Bool) (K : Ad → Option R) : atP (some p) bc K = K p := by cases bc <;> rfl

theorem gCells_any {R : Type} (l : List AV) (bc : Bool) (K : List AV → Option R) : gCells (some l) bc K = K l := by cases bc <;> rfl

theorem drop_at {α : Type} {l : List α} {i : Nat} {x : α} (h : l[i]? = some x) : l.drop i = x :: l.drop (i + 1) := by
  obtain ⟨hlt, he⟩ := List.getElem?_eq_some_iff.1 h
  rw [← he]; exact List.drop_eq_getElem_cons hlt

theorem at_lt {α : Type} {l : List α} {i : Nat} (h : i < l.length) : ∃ x, l[i]? = some x := ⟨_, List.getElem?_eq_getElem h⟩

/-- The longest list that an argument can hold. -/
def big : Nat := 17592186044416

/-- A stack map. -/
structure Mp where
  item : Int
  aft : Bool
  s : SA
  slots : List Int
  regs : Int

def Mp.cells (m : Mp) : List AV := [.int .i64 m.item, .bool m.aft, .sl m.s m.slots.length, .int .i64 m.regs]
def Mp.R (h : Heap) (m : Mp) : Prop := VS intC 1 h m.s m.slots.length m.slots ∧ m.slots.length < big
def Mp.val (m : Mp) : Int × Bool × List Int × Int := (m.item, m.aft, m.slots, m.regs)

def clC (c : Int × Int) : List AV := [.int .i64 c.1, .int .i64 c.2]

/-- A function. -/
structure Fn where
  nm : Int
  size : Int
  sI : SA
  sC : SA
  sM : SA
  its : List It
  cls : List (Int × Int)
  mps : List Mp

def Fn.cells (f : Fn) : List AV := [.int .i64 f.nm, .sl f.sI f.its.length, .sl f.sC f.cls.length, .sl f.sM f.mps.length, .int .i64 f.size]
structure Fn.R (h : Heap) (f : Fn) : Prop where
  i : VS It.cells 6 h f.sI f.its.length f.its
  c : VS clC 2 h f.sC f.cls.length f.cls
  m : VS Mp.cells 4 h f.sM f.mps.length f.mps
  s : ∀ m ∈ f.mps, m.R h
  bi : f.its.length < big
  bc : f.cls.length < big
  bm : f.mps.length < big

theorem Mp.R.old {h h' : Heap} {m : Mp} (H : m.R h) (o : Old h h') : m.R h' := ⟨vs_old H.1 o, H.2⟩
theorem Fn.R.old {h h' : Heap} {f : Fn} (H : f.R h) (o : Old h h') : f.R h' := ⟨vs_old H.i o, vs_old H.c o, vs_old H.m o, fun m hm => (H.s m hm).old o, H.bi, H.bc, H.bm⟩

theorem mp_flat (m : Mp) : flatL m.cells = true := rfl
theorem cl_flat (c : Int × Int) : flatL (clC c) = true := rfl
theorem fn_flat (f : Fn) : flatL f.cells = true := rfl
theorem fn_len (f : Fn) : f.cells.length = 5 := rfl

theorem eqIt (x y : It) : ∃ b, eqCells [false, false, false, false, false, false] x.cells y.cells = some b ∧ (b = true ↔ x = y) := by
  refine ⟨_, rfl, ?_⟩
  obtain ⟨a1, a2, a3, a4, a5, a6⟩ := x
  obtain ⟨b1, b2, b3, b4, b5, b6⟩ := y
  simp

theorem eqItems_loop {h : Heap} {s0 s1 : SA} {n : Nat} {l0 l1 : List It} (H0 : VS It.cells 6 h s0 n l0) (H1 : VS It.cells 6 h s1 n l1) (hn : n < big) : ∀ (k j : Nat), j + k = n →
    ∃ b, L53x9 mk0 E s0 n s1 n ((n : Nat) : Int) ((j : Nat) : Int) h (Q53x9 mk0 E) = some (.bool b, h) ∧ (b = true ↔ l0.drop j = l1.drop j) := by
  have hl0 := H0.1
  have hl1 := H1.1
  have hb : big = 17592186044416 := rfl
  intro k
  induction k with
  | zero =>
    intro j hj
    rw [L53x9xeq, letK_eq, if_neg (by simp; omega), X53x9xe0]
    exact ⟨true, rfl, by rw [List.drop_eq_nil_of_le (by omega), List.drop_eq_nil_of_le (by omega)]; simp⟩
  | succ k ih =>
    intro j hj
    obtain ⟨x, hx⟩ := at_lt (l := l0) (i := j) (by omega)
    obtain ⟨y, hy⟩ := at_lt (l := l1) (i := j) (by omega)
    obtain ⟨a, ha, la⟩ := vs_ld H0 it_flat j x hx
    obtain ⟨c, hc, lc⟩ := vs_ld H1 it_flat j y hy
    obtain ⟨b, hb1, hb2⟩ := eqIt x y
    obtain ⟨r, ih1, ih2⟩ := ih (j + 1) (by omega)
    rw [L53x9xeq, letK_eq, if_pos (by simp; omega), chk_of (by intro _; omega), ha, atP_of, Int.toNat_natCast, la, gCells_of]
    simp only [It.cells, List.getElem?_cons_zero, List.getElem?_cons_succ]
    rw [gI_of, gI_of, gI_of, gI_of, gI_of, gI_of, chk_of (by intro _; omega), hc, atP_of, lc, gCells_of]
    simp only [It.cells, List.getElem?_cons_zero, List.getElem?_cons_succ]
    rw [gI_of, gI_of, gI_of, gI_of, gI_of, gI_of]
    have hb1' : eqCells [false, false, false, false, false, false] [.int .i64 x.op, .int .i64 x.d, .int .i64 x.a, .int .i64 x.b, .int .i64 x.n, .int .i64 x.to] [.int .i64 y.op, .int .i64 y.d, .int .i64 y.a, .int .i64 y.b, .int .i64 y.n, .int .i64 y.to] = some b := hb1
    rw [hb1', gb_some, drop_at hx, drop_at hy]
    cases b with
    | false =>
      rw [if_pos (by simp), X53x9xr]
      refine ⟨false, rfl, ?_⟩
      constructor
      · intro h; cases h
      · intro h
        injection h with h1 h2
        exact (hb2.2 h1)
    | true =>
      rw [if_neg (by simp), letK_eq, wrap64 (by omega) (by omega), show ((j : Int) + 1) = ((j + 1 : Nat) : Int) by omega, ih1]
      refine ⟨r, rfl, ?_⟩
      rw [ih2, hb2.1 rfl]
      simp

theorem eqItems_ok {h : Heap} {s0 s1 : SA} {n0 n1 : Nat} {l0 l1 : List It} (H0 : VS It.cells 6 h s0 n0 l0) (H1 : VS It.cells 6 h s1 n1 l1) (hn : n0 < big) :
    ∃ b, E 53 [.sl s0 n0, .sl s1 n1] h = some (.bool b, h) ∧ (b = true ↔ l0 = l1) := by
  rw [e53, letK_eq]
  by_cases e : n0 = n1
  · subst e
    rw [if_neg (by simp)]
    obtain ⟨b, h1, h2⟩ := eqItems_loop H0 H1 hn n0 0 (by omega)
    exact ⟨b, h1, by simpa using h2⟩
  · rw [if_pos (by simp; omega)]
    refine ⟨false, rfl, ?_⟩
    have := H0.1
    have := H1.1
    exact ⟨fun h => (by cases h), fun h => (by subst h; omega)⟩

theorem eqInts_ok {h : Heap} {s0 s1 : SA} {n0 n1 : Nat} {l0 l1 : List Int} (H0 : VS intC 1 h s0 n0 l0) (H1 : VS intC 1 h s1 n1 l1) (hn : n0 < big) :
    E 26 [.sl s0 n0, .sl s1 n1] h = some (.bool (decide (l0 = l1)), h) :=
  equal_ok (is_VS H0) (is_VS H1) (by have hb : big = 17592186044416 := rfl; omega)

theorem sameMap_ok {h : Heap} {m m' : Mp} (H : m.R h) (H' : m'.R h) : ∃ b, E 55 [.agg [.int .i64 m.item, .bool m.aft, .sl m.s m.slots.length, .int .i64 m.regs], .agg [.int .i64 m'.item, .bool m'.aft, .sl m'.s m'.slots.length, .int .i64 m'.regs]] h = some (.bool b, h) ∧ (b = true ↔ m.val = m'.val) := by
  rw [e55, letK_eq, gB_any, gB_any, letK_eq, gI_any, gI_any, letK_eq, letK_eq, gL_any, gL_any, eqInts_ok H.1 H'.1 H.2, callO_bool, Option.bind_some, gB_any, letK_eq]
  refine ⟨_, rfl, ?_⟩
  unfold Mp.val
  by_cases h1 : m.item = m'.item <;> by_cases h2 : m.regs = m'.regs <;> by_cases h3 : m.slots = m'.slots <;> cases h4 : m.aft <;> cases h5 : m'.aft <;> simp [h1, h2, h3]

theorem eqMaps_loop {h : Heap} {s0 s1 : SA} {n : Nat} {l0 l1 : List Mp} (H0 : VS Mp.cells 4 h s0 n l0) (H1 : VS Mp.cells 4 h s1 n l1) (R0 : ∀ m ∈ l0, m.R h) (R1 : ∀ m ∈ l1, m.R h) (hn : n < big) : ∀ (k j : Nat), j + k = n →
    ∃ b, L54x9 mk0 E s1 n (.fn 55 [] []) s0 n ((n : Nat) : Int) ((j : Nat) : Int) h (Q54x9 mk0 E) = some (.bool b, h) ∧ (b = true ↔ (l0.drop j).map Mp.val = (l1.drop j).map Mp.val) := by
  have hl0 := H0.1
  have hl1 := H1.1
  have hb : big = 17592186044416 := rfl
  intro k
  induction k with
  | zero =>
    intro j hj
    rw [L54x9xeq, letK_eq, if_neg (by simp; omega), X54x9xe0]
    exact ⟨true, rfl, by rw [List.drop_eq_nil_of_le (by omega), List.drop_eq_nil_of_le (by omega)]; simp⟩
  | succ k ih =>
    intro j hj
    obtain ⟨x, hx⟩ := at_lt (l := l0) (i := j) (by omega)
    obtain ⟨y, hy⟩ := at_lt (l := l1) (i := j) (by omega)
    obtain ⟨a, ha, la⟩ := vs_ld H0 mp_flat j x hx
    obtain ⟨c, hc, lc⟩ := vs_ld H1 mp_flat j y hy
    obtain ⟨b, hb1, hb2⟩ := sameMap_ok (R0 x (List.mem_of_getElem? hx)) (R1 y (List.mem_of_getElem? hy))
    obtain ⟨r, ih1, ih2⟩ := ih (j + 1) (by omega)
    rw [L54x9xeq, letK_eq, if_pos (by simp; omega), chk_of (by intro _; omega), ha, atP_of, Int.toNat_natCast, la, gCells_of]
    simp only [Mp.cells, List.getElem?_cons_zero, List.getElem?_cons_succ]
    rw [gI_of, gB_of, gL_of, gI_of, chk_of (by intro _; omega), hc, atP_of, lc, gCells_of]
    simp only [Mp.cells, List.getElem?_cons_zero, List.getElem?_cons_succ]
    rw [gI_of, gB_of, gL_of, gI_of]
    show ∃ b, Option.bind (E 55 [.agg [.int .i64 x.item, .bool x.aft, .sl x.s x.slots.length, .int .i64 x.regs], .agg [.int .i64 y.item, .bool y.aft, .sl y.s y.slots.length, .int .i64 y.regs]] h) _ = _ ∧ _
    rw [hb1, Option.bind_some, gB_of, drop_at hx, drop_at hy, List.map_cons, List.map_cons]
    cases b with
    | false =>
      rw [if_pos (by simp), X54x9xr]
      refine ⟨false, rfl, ?_⟩
      constructor
      · intro h; cases h
      · intro h
        injection h with h1 h2
        exact (hb2.2 h1)
    | true =>
      rw [if_neg (by simp), letK_eq, wrap64 (by omega) (by omega), show ((j : Int) + 1) = ((j + 1 : Nat) : Int) by omega, ih1]
      refine ⟨r, rfl, ?_⟩
      rw [ih2, hb2.1 rfl]
      simp

theorem eqMaps_ok {h : Heap} {s0 s1 : SA} {n0 n1 : Nat} {l0 l1 : List Mp} (H0 : VS Mp.cells 4 h s0 n0 l0) (H1 : VS Mp.cells 4 h s1 n1 l1) (R0 : ∀ m ∈ l0, m.R h) (R1 : ∀ m ∈ l1, m.R h) (hn : n0 < big) :
    ∃ b, E 54 [.sl s0 n0, .sl s1 n1, .fn 55 [] []] h = some (.bool b, h) ∧ (b = true ↔ l0.map Mp.val = l1.map Mp.val) := by
  rw [e54, letK_eq]
  by_cases e : n0 = n1
  · subst e
    rw [if_neg (by simp)]
    obtain ⟨b, h1, h2⟩ := eqMaps_loop H0 H1 R0 R1 hn n0 0 (by omega)
    exact ⟨b, h1, by simpa using h2⟩
  · rw [if_pos (by simp; omega)]
    refine ⟨false, rfl, ?_⟩
    have h0 := H0.1
    have h1 := H1.1
    exact ⟨fun h => (by cases h), fun h => (by have := congrArg List.length h; simp at this; omega)⟩

/-- A reference, with the class of what it names. -/
def cv (cl : List Int) (c : Int × Int) : Int × Int := (c.1, cl.getD c.2.toNat 0)

theorem sameCl_ok {h : Heap} {p n : Nat} {s : SA} {cl : List Int} (HC : VS intC 1 h s n cl) (hp : h[p]? = some (.cells [.sl s n] .fix 0)) (x y : Int × Int) (hx : 0 ≤ x.2 ∧ x.2 < n) (hy : 0 ≤ y.2 ∧ y.2 < n) :
    ∃ b, E 57 [.agg [.int .i64 x.1, .int .i64 x.2], .agg [.int .i64 y.1, .int .i64 y.2], .ptr (some ⟨p, 0, 0⟩)] h = some (.bool b, h) ∧ (b = true ↔ cv cl x = cv cl y) := by
  have rd : ld1 h ⟨p, 0, 0⟩ = some (.sl s n) := ld1_at hp rfl rfl
  have hl := HC.1
  obtain ⟨v, hv⟩ := at_lt (l := cl) (i := x.2.toNat) (by omega)
  obtain ⟨w, hw⟩ := at_lt (l := cl) (i := y.2.toNat) (by omega)
  obtain ⟨a, ha, la⟩ := vs_ld1 (g := AV.int .i64) HC (fun _ => rfl) _ _ hv
  obtain ⟨c, hc, lc⟩ := vs_ld1 (g := AV.int .i64) HC (fun _ => rfl) _ _ hw
  rw [ha] at hc
  injection hc with hc
  subst hc
  rw [e57, letK_eq, atP_any, rd, gL_any, gI_any, chk_of (by intro _; exact hx), ha, atP_any, atP_any, la, gI_any, atP_any, rd, gL_any, gI_any, chk_of (by intro _; exact hy), ha, atP_any, atP_any, lc, gI_any, letK_eq, letK_eq]
  refine ⟨_, rfl, ?_⟩
  unfold cv
  simp [List.getD, hv, hw]

theorem eqCls_loop {h : Heap} {p n s1n : Nat} {s s0 s1 : SA} {cl : List Int} (HC : VS intC 1 h s n cl) (hp : h[p]? = some (.cells [.sl s n] .fix 0)) {m : Nat} {l0 l1 : List (Int × Int)} (H0 : VS clC 2 h s0 m l0) (H1 : VS clC 2 h s1 m l1)
    (R0 : ∀ c ∈ l0, 0 ≤ c.2 ∧ c.2 < n) (R1 : ∀ c ∈ l1, 0 ≤ c.2 ∧ c.2 < n) (hn : m < big) : ∀ (k j : Nat), j + k = m →
    ∃ b, L56x9 mk0 E s1 m (.fn 57 [] [.ptr (some ⟨p, 0, 0⟩)]) s0 m ((m : Nat) : Int) ((j : Nat) : Int) h (Q56x9 mk0 E) = some (.bool b, h) ∧ (b = true ↔ (l0.drop j).map (cv cl) = (l1.drop j).map (cv cl)) := by
  have hl0 := H0.1
  have hl1 := H1.1
  have hb : big = 17592186044416 := rfl
  intro k
  induction k with
  | zero =>
    intro j hj
    rw [L56x9xeq, letK_eq, if_neg (by simp; omega), X56x9xe0]
    exact ⟨true, rfl, by rw [List.drop_eq_nil_of_le (by omega), List.drop_eq_nil_of_le (by omega)]; simp⟩
  | succ k ih =>
    intro j hj
    obtain ⟨x, hx⟩ := at_lt (l := l0) (i := j) (by omega)
    obtain ⟨y, hy⟩ := at_lt (l := l1) (i := j) (by omega)
    obtain ⟨a, ha, la⟩ := vs_ld H0 cl_flat j x hx
    obtain ⟨c, hc, lc⟩ := vs_ld H1 cl_flat j y hy
    obtain ⟨b, hb1, hb2⟩ := sameCl_ok HC hp x y (R0 x (List.mem_of_getElem? hx)) (R1 y (List.mem_of_getElem? hy))
    obtain ⟨r, ih1, ih2⟩ := ih (j + 1) (by omega)
    rw [L56x9xeq, letK_eq, if_pos (by simp; omega), chk_of (by intro _; omega), ha, atP_of, Int.toNat_natCast, la, gCells_of]
    simp only [clC, List.getElem?_cons_zero, List.getElem?_cons_succ]
    rw [gI_of, gI_of, chk_of (by intro _; omega), hc, atP_of, lc, gCells_of]
    simp only [clC, List.getElem?_cons_zero, List.getElem?_cons_succ]
    rw [gI_of, gI_of]
    show ∃ b, Option.bind (E 57 [.agg [.int .i64 x.1, .int .i64 x.2], .agg [.int .i64 y.1, .int .i64 y.2], .ptr (some ⟨p, 0, 0⟩)] h) _ = _ ∧ _
    rw [hb1, Option.bind_some, gB_of, drop_at hx, drop_at hy, List.map_cons, List.map_cons]
    cases b with
    | false =>
      rw [if_pos (by simp), X56x9xr]
      refine ⟨false, rfl, ?_⟩
      constructor
      · intro h; cases h
      · intro h
        injection h with h1 h2
        exact (hb2.2 h1)
    | true =>
      rw [if_neg (by simp), letK_eq, wrap64 (by omega) (by omega), show ((j : Int) + 1) = ((j + 1 : Nat) : Int) by omega, ih1]
      refine ⟨r, rfl, ?_⟩
      rw [ih2, hb2.1 rfl]
      simp

theorem eqCls_ok {h : Heap} {p n : Nat} {s s0 s1 : SA} {cl : List Int} (HC : VS intC 1 h s n cl) (hp : h[p]? = some (.cells [.sl s n] .fix 0)) {n0 n1 : Nat} {l0 l1 : List (Int × Int)} (H0 : VS clC 2 h s0 n0 l0) (H1 : VS clC 2 h s1 n1 l1)
    (R0 : ∀ c ∈ l0, 0 ≤ c.2 ∧ c.2 < n) (R1 : ∀ c ∈ l1, 0 ≤ c.2 ∧ c.2 < n) (hn : n0 < big) :
    ∃ b, E 56 [.sl s0 n0, .sl s1 n1, .fn 57 [] [.ptr (some ⟨p, 0, 0⟩)]] h = some (.bool b, h) ∧ (b = true ↔ l0.map (cv cl) = l1.map (cv cl)) := by
  rw [e56, letK_eq]
  by_cases e : n0 = n1
  · subst e
    rw [if_neg (by simp)]
    obtain ⟨b, h1, h2⟩ := eqCls_loop (s1n := 0) HC hp H0 H1 R0 R1 hn n0 0 (by omega)
    exact ⟨b, h1, by simpa using h2⟩
  · rw [if_pos (by simp; omega)]
    refine ⟨false, rfl, ?_⟩
    have h0 := H0.1
    have h1 := H1.1
    exact ⟨fun h => (by cases h), fun h => (by have := congrArg List.length h; simp at this; omega)⟩

/-- What two functions are compared by. -/
def sig (cl : List Int) (f : Fn) : Int × List It × List (Int × Bool × List Int × Int) × List (Int × Int) := (f.size, f.its, f.mps.map Mp.val, f.cls.map (cv cl))

theorem same_ok {h : Heap} {n : Nat} {s : SA} {cl : List Int} (HC : VS intC 1 h s n cl) {f g : Fn} (F : f.R h) (G : g.R h) (Rf : ∀ c ∈ f.cls, 0 ≤ c.2 ∧ c.2 < n) (Rg : ∀ c ∈ g.cls, 0 ≤ c.2 ∧ c.2 < n) :
    ∃ b h', E 46 [.agg [.int .i64 f.nm, .sl f.sI f.its.length, .sl f.sC f.cls.length, .sl f.sM f.mps.length, .int .i64 f.size], .agg [.int .i64 g.nm, .sl g.sI g.its.length, .sl g.sC g.cls.length, .sl g.sM g.mps.length, .int .i64 g.size], .sl s n] h = some (.bool b, h') ∧ Old h h' ∧ (b = true ↔ sig cl f = sig cl g) := by
  rw [e46, newK_eq, letK_eq, gL_any, gL_any]
  generalize hh2 : h ++ [Blk.cells [AV.sl s n] .fix 0] = h2
  have o2 : Old h h2 := by rw [← hh2]; exact old_app _ _
  have hp : h2[h.length]? = some (.cells [.sl s n] .fix 0) := by rw [← hh2]; exact last_get _ _
  have F2 := F.old o2
  have G2 := G.old o2
  obtain ⟨b1, x1, y1⟩ := eqItems_ok F2.i G2.i F2.bi
  obtain ⟨b2, x2, y2⟩ := eqMaps_ok F2.m G2.m F2.s G2.s F2.bm
  obtain ⟨b3, x3, y3⟩ := eqCls_ok (vs_old HC o2) hp F2.c G2.c Rf Rg F2.bc
  rw [x1, callO_bool, Option.bind_some, gB_any, letK_eq, gL_any, gL_any]
  dsimp only
  rw [x2, callO_bool, Option.bind_some, gB_any, letK_eq, gL_any, gL_any]
  dsimp only
  rw [x3, callO_bool, Option.bind_some, gB_any, letK_eq]
  refine ⟨_, h2, rfl, o2, ?_⟩
  unfold sig
  rw [Prod.mk.injEq, Prod.mk.injEq, Prod.mk.injEq, ← y1, ← y2, ← y3]
  by_cases e : f.size = g.size <;> cases b1 <;> cases b2 <;> cases b3 <;> simp [e]

end Go.Proofs.Ytmfmnbldngfelaa.I

/- link: functions checked. -/
set_option linter.unusedVariables false
set_option linter.unusedSimpArgs false
namespace Go.Proofs.Ytmfmnbldngfelaa.I
open Go Go.Proofs.Ytmfmnbldngfelaa.Abs Go.Proofs

def callsOk (its : List It) (many : Nat) : Int → List (Int × Int) → Prop
  | _, [] => True
  | last, c :: r => last < c.1 ∧ c.1 < its.length ∧ 0 ≤ c.2 ∧ c.2 < many ∧ (∀ x, its[c.1.toNat]? = some x → (x.op = 20 ∨ x.op = 11) ∧ x.to < 0 ∧ x.n = 0) ∧ callsOk its many c.1 r

def mapsOk (ni : Nat) : Int → List Mp → Prop
  | _, [] => True
  | last, m :: r => last < m.item ∧ m.item < ni ∧ (m.aft = true → m.item + 1 < ni) ∧ mapsOk ni m.item r

def refsOk (f : Fn) (many : Nat) : Prop := (∀ x ∈ f.its, x.to ≠ f.its.length) ∧ callsOk f.its many (-1) f.cls ∧ mapsOk f.its.length (-1) f.mps

def fnOk (many : Nat) (f : Fn) : Prop := (f.its.length ≤ 16384 ∧ ∀ x ∈ f.its, It.ok f.its.length x) ∧ f.its.length ≠ 0 ∧ 1 ≤ f.size ∧ f.size ≤ 4096 ∧ refsOk f many

theorem maps_loop {h : Heap} {f : Fn} (F : f.R h) (nm : Int) (sz : Int) : ∀ (k j : Nat), j + k = f.mps.length → ∀ last : Int, -1 ≤ last →
    ∃ v, L52x43 mk0 E nm f.sI f.its.length f.sC f.cls.length f.sM f.mps.length sz last f.sM f.mps.length ((f.mps.length : Nat) : Int) ((j : Nat) : Int) h (Q52x43 mk0 E) = some (.int .i64 v, h) ∧ (v = 0 ↔ mapsOk f.its.length last (f.mps.drop j)) := by
  have hb : big = 17592186044416 := rfl
  have bi := F.bi
  have bm := F.bm
  intro k
  induction k with
  | zero =>
    intro j hj last hl
    rw [L52x43xeq, letK_eq, if_neg (by simp; omega), X52x43xe4]
    exact ⟨0, rfl, by rw [List.drop_eq_nil_of_le (by omega)]; simp [mapsOk]⟩
  | succ k ih =>
    intro j hj last hl
    obtain ⟨x, hx⟩ := at_lt (l := f.mps) (i := j) (by omega)
    obtain ⟨a, ha, la⟩ := vs_ld F.m mp_flat j x hx
    rw [L52x43xeq, letK_eq, if_pos (by simp; omega), chk_of (by intro _; omega), ha, atP_of, Int.toNat_natCast, la, gCells_of]
    simp only [Mp.cells, List.getElem?_cons_zero, List.getElem?_cons_succ]
    rw [gI_of, gB_of, gL_of, gI_of, letK_eq, gI_any, gL_any, letK_eq, letK_eq, gB_any, gI_any, letK_eq, gL_any, letK_eq, letK_eq, letK_eq, drop_at hx]
    have bad : ¬ (last < x.item ∧ x.item < f.its.length ∧ (x.aft = true → x.item + 1 < f.its.length)) → ∃ v, Q52x43 mk0 E .ret (S52xr 4 h) = some (.int .i64 v, h) ∧ (v = 0 ↔ mapsOk f.its.length last (x :: f.mps.drop (j + 1))) := by
      intro hn
      rw [X52x43xr]
      exact ⟨4, rfl, fun h => absurd h (by decide), fun h => absurd ⟨h.1, h.2.1, h.2.2.1⟩ hn⟩
    by_cases h1 : x.item ≤ last
    · rw [decide_eq_true h1, if_pos (by rfl)]
      exact bad (by omega)
    · by_cases h2 : (f.its.length : Int) ≤ x.item
      · rw [decide_eq_false h1, decide_eq_true h2, if_pos (by rfl)]
        exact bad (by omega)
      · rw [wrap64 (by omega) (by omega), decide_eq_false h1, decide_eq_false h2]
        by_cases h3 : x.aft = true ∧ (f.its.length : Int) ≤ x.item + 1
        · rw [h3.1, decide_eq_true h3.2, if_pos (by rfl)]
          exact bad (by rw [h3.1]; simp; omega)
        · rw [if_neg (by
            cases hq : x.aft with
            | false => simp
            | true => rw [hq] at h3; simp at h3; simp; omega), letK_eq, wrap64 (by omega) (by omega), show ((j : Int) + 1) = ((j + 1 : Nat) : Int) by omega]
          obtain ⟨v, e1, e2⟩ := ih (j + 1) (by omega) x.item (by omega)
          refine ⟨v, e1, ?_⟩
          rw [e2]
          constructor
          · intro h
            exact ⟨by omega, by omega, fun hq => by rw [hq] at h3; simp at h3; omega, h⟩
          · intro h; exact h.2.2.2

theorem calls_loop {h : Heap} {f : Fn} (F : f.R h) (many : Nat) (nm : Int) (sz : Int) : ∀ (k j : Nat), j + k = f.cls.length → ∀ last : Int, -1 ≤ last →
    ∃ v, L52x20 mk0 E (many : Int) nm f.sI f.its.length f.sC f.cls.length f.sM f.mps.length sz last f.sC f.cls.length ((f.cls.length : Nat) : Int) ((j : Nat) : Int) h (Q52x20 mk0 E) = some (.int .i64 v, h) ∧ (v = 0 ↔ callsOk f.its many last (f.cls.drop j) ∧ mapsOk f.its.length (-1) f.mps) := by
  have hb : big = 17592186044416 := rfl
  have bi := F.bi
  have bc := F.bc
  intro k
  induction k with
  | zero =>
    intro j hj last hl
    rw [L52x20xeq, letK_eq, if_neg (by simp; omega), X52x20xe2]
    obtain ⟨v, e1, e2⟩ := maps_loop F nm sz f.mps.length 0 (by omega) (-1) (by omega)
    exact ⟨v, e1, by rw [List.drop_eq_nil_of_le (by omega), e2]; simp [callsOk]⟩
  | succ k ih =>
    intro j hj last hl
    obtain ⟨x, hx⟩ := at_lt (l := f.cls) (i := j) (by omega)
    obtain ⟨a, ha, la⟩ := vs_ld F.c cl_flat j x hx
    rw [L52x20xeq, letK_eq, if_pos (by simp; omega), chk_of (by intro _; omega), ha, atP_of, Int.toNat_natCast, la, gCells_of]
    simp only [clC, List.getElem?_cons_zero, List.getElem?_cons_succ]
    rw [gI_of, gI_of, letK_eq, gI_any, gL_any, letK_eq, letK_eq, gI_any, letK_eq, letK_eq, gI_any, letK_eq, letK_eq, drop_at hx]
    have bad : ∀ e : Int, e ≠ 0 → ¬ (callsOk f.its many last (x :: f.cls.drop (j + 1))) → ∃ v, Q52x20 mk0 E .ret (S52xr e h) = some (.int .i64 v, h) ∧ (v = 0 ↔ callsOk f.its many last (x :: f.cls.drop (j + 1)) ∧ mapsOk f.its.length (-1) f.mps) := by
      intro e he hn
      rw [X52x20xr]
      exact ⟨e, rfl, fun h => absurd h he, fun h => absurd h.1 hn⟩
    by_cases hrg : x.1 ≤ last ∨ (f.its.length : Int) ≤ x.1 ∨ x.2 < 0 ∨ (many : Int) ≤ x.2
    · rw [if_pos (by
        rcases hrg with hq | hq | hq | hq
        · simp [hq]
        · simp [hq]
        · simp [hq]
        · simp [hq])]
      exact bad 4 (by decide) fun h => by have := h.1; have := h.2.1; have := h.2.2.1; have := h.2.2.2.1; omega
    · rw [if_neg (by
        have q1 : ¬ x.1 ≤ last := by omega
        have q2 : ¬ (f.its.length : Int) ≤ x.1 := by omega
        have q3 : ¬ x.2 < 0 := by omega
        have q4 : ¬ (many : Int) ≤ x.2 := by omega
        simp [q1, q2, q3, q4])]
      obtain ⟨y, hy⟩ := at_lt (l := f.its) (i := x.1.toNat) (by omega)
      obtain ⟨b, hb1, lb⟩ := vs_ld F.i it_flat _ y hy
      rw [chk_of (by intro _; omega), hb1, atP_of, lb, gCells_of]
      simp only [It.cells, List.getElem?_cons_zero, List.getElem?_cons_succ]
      rw [gI_of, gI_of, gI_of, gI_of, gI_of, gI_of, letK_eq, gI_any, letK_eq, letK_eq, gI_any, letK_eq, letK_eq, gI_any, letK_eq, letK_eq]
      by_cases hgood : (y.op = 20 ∨ y.op = 11) ∧ y.to < 0 ∧ y.n = 0
      · rw [if_neg (by
          obtain ⟨q1, q2, q3⟩ := hgood
          have q4 : ¬ 0 ≤ y.to := by omega
          rcases q1 with q1 | q1 <;> simp [q1, q3, q4]), letK_eq, wrap64 (by omega) (by omega), show ((j : Int) + 1) = ((j + 1 : Nat) : Int) by omega]
        obtain ⟨v, e1, e2⟩ := ih (j + 1) (by omega) x.1 (by omega)
        refine ⟨v, e1, ?_⟩
        rw [e2]
        constructor
        · intro h
          exact ⟨⟨by omega, by omega, by omega, by omega, fun z hz => by rw [hy] at hz; cases hz; exact hgood, h.1⟩, h.2⟩
        · intro h; exact ⟨h.1.2.2.2.2.2, h.2⟩
      · rw [if_pos (by
          by_cases q1 : y.op = 20
          · by_cases q2 : 0 ≤ y.to
            · simp [q1, q2]
            · have : ¬ y.n = 0 := fun q3 => hgood ⟨.inl q1, by omega, q3⟩
              simp [q1, q2, this]
          · by_cases q1' : y.op = 11
            · by_cases q2 : 0 ≤ y.to
              · simp [q1', q2]
              · have : ¬ y.n = 0 := fun q3 => hgood ⟨.inr q1', by omega, q3⟩
                simp [q1', q2, this]
            · simp [q1, q1'])]
        exact bad 3 (by decide) fun h => hgood (h.2.2.2.2.1 y hy)

theorem refs_loop {h : Heap} {f : Fn} (F : f.R h) (many : Nat) (nm : Int) (sz : Int) : ∀ (k j : Nat), j + k = f.its.length →
    ∃ v, L52x4 mk0 E (many : Int) nm f.sI f.its.length f.sC f.cls.length f.sM f.mps.length sz f.sI f.its.length ((f.its.length : Nat) : Int) ((j : Nat) : Int) h (Q52x4 mk0 E) = some (.int .i64 v, h) ∧ (v = 0 ↔ (∀ x ∈ f.its.drop j, x.to ≠ f.its.length) ∧ callsOk f.its many (-1) f.cls ∧ mapsOk f.its.length (-1) f.mps) := by
  have hb : big = 17592186044416 := rfl
  have bi := F.bi
  intro k
  induction k with
  | zero =>
    intro j hj
    rw [L52x4xeq, letK_eq, if_neg (by simp; omega), X52x4xe0]
    obtain ⟨v, e1, e2⟩ := calls_loop F many nm sz f.cls.length 0 (by omega) (-1) (by omega)
    exact ⟨v, e1, by rw [List.drop_eq_nil_of_le (by omega), e2]; simp⟩
  | succ k ih =>
    intro j hj
    obtain ⟨x, hx⟩ := at_lt (l := f.its) (i := j) (by omega)
    obtain ⟨a, ha, la⟩ := vs_ld F.i it_flat j x hx
    rw [L52x4xeq, letK_eq, if_pos (by simp; omega), chk_of (by intro _; omega), ha, atP_of, Int.toNat_natCast, la, gCells_of]
    simp only [It.cells, List.getElem?_cons_zero, List.getElem?_cons_succ]
    rw [gI_of, gI_of, gI_of, gI_of, gI_of, gI_of, letK_eq, drop_at hx]
    by_cases e : x.to = (f.its.length : Int)
    · rw [if_pos (by simp [e]), X52x4xr]
      exact ⟨4, rfl, fun h => absurd h (by decide), fun h => absurd e (h.1 x (by simp))⟩
    · rw [if_neg (by simp [e]), letK_eq, wrap64 (by omega) (by omega), show ((j : Int) + 1) = ((j + 1 : Nat) : Int) by omega]
      obtain ⟨v, e1, e2⟩ := ih (j + 1) (by omega)
      refine ⟨v, e1, ?_⟩
      rw [e2]
      constructor
      · intro h
        refine ⟨fun y hy => ?_, h.2⟩
        rcases List.mem_cons.1 hy with rfl | hy
        · exact e
        · exact h.1 y hy
      · intro h; exact ⟨fun y hy => h.1 y (by simp [hy]), h.2⟩

theorem checkRefs_ok {h : Heap} {f : Fn} (F : f.R h) (many : Nat) : ∃ v, E 52 [.agg [.int .i64 f.nm, .sl f.sI f.its.length, .sl f.sC f.cls.length, .sl f.sM f.mps.length, .int .i64 f.size], .int .i64 (many : Int)] h = some (.int .i64 v, h) ∧ (v = 0 ↔ refsOk f many) := by
  rw [e52]
  obtain ⟨v, e1, e2⟩ := refs_loop F many f.nm f.size f.its.length 0 (by omega)
  exact ⟨v, e1, e2⟩

theorem lcheck_loop {h : Heap} {s : SA} {n : Nat} {l : List Fn} (H : VS Fn.cells 5 h s n l) (R : ∀ f ∈ l, f.R h) (hn : n ≤ 256) : ∀ (k j : Nat), j + k = n →
    ∃ v, L45x9 mk0 E s n s n ((n : Nat) : Int) ((j : Nat) : Int) h (Q45x9 mk0 E) = some (.int .i64 v, h) ∧ (v = 0 ↔ ∀ f ∈ l.drop j, fnOk n f) := by
  have hl := H.1
  intro k
  induction k with
  | zero =>
    intro j hj
    rw [L45x9xeq, letK_eq, if_neg (by simp; omega), X45x9xe0]
    exact ⟨0, rfl, by rw [List.drop_eq_nil_of_le (by omega)]; simp⟩
  | succ k ih =>
    intro j hj
    obtain ⟨f, hx⟩ := at_lt (l := l) (i := j) (by omega)
    have F := R f (List.mem_of_getElem? hx)
    obtain ⟨a, ha, la⟩ := vs_ld H fn_flat j f hx
    obtain ⟨v, r1, r2⟩ := rcheck_ok F.i
    rw [L45x9xeq, letK_eq, if_pos (by simp; omega), chk_of (by intro _; omega), ha, atP_of, Int.toNat_natCast, la, gCells_of]
    simp only [Fn.cells, List.getElem?_cons_zero, List.getElem?_cons_succ]
    rw [gI_of, gL_of, gL_of, gL_of, gI_of, r1, Option.bind_some, gI_of, letK_eq, drop_at hx]
    have bad : ∀ e : Int, e ≠ 0 → ¬ fnOk n f → ∃ v, Q45x9 mk0 E .ret (S45xr e h) = some (.int .i64 v, h) ∧ (v = 0 ↔ ∀ g ∈ f :: l.drop (j + 1), fnOk n g) := by
      intro e he hq
      rw [X45x9xr]
      exact ⟨e, rfl, fun h => absurd h he, fun h => absurd (h f (by simp)) hq⟩
    by_cases hv : v = 0
    · rw [if_neg (by simp [hv]), letK_eq, gI_any, letK_eq, letK_eq, gI_any, letK_eq, letK_eq]
      by_cases hs : f.its.length = 0 ∨ f.size < 1 ∨ 4096 < f.size
      · rw [if_pos (by
          rcases hs with hs | hs | hs
          · simp [hs]
          · simp [hs]
          · simp [hs])]
        exact bad 4 (by decide) fun h => by have := h.2.1; have := h.2.2.1; have := h.2.2.2.1; omega
      · rw [if_neg (by
          have q1 : ¬ f.its.length = 0 := by omega
          have q1' : ¬ f.its = [] := by intro e; rw [e] at q1; simp at q1
          have q2 : ¬ f.size < 1 := by omega
          have q3 : ¬ 4096 < f.size := by omega
          simp [q1', q2, q3])]
        obtain ⟨w, w1, w2⟩ := checkRefs_ok F n
        rw [w1, Option.bind_some, gI_of, letK_eq]
        by_cases hw : w = 0
        · rw [if_neg (by simp [hw]), letK_eq, wrap64 (by omega) (by omega), show ((j : Int) + 1) = ((j + 1 : Nat) : Int) by omega]
          obtain ⟨u, e1, e2⟩ := ih (j + 1) (by omega)
          refine ⟨u, e1, ?_⟩
          rw [e2]
          constructor
          · intro h g hg
            rcases List.mem_cons.1 hg with rfl | hg
            · exact ⟨r2.1 hv, by omega, by omega, by omega, w2.1 hw⟩
            · exact h g hg
          · intro h g hg; exact h g (by simp [hg])
        · rw [if_pos (by simp [hw])]
          exact bad w hw fun h => hw (w2.2 h.2.2.2.2)
    · rw [if_pos (by simp [hv])]
      exact bad v hv fun h => hv (r2.2 h.1)

theorem lcheck_ok {h : Heap} {s : SA} {n : Nat} {l : List Fn} (H : VS Fn.cells 5 h s n l) (R : ∀ f ∈ l, f.R h) : ∃ v, E 45 [.sl s n] h = some (.int .i64 v, h) ∧ (v = 0 ↔ n ≤ 256 ∧ ∀ f ∈ l, fnOk n f) := by
  rw [e45, letK_eq]
  by_cases hn : 256 < n
  · rw [if_pos (by simp; omega)]
    exact ⟨2, rfl, fun h => absurd h (by decide), fun h => by omega⟩
  · rw [if_neg (by simp; omega)]
    obtain ⟨v, e1, e2⟩ := lcheck_loop H R (by omega) n 0 (by omega)
    exact ⟨v, e1, by rw [e2]; exact ⟨fun h => ⟨by omega, h⟩, fun h => h.2⟩⟩

end Go.Proofs.Ytmfmnbldngfelaa.I

/- link: Merge. -/
set_option linter.unusedVariables false
set_option linter.unusedSimpArgs false
namespace Go.Proofs.Ytmfmnbldngfelaa.I
open Go Go.Proofs.Ytmfmnbldngfelaa.Abs Go.Proofs

/-! ### The first with a key -/

open Classical in
noncomputable def srch {κ : Type} (key : Nat → κ) (i : Nat) : Nat → Nat → Nat
  | 0, k => k
  | m + 1, k => if key k = key i then k else srch key i m (k + 1)

noncomputable def fo {κ : Type} (key : Nat → κ) (i : Nat) : Nat := srch key i i 0

theorem srch_spec {κ : Type} (key : Nat → κ) (i : Nat) : ∀ m k, k + m = i → k ≤ srch key i m k ∧ srch key i m k ≤ i ∧ key (srch key i m k) = key i ∧ ∀ q, k ≤ q → q < srch key i m k → key q ≠ key i := by
  intro m
  induction m with
  | zero =>
    intro k hk
    have : k = i := by omega
    subst this
    unfold srch
    exact ⟨Nat.le_refl _, Nat.le_refl _, rfl, fun q h1 h2 => by omega⟩
  | succ m ih =>
    intro k hk
    unfold srch
    by_cases e : key k = key i
    · rw [if_pos e]
      exact ⟨Nat.le_refl _, by omega, e, fun q h1 h2 => by omega⟩
    · rw [if_neg e]
      obtain ⟨h1, h2, h3, h4⟩ := ih (k + 1) (by omega)
      refine ⟨by omega, h2, h3, fun q h5 h6 => ?_⟩
      by_cases hq : q = k
      · rw [hq]; exact e
      · exact h4 q (by omega) h6

theorem fo_le {κ : Type} (key : Nat → κ) (i : Nat) : fo key i ≤ i := (srch_spec key i i 0 (by omega)).2.1
theorem fo_key {κ : Type} (key : Nat → κ) (i : Nat) : key (fo key i) = key i := (srch_spec key i i 0 (by omega)).2.2.1
theorem fo_first {κ : Type} (key : Nat → κ) (i q : Nat) (h : q < fo key i) : key q ≠ key i := (srch_spec key i i 0 (by omega)).2.2.2 q (by omega) h

theorem fo_eq {κ : Type} {key : Nat → κ} {i k : Nat} (h1 : key k = key i) (h2 : ∀ q, q < k → key q ≠ key i) : fo key i = k := by
  rcases Nat.lt_trichotomy (fo key i) k with h | h | h
  · exact absurd (fo_key key i) (h2 _ h)
  · exact h
  · exact absurd h1 (fo_first key i k h)

theorem fo_same {κ : Type} {key : Nat → κ} {i k : Nat} (h : key i = key k) : fo key i = fo key k :=
  fo_eq ((fo_key key k).trans h.symm) fun q hq => by rw [h]; exact fo_first key k q hq

theorem fo_iff {κ : Type} {key : Nat → κ} {i k : Nat} : fo key i = fo key k ↔ key i = key k :=
  ⟨fun h => by rw [← fo_key key i, h, fo_key key k], fo_same⟩

theorem fo_fo {κ : Type} (key : Nat → κ) (i : Nat) : fo key (fo key i) = fo key i := fo_same (fo_key key i)

/-! ### Classes -/

def at_ (cl : List Int) (i : Nat) : Int := cl.getD i 0
noncomputable def key (l : List Fn) (cl : List Int) (i : Nat) : Int × Option (Int × List It × List (Int × Bool × List Int × Int) × List (Int × Int)) := (at_ cl i, (l[i]?).map (sig cl))
noncomputable def nxt (l : List Fn) (cl : List Int) : List Int := (List.range l.length).map fun i => ((fo (key l cl) i : Nat) : Int)

theorem nxt_len (l : List Fn) (cl : List Int) : (nxt l cl).length = l.length := by simp [nxt]
theorem at_nxt (l : List Fn) (cl : List Int) {i : Nat} (h : i < l.length) : at_ (nxt l cl) i = ((fo (key l cl) i : Nat) : Int) := by
  unfold at_ nxt
  simp [List.getD, h]

/-- Classes, each named by its first one. -/
structure Can (n : Nat) (cl : List Int) : Prop where
  len : cl.length = n
  lo : ∀ i, i < n → 0 ≤ at_ cl i
  hi : ∀ i, i < n → at_ cl i ≤ i
  fx : ∀ i, i < n → at_ cl (at_ cl i).toNat = at_ cl i

theorem can_nxt (l : List Fn) (cl : List Int) : Can l.length (nxt l cl) := by
  refine ⟨nxt_len l cl, fun i hi => ?_, fun i hi => ?_, fun i hi => ?_⟩
  · rw [at_nxt l cl hi]; omega
  · rw [at_nxt l cl hi]
    have := fo_le (key l cl) i
    omega
  · have := fo_le (key l cl) i
    rw [at_nxt l cl hi, Int.toNat_natCast, at_nxt l cl (by omega), fo_fo]

theorem can_zero (n : Nat) : Can n (List.replicate n 0) := by
  have h : ∀ i, at_ (List.replicate n 0) i = 0 := by
    intro i
    unfold at_
    by_cases hi : i < n
    · simp [List.getD, hi]
    · simp [List.getD, hi]
  exact ⟨by simp, fun i _ => by rw [h]; omega, fun i _ => by rw [h]; omega, fun i _ => by rw [h, h]⟩

/-- How many are the first of their classes. -/
def cntF (n : Nat) (cl : List Int) : Nat := ((List.range n).filter fun i => decide (at_ cl i = i)).length

theorem cntF_le (n : Nat) (cl : List Int) : cntF n cl ≤ n := by
  unfold cntF
  exact Nat.le_trans (List.length_filter_le _ _) (by simp)

theorem filter_le {α : Type} {p q : α → Bool} : ∀ {l : List α}, (∀ x ∈ l, p x = true → q x = true) → (l.filter p).length ≤ (l.filter q).length ∧ ((l.filter p).length = (l.filter q).length → ∀ x ∈ l, q x = true → p x = true)
  | [], _ => ⟨Nat.le_refl _, fun _ x hx => by cases hx⟩
  | a :: l, h => by
    obtain ⟨h1, h2⟩ := filter_le (l := l) (p := p) (q := q) fun x hx => h x (.tail _ hx)
    have ha := h a (.head _)
    cases hp : p a <;> cases hq : q a
    · simp only [List.filter_cons, hp, hq, Bool.false_eq_true, if_false]
      refine ⟨h1, fun e x hx => ?_⟩
      cases hx with
      | head => rw [hq]; intro h; cases h
      | tail _ hx => exact h2 e x hx
    · simp only [List.filter_cons, hp, hq, Bool.false_eq_true, if_false, if_true, List.length_cons]
      exact ⟨by omega, fun e => by omega⟩
    · rw [hp] at ha; rw [ha rfl] at hq; cases hq
    · simp only [List.filter_cons, hp, hq, if_true, List.length_cons]
      refine ⟨by omega, fun e x hx => ?_⟩
      cases hx with
      | head => intro _; exact hp
      | tail _ hx => exact h2 (by omega) x hx

theorem cntF_nxt {l : List Fn} {cl : List Int} (C : Can l.length cl) : cntF l.length cl ≤ cntF l.length (nxt l cl) ∧ (cntF l.length cl = cntF l.length (nxt l cl) → nxt l cl = cl) := by
  have kc : ∀ i k, key l cl i = key l cl k → at_ cl i = at_ cl k := fun i k h => congrArg Prod.fst h
  have fixp : ∀ i, i < l.length → at_ cl i = i → at_ (nxt l cl) i = i := by
    intro i hi h
    rw [at_nxt l cl hi]
    have h1 := fo_le (key l cl) i
    have h2 := kc _ _ (fo_key (key l cl) i)
    have h3 := C.hi (fo (key l cl) i) (by omega)
    rw [h2, h] at h3
    omega
  obtain ⟨h1, h2⟩ := filter_le (l := List.range l.length) (p := fun i => decide (at_ cl i = i)) (q := fun i => decide (at_ (nxt l cl) i = i)) fun x hx hp => decide_eq_true (fixp x (List.mem_range.1 hx) (of_decide_eq_true hp))
  refine ⟨h1, fun e => ?_⟩
  have h3 := h2 e
  have N := can_nxt l cl
  apply List.ext_getElem
  · rw [nxt_len, C.len]
  · intro i hi1 hi2
    have hi : i < l.length := by rw [nxt_len] at hi1; exact hi1
    have e1 : (nxt l cl)[i] = at_ (nxt l cl) i := by simp [at_, List.getD, hi1]
    have e2 : cl[i] = at_ cl i := by simp [at_, List.getD, hi2]
    rw [e1, e2, at_nxt l cl hi]
    have t1 := fo_le (key l cl) i
    have t2 : at_ (nxt l cl) (fo (key l cl) i) = ((fo (key l cl) i : Nat) : Int) := by rw [at_nxt l cl (by omega), fo_fo]
    have t3 := of_decide_eq_true (h3 (fo (key l cl) i) (List.mem_range.2 (by omega)) (decide_eq_true t2))
    rw [← t3]
    exact kc _ _ (fo_key (key l cl) i)

/-- What Merge answers. -/
structure Mrg (l : List Fn) (cl : List Int) : Prop where
  can : Can l.length cl
  st : ∀ i k f g, l[i]? = some f → l[k]? = some g → at_ cl i = at_ cl k → sig cl f = sig cl g
  co : ∀ c : Nat → Int, (∀ i k f g, l[i]? = some f → l[k]? = some g → c i = c k → f.size = g.size ∧ f.its = g.its ∧ f.mps.map Mp.val = g.mps.map Mp.val ∧ f.cls.map (fun x => (x.1, c x.2.toNat)) = g.cls.map (fun x => (x.1, c x.2.toNat))) →
    ∀ i k, i < l.length → k < l.length → c i = c k → at_ cl i = at_ cl k

theorem map_through {α β γ δ : Type} {u : α → β} {v : β → γ} {w : α → γ} : ∀ {l m : List α}, (∀ x ∈ l, ∀ y ∈ m, u x = u y → w x = w y) → l.map u = m.map u → l.map w = m.map w
  | [], [], _, _ => rfl
  | [], y :: m, _, h => by cases h
  | x :: l, [], _, h => by cases h
  | x :: l, y :: m, H, h => by
    rw [List.map_cons, List.map_cons] at h
    injection h with h1 h2
    rw [List.map_cons, List.map_cons, H x (.head _) y (.head _) h1, map_through (β := β) (γ := γ) (δ := δ) (v := v) (fun a ha b hb => H a (.tail _ ha) b (.tail _ hb)) h2]

/-- Coarser than any stable labels. -/
def Coa (l : List Fn) (cl : List Int) : Prop :=
  ∀ c : Nat → Int, (∀ i k f g, l[i]? = some f → l[k]? = some g → c i = c k → f.size = g.size ∧ f.its = g.its ∧ f.mps.map Mp.val = g.mps.map Mp.val ∧ f.cls.map (fun x => (x.1, c x.2.toNat)) = g.cls.map (fun x => (x.1, c x.2.toNat))) →
    ∀ i k, i < l.length → k < l.length → c i = c k → at_ cl i = at_ cl k

theorem callsOk_mem {its : List It} {many : Nat} : ∀ {r : List (Int × Int)} {last : Int}, callsOk its many last r → ∀ c ∈ r, 0 ≤ c.2 ∧ c.2 < many
  | [], _, _, c, hc => by cases hc
  | x :: r, last, h, c, hc => by
    rcases List.mem_cons.1 hc with rfl | hc
    · exact ⟨h.2.2.1, h.2.2.2.1⟩
    · exact callsOk_mem h.2.2.2.2.2 c hc

theorem coa_nxt {l : List Fn} {cl : List Int} (ok : ∀ f ∈ l, fnOk l.length f) (H : Coa l cl) : Coa l (nxt l cl) := by
  intro c hc i k hi hk e
  rw [at_nxt l cl hi, at_nxt l cl hk]
  congr 1
  apply fo_same
  obtain ⟨f, hf⟩ := at_lt hi
  obtain ⟨g, hg⟩ := at_lt hk
  unfold key
  rw [hf, hg, H c hc i k hi hk e]
  obtain ⟨h1, h2, h3, h4⟩ := hc i k f g hf hg e
  have hcv : f.cls.map (cv cl) = g.cls.map (cv cl) := by
    refine map_through (u := fun x : Int × Int => (x.1, c x.2.toNat)) (v := fun y => y) (δ := Int) (fun x hx y hy he => ?_) h4
    have m1 := callsOk_mem (ok f (List.mem_of_getElem? hf)).2.2.2.2.2.1 x hx
    have m2 := callsOk_mem (ok g (List.mem_of_getElem? hg)).2.2.2.2.2.1 y hy
    injection he with he1 he2
    unfold cv
    rw [he1]
    have := H c hc x.2.toNat y.2.toNat (by omega) (by omega) he2
    unfold at_ at this
    rw [this]
  simp only [Option.map_some]
  unfold sig
  rw [h1, h2, h3, hcv]

theorem mrg_of {l : List Fn} {cl : List Int} (C : Can l.length cl) (H : Coa l cl) (e : nxt l cl = cl) : Mrg l cl := by
  refine ⟨C, fun i k f g hf hg h => ?_, H⟩
  have hi := (List.getElem?_eq_some_iff.1 hf).1
  have hk := (List.getElem?_eq_some_iff.1 hg).1
  have h1 := at_nxt l cl hi
  have h2 := at_nxt l cl hk
  rw [e] at h1 h2
  have : fo (key l cl) i = fo (key l cl) k := by
    have := h1.symm.trans (h.trans h2)
    omega
  have := congrArg Prod.snd (fo_iff.1 this)
  unfold key at this
  rw [hf, hg] at this
  simpa using this

theorem coa_zero (l : List Fn) : Coa l (List.replicate l.length 0) := by
  intro c _ i k hi hk _
  unfold at_
  simp [List.getD, hi, hk]

/-! ### The walk -/

theorem inner_ok {h0 : Heap} {s0 s5 : SA} {n : Nat} {l : List Fn} {cl : List Int} (H : VS Fn.cells 5 h0 s0 n l) (R : ∀ f ∈ l, f.R h0) (hn : n ≤ 256) (ok : ∀ f ∈ l, fnOk n f) (HC : VS intC 1 h0 s5 n cl) {p6 : Nat} (hp : h0.length ≤ p6) (Q : Kont (AV × Heap)) {i : Nat} (hi : i < n) :
    ∀ (m k : Nat), k + m = i → ∀ (h : Heap) (g : Nat → Int), Old h0 h → h[p6]? = some (.cells ((List.range n).map fun q => .int .i64 (g q)) (.grow 1) 0) → (∀ q, q < i → g q = ((fo (key l cl) q : Nat) : Int)) → g i = i → (∀ q, q < k → key l cl q ≠ key l cl i) →
      ∃ h', L33x26 mk0 E s0 n s5 n (.pos ⟨p6, 0, 0⟩) n (i : Int) ((n : Nat) : Int) (i : Int) (i : Int) (k : Int) h (Q33x26 mk0 E Q) = J33x38 mk0 E s0 n s5 n (.pos ⟨p6, 0, 0⟩) n ((n : Nat) : Int) (i : Int) h' Q ∧ Old h0 h' ∧ h'[p6]? = some (.cells ((List.range n).map fun q => .int .i64 (if q = i then ((fo (key l cl) i : Nat) : Int) else g q)) (.grow 1) 0) := by
  have hl := H.1
  have hcl := HC.1
  intro m
  induction m with
  | zero =>
    intro k hk h g ho hb hg gi hq
    have : k = i := by omega
    subst this
    rw [L33x26xeq, letK_eq, if_neg (by simp), X33x26xe4]
    refine ⟨h, rfl, ho, ?_⟩
    rw [hb]
    congr 2
    apply List.map_congr_left
    intro q _
    by_cases e : q = k
    · rw [if_pos e, fo_eq rfl hq, e, gi]
    · rw [if_neg e]
  | succ m ih =>
    intro k hk h g ho hb hg gi hq
    have next : (key l cl k ≠ key l cl i) → ∀ h2, Old h h2 → h2[p6]? = some (.cells ((List.range n).map fun q => .int .i64 (g q)) (.grow 1) 0) → ∃ h', L33x26 mk0 E s0 n s5 n (.pos ⟨p6, 0, 0⟩) n (i : Int) ((n : Nat) : Int) (i : Int) (i : Int) ((k + 1 : Nat) : Int) h2 (Q33x26 mk0 E Q) = J33x38 mk0 E s0 n s5 n (.pos ⟨p6, 0, 0⟩) n ((n : Nat) : Int) (i : Int) h' Q ∧ Old h0 h' ∧ h'[p6]? = some (.cells ((List.range n).map fun q => .int .i64 (if q = i then ((fo (key l cl) i : Nat) : Int) else g q)) (.grow 1) 0) := by
      intro hne h2 o2 hb2
      refine ih (k + 1) (by omega) h2 g (ho.trans o2) hb2 hg gi fun q hq' => ?_
      by_cases e : q = k
      · rw [e]; exact hne
      · exact hq q (by omega)
    have rk : ld1 h ⟨p6, 0, 0 + k * 1⟩ = some (.int .i64 (g k)) := ld1_at hb (by rw [show 0 + k * 1 = k by omega]; exact range_get (by omega)) rfl
    obtain ⟨ci, hci⟩ := at_lt (l := cl) (i := i) (by omega)
    obtain ⟨ck, hck⟩ := at_lt (l := cl) (i := k) (by omega)
    have ai : at_ cl i = ci := by simp [at_, List.getD, hci]
    have ak : at_ cl k = ck := by simp [at_, List.getD, hck]
    have HC' := vs_old HC ho
    obtain ⟨a, ha, la⟩ := vs_ld1 (g := AV.int .i64) HC' (fun _ => rfl) i _ hci
    obtain ⟨a', ha', lb⟩ := vs_ld1 (g := AV.int .i64) HC' (fun _ => rfl) k _ hck
    rw [ha] at ha'
    injection ha' with ha'
    subst ha'
    obtain ⟨f, hf⟩ := at_lt (l := l) (i := i) (by omega)
    obtain ⟨f', hf'⟩ := at_lt (l := l) (i := k) (by omega)
    have H' := vs_old H ho
    obtain ⟨c, hc, lf⟩ := vs_ld H' fn_flat i f hf
    obtain ⟨c', hc', lf'⟩ := vs_ld H' fn_flat k f' hf'
    rw [hc] at hc'
    injection hc' with hc'
    subst hc'
    have okf := ok f (List.mem_of_getElem? hf)
    have okf' := ok f' (List.mem_of_getElem? hf')
    obtain ⟨b, h2, q1, q2, q3⟩ := same_ok HC' ((R f (List.mem_of_getElem? hf)).old ho) ((R f' (List.mem_of_getElem? hf')).old ho) (fun x hx => callsOk_mem okf.2.2.2.2.2.1 x hx) (fun x hx => callsOk_mem okf'.2.2.2.2.2.1 x hx)
    have gk := hg k (by omega)
    rw [L33x26xeq, letK_eq, if_pos (by simp; omega), chk_of (by intro _; omega), adP_pos, atP_of, Int.toNat_natCast, add_mk, rk, gI_of, letK_eq, chk_of (by intro _; omega), ha, atP_any, atP_any, Int.toNat_natCast, la, gI_any, chk_of (by intro _; omega), atP_any, atP_any, lb, gI_any, letK_eq, letK_eq, chk_of (by intro _; omega), hc, atP_any, atP_any, lf, gCells_any]
    simp only [Fn.cells, List.getElem?_cons_zero, List.getElem?_cons_succ]
    rw [gI_any, gL_any, gL_any, gL_any, gI_any, chk_of (by intro _; omega), atP_any, atP_any, lf', gCells_any]
    simp only [Fn.cells, List.getElem?_cons_zero, List.getElem?_cons_succ]
    rw [gI_any, gL_any, gL_any, gL_any, gI_any, q1]
    by_cases e1 : g k = k ∧ ci = ck
    · have d1 : (if decide (g k = (k : Int)) = true then decide (ci = ck) else false) = true := by rw [decide_eq_true e1.1, decide_eq_true e1.2]; rfl
      rw [d1, callO_true, Option.bind_some, gB_of, letK_eq]
      cases b with
      | true =>
        have hkey : key l cl k = key l cl i := by
          unfold key
          rw [ai, ak, e1.2, hf, hf', Option.map_some, Option.map_some, q3.1 rfl]
        have hb2 := q2 _ _ hb
        rw [if_pos (by rfl), chk_of (by intro _; omega), atP_of, add_mk]
        dsimp only
        rw [st1_at hb2 (by simp) (by simp; omega), Option.bind_some, X33x26xe4]
        refine ⟨_, rfl, (ho.trans q2).set hp _, ?_⟩
        rw [set_same hb2, show 0 + i * 1 = i by omega, range_set]
        congr 2
        apply List.map_congr_left
        intro q _
        by_cases e : q = i
        · rw [if_pos e, if_pos e, fo_eq hkey hq]
        · rw [if_neg e, if_neg e]
      | false =>
        rw [if_neg (by simp), letK_eq, wrap64 (by omega) (by omega), show ((k : Int) + 1) = ((k + 1 : Nat) : Int) by omega]
        refine next (fun hkey => ?_) h2 q2 (q2 _ _ hb)
        have := congrArg Prod.snd hkey
        unfold key at this
        rw [hf, hf'] at this
        simp only [Option.map_some, Option.some.injEq] at this
        have := q3.2 this.symm
        cases this
    · have d1 : (if decide (g k = (k : Int)) = true then decide (ci = ck) else false) = false := by
        by_cases e2 : g k = k
        · have : ¬ ci = ck := fun h => e1 ⟨e2, h⟩
          rw [decide_eq_true e2, decide_eq_false this]; rfl
        · rw [decide_eq_false e2]; rfl
      rw [d1, callO_false, Option.bind_some, gB_any, letK_eq, if_neg (by simp), letK_eq, wrap64 (by omega) (by omega), show ((k : Int) + 1) = ((k + 1 : Nat) : Int) by omega]
      refine next (fun hkey => ?_) h (Old.refl h) hb
      have hc1 : ck = ci := by
        have := congrArg Prod.fst hkey
        unfold key at this
        rw [ai, ak] at this
        exact this
      have hne : fo (key l cl) k ≠ k := fun h => e1 ⟨by rw [gk, h], hc1.symm⟩
      have hlt := fo_le (key l cl) k
      exact hq (fo (key l cl) k) (by omega) ((fo_key (key l cl) k).trans hkey)

theorem round_ok {h0 : Heap} {s0 s5 : SA} {n : Nat} {l : List Fn} {cl : List Int} (H : VS Fn.cells 5 h0 s0 n l) (R : ∀ f ∈ l, f.R h0) (hn : n ≤ 256) (ok : ∀ f ∈ l, fnOk n f) (HC : VS intC 1 h0 s5 n cl) {p6 : Nat} (hp : h0.length ≤ p6) (Q : Kont (AV × Heap)) :
    ∀ (m i : Nat), i + m = n → ∀ (h : Heap) (g : Nat → Int), Old h0 h → h[p6]? = some (.cells ((List.range n).map fun q => .int .i64 (g q)) (.grow 1) 0) → (∀ q, q < i → g q = ((fo (key l cl) q : Nat) : Int)) →
      ∃ h', L33x15 mk0 E s0 n s5 n (.pos ⟨p6, 0, 0⟩) n ((n : Nat) : Int) (i : Int) h (Q33x15 mk0 E Q) = Q33x15 mk0 E Q (.exit 2) (S33xe2 s0 n s5 n (.pos ⟨p6, 0, 0⟩) n h') ∧ Old h0 h' ∧ h'[p6]? = some (.cells ((nxt l cl).map (.int .i64)) (.grow 1) 0) := by
  have hl := H.1
  intro m
  induction m with
  | zero =>
    intro i hi h g ho hb hg
    rw [L33x15xeq, letK_eq, if_neg (by simp; omega)]
    refine ⟨h, rfl, ho, ?_⟩
    rw [hb]
    congr 2
    unfold nxt
    rw [List.map_map, hl]
    apply List.map_congr_left
    intro q hq
    rw [hg q (by have := List.mem_range.1 hq; omega)]
    rfl
  | succ m ih =>
    intro i hi h g ho hb hg
    rw [L33x15xeq, letK_eq, if_pos (by simp; omega), chk_of (by intro _; omega), adP_pos, atP_of, add_mk, Int.toNat_natCast, st1_at hb (by simp) (by simp; omega), Option.bind_some, show 0 + i * 1 = i by omega, range_set]
    have hb2 := set_same (x := Blk.cells ((List.range n).map fun q => if q = i then AV.int .i64 (i : Int) else .int .i64 (g q)) (.grow 1) 0) hb
    have hb3 : (h.set p6 (Blk.cells ((List.range n).map fun q => if q = i then AV.int .i64 (i : Int) else .int .i64 (g q)) (.grow 1) 0))[p6]? = some (.cells ((List.range n).map fun q => .int .i64 ((fun q => if q = i then (i : Int) else g q) q)) (.grow 1) 0) := by
      rw [hb2]
      congr 2
      apply List.map_congr_left
      intro q _
      dsimp only
      split <;> rfl
    obtain ⟨h', e1, e2, e3⟩ := inner_ok H R hn ok HC hp (Q33x15 mk0 E Q) (i := i) (by omega) i 0 (by omega) _ (fun q => if q = i then (i : Int) else g q) (ho.set hp _) hb3 (fun q hq => by rw [if_neg (by omega)]; exact hg q hq) (by rw [if_pos rfl]) (fun q hq => by omega)
    have e1' : L33x26 mk0 E s0 n s5 n (.pos ⟨p6, 0, 0⟩) n (i : Int) ((n : Nat) : Int) (i : Int) (i : Int) 0 _ (Q33x26 mk0 E (Q33x15 mk0 E Q)) = _ := e1
    rw [e1', J33x38xeq, letK_eq, wrap64 (by omega) (by omega), show ((i : Int) + 1) = ((i + 1 : Nat) : Int) by omega]
    refine ih (i + 1) (by omega) h' _ e2 e3 fun q hq => ?_
    by_cases e : q = i
    · rw [if_pos e, e]
    · rw [if_neg e, if_neg e]
      exact hg q (by omega)

theorem merge_loop {h0 : Heap} {s0 : SA} {n : Nat} {l : List Fn} (H : VS Fn.cells 5 h0 s0 n l) (R : ∀ f ∈ l, f.R h0) (hn : n ≤ 256) (ok : ∀ f ∈ l, fnOk n f) :
    ∀ (m : Nat) (cl : List Int), n - cntF n cl ≤ m → Can n cl → Coa l cl → ∀ (h : Heap) (s5 : SA), Old h0 h → VS intC 1 h s5 n cl →
      ∃ h' s cl', L33x9 mk0 E s0 n s5 n h (Q33x9 mk0 E) = some (.tup [.sl s n, .int .i64 0], h') ∧ Old h0 h' ∧ VS intC 1 h' s n cl' ∧ Mrg l cl' := by
  have hl := H.1
  intro m
  induction m using Nat.strongRecOn with
  | ind m ih =>
    intro cl hm C Co h s5 ho HC
    have R' : ∀ f ∈ l, f.R h := fun f hf => (R f hf).old ho
    have r0 : repl n [AV.int .i64 0] = (List.range n).map fun i => .int .i64 ((fun _ => (0 : Int)) i) := by
      show List.replicate n (AV.int .i64 0) = _
      apply List.ext_getElem
      · simp
      · intro i a b; simp
    rw [L33x9xeq, chk_of (by omega), newK_eq, letK_eq, Int.toNat_natCast, r0]
    obtain ⟨h2, e1, e2, e3⟩ := round_ok (vs_old H ho) R' hn ok HC (p6 := h.length) (Nat.le_refl _) (Q33x9 mk0 E) n 0 (by omega) (h ++ [.cells ((List.range n).map fun i => .int .i64 ((fun _ => (0 : Int)) i)) (.grow 1) 0]) (fun _ => 0) (old_app _ _) (last_get _ _) fun q hq => by omega
    have e1' : L33x15 mk0 E s0 n s5 n (.pos ⟨h.length, 0, 0⟩) n ((n : Nat) : Int) 0 _ (Q33x15 mk0 E (Q33x9 mk0 E)) = _ := e1
    have HN : VS intC 1 h2 (.pos ⟨h.length, 0, 0⟩) n (nxt l cl) := by
      have := vs_blk1 (g := AV.int .i64) e3
      rw [nxt_len, hl] at this
      exact this
    have hb : big = 17592186044416 := rfl
    rw [e1', X33x15xe2, eqInts_ok HN (vs_old HC e2) (by omega), Option.bind_some, gB_of]
    by_cases e : nxt l cl = cl
    · rw [decide_eq_true e, if_pos rfl, X33x9xr]
      exact ⟨h2, s5, cl, rfl, ho.trans e2, vs_old HC e2, mrg_of (by rw [hl]; exact C) Co e⟩
    · rw [decide_eq_false e, if_neg (by simp)]
      have hc := cntF_nxt (l := l) (cl := cl) (by rw [hl]; exact C)
      rw [hl] at hc
      have hlt : cntF n cl < cntF n (nxt l cl) := by
        rcases Nat.lt_or_eq_of_le hc.1 with h | h
        · exact h
        · exact absurd (hc.2 h) e
      have hle := cntF_le n (nxt l cl)
      have N := can_nxt l cl
      rw [hl] at N
      exact ih (n - cntF n (nxt l cl)) (by omega) (nxt l cl) (Nat.le_refl _) N (coa_nxt (by rw [hl]; exact ok) Co) h2 _ (ho.trans e2) HN

theorem merge_ok {h : Heap} {s0 : SA} {n : Nat} {l : List Fn} (H : VS Fn.cells 5 h s0 n l) (R : ∀ f ∈ l, f.R h) (hn : n ≤ 256) (ok : ∀ f ∈ l, fnOk n f) :
    ∃ h' s cl, E 33 [.sl s0 n] h = some (.tup [.sl s n, .int .i64 0], h') ∧ Old h h' ∧ VS intC 1 h' s n cl ∧ Mrg l cl := by
  obtain ⟨v, c1, c2⟩ := lcheck_ok H R
  have hl := H.1
  have hv : v = 0 := c2.2 ⟨hn, ok⟩
  subst hv
  have r0 : repl n [AV.int .i64 0] = (List.replicate n 0).map (.int .i64) := by
    show List.replicate n (AV.int .i64 0) = _
    simp
  rw [e33, c1, Option.bind_some, gI_of, letK_eq, if_neg (by simp), chk_of (by omega), newK_eq, letK_eq, Int.toNat_natCast, r0]
  have HN : VS intC 1 (h ++ [.cells ((List.replicate n (0 : Int)).map (.int .i64)) (.grow 1) 0]) (.pos ⟨h.length, 0, 0⟩) n (List.replicate n 0) := by
    have := vs_blk1 (g := AV.int .i64) (last_get h (.cells ((List.replicate n (0 : Int)).map (.int .i64)) (.grow 1) 0))
    rw [List.length_replicate] at this
    exact this
  exact merge_loop H R hn ok _ _ (Nat.le_refl _) (can_zero n) (by rw [← hl]; exact coa_zero l) _ _ (old_app _ _) HN

theorem merge_bad {h : Heap} {s0 : SA} {n : Nat} {l : List Fn} (H : VS Fn.cells 5 h s0 n l) (R : ∀ f ∈ l, f.R h) (bad : ¬ (n ≤ 256 ∧ ∀ f ∈ l, fnOk n f)) :
    ∃ e, E 33 [.sl s0 n] h = some (.tup [.sl .nil 0, .int .i64 e], h) ∧ e ≠ 0 := by
  obtain ⟨v, c1, c2⟩ := lcheck_ok H R
  have hv : v ≠ 0 := fun h => bad (c2.1 h)
  rw [e33, c1, Option.bind_some, gI_of, letK_eq, if_pos (by simp [hv])]
  exact ⟨v, rfl, hv⟩

end Go.Proofs.Ytmfmnbldngfelaa.I

/- link: the linker's lists; add and refs. -/
set_option linter.unusedVariables false
set_option linter.unusedSimpArgs false
namespace Go.Proofs.Ytmfmnbldngfelaa.I
open Go Go.Proofs.Ytmfmnbldngfelaa.Abs Go.Proofs

theorem flatL_app : ∀ {a b : List AV}, flatL a = true → flatL b = true → flatL (a ++ b) = true
  | [], b, _, h => h
  | x :: a, b, h1, h2 => by
    rw [List.cons_append]
    unfold flatL at h1 ⊢
    rw [Bool.and_eq_true] at h1 ⊢
    exact ⟨h1.1, flatL_app h1.2 h2⟩

/-- What stood below stands there still. -/
def Fr (n0 : Nat) (h h' : Heap) : Prop := ∀ q y, q < n0 → h[q]? = some y → h'[q]? = some y
theorem Fr.refl (n0 : Nat) (h : Heap) : Fr n0 h h := fun _ _ _ hx => hx
theorem Fr.trans {n0 : Nat} {a b c : Heap} (h1 : Fr n0 a b) (h2 : Fr n0 b c) : Fr n0 a c := fun q y hq hx => h2 q y hq (h1 q y hq hx)
theorem Old.fr {h0 h h' : Heap} (o : Old h0 h) (f : Fr h0.length h h') : Old h0 h' := fun q y hy => f q y (List.getElem?_eq_some_iff.1 hy).1 (o q y hy)
theorem Old.toFr {h h' : Heap} (o : Old h h') (n0 : Nat) : Fr n0 h h' := fun q y _ hy => o q y hy

/-- One more element at the end. -/
theorem push {h : Heap} {s : SA} {n es bytes : Nat} {cs : List AV} (x : List AV) (H : GS h s n es cs) (he : 0 < es) (hx : x.length = es) (fx : flatL x = true) (hb : (n + 1) * bytes ≤ 140737488355328) :
    ∃ s' h', ldSl (h ++ [.cells x (.grow es) 0]) (.pos ⟨h.length, 0, 0⟩) (1 * es) = some x ∧ apnd (h ++ [.cells x (.grow es) 0]) (.sl s n) es bytes x 1 = some (.sl s' (n + 1), h') ∧ GS h' s' (n + 1) es (cs ++ x) ∧ h.length ≤ h'.length ∧
      (∀ b y, h[b]? = some y → ¬ inS s b → h'[b]? = some y) ∧ (∀ b, inS s' b → inS s b ∨ h.length ≤ b) := by
  obtain ⟨s', h', a1, a2, a3, a4, a5⟩ := apnd_GS (m := 1) (bytes := bytes) (ys := x) (gs_app (l := [.cells x (.grow es) 0]) H) (by omega) he (by omega) fx (flatL_app H.2.1 fx) hb
  refine ⟨s', h', ?_, a1, a2, ?_, fun b y hy hn => a4 b y (app_old hy) hn, fun b hb => ?_⟩
  · exact ldSl_at (last_get _ _) (by omega) fx
  · rw [List.length_append] at a3; omega
  · rcases a5 b hb with h5 | h5
    · exact .inl h5
    · rw [List.length_append] at h5; exact .inr (by omega)

/-- The lists of a linker. -/
structure LK (h : Heap) (lb n0 : Nat) (sI sB sA : SA) (its : List It) (bgs : List Int) (ads : List (Int × Int)) : Prop where
  c : h[lb]? = some (.cells [.sl sI its.length, .sl sB bgs.length, .sl sA ads.length] .fix 0)
  i : GS h sI its.length 6 (its.flatMap It.cells)
  b : GS h sB bgs.length 1 (bgs.map (.int .i64))
  a : GS h sA ads.length 2 (ads.flatMap clC)
  di : ∀ q, inS sI q → n0 ≤ q ∧ q ≠ lb ∧ ¬ inS sB q ∧ ¬ inS sA q
  db : ∀ q, inS sB q → n0 ≤ q ∧ q ≠ lb ∧ ¬ inS sA q
  da : ∀ q, inS sA q → n0 ≤ q ∧ q ≠ lb
  l : n0 ≤ lb

variable {h : Heap} {lb n0 : Nat} {sI sB sA : SA} {its : List It} {bgs : List Int} {ads : List (Int × Int)}

theorem gs_set {h : Heap} {s : SA} {n es : Nat} {cs : List AV} (H : GS h s n es cs) {q : Nat} (hq : ¬ inS s q) (x : Blk) : GS (h.set q x) s n es cs := by
  obtain ⟨h1, h2, h3 | ⟨b, v, rfl, hb⟩⟩ := H
  · exact ⟨h1, h2, .inl h3⟩
  · refine ⟨h1, h2, .inr ⟨b, v, rfl, ?_⟩⟩
    rw [set_other (fun e => hq ⟨_, rfl, e.symm⟩)]
    exact hb

theorem LK.keep {h' : Heap} (H : LK h lb n0 sI sB sA its bgs ads) (k : ∀ (q : Nat) (y : Blk), h[q]? = some y → h'[q]? = some y) : LK h' lb n0 sI sB sA its bgs ads :=
  ⟨k _ _ H.c, gs_keep (s := .nil) H.i (fun b y hy _ => k b y hy) (fun b _ hb => by obtain ⟨a, ha, _⟩ := hb; cases ha), gs_keep (s := .nil) H.b (fun b y hy _ => k b y hy) (fun b _ hb => by obtain ⟨a, ha, _⟩ := hb; cases ha), gs_keep (s := .nil) H.a (fun b y hy _ => k b y hy) (fun b _ hb => by obtain ⟨a, ha, _⟩ := hb; cases ha), H.di, H.db, H.da, H.l⟩

theorem LK.pushI (H : LK h lb n0 sI sB sA its bgs ads) (x : It) (hb : its.length ≤ 1000000000) :
    ∃ s' h1 h2, ldSl (h ++ [.cells x.cells (.grow 6) 0]) (.pos ⟨h.length, 0, 0⟩) (1 * 6) = some x.cells ∧ apnd (h ++ [.cells x.cells (.grow 6) 0]) (.sl sI its.length) 6 48 x.cells 1 = some (.sl s' (its.length + 1), h1) ∧
      st1 h1 ⟨lb, 0, 0 + 0⟩ (.sl s' (its.length + 1)) = some h2 ∧ LK h2 lb n0 s' sB sA (its ++ [x]) bgs ads ∧ Fr n0 h h2 := by
  have lbl := (List.getElem?_eq_some_iff.1 H.c).1
  obtain ⟨s', h1, a1, a2, a3, a4, a5, a6⟩ := push (bytes := 48) x.cells H.i (by omega) (it_len x) (it_flat x) (by omega)
  have c1 := a5 _ _ H.c fun hh => (H.di lb hh).2.1 rfl
  have b1 : GS h1 sB bgs.length 1 (bgs.map (.int .i64)) := gs_keep H.b a5 fun q hq hh => (H.di q hh).2.2.1 hq
  have e1 : GS h1 sA ads.length 2 (ads.flatMap clC) := gs_keep H.a a5 fun q hq hh => (H.di q hh).2.2.2 hq
  have nl : ¬ inS s' lb := fun hh => by
    rcases a6 lb hh with h5 | h5
    · exact (H.di lb h5).2.1 rfl
    · omega
  refine ⟨s', h1, h1.set lb (.cells [.sl s' (its.length + 1), .sl sB bgs.length, .sl sA ads.length] .fix 0), a1, a2, by rw [st1_at c1 (by simp) (by simp)]; rfl, ⟨?_, ?_, gs_set b1 (fun hh => (H.db lb hh).2.1 rfl) _, gs_set e1 (fun hh => (H.da lb hh).2 rfl) _, ?_, H.db, H.da, H.l⟩, ?_⟩
  · rw [set_same c1, List.length_append]; rfl
  · rw [List.length_append]
    have : (its ++ [x]).flatMap It.cells = its.flatMap It.cells ++ x.cells := by rw [List.flatMap_append]; simp
    rw [this]
    exact gs_set a3 nl _
  · intro q hq
    rcases a6 q hq with h5 | h5
    · exact H.di q h5
    · have := H.l
      refine ⟨by omega, by omega, fun hh => ?_, fun hh => ?_⟩
      · have := gs_lt H.b hh; omega
      · have := gs_lt H.a hh; omega
  · intro q y hq hy
    have := H.l
    rw [set_other (by omega)]
    exact a5 q y hy fun hh => by have := (H.di q hh).1; omega

theorem LK.pushB (H : LK h lb n0 sI sB sA its bgs ads) (x : Int) (hb : bgs.length ≤ 1000000000) :
    ∃ s' h1 h2, ldSl (h ++ [.cells [.int .i64 x] (.grow 1) 0]) (.pos ⟨h.length, 0, 0⟩) (1 * 1) = some [.int .i64 x] ∧ apnd (h ++ [.cells [.int .i64 x] (.grow 1) 0]) (.sl sB bgs.length) 1 8 [.int .i64 x] 1 = some (.sl s' (bgs.length + 1), h1) ∧
      st1 h1 ⟨lb, 0, 0 + 1⟩ (.sl s' (bgs.length + 1)) = some h2 ∧ LK h2 lb n0 sI s' sA its (bgs ++ [x]) ads ∧ Fr n0 h h2 := by
  have lbl := (List.getElem?_eq_some_iff.1 H.c).1
  obtain ⟨s', h1, a1, a2, a3, a4, a5, a6⟩ := push (bytes := 8) [.int .i64 x] H.b (by omega) rfl rfl (by omega)
  have c1 := a5 _ _ H.c fun hh => (H.db lb hh).2.1 rfl
  have b1 : GS h1 sI its.length 6 (its.flatMap It.cells) := gs_keep H.i a5 fun q hq hh => (H.di q hq).2.2.1 hh
  have e1 : GS h1 sA ads.length 2 (ads.flatMap clC) := gs_keep H.a a5 fun q hq hh => (H.db q hh).2.2 hq
  have nl : ¬ inS s' lb := fun hh => by
    rcases a6 lb hh with h5 | h5
    · exact (H.db lb h5).2.1 rfl
    · omega
  refine ⟨s', h1, h1.set lb (.cells [.sl sI its.length, .sl s' (bgs.length + 1), .sl sA ads.length] .fix 0), a1, a2, by rw [st1_at c1 (by simp) (by simp)]; rfl, ⟨?_, gs_set b1 (fun hh => (H.di lb hh).2.1 rfl) _, ?_, gs_set e1 (fun hh => (H.da lb hh).2 rfl) _, ?_, ?_, H.da, H.l⟩, ?_⟩
  · rw [set_same c1, List.length_append]; rfl
  · rw [List.length_append]
    have : (bgs ++ [x]).map (AV.int .i64) = bgs.map (.int .i64) ++ [.int .i64 x] := by simp
    rw [this]
    exact gs_set a3 nl _
  · intro q hq
    obtain ⟨d1, d2, d3, d4⟩ := H.di q hq
    refine ⟨d1, d2, fun hh => ?_, d4⟩
    rcases a6 q hh with h5 | h5
    · exact d3 h5
    · have := gs_lt H.i hq; omega
  · intro q hq
    rcases a6 q hq with h5 | h5
    · exact H.db q h5
    · have := H.l
      refine ⟨by omega, by omega, fun hh => ?_⟩
      have := gs_lt H.a hh; omega
  · intro q y hq hy
    have := H.l
    rw [set_other (by omega)]
    exact a5 q y hy fun hh => by have := (H.db q hh).1; omega

theorem LK.pushA (H : LK h lb n0 sI sB sA its bgs ads) (x : Int × Int) (hb : ads.length ≤ 1000000000) :
    ∃ s' h1 h2, ldSl (h ++ [.cells (clC x) (.grow 2) 0]) (.pos ⟨h.length, 0, 0⟩) (1 * 2) = some (clC x) ∧ apnd (h ++ [.cells (clC x) (.grow 2) 0]) (.sl sA ads.length) 2 16 (clC x) 1 = some (.sl s' (ads.length + 1), h1) ∧
      st1 h1 ⟨lb, 0, 0 + 2⟩ (.sl s' (ads.length + 1)) = some h2 ∧ LK h2 lb n0 sI sB s' its bgs (ads ++ [x]) ∧ Fr n0 h h2 := by
  have lbl := (List.getElem?_eq_some_iff.1 H.c).1
  obtain ⟨s', h1, a1, a2, a3, a4, a5, a6⟩ := push (bytes := 16) (clC x) H.a (by omega) rfl rfl (by omega)
  have c1 := a5 _ _ H.c fun hh => (H.da lb hh).2 rfl
  have b1 : GS h1 sI its.length 6 (its.flatMap It.cells) := gs_keep H.i a5 fun q hq hh => (H.di q hq).2.2.2 hh
  have e1 : GS h1 sB bgs.length 1 (bgs.map (.int .i64)) := gs_keep H.b a5 fun q hq hh => (H.db q hq).2.2 hh
  have nl : ¬ inS s' lb := fun hh => by
    rcases a6 lb hh with h5 | h5
    · exact (H.da lb h5).2 rfl
    · omega
  refine ⟨s', h1, h1.set lb (.cells [.sl sI its.length, .sl sB bgs.length, .sl s' (ads.length + 1)] .fix 0), a1, a2, by rw [st1_at c1 (by simp) (by simp)]; rfl, ⟨?_, gs_set b1 (fun hh => (H.di lb hh).2.1 rfl) _, gs_set e1 (fun hh => (H.db lb hh).2.1 rfl) _, ?_, ?_, ?_, ?_, H.l⟩, ?_⟩
  · rw [set_same c1, List.length_append]; rfl
  · rw [List.length_append]
    have : (ads ++ [x]).flatMap clC = ads.flatMap clC ++ clC x := by rw [List.flatMap_append]; simp
    rw [this]
    exact gs_set a3 nl _
  · intro q hq
    obtain ⟨d1, d2, d3, d4⟩ := H.di q hq
    refine ⟨d1, d2, d3, fun hh => ?_⟩
    rcases a6 q hh with h5 | h5
    · exact d4 h5
    · have := gs_lt H.i hq; omega
  · intro q hq
    obtain ⟨d1, d2, d3⟩ := H.db q hq
    refine ⟨d1, d2, fun hh => ?_⟩
    rcases a6 q hh with h5 | h5
    · exact d3 h5
    · have := gs_lt H.b hq; omega
  · intro q hq
    rcases a6 q hq with h5 | h5
    · exact H.da q h5
    · have := H.l
      exact ⟨by omega, by omega⟩
  · intro q y hq hy
    have := H.l
    rw [set_other (by omega)]
    exact a5 q y hy fun hh => by have := (H.da q hh).1; omega

/-! ### Rows, changed -/

theorem rows_set {α : Type} {f : α → List AV} {es : Nat} (hf : ∀ x, (f x).length = es) {v : AV} {r : Nat} (hr : r < es) : ∀ {l : List α} {k : Nat} {x y : α}, l[k]? = some x → (f x).set r v = f y → (l.flatMap f).set (k * es + r) v = (l.set k y).flatMap f
  | [], k, x, y, h, _ => by simp at h
  | a :: l, 0, x, y, h, he => by
    simp at h; subst h
    rw [List.set_cons_zero, List.flatMap_cons, List.flatMap_cons, List.set_append_left _ _ (by rw [hf]; omega), show 0 * es + r = r by omega, he]
  | a :: l, k + 1, x, y, h, he => by
    have e : (k + 1) * es = es + k * es := by rw [Nat.add_mul]; omega
    rw [List.set_cons_succ, List.flatMap_cons, List.flatMap_cons, List.set_append_right _ _ (by rw [hf]; omega), hf, show (k + 1) * es + r - es = k * es + r by omega, rows_set hf hr (by simpa using h) he]

theorem rows_get {α : Type} {f : α → List AV} {es : Nat} (hf : ∀ x, (f x).length = es) {r : Nat} (hr : r < es) {l : List α} {k : Nat} {x : α} (h : l[k]? = some x) : (l.flatMap f)[k * es + r]? = (f x)[r]? := by
  obtain ⟨h1, h2⟩ := rows_at hf l k x h
  rw [← h2, List.getElem?_take, if_pos hr, List.getElem?_drop]

theorem LK.posI (H : LK h lb n0 sI sB sA its bgs ads) {k : Nat} {x : It} (hk : its[k]? = some x) : ∃ b v, sI = .pos ⟨b, v, 0⟩ ∧ h[b]? = some (.cells (its.flatMap It.cells) (.grow 6) v) := by
  obtain ⟨h1, h2, ⟨rfl, h3⟩ | h3⟩ := H.i
  · have := (List.getElem?_eq_some_iff.1 hk).1; omega
  · exact h3

theorem LK.setI (H : LK h lb n0 sI sB sA its bgs ads) {b v : Nat} (hs : sI = .pos ⟨b, v, 0⟩) (hb : h[b]? = some (.cells (its.flatMap It.cells) (.grow 6) v)) {k : Nat} {x y : It} (hk : its[k]? = some x) {r : Nat} (hr : r < 6) {u : AV} (hu : x.cells.set r u = y.cells) :
    ∃ h2, st1 h ⟨b, v, 0 + k * 6 + r⟩ u = some h2 ∧ LK h2 lb n0 sI sB sA (its.set k y) bgs ads ∧ Fr n0 h h2 := by
  subst hs
  have hkl := (List.getElem?_eq_some_iff.1 hk).1
  have hin : inS (.pos ⟨b, v, 0⟩) b := ⟨_, rfl, rfl⟩
  obtain ⟨d1, d2, d3, d4⟩ := H.di b hin
  refine ⟨h.set b (.cells ((its.set k y).flatMap It.cells) (.grow 6) v), ?_, ⟨?_, ?_, gs_set H.b d3 _, gs_set H.a d4 _, H.di, H.db, H.da, H.l⟩, ?_⟩
  · rw [st1_at hb (by simp) (by rw [rows_len it_len]; omega), show 0 + k * 6 + r = k * 6 + r by omega, rows_set it_len hr hk hu]
  · rw [set_other d2, List.length_set]; exact H.c
  · rw [List.length_set]
    exact ⟨by rw [rows_len it_len, List.length_set], rows_flat it_flat _, .inr ⟨b, v, rfl, set_same hb⟩⟩
  · intro q z hq hz
    rw [set_other (by omega)]
    exact hz

/-! ### add -/

def shift (base : Nat) (x : It) : It := if 0 ≤ x.to then { x with to := x.to + base } else x

theorem add_loop {h0 : Heap} {f : Fn} (F : f.R h0) (hf : ∀ x ∈ f.its, x.to ≤ 16384) (hl : f.its.length ≤ 16384) {base : Nat} (hbase : base ≤ 10000000) (lb : Nat) {sB sA : SA} {bgs : List Int} {ads : List (Int × Int)} : ∀ (k j : Nat), j + k = f.its.length → ∀ (h : Heap) (sI : SA) (its : List It), Old h0 h → its.length + k ≤ 20000000 → LK h lb h0.length sI sB sA its bgs ads →
    ∃ h' sI', L47x4 mk0 E (some ⟨lb, 0, 0⟩) (base : Int) f.sI f.its.length ((f.its.length : Nat) : Int) ((j : Nat) : Int) h (Q47x4 mk0 E) = some (.tup [], h') ∧ LK h' lb h0.length sI' sB sA (its ++ (f.its.drop j).map (shift base)) bgs ads ∧ Fr h0.length h h' := by
  intro k
  induction k with
  | zero =>
    intro j hj h sI its ho hb H
    rw [L47x4xeq, letK_eq, if_neg (by simp; omega), X47x4xe0]
    exact ⟨h, sI, rfl, by rw [List.drop_eq_nil_of_le (by omega)]; simpa using H, Fr.refl _ _⟩
  | succ k ih =>
    intro j hj h sI its ho hb H
    obtain ⟨x, hx⟩ := at_lt (l := f.its) (i := j) (by omega)
    obtain ⟨a, ha, la⟩ := vs_ld (vs_old F.i ho) it_flat j x hx
    have ht := hf x (List.mem_of_getElem? hx)
    have tail : ∀ y : It, y = shift base x → ∃ h' sI', J47x15 mk0 E (some ⟨lb, 0, 0⟩) (base : Int) y.op y.d y.a y.b y.n y.to f.sI f.its.length ((f.its.length : Nat) : Int) ((j : Nat) : Int) h (Q47x4 mk0 E) = some (.tup [], h') ∧ LK h' lb h0.length sI' sB sA (its ++ (f.its.drop j).map (shift base)) bgs ads ∧ Fr h0.length h h' := by
      intro y hy
      obtain ⟨s', h1, h2, a1, a2, a3, a4, a5⟩ := H.pushI y (by omega)
      have rd : ld1 h ⟨lb, 0, 0 + 0⟩ = some (.sl sI its.length) := ld1_at H.c rfl rfl
      have a1' : ldSl (h ++ [.cells [.int .i64 y.op, .int .i64 y.d, .int .i64 y.a, .int .i64 y.b, .int .i64 y.n, .int .i64 y.to] (.grow 6) 0]) (.pos ⟨h.length, 0, 0⟩) (1 * 6) = some y.cells := a1
      have a2' : apnd (h ++ [.cells [.int .i64 y.op, .int .i64 y.d, .int .i64 y.a, .int .i64 y.b, .int .i64 y.n, .int .i64 y.to] (.grow 6) 0]) (.sl sI its.length) 6 48 y.cells 1 = some (.sl s' (its.length + 1), h1) := a2
      obtain ⟨h', sI', r1, r2, r3⟩ := ih (j + 1) (by omega) h2 s' (its ++ [y]) (ho.fr a5) (by rw [List.length_append]; simp only [List.length_cons, List.length_nil]; omega) a4
      rw [J47x15xeq, atP_of, add_mk, rd, gL_of, newK_eq, a1', Option.bind_some, a2', Option.bind_some, gL_of, atP_of, add_mk, a3, Option.bind_some, letK_eq, wrap64 (by omega) (by omega), show ((j : Int) + 1) = ((j + 1 : Nat) : Int) by omega, r1]
      refine ⟨h', sI', rfl, ?_, a5.trans r3⟩
      rw [drop_at hx, List.map_cons, ← hy]
      rw [List.append_assoc] at r2
      exact r2
    rw [L47x4xeq, letK_eq, if_pos (by simp; omega), chk_of (by intro _; omega), ha, atP_of, Int.toNat_natCast, la, gCells_of]
    simp only [It.cells, List.getElem?_cons_zero, List.getElem?_cons_succ]
    rw [gI_of, gI_of, gI_of, gI_of, gI_of, gI_of, letK_eq]
    by_cases e : 0 ≤ x.to
    · rw [if_pos (by simp [e]), letK_eq, wrap64 (by omega) (by omega)]
      exact tail { x with to := x.to + base } (by unfold shift; rw [if_pos e])
    · rw [if_neg (by simp [e])]
      exact tail x (by unfold shift; rw [if_neg e])

theorem add_ok {h0 h : Heap} {f : Fn} (F : f.R h0) (hf : ∀ x ∈ f.its, x.to ≤ 16384) (hl : f.its.length ≤ 16384) {lb : Nat} {sI sB sA : SA} {its : List It} {bgs : List Int} {ads : List (Int × Int)} (ho : Old h0 h) (hb : its.length ≤ 10000000) (H : LK h lb h0.length sI sB sA its bgs ads) :
    ∃ h' sI', E 47 [.ptr (some ⟨lb, 0, 0⟩), .agg [.int .i64 f.nm, .sl f.sI f.its.length, .sl f.sC f.cls.length, .sl f.sM f.mps.length, .int .i64 f.size]] h = some (.tup [], h') ∧ LK h' lb h0.length sI' sB sA (its ++ f.its.map (shift its.length)) bgs ads ∧ Fr h0.length h h' := by
  have rd : ld1 h ⟨lb, 0, 0 + 0⟩ = some (.sl sI its.length) := ld1_at H.c rfl rfl
  rw [e47, atP_of, add_mk, rd, gL_of]
  obtain ⟨h', sI', r1, r2, r3⟩ := add_loop F hf hl (base := its.length) hb lb f.its.length 0 (by omega) h sI its ho (by omega) H
  rw [List.drop_zero] at r2
  exact ⟨h', sI', r1, r2, r3⟩

/-! ### refs -/

def upItem (x : It) (to : Int) : It := if x.op = 20 then { x with to := to } else { x with n := 1048576 }
def rstep (S : List It × List (Int × Int)) (r : Nat × Int) : List It × List (Int × Int) :=
  match S.1[r.1]? with
  | some x => (S.1.set r.1 (upItem x r.2), if x.op = 20 then S.2 else S.2 ++ [(((r.1 : Nat) : Int), r.2)])
  | none => S

theorem rstep_len (S : List It × List (Int × Int)) (r : Nat × Int) : (rstep S r).1.length = S.1.length := by
  unfold rstep
  split
  · simp
  · rfl
theorem rstep_ads (S : List It × List (Int × Int)) (r : Nat × Int) : (rstep S r).2.length ≤ S.2.length + 1 := by
  unfold rstep
  split
  · dsimp only
    split
    · omega
    · simp
  · omega

/-- The references of a function, resolved. -/
def rs (cl bgs : List Int) (base : Nat) (cls : List (Int × Int)) : List (Nat × Int) := cls.map fun c => (base + c.1.toNat, at_ bgs (at_ cl c.2.toNat).toNat)

theorem refs_loop2 {h0 : Heap} {f : Fn} (F : f.R h0) {base lb n : Nat} {s3 : SA} {cl : List Int} (HC : VS intC 1 h0 s3 n cl) (hbase : base ≤ 20000000) {bgs : List Int} (hlc : f.its.length ≤ 16384)
    (hc : ∀ c ∈ f.cls, 0 ≤ c.1 ∧ c.1 < f.its.length ∧ 0 ≤ c.2 ∧ c.2 < n) (hcl : ∀ i, i < n → 0 ≤ at_ cl i ∧ at_ cl i < bgs.length) : ∀ (k j : Nat), j + k = f.cls.length → ∀ (h : Heap) (sI sB sA : SA) (its : List It) (ads : List (Int × Int)), Old h0 h → base + f.its.length ≤ its.length → ads.length + k ≤ 1000000000 → LK h lb h0.length sI sB sA its bgs ads →
    ∃ h' sI' sB' sA', L48x3 mk0 E (some ⟨lb, 0, 0⟩) (base : Int) s3 n f.sC f.cls.length ((f.cls.length : Nat) : Int) ((j : Nat) : Int) h (Q48x3 mk0 E) = some (.tup [], h') ∧
      LK h' lb h0.length sI' sB' sA' ((rs cl bgs base (f.cls.drop j)).foldl rstep (its, ads)).1 bgs ((rs cl bgs base (f.cls.drop j)).foldl rstep (its, ads)).2 ∧ Fr h0.length h h' := by
  have hb : big = 17592186044416 := rfl
  have bc := F.bc
  intro k
  induction k with
  | zero =>
    intro j hj h sI sB sA its ads ho hl hba H
    rw [L48x3xeq, letK_eq, if_neg (by simp; omega), X48x3xe0]
    exact ⟨h, sI, sB, sA, rfl, by rw [List.drop_eq_nil_of_le (by omega)]; exact H, Fr.refl _ _⟩
  | succ k ih =>
    intro j hj h sI sB sA its ads ho hl hba H
    obtain ⟨c, hx⟩ := at_lt (l := f.cls) (i := j) (by omega)
    obtain ⟨a, ha, la⟩ := vs_ld (vs_old F.c ho) cl_flat j c hx
    obtain ⟨c1, c2, c3, c4⟩ := hc c (List.mem_of_getElem? hx)
    obtain ⟨i1, hi1⟩ := Int.eq_ofNat_of_zero_le c1
    obtain ⟨i2, hi2⟩ := Int.eq_ofNat_of_zero_le c3
    obtain ⟨x, hit⟩ := at_lt (l := its) (i := base + i1) (by omega)
    obtain ⟨b, v, hs, hbk⟩ := H.posI hit
    have hcln := HC.1
    obtain ⟨u, hu⟩ := at_lt (l := cl) (i := i2) (by omega)
    have au : at_ cl i2 = u := by simp [at_, List.getD, hu]
    obtain ⟨u0, u1⟩ := hcl i2 (by omega)
    rw [au] at u0 u1
    obtain ⟨w, hw⟩ := at_lt (l := bgs) (i := u.toNat) (by omega)
    have aw : at_ bgs u.toNat = w := by simp [at_, List.getD, hw]
    obtain ⟨a3, ha3, la3⟩ := vs_ld1 (g := AV.int .i64) (vs_old HC ho) (fun _ => rfl) i2 _ hu
    have HB : VS intC 1 h sB bgs.length bgs := by
      have := H.b
      rw [← rows_one] at this
      exact vs_GS (f := intC) (fun _ => rfl) rfl this
    obtain ⟨a4, ha4, la4⟩ := vs_ld1 (g := AV.int .i64) HB (fun _ => rfl) _ _ hw
    have rd0 : ld1 h ⟨lb, 0, 0 + 0⟩ = some (.sl sI its.length) := ld1_at H.c rfl rfl
    have rd1 : ld1 h ⟨lb, 0, 0 + 1⟩ = some (.sl sB bgs.length) := ld1_at H.c rfl rfl
    have rop : ld1 h ⟨b, v, 0 + (base + i1) * 6 + 0 + 0⟩ = some (.int .i64 x.op) := ld1_at hbk (by
      rw [show 0 + (base + i1) * 6 + 0 + 0 = (base + i1) * 6 + 0 by omega, rows_get it_len (by omega) hit]; rfl) rfl
    have hbi : (base : Int) + (i1 : Int) = ((base + i1 : Nat) : Int) := by omega
    have next : ∀ (h2 : Heap) (sI2 sA2 : SA) (its2 : List It) (ads2 : List (Int × Int)), rstep (its, ads) (base + i1, w) = (its2, ads2) → LK h2 lb h0.length sI2 sB sA2 its2 bgs ads2 → Fr h0.length h h2 →
        ∃ h' sI' sB' sA', J48x19 mk0 E (some ⟨lb, 0, 0⟩) (base : Int) s3 n f.sC f.cls.length ((f.cls.length : Nat) : Int) ((j : Nat) : Int) h2 (Q48x3 mk0 E) = some (.tup [], h') ∧
          LK h' lb h0.length sI' sB' sA' ((rs cl bgs base (f.cls.drop j)).foldl rstep (its, ads)).1 bgs ((rs cl bgs base (f.cls.drop j)).foldl rstep (its, ads)).2 ∧ Fr h0.length h h' := by
      intro h2 sI2 sA2 its2 ads2 hst H2 fr2
      have q1 := rstep_len (its, ads) (base + i1, w)
      have q2 := rstep_ads (its, ads) (base + i1, w)
      rw [hst] at q1 q2
      dsimp only at q1 q2
      obtain ⟨h', sI', sB', sA', r1, r2, r3⟩ := ih (j + 1) (by omega) h2 sI2 sB sA2 its2 ads2 (ho.fr fr2) (by omega) (by omega) H2
      rw [J48x19xeq, letK_eq, wrap64 (by omega) (by omega), show ((j : Int) + 1) = ((j + 1 : Nat) : Int) by omega, r1]
      refine ⟨h', sI', sB', sA', rfl, ?_, fr2.trans r3⟩
      have : rs cl bgs base (f.cls.drop j) = (base + i1, w) :: rs cl bgs base (f.cls.drop (j + 1)) := by
        rw [drop_at hx]
        unfold rs
        rw [List.map_cons, hi1, hi2, Int.toNat_natCast, Int.toNat_natCast, au, aw]
      rw [this, List.foldl_cons, hst]
      exact r2
    rw [L48x3xeq, letK_eq, if_pos (by simp; omega), chk_of (by intro _; omega), ha, atP_of, Int.toNat_natCast, la, gCells_of]
    simp only [clC, List.getElem?_cons_zero, List.getElem?_cons_succ]
    rw [gI_of, gI_of, atP_of, add_mk, rd0, gL_of, hi1, letK_eq, wrap64 (by omega) (by omega), chk_of (by intro _; omega), hs, adP_pos, atP_of, atP_of, add_mk, rd1, gL_of, chk_of (by intro _; omega), ha3, atP_of, hi2, Int.toNat_natCast, la3, gI_of, chk_of (by intro _; omega), ha4, atP_of, la4, gI_of, hbi, Int.toNat_natCast, add_mk b v, add_mk b v, add_mk b v, rop, gI_of, letK_eq]
    by_cases e : x.op = 20
    · obtain ⟨h2, s1, s2, s3'⟩ := H.setI hs hbk hit (y := { x with to := w }) (r := 5) (by omega) (u := .int .i64 w) rfl
      rw [if_pos (by simp [e]), add_mk b v, s1, Option.bind_some]
      refine next h2 sI sA _ ads ?_ s2 s3'
      unfold rstep upItem
      dsimp only
      rw [hit]
      dsimp only
      rw [if_pos e, if_pos e]
    · obtain ⟨h2, s1, s2, s3'⟩ := H.setI hs hbk hit (y := { x with n := 1048576 }) (r := 4) (by omega) (u := .int .i64 1048576) rfl
      have rd2 : ld1 h2 ⟨lb, 0, 0 + 2⟩ = some (.sl sA ads.length) := ld1_at s2.c rfl rfl
      obtain ⟨sA', h3, h4, p1, p2, p3, p4, p5⟩ := s2.pushA (((base + i1 : Nat) : Int), w) (by omega)
      have p1' : ldSl (h2 ++ [.cells [.int .i64 ((base + i1 : Nat) : Int), .int .i64 w] (.grow 2) 0]) (.pos ⟨h2.length, 0, 0⟩) (1 * 2) = some (clC (((base + i1 : Nat) : Int), w)) := p1
      have p2' : apnd (h2 ++ [.cells [.int .i64 ((base + i1 : Nat) : Int), .int .i64 w] (.grow 2) 0]) (.sl sA ads.length) 2 16 (clC (((base + i1 : Nat) : Int), w)) 1 = some (.sl sA' (ads.length + 1), h3) := p2
      have s1' : st1 h ⟨b, v, 0 + (base + i1) * 6 + 0 + 4⟩ (.int .i64 1048576) = some h2 := s1
      rw [if_neg (by simp [e]), add_mk b v, s1', Option.bind_some, atP_of, add_mk, rd2, gL_of, letK_eq, newK_eq, p1', Option.bind_some, p2', Option.bind_some, gL_of, atP_of, add_mk, p3, Option.bind_some]
      refine next h4 sI sA' _ (ads ++ [(((base + i1 : Nat) : Int), w)]) ?_ p4 (s3'.trans p5)
      unfold rstep upItem
      dsimp only
      rw [hit]
      dsimp only
      rw [if_neg e, if_neg e]

theorem refs_ok {h0 h : Heap} {f : Fn} (F : f.R h0) {base lb n : Nat} {s3 : SA} {cl : List Int} (HC : VS intC 1 h0 s3 n cl) (hbase : base ≤ 20000000) {bgs : List Int} (hlc : f.its.length ≤ 16384)
    (hc : ∀ c ∈ f.cls, 0 ≤ c.1 ∧ c.1 < f.its.length ∧ 0 ≤ c.2 ∧ c.2 < n) (hcl : ∀ i, i < n → 0 ≤ at_ cl i ∧ at_ cl i < bgs.length) {sI sB sA : SA} {its : List It} {ads : List (Int × Int)} (ho : Old h0 h) (hl : base + f.its.length ≤ its.length) (hba : ads.length + f.cls.length ≤ 1000000000) (H : LK h lb h0.length sI sB sA its bgs ads) :
    ∃ h' sI' sB' sA', E 48 [.ptr (some ⟨lb, 0, 0⟩), .agg [.int .i64 f.nm, .sl f.sI f.its.length, .sl f.sC f.cls.length, .sl f.sM f.mps.length, .int .i64 f.size], .int .i64 (base : Int), .sl s3 n] h = some (.tup [], h') ∧
      LK h' lb h0.length sI' sB' sA' ((rs cl bgs base f.cls).foldl rstep (its, ads)).1 bgs ((rs cl bgs base f.cls).foldl rstep (its, ads)).2 ∧ Fr h0.length h h' := by
  rw [e48]
  obtain ⟨h', sI', sB', sA', r⟩ := refs_loop2 F HC hbase hlc hc hcl f.cls.length 0 (by omega) h sI sB sA its ads ho hl hba H
  rw [List.drop_zero] at r
  exact ⟨h', sI', sB', sA', r⟩

end Go.Proofs.Ytmfmnbldngfelaa.I
