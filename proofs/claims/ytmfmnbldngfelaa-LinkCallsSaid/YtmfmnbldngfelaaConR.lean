/- What the functions of relax answer: jumps, starts, check. -/
import Derived.Test.YtmfmnbldngfelaaConS
import Derived.Test.YtmfmnbldngfelaaRGen
import Derived.Test.YtmfmnbldngfelaaLibD
set_option linter.unusedVariables false
set_option linter.unusedSimpArgs false
namespace Go.Proofs.Ytmfmnbldngfelaa.I
open Go Go.Proofs.Ytmfmnbldngfelaa.Abs Go.Proofs

/-- Is N of an operation the distance of a jump? -/
def jmp (op : Int) : Bool := decide (op = 16 ∨ op = 17 ∨ op = 18 ∨ op = 19 ∨ op = 20)

theorem jumps_ok (op : Int) (h : Heap) : E 42 [.int .i64 op] h = some (.bool (jmp op), h) := by
  rw [e42]
  simp only [letK_eq, jmp]
  by_cases a : op = 16 <;> by_cases b : op = 17 <;> by_cases c : op = 18 <;> by_cases d : op = 19 <;> by_cases e : op = 20 <;> simp [a, b, c, d, e]

/-- The address of an item. -/
def pos (bs : List Bool) : Nat → Int
  | 0 => 0
  | i + 1 => pos bs i + (if bs.getD i false = true then 2 else 1)

theorem pos_lo (bs : List Bool) (i : Nat) : (i : Int) ≤ pos bs i := by
  induction i with
  | zero => simp [pos]
  | succ i ih => unfold pos; split <;> omega

theorem pos_hi (bs : List Bool) (i : Nat) : pos bs i ≤ 2 * i := by
  induction i with
  | zero => simp [pos]
  | succ i ih => unfold pos; split <;> omega

def posL (bs : List Bool) (n : Nat) : List Int := (List.range (n + 1)).map (pos bs)

theorem starts_loop {h : Heap} {s1 : SA} {n1 n : Nat} {bs : List Bool} (hn : n < 1000000000) (HB : VS boolC 1 h s1 n1 bs) (hl : n ≤ n1) : ∀ (k j : Nat), j + k = n →
    L43x5 mk0 E s1 n1 (.pos ⟨h.length, 0, 0⟩) (n + 1) ((n : Nat) : Int) ((j : Nat) : Int) (h ++ [.cells ((List.range (n + 1)).map fun i => .int .i64 (if i ≤ j then pos bs i else 0)) (.grow 1) 0]) (Q43x5 mk0 E) =
    some (.sl (.pos ⟨h.length, 0, 0⟩) (n + 1), h ++ [.cells ((posL bs n).map (.int .i64)) (.grow 1) 0]) := by
  intro k
  induction k with
  | zero =>
    intro j hj
    rw [L43x5xeq, letK_eq, if_neg (by simp; omega), X43x5xe0]
    congr 5
    unfold posL
    rw [List.map_map]
    apply List.map_congr_left
    intro i hi
    have := List.mem_range.1 hi
    rw [if_pos (by omega)]; rfl
  | succ k ih =>
    intro j hj
    have hbl := HB.1
    obtain ⟨x, hx⟩ : ∃ x, bs[j]? = some x := ⟨bs[j]'(by omega), List.getElem?_eq_getElem (by omega)⟩
    generalize hB : Blk.cells ((List.range (n + 1)).map fun i => AV.int .i64 (if i ≤ j then pos bs i else 0)) (.grow 1) 0 = B
    have hk : (h ++ [B])[h.length]? = some B := last_get h B
    obtain ⟨a, ha, la⟩ := vs_ld1 (g := AV.bool) (vs_old HB (old_app h [B])) (fun _ => rfl) j x hx
    rw [L43x5xeq, letK_eq, if_pos (by simp; omega), chk_of (by intro _; omega), ha, atP_of, Int.toNat_natCast, la, gB_of]
    have p0 := pos_lo bs j
    have p1 := pos_hi bs j
    have fin : ∀ v : Int, pos bs (j + 1) = pos bs j + v → 0 ≤ v → v ≤ 2 → J43x17 mk0 E s1 n1 (.pos ⟨h.length, 0, 0⟩) (n + 1) ((j : Nat) : Int) v ((n : Nat) : Int) ((j : Nat) : Int) (h ++ [B]) (Q43x5 mk0 E) =
        some (.sl (.pos ⟨h.length, 0, 0⟩) (n + 1), h ++ [.cells ((posL bs n).map (.int .i64)) (.grow 1) 0]) := by
      intro v hv v0 v2
      have l1 : ld1 (h ++ [B]) ⟨h.length, 0, 0 + j * 1⟩ = some (.int .i64 (pos bs j)) := ld1_at (hk.trans (congrArg some hB.symm)) (by rw [Nat.zero_add, Nat.mul_one, range_get (by omega), if_pos (by omega)]) rfl
      rw [J43x17xeq, letK_eq, wrap64 (by omega) (by omega), chk_of (by intro _; omega), adP_pos, atP_of, add_mk, Int.toNat_natCast, l1, gI_of, letK_eq, wrap64 (by omega) (by omega), chk_of (by intro _; omega), atP_of, add_mk, show ((j : Int) + 1) = ((j + 1 : Nat) : Int) by omega, Int.toNat_natCast]
      rw [st1_at (hk.trans (congrArg some hB.symm)) (by simp) (by simp; omega), Option.bind_some, letK_eq, set_last, Nat.zero_add, Nat.mul_one, range_set, ← ih (j + 1) (by omega)]
      congr 4
      apply List.map_congr_left
      intro i hi
      by_cases e1 : i = j + 1
      · subst e1
        rw [if_pos rfl, if_pos (by omega), hv]
      · rw [if_neg e1]
        by_cases e2 : i ≤ j
        · rw [if_pos e2, if_pos (by omega)]
        · rw [if_neg e2, if_neg (by omega)]
    have hg : bs.getD j false = x := by simp [List.getD, hx]
    cases x with
    | true =>
      rw [if_pos rfl]
      exact fin 2 (by rw [pos, hg, if_pos rfl]) (by omega) (by omega)
    | false =>
      rw [if_neg (by simp)]
      exact fin 1 (by rw [pos, hg, if_neg (by simp)]) (by omega) (by omega)

theorem starts_ok {h : Heap} {s0 s1 : SA} {n1 n : Nat} {bs : List Bool} (hn : n < 1000000000) (HB : VS boolC 1 h s1 n1 bs) (hl : n ≤ n1) :
    E 43 [.sl s0 n, .sl s1 n1] h = some (.sl (.pos ⟨h.length, 0, 0⟩) (n + 1), h ++ [.cells ((posL bs n).map (.int .i64)) (.grow 1) 0]) := by
  rw [e43, letK_eq, wrap64 (by omega) (by omega), chk_of (by omega), newK_eq, letK_eq, show ((n : Int) + 1) = ((n + 1 : Nat) : Int) by omega, Int.toNat_natCast, ← starts_loop hn HB hl n 0 (by omega)]
  congr 4
  show List.replicate (n + 1) (AV.int .i64 0) = _
  apply List.ext_getElem
  · simp
  · intro i h1 h2
    simp only [List.getElem_replicate, List.getElem_map, List.getElem_range]
    cases i with
    | zero => simp [pos]
    | succ i => rw [if_neg (by omega)]

/-- An item of code. -/
structure It where
  op : Int
  d : Int
  a : Int
  b : Int
  n : Int
  to : Int

def It.cells (e : It) : List AV := [.int .i64 e.op, .int .i64 e.d, .int .i64 e.a, .int .i64 e.b, .int .i64 e.n, .int .i64 e.to]
def It.num (e : It) : Int := if 0 ≤ e.to then 0 else e.n
/-- A valid item among so many. -/
def It.ok (m : Nat) (e : It) : Prop := chkV e.op e.d e.a e.b e.num = 0 ∧ -1 ≤ e.to ∧ e.to ≤ m ∧ (0 ≤ e.to → jmp e.op = true ∧ e.n = 0)

theorem it_len (e : It) : e.cells.length = 6 := rfl
theorem it_flat (e : It) : flatL e.cells = true := rfl

theorem rcheck_loop {h : Heap} {s : SA} {n : Nat} {l : List It} (H : VS It.cells 6 h s n l) (hn : n < 1000000000) : ∀ (k j : Nat), j + k = n →
    ∃ v, L44x9 mk0 E s n s n ((n : Nat) : Int) ((j : Nat) : Int) h (Q44x9 mk0 E) = some (.int .i64 v, h) ∧ (v = 0 ↔ ∀ x ∈ l.drop j, It.ok n x) := by
  intro k
  induction k with
  | zero =>
    intro j hj
    have := H.1
    refine ⟨0, by rw [L44x9xeq, letK_eq, if_neg (by simp; omega), X44x9xe0], ?_⟩
    rw [List.drop_eq_nil_of_le (by omega)]
    simp
  | succ k ih =>
    intro j hj
    have hlen := H.1
    obtain ⟨e, he⟩ : ∃ e, l[j]? = some e := ⟨l[j]'(by omega), List.getElem?_eq_getElem (by omega)⟩
    have hd : l.drop j = e :: l.drop (j + 1) := by
      rw [List.drop_eq_getElem_cons (by omega)]
      congr 1
      rw [List.getElem?_eq_getElem (by omega)] at he
      exact Option.some.inj he
    obtain ⟨a, ha, la⟩ := vs_ld H it_flat j e he
    obtain ⟨v, hv, hv2⟩ := ih (j + 1) (by omega)
    rw [L44x9xeq, letK_eq, if_pos (by simp; omega), chk_of (by intro _; omega), ha, atP_of, Int.toNat_natCast, la, gCells_of]
    simp only [It.cells, List.getElem?_cons_zero, List.getElem?_cons_succ]
    rw [gI_of, gI_of, gI_of, gI_of, gI_of, gI_of, letK_eq]
    have fin : ∃ v, J44x21 mk0 E s n e.op e.d e.a e.b e.n e.to e.op e.d e.a e.b e.num s n ((n : Nat) : Int) ((j : Nat) : Int) h (Q44x9 mk0 E) = some (.int .i64 v, h) ∧ (v = 0 ↔ ∀ x ∈ l.drop j, It.ok n x) := by
      rw [J44x21xeq, check_ok, Option.bind_some, gI_of, letK_eq]
      rw [hd]
      simp only [List.forall_mem_cons]
      by_cases hc : chkV e.op e.d e.a e.b e.num = 0
      · rw [if_neg (by simp [hc]), letK_eq]
        by_cases h1 : e.to < -1
        · rw [decide_eq_true h1]
          simp only [gI_false, Bool.not_true]
          rw [letK_eq, letK_eq, if_pos (by simp), X44x9xr]
          refine ⟨4, rfl, ?_⟩
          refine ⟨fun h => absurd h (by decide), fun h => ?_⟩
          have := h.1.2.1
          omega
        · rw [decide_eq_false h1, Bool.not_false, gI_of, letK_eq, letK_eq]
          by_cases h2 : (n : Int) < e.to
          · rw [if_pos (by simpa using h2), X44x9xr]
            refine ⟨4, rfl, ?_⟩
            refine ⟨fun h => absurd h (by decide), fun h => ?_⟩
            have := h.1.2.2.1
            omega
          · rw [if_neg (by simpa using h2), letK_eq]
            by_cases h3 : 0 ≤ e.to
            · rw [decide_eq_true h3, gI_of, jumps_ok, callO_true, Option.bind_some, gB_of]
              by_cases h4 : jmp e.op = true
              · rw [h4]
                simp only [Bool.not_true, Bool.not_false, andB_true]
                rw [gI_of, letK_eq, letK_eq, letK_eq]
                by_cases h5 : e.n = 0
                · rw [if_neg (by simp [h5]), letK_eq, wrap64 (by omega) (by omega), show ((j : Int) + 1) = ((j + 1 : Nat) : Int) by omega]
                  refine ⟨v, hv, ?_⟩
                  rw [hv2]
                  exact ⟨fun h => ⟨⟨hc, by omega, by omega, fun _ => ⟨h4, h5⟩⟩, h⟩, fun h => h.2⟩
                · rw [if_pos (by simp [h5]), X44x9xr]
                  refine ⟨3, rfl, ?_⟩
                  refine ⟨fun h => absurd h (by decide), fun h => ?_⟩
                  exact absurd (h.1.2.2.2 h3).2 h5
              · have h4' : jmp e.op = false := by simpa using h4
                rw [h4']
                simp only [Bool.not_true, Bool.not_false, andB_true]
                rw [gI_false, letK_eq, letK_eq, letK_eq, if_pos (by simp), X44x9xr]
                refine ⟨3, rfl, ?_⟩
                refine ⟨fun h => absurd h (by decide), fun h => ?_⟩
                exact absurd (h.1.2.2.2 h3).1 h4
            · rw [decide_eq_false h3, gI_false, callO_false, Option.bind_some]
              simp only [andB_false, gI_false]
              rw [show ∀ (K : Bool → Option (AV × Heap)), gB (some (AV.bool false)) false K = K false from fun _ => rfl]
              rw [letK_eq, letK_eq, letK_eq]
              rw [if_neg (by simp), letK_eq, wrap64 (by omega) (by omega), show ((j : Int) + 1) = ((j + 1 : Nat) : Int) by omega]
              refine ⟨v, hv, ?_⟩
              rw [hv2]
              exact ⟨fun h => ⟨⟨hc, by omega, by omega, fun h' => absurd h' h3⟩, h⟩, fun h => h.2⟩
      · rw [if_pos (by simp [hc]), X44x9xr]
        refine ⟨_, rfl, ?_⟩
        exact ⟨fun h => absurd h hc, fun h => absurd h.1.1 hc⟩
    by_cases h0 : 0 ≤ e.to
    · rw [if_pos (by simpa using h0)]
      have : e.num = 0 := if_pos h0
      rw [this] at fin
      exact fin
    · rw [if_neg (by simpa using h0)]
      have : e.num = e.n := if_neg h0
      rw [this] at fin
      exact fin

theorem rcheck_ok {h : Heap} {s : SA} {n : Nat} {l : List It} (H : VS It.cells 6 h s n l) :
    ∃ v, E 44 [.sl s n] h = some (.int .i64 v, h) ∧ (v = 0 ↔ n ≤ 16384 ∧ ∀ x ∈ l, It.ok n x) := by
  rw [e44, letK_eq]
  by_cases hn : 16384 < n
  · rw [if_pos (by simp; omega)]
    exact ⟨2, rfl, fun h => absurd h (by decide), fun h => by omega⟩
  · rw [if_neg (by simp; omega)]
    obtain ⟨v, h1, h2⟩ := rcheck_loop H (by omega) n 0 (by omega)
    refine ⟨v, h1, ?_⟩
    rw [h2, List.drop_zero]
    exact ⟨fun h => ⟨by omega, h⟩, fun h => h.2⟩

end Go.Proofs.Ytmfmnbldngfelaa.I

/- relax: which items are long (plain). -/
set_option linter.unusedVariables false
set_option linter.unusedSimpArgs false
namespace Go.Proofs.Ytmfmnbldngfelaa.I
open Go Go.Proofs.Ytmfmnbldngfelaa.Abs Go.Proofs

/-- Would this jump, short, not fit? -/
def far (its : List It) (bs : List Bool) (i : Nat) : Bool :=
  match its[i]? with
  | some x => decide (0 ≤ x.to) && !inB (pos bs x.to.toNat - pos bs i - 1) (-128) 127
  | none => false

def gt (bs : List Bool) (i : Nat) : Bool := bs.getD i false

theorem pos_succ (bs : List Bool) (i : Nat) : pos bs (i + 1) = pos bs i + (if gt bs i = true then 2 else 1) := rfl

def LeB (bs cs : List Bool) : Prop := ∀ i, gt bs i = true → gt cs i = true

theorem pos_diff {bs cs : List Bool} (H : LeB bs cs) (i k : Nat) : pos bs (i + k) - pos bs i ≤ pos cs (i + k) - pos cs i := by
  induction k with
  | zero => simp
  | succ k ih =>
    rw [← Nat.add_assoc, pos_succ, pos_succ]
    have := H (i + k)
    by_cases hb : gt bs (i + k) = true
    · rw [if_pos hb, if_pos (this hb)]; omega
    · rw [if_neg hb]; split <;> omega

theorem pos_grow (bs : List Bool) (i k : Nat) : (k : Int) ≤ pos bs (i + k) - pos bs i := by
  induction k with
  | zero => simp
  | succ k ih =>
    rw [← Nat.add_assoc, pos_succ]
    split <;> omega

theorem pos_lt {bs cs : List Bool} (H : LeB bs cs) {i n : Nat} (hi : i < n) (h0 : gt bs i = false) (h1 : gt cs i = true) : pos bs n < pos cs n := by
  have a := pos_diff H 0 i
  have b := pos_diff H (i + 1) (n - (i + 1))
  rw [show i + 1 + (n - (i + 1)) = n by omega] at b
  rw [Nat.zero_add] at a
  rw [pos_succ, pos_succ, if_pos h1, if_neg (by simp [h0])] at b
  have c : pos bs 0 = 0 := rfl
  have d : pos cs 0 = 0 := rfl
  omega

theorem far_mono {its : List It} {bs cs : List Bool} (H : LeB bs cs) (i : Nat) (hf : far its bs i = true) : far its cs i = true := by
  unfold far at *
  cases hx : its[i]? with
  | none => rw [hx] at hf; cases hf
  | some x =>
    rw [hx] at hf
    simp only [Bool.and_eq_true, decide_eq_true_eq, Bool.not_eq_true', inB, Bool.and_eq_false_imp, decide_eq_false_iff_not] at hf ⊢
    obtain ⟨h0, h1⟩ := hf
    refine ⟨h0, ?_⟩
    rcases Nat.le_total i x.to.toNat with hle | hle
    · have a := pos_diff H i (x.to.toNat - i)
      have b := pos_grow bs i (x.to.toNat - i)
      rw [show i + (x.to.toNat - i) = x.to.toNat by omega] at a b
      intro _
      have := h1 (by omega)
      omega
    · have a := pos_diff H x.to.toNat (i - x.to.toNat)
      have b := pos_grow bs x.to.toNat (i - x.to.toNat)
      rw [show x.to.toNat + (i - x.to.toNat) = i by omega] at a b
      intro h2
      have := h1 (by omega)
      omega

/-- The invariant of the search for the sizes. -/
structure Good (its : List It) (bs : List Bool) : Prop where
  len : bs.length = its.length
  f1 : ∀ i x, its[i]? = some x → x.to < 0 → gt bs i = !inB x.n (-128) 127
  f3 : ∀ i x, its[i]? = some x → 0 ≤ x.to → gt bs i = true → far its bs i = true
  low : ∀ cs : List Bool, (∀ i x, its[i]? = some x → x.to < 0 → gt cs i = !inB x.n (-128) 127) → (∀ i, far its cs i = true → gt cs i = true) → LeB bs cs

/-- The sizes that Sizes finds. -/
structure Final (its : List It) (bs : List Bool) : Prop extends Good its bs where
  f2 : ∀ i, far its bs i = true → gt bs i = true

theorem eq_of_gt {bs cs : List Bool} (hl : bs.length = cs.length) (h : ∀ i, gt bs i = gt cs i) : bs = cs := by
  apply List.ext_getElem hl
  intro i h1 h2
  have := h i
  unfold gt at this
  simpa [List.getD, h1, h2] using this

theorem final_unique {its : List It} {bs cs : List Bool} (h1 : Final its bs) (h2 : Final its cs) : bs = cs := by
  apply eq_of_gt (by rw [h1.len, h2.len])
  intro i
  have a := h1.low cs h2.f1 h2.f2 i
  have b := h2.low bs h1.f1 h1.f2 i
  cases x : gt bs i <;> cases y : gt cs i <;> simp_all

def start0 (its : List It) : List Bool := its.map fun x => decide (x.to < 0) && !inB x.n (-128) 127

theorem gt_start (its : List It) (i : Nat) (x : It) (h : its[i]? = some x) : gt (start0 its) i = (decide (x.to < 0) && !inB x.n (-128) 127) := by
  simp [gt, start0, List.getD, h]

theorem gt_out {bs : List Bool} {i : Nat} (h : bs.length ≤ i) : gt bs i = false := by
  simp [gt, List.getD, h]

theorem good_start (its : List It) : Good its (start0 its) where
  len := by simp [start0]
  f1 := fun i x h h0 => by rw [gt_start its i x h, decide_eq_true h0, Bool.true_and]
  f3 := fun i x h h0 h1 => by
    rw [gt_start its i x h, decide_eq_false (by omega)] at h1
    cases h1
  low := fun cs c1 c2 i hi => by
    cases hx : its[i]? with
    | none =>
      rw [gt_out (by rw [List.getElem?_eq_none_iff] at hx; simpa [start0] using hx)] at hi
      cases hi
    | some x =>
      rw [gt_start its i x hx, Bool.and_eq_true, decide_eq_true_eq] at hi
      rw [c1 i x hx hi.1]
      exact hi.2

def pass (its : List It) (bs : List Bool) (j : Nat) : List Bool := (List.range bs.length).map fun i => gt bs i || (decide (i < j) && far its bs i)

theorem pass_len (its : List It) (bs : List Bool) (j : Nat) : (pass its bs j).length = bs.length := by simp [pass]
theorem gt_pass {its : List It} {bs : List Bool} (j : Nat) {i : Nat} (hi : i < bs.length) : gt (pass its bs j) i = (gt bs i || (decide (i < j) && far its bs i)) := by
  simp [gt, pass, List.getD, hi]

theorem pass_zero (its : List It) (bs : List Bool) : pass its bs 0 = bs := by
  apply eq_of_gt (pass_len its bs 0)
  intro i
  by_cases hi : i < bs.length
  · rw [gt_pass 0 hi]; simp
  · rw [gt_out (by rw [pass_len]; omega), gt_out (by omega)]

theorem pass_skip {its : List It} {bs : List Bool} {j : Nat} (h : far its bs j = false ∨ gt bs j = true) : pass its bs (j + 1) = pass its bs j := by
  apply eq_of_gt (by rw [pass_len, pass_len])
  intro i
  by_cases hi : i < bs.length
  · rw [gt_pass _ hi, gt_pass _ hi]
    by_cases e : i = j
    · subst e
      rcases h with h | h <;> simp [h]
    · have : decide (i < j + 1) = decide (i < j) := by apply decide_eq_decide.2; omega
      rw [this]
  · rw [gt_out (by rw [pass_len]; omega), gt_out (by rw [pass_len]; omega)]

theorem pass_set {its : List It} {bs : List Bool} {j : Nat} (h : far its bs j = true) : pass its bs (j + 1) = (pass its bs j).set j true := by
  apply List.ext_getElem?
  intro i
  by_cases hi : i < bs.length
  · rw [List.getElem?_set]
    have e0 : ∀ k, (pass its bs k)[i]? = some (gt bs i || (decide (i < k) && far its bs i)) := fun k => by unfold pass; rw [range_get hi]
    rw [e0, e0, pass_len]
    by_cases e : j = i
    · subst e; simp [h, hi]
    · have : decide (i < j + 1) = decide (i < j) := by apply decide_eq_decide.2; omega
      rw [this, if_neg e]
  · rw [List.getElem?_eq_none (by rw [pass_len]; omega), List.getElem?_eq_none (by rw [List.length_set, pass_len]; omega)]

theorem le_pass (its : List It) (bs : List Bool) (j : Nat) : LeB bs (pass its bs j) := by
  intro i hi
  by_cases h : i < bs.length
  · rw [gt_pass _ h, hi]; rfl
  · rw [gt_out (by omega)] at hi; cases hi

theorem good_pass {its : List It} {bs : List Bool} (H : Good its bs) (j : Nat) : Good its (pass its bs j) where
  len := by rw [pass_len, H.len]
  f1 := fun i x h h0 => by
    have hi : i < bs.length := by rw [H.len]; exact (List.getElem?_eq_some_iff.1 h).1
    rw [gt_pass _ hi, ← H.f1 i x h h0]
    have : far its bs i = false := by
      unfold far; rw [h]; simp; intro; omega
    simp [this]
  f3 := fun i x h h0 h1 => by
    have hi : i < bs.length := by rw [H.len]; exact (List.getElem?_eq_some_iff.1 h).1
    rw [gt_pass _ hi, Bool.or_eq_true, Bool.and_eq_true] at h1
    apply far_mono (le_pass its bs j)
    rcases h1 with h1 | h1
    · exact H.f3 i x h h0 h1
    · exact h1.2
  low := fun cs c1 c2 i hi => by
    by_cases h : i < bs.length
    · rw [gt_pass _ h, Bool.or_eq_true, Bool.and_eq_true] at hi
      rcases hi with hi | hi
      · exact H.low cs c1 c2 i hi
      · exact c2 i (far_mono (H.low cs c1 c2) i hi.2)
    · rw [gt_out (by rw [pass_len]; omega)] at hi; cases hi

theorem final_of {its : List It} {bs : List Bool} (H : Good its bs) (h : pass its bs its.length = bs) : Final its bs := by
  refine ⟨H, fun i hi => ?_⟩
  have hl : i < its.length := by
    unfold far at hi
    cases hx : its[i]? with
    | none => rw [hx] at hi; cases hi
    | some x => exact (List.getElem?_eq_some_iff.1 hx).1
  have := gt_pass (its := its) (bs := bs) its.length (i := i) (by rw [H.len]; exact hl)
  rw [h] at this
  rw [this, hi]
  simp [hl]

end Go.Proofs.Ytmfmnbldngfelaa.I

/- relax: what Sizes answers. -/
set_option linter.unusedVariables false
set_option linter.unusedSimpArgs false
namespace Go.Proofs.Ytmfmnbldngfelaa.I
open Go Go.Proofs.Ytmfmnbldngfelaa.Abs Go.Proofs

theorem gB_false {R : Type} (b : Bool) (K : Bool → Option R) : gB (some (AV.bool b)) false K = K b := rfl
theorem gI_falseS {R : Type} (v : Int) (K : Int → Option R) : gI .i64 (some (AV.int .i64 v)) false K = K v := rfl

theorem sizeV2 (n : Int) : decide (sizeV n = 2) = !inB n (-128) 127 := by
  unfold sizeV
  cases inB n (-128) 127 <;> rfl

/-- The list of a block of truth values. -/
theorem bl_blk {h : Heap} {B : Nat} {m : Abs.Mode} {bs : List Bool} {n : Nat} (hb : h[B]? = some (.cells (bs.map .bool) m 0)) (hl : bs.length = n) : VS (fun x => [AV.bool x]) 1 h (.pos ⟨B, 0, 0⟩) n bs := by
  subst hl; exact vs_blk1 hb

theorem first_loop {h0 : Heap} {s0 : SA} {n : Nat} {its : List It} (HI : VS It.cells 6 h0 s0 n its) (hn : n < 1000000000) : ∀ (k j : Nat), j + k = n →
    L31x11 mk0 E s0 n (.pos ⟨h0.length, 0, 0⟩) n s0 n ((n : Nat) : Int) ((j : Nat) : Int) (h0 ++ [.cells ((List.range n).map fun i => .bool (if i < j then gt (start0 its) i else false)) (.grow 1) 0]) (Q31x11 mk0 E) =
    L31x22 mk0 E s0 n (.pos ⟨h0.length, 0, 0⟩) n true (h0 ++ [.cells ((start0 its).map .bool) (.grow 1) 0]) (Q31x22 mk0 E) := by
  intro k
  have hil := HI.1
  induction k with
  | zero =>
    intro j hj
    rw [L31x11xeq, letK_eq, if_neg (by simp; omega), X31x11xe0]
    congr 4
    apply List.ext_getElem?
    intro i
    by_cases hi : i < n
    · obtain ⟨x, hx⟩ : ∃ x, its[i]? = some x := ⟨its[i]'(by omega), List.getElem?_eq_getElem (by omega)⟩
      rw [range_get hi, if_pos (by omega), gt_start its i x hx]
      simp [start0, hx]
    · rw [List.getElem?_eq_none (by simp; omega), List.getElem?_eq_none (by simp [start0]; omega)]
  | succ k ih =>
    intro j hj
    obtain ⟨x, hx⟩ : ∃ x, its[j]? = some x := ⟨its[j]'(by omega), List.getElem?_eq_getElem (by omega)⟩
    generalize hB : Blk.cells ((List.range n).map fun i => AV.bool (if i < j then gt (start0 its) i else false)) (.grow 1) 0 = B
    have hk : (h0 ++ [B])[h0.length]? = some B := last_get h0 B
    obtain ⟨a, ha, la⟩ := vs_ld (vs_old HI (old_app h0 [B])) it_flat j x hx
    rw [L31x11xeq, letK_eq, if_pos (by simp; omega), chk_of (by intro _; omega), ha, atP_of, Int.toNat_natCast, la, gCells_of]
    simp only [It.cells, List.getElem?_cons_zero, List.getElem?_cons_succ]
    rw [gI_of, gI_of, gI_of, gI_of, gI_of, gI_of, letK_eq, chk_of (by intro _; omega)]
    have fin : (st1 (h0 ++ [B]) ⟨h0.length, 0, 0 + j * 1⟩ (.bool (decide (x.to < 0) && !inB x.n (-128) 127))).bind (fun h_2 => letK (IntKind.wrap .i64 (((j : Nat) : Int) + 1)) fun i39 =>
        L31x11 mk0 E s0 n (.pos ⟨h0.length, 0, 0⟩) n s0 n ((n : Nat) : Int) i39 h_2 (Q31x11 mk0 E)) = L31x22 mk0 E s0 n (.pos ⟨h0.length, 0, 0⟩) n true (h0 ++ [.cells ((start0 its).map .bool) (.grow 1) 0]) (Q31x22 mk0 E) := by
      rw [st1_at (hk.trans (congrArg some hB.symm)) (by simp) (by simp; omega), Option.bind_some, letK_eq, set_last, Nat.zero_add, Nat.mul_one, range_set, wrap64 (by omega) (by omega), show ((j : Int) + 1) = ((j + 1 : Nat) : Int) by omega, ← ih (j + 1) (by omega)]
      congr 4
      apply List.map_congr_left
      intro i hi
      by_cases e1 : i = j
      · subst e1
        rw [if_pos rfl, if_pos (by omega), gt_start its i x hx]
      · rw [if_neg e1]
        by_cases e2 : i < j
        · rw [if_pos e2, if_pos (by omega)]
        · rw [if_neg e2, if_neg (by omega)]
    by_cases h1 : x.to < 0
    · rw [decide_eq_true h1, gI_of, gI_of, gI_of, gI_of, gI_of, size_ok, callO_true, Option.bind_some, gI_of, letK_eq, letK_eq, if_pos rfl, chk_of (by intro _; omega), adP_pos, atP_of, add_mk, sizeV2]
      rw [decide_eq_true h1, Bool.true_and] at fin
      exact fin
    · rw [decide_eq_false h1]
      simp only [gI_falseS]
      rw [callO_false, Option.bind_some, gI_falseS, letK_eq, letK_eq, if_neg (by simp), chk_of (by intro _; omega), adP_pos, atP_of, add_mk]
      rw [decide_eq_false h1, Bool.false_and] at fin
      exact fin

theorem inner_loop {h0 : Heap} {s0 : SA} {n B p : Nat} {its : List It} {bs : List Bool} {Q : Kont (AV × Heap)} (HI : VS It.cells 6 h0 s0 n its) (hv : ∀ x ∈ its, It.ok n x) (hn : n < 1000000000) (hbl : bs.length = n) (hB : h0.length ≤ B) (hp : p ≠ B) : ∀ (k j : Nat), j + k = n →
    ∀ (h : Heap) (b8 : Bool), Old h0 h → h[B]? = some (.cells ((pass its bs j).map .bool) (.grow 1) 0) → h[p]? = some (.cells ((posL bs n).map (.int .i64)) (.grow 1) 0) →
    (b8 = true → ∃ i, i < n ∧ gt bs i = false ∧ far its bs i = true) → (b8 = false → pass its bs j = bs) →
    ∃ h' b8', L31x32 mk0 E s0 n (.pos ⟨B, 0, 0⟩) n b8 (.pos ⟨p, 0, 0⟩) (n + 1) s0 n ((n : Nat) : Int) ((j : Nat) : Int) h (Q31x32 mk0 E Q) = L31x22 mk0 E s0 n (.pos ⟨B, 0, 0⟩) n b8' h' Q ∧
      Old h0 h' ∧ h'[B]? = some (.cells ((pass its bs n).map .bool) (.grow 1) 0) ∧ (b8' = true → ∃ i, i < n ∧ gt bs i = false ∧ far its bs i = true) ∧ (b8' = false → pass its bs n = bs) := by
  intro k
  have hil := HI.1
  induction k with
  | zero =>
    intro j hj h b8 ho hb hq t1 t2
    obtain rfl : j = n := by omega
    exact ⟨h, b8, by rw [L31x32xeq, letK_eq, if_neg (by simp), X31x32xe4], ho, hb, t1, t2⟩
  | succ k ih =>
    intro j hj h b8 ho hb hq t1 t2
    obtain ⟨x, hx⟩ : ∃ x, its[j]? = some x := ⟨its[j]'(by omega), List.getElem?_eq_getElem (by omega)⟩
    have hxo := hv x (List.mem_of_getElem? hx)
    obtain ⟨a, ha, la⟩ := vs_ld (vs_old HI ho) it_flat j x hx
    have hcur : (pass its bs j)[j]? = some (gt bs j) := by
      unfold pass; rw [range_get (by omega)]; simp
    have lb : ld1 h ⟨B, 0, 0 + j * 1⟩ = some (.bool (gt bs j)) := ld1_at hb (by rw [Nat.zero_add, Nat.mul_one, List.getElem?_map, hcur]; rfl) rfl
    have wj : IntKind.wrap .i64 ((j : Int) + 1) = ((j + 1 : Nat) : Int) := by rw [wrap64 (by omega) (by omega)]; omega
    rw [L31x32xeq, letK_eq, if_pos (by simp; omega), chk_of (by intro _; omega), ha, atP_of, Int.toNat_natCast, la, gCells_of]
    simp only [It.cells, List.getElem?_cons_zero, List.getElem?_cons_succ]
    rw [gI_of, gI_of, gI_of, gI_of, gI_of, gI_of, letK_eq, chk_of (by intro _; omega), adP_pos]
    have skip : far its bs j = false ∨ gt bs j = true → ∃ h' b8', J31x47 mk0 E s0 n (.pos ⟨B, 0, 0⟩) n b8 (.pos ⟨p, 0, 0⟩) (n + 1) s0 n ((n : Nat) : Int) ((j : Nat) : Int) h (Q31x32 mk0 E Q) = L31x22 mk0 E s0 n (.pos ⟨B, 0, 0⟩) n b8' h' Q ∧
      Old h0 h' ∧ h'[B]? = some (.cells ((pass its bs n).map .bool) (.grow 1) 0) ∧ (b8' = true → ∃ i, i < n ∧ gt bs i = false ∧ far its bs i = true) ∧ (b8' = false → pass its bs n = bs) := by
      intro hs
      rw [J31x47xeq, letK_eq, wj]
      rw [← pass_skip hs] at hb t2
      exact ih (j + 1) (by omega) h b8 ho hb hq t1 t2
    by_cases h1 : x.to < 0
    · have hfar : far its bs j = false := by
        unfold far; rw [hx]; simp; intro; omega
      rw [decide_eq_true h1]
      simp only [Bool.not_true]
      rw [atP_of, atP_of, add_mk, lb, gB_false, letK_eq, if_pos (by simp)]
      exact skip (.inl hfar)
    · rw [decide_eq_false h1]
      simp only [Bool.not_false]
      rw [atP_of, atP_of, add_mk, lb, gB_of, letK_eq]
      cases hg : gt bs j with
      | true =>
        rw [if_pos (by simp)]
        exact skip (.inr hg)
      | false =>
        obtain ⟨t, ht⟩ := Int.eq_ofNat_of_zero_le (show 0 ≤ x.to by omega)
        have htn := hxo.2.2.1
        have at_pos : ∀ i, i ≤ n → ld1 h ⟨p, 0, 0 + i * 1⟩ = some (.int .i64 (pos bs i)) := fun i hi => ld1_at hq (by unfold posL; rw [Nat.zero_add, Nat.mul_one, List.getElem?_map, range_get (by omega)]; rfl) rfl
        have q0 := pos_lo bs t
        have q1 := pos_hi bs t
        have q2 := pos_lo bs j
        have q3 := pos_hi bs j
        have hfar : far its bs j = !inB (pos bs t - pos bs j - 1) (-128) 127 := by
          unfold far; rw [hx]; dsimp only; rw [ht]; simp
        rw [if_neg (by simp), ht, chk_of (by intro _; omega), adP_pos, atP_of, add_mk, Int.toNat_natCast, at_pos t (by omega), gI_of, chk_of (by intro _; omega), atP_of, add_mk, at_pos j (by omega), gI_of, letK_eq, wrap64 (x := pos bs t - pos bs j) (by omega) (by omega), letK_eq, wrap64 (by omega) (by omega), size_ok, Option.bind_some, gI_of, letK_eq, sizeV2, ← hfar]
        cases hf : far its bs j with
        | false =>
          rw [if_neg (by simp), J31x46xeq]
          exact skip (.inl hf)
        | true =>
          rw [if_pos rfl, chk_of (by intro _; omega), atP_of, add_mk, st1_at hb (by simp) (by rw [List.length_map, pass_len]; omega), Option.bind_some, J31x46xeq, J31x47xeq, letK_eq, wj]
          refine ih (j + 1) (by omega) _ true (ho.set hB _) ?_ ?_ (fun _ => ⟨j, by omega, hg, hf⟩) (fun e => by cases e)
          · rw [set_same hb, pass_set hf, List.map_set, Nat.zero_add, Nat.mul_one]
          · rw [set_other (by omega)]; exact hq

theorem outer_loop {h0 : Heap} {s0 : SA} {n B : Nat} {its : List It} (HI : VS It.cells 6 h0 s0 n its) (hv : ∀ x ∈ its, It.ok n x) (hn : n < 1000000000) (hB : h0.length ≤ B) : ∀ (m : Nat) (bs : List Bool), 2 * (n : Int) - pos bs n ≤ (m : Nat) → Good its bs → ∀ (h : Heap) (b8 : Bool), Old h0 h →
    h[B]? = some (.cells (bs.map .bool) (.grow 1) 0) → (b8 = false → pass its bs n = bs) →
    ∃ h' cs, L31x22 mk0 E s0 n (.pos ⟨B, 0, 0⟩) n b8 h (Q31x22 mk0 E) = some (.tup [.sl (.pos ⟨B, 0, 0⟩) n, .int .i64 0], h') ∧ Old h0 h' ∧ Final its cs ∧ h'[B]? = some (.cells (cs.map .bool) (.grow 1) 0) := by
  intro m
  have hil := HI.1
  induction m with
  | zero =>
    intro bs hm hG h b8 ho hb t2
    have hbl : bs.length = n := by rw [hG.len, hil]
    have hBl := (List.getElem?_eq_some_iff.1 hb).1
    rw [L31x22xeq]
    cases b8 with
    | false =>
      rw [if_neg (by simp), X31x22xe2]
      exact ⟨h, bs, rfl, ho, final_of hG (by rw [hil]; exact t2 rfl), hb⟩
    | true =>
      rw [if_pos rfl, starts_ok hn (bl_blk hb hbl) (Nat.le_refl _), Option.bind_some, gL_of]
      obtain ⟨h', b8', e, o', hb', t1', t2'⟩ := inner_loop (Q := Q31x22 mk0 E) (p := h.length) HI hv hn hbl hB (by omega) n 0 (by omega) (h ++ [.cells ((posL bs n).map (.int .i64)) (.grow 1) 0]) false (ho.app _) (by rw [pass_zero]; exact app_old hb) (last_get _ _) (fun e => by cases e) (fun _ => pass_zero _ _)
      rw [show (((0 : Nat) : Int)) = 0 from rfl] at e
      rw [e]
      cases b8' with
      | false =>
        rw [L31x22xeq, if_neg (by simp), X31x22xe2]
        rw [t2' rfl] at hb'
        exact ⟨h', bs, rfl, o', final_of hG (by rw [hil]; exact t2' rfl), hb'⟩
      | true =>
        obtain ⟨i, hi, g1, g2⟩ := t1' rfl
        have := pos_lt (le_pass its bs n) hi g1 (by rw [gt_pass _ (by omega), g2]; simp [hi])
        have := pos_hi (pass its bs n) n
        omega
  | succ m ih =>
    intro bs hm hG h b8 ho hb t2
    have hbl : bs.length = n := by rw [hG.len, hil]
    have hBl := (List.getElem?_eq_some_iff.1 hb).1
    cases b8 with
    | false =>
      rw [L31x22xeq, if_neg (by simp), X31x22xe2]
      exact ⟨h, bs, rfl, ho, final_of hG (by rw [hil]; exact t2 rfl), hb⟩
    | true =>
      rw [L31x22xeq, if_pos rfl, starts_ok hn (bl_blk hb hbl) (Nat.le_refl _), Option.bind_some, gL_of]
      obtain ⟨h', b8', e, o', hb', t1', t2'⟩ := inner_loop (Q := Q31x22 mk0 E) (p := h.length) HI hv hn hbl hB (by omega) n 0 (by omega) (h ++ [.cells ((posL bs n).map (.int .i64)) (.grow 1) 0]) false (ho.app _) (by rw [pass_zero]; exact app_old hb) (last_get _ _) (fun e => by cases e) (fun _ => pass_zero _ _)
      rw [show (((0 : Nat) : Int)) = 0 from rfl] at e
      rw [e]
      cases b8' with
      | false =>
        rw [L31x22xeq, if_neg (by simp), X31x22xe2]
        rw [t2' rfl] at hb'
        exact ⟨h', bs, rfl, o', final_of hG (by rw [hil]; exact t2' rfl), hb'⟩
      | true =>
        obtain ⟨i, hi, g1, g2⟩ := t1' rfl
        have := pos_lt (le_pass its bs n) hi g1 (by rw [gt_pass _ (by omega), g2]; simp [hi])
        exact ih (pass its bs n) (by omega) (good_pass hG n) h' true o' hb' (fun e => by cases e)

/-- What Sizes answers for valid items. -/
theorem sizes_ok {h : Heap} {s : SA} {n : Nat} {its : List It} (HI : VS It.cells 6 h s n its) (hv : ∀ x ∈ its, It.ok n x) (hn : n ≤ 16384) :
    ∃ bs h', E 31 [.sl s n] h = some (.tup [.sl (.pos ⟨h.length, 0, 0⟩) n, .int .i64 0], h') ∧ Old h h' ∧ Final its bs ∧ h'[h.length]? = some (.cells (bs.map .bool) (.grow 1) 0) := by
  obtain ⟨v, e1, e2⟩ := rcheck_ok HI
  obtain rfl : v = 0 := e2.2 ⟨hn, hv⟩
  rw [e31, e1, Option.bind_some, gI_of, letK_eq, if_neg (by simp), chk_of (by omega), newK_eq, letK_eq]
  have f := first_loop HI (by omega) n 0 (by omega)
  have e0 : (List.range n).map (fun i => AV.bool (if i < 0 then gt (start0 its) i else false)) = List.replicate n (.bool false) := by
    apply List.ext_getElem
    · simp
    · intro i h1 h2; simp
  rw [e0] at f
  have e3 : repl (Int.toNat ((n : Nat) : Int)) [AV.bool false] = List.replicate n (.bool false) := by rw [Int.toNat_natCast]; rfl
  dsimp only
  rw [e3, Int.toNat_natCast]
  rw [show (((0 : Nat) : Int)) = 0 from rfl] at f
  rw [f]
  have hil := HI.1
  have p0 := pos_lo (start0 its) n
  obtain ⟨h', cs, g1, g2, g3, g4⟩ := outer_loop (B := h.length) HI hv (by omega) (Nat.le_refl _) (2 * n) (start0 its) (by omega) (good_start its) (h ++ [.cells ((start0 its).map .bool) (.grow 1) 0]) true (old_app _ _) (last_get _ _) (fun e => by cases e)
  exact ⟨cs, h', g1, g2, g3, g4⟩

theorem sizes_bad {h : Heap} {s : SA} {n : Nat} {its : List It} (HI : VS It.cells 6 h s n its) (hv : ¬ (n ≤ 16384 ∧ ∀ x ∈ its, It.ok n x)) :
    ∃ v, v ≠ 0 ∧ E 31 [.sl s n] h = some (.tup [.sl .nil 0, .int .i64 v], h) := by
  obtain ⟨v, e1, e2⟩ := rcheck_ok HI
  have hv0 : v ≠ 0 := fun e => hv (e2.1 e)
  refine ⟨v, hv0, ?_⟩
  rw [e31, e1, Option.bind_some, gI_of, letK_eq, if_pos (by simp [hv0])]

end Go.Proofs.Ytmfmnbldngfelaa.I

/- relax: what Encode answers. -/
set_option linter.unusedVariables false
set_option linter.unusedSimpArgs false
namespace Go.Proofs.Ytmfmnbldngfelaa.I
open Go Go.Proofs.Ytmfmnbldngfelaa.Abs Go.Proofs

theorem gI_any {R : Type} (v : Int) (bc : Bool) (K : Int → Option R) : gI .i64 (some (AV.int .i64 v)) bc K = K v := by cases bc <;> rfl
theorem gB_any {R : Type} (v : Bool) (bc : Bool) (K : Bool → Option R) : gB (some (AV.bool v)) bc K = K v := by cases bc <;> rfl

/-- Which items are long, if all jumps are to be. -/
def lngAt (its : List It) (bs : List Bool) (all : Bool) (i : Nat) : Bool :=
  gt bs i || (all && match its[i]? with | some x => decide (0 ≤ x.to) | none => false)
def lng (its : List It) (bs : List Bool) (all : Bool) : List Bool := (List.range its.length).map (lngAt its bs all)

theorem gt_lng {its : List It} {bs : List Bool} {all : Bool} {i : Nat} (hi : i < its.length) : gt (lng its bs all) i = lngAt its bs all i := by
  simp [gt, lng, List.getD, hi]

theorem lng_len (its : List It) (bs : List Bool) (all : Bool) : (lng its bs all).length = its.length := by simp [lng]

theorem lng_false {its : List It} {bs : List Bool} (hl : bs.length = its.length) : lng its bs false = bs := by
  apply eq_of_gt (by rw [lng_len, hl])
  intro i
  by_cases hi : i < its.length
  · rw [gt_lng hi]; simp [lngAt]
  · rw [gt_out (by rw [lng_len]; omega), gt_out (by omega)]

/-- The instruction that stands for an item. -/
def entAt (its : List It) (cs : List Bool) (i : Nat) : Ent :=
  match its[i]? with
  | some x => ⟨x.op, x.d, x.a, x.b, if 0 ≤ x.to then pos cs x.to.toNat - pos cs (i + 1) else x.n, gt cs i⟩
  | none => ⟨0, 0, 0, 0, 0, false⟩

def ents (its : List It) (cs : List Bool) : List Ent := (List.range its.length).map (entAt its cs)

theorem ents_get {its : List It} {cs : List Bool} {i : Nat} {x : It} (h : its[i]? = some x) : (ents its cs)[i]? = some ⟨x.op, x.d, x.a, x.b, if 0 ≤ x.to then pos cs x.to.toNat - pos cs (i + 1) else x.n, gt cs i⟩ := by
  have hi := (List.getElem?_eq_some_iff.1 h).1
  unfold ents
  rw [range_get hi]
  simp [entAt, h]

theorem chk_jump {op d a b m : Int} (hj : jmp op = true) (hc : chkV op d a b 0 = 0) (h0 : -2147483648 ≤ m) (h1 : m ≤ 2147483647) : chkV op d a b m = 0 := by
  have hm : inB m (-2147483648) 2147483647 = true := by simp [inB, h0, h1]
  have hz : inB 0 (-2147483648) 2147483647 = true := by decide
  have key : ∀ (u : Int), (u = 16 ∨ u = 17 ∨ u = 18 ∨ u = 19 ∨ u = 20) → chkV u d a b 0 = 0 → chkV u d a b m = 0 := by
    intro u hu hc
    have u9 : decide (u = 9) = false := by apply decide_eq_false; omega
    have u10 : decide (u = 10) = false := by apply decide_eq_false; omega
    have u14 : decide (u = 14) = false := by apply decide_eq_false; omega
    have u24 : decide (u = 24) = false := by apply decide_eq_false; omega
    have un : usN u = true := by rcases hu with rfl | rfl | rfl | rfl | rfl <;> decide
    unfold chkV at hc ⊢
    rw [hm]
    rw [hz] at hc
    simp only [un, u9, u10, u14, u24, Bool.not_true, Bool.false_and, Bool.or_false] at hc ⊢
    exact hc
  apply key op _ hc
  simpa [jmp] using hj

theorem ent_ok {its : List It} {n : Nat} (hl : its.length = n) (hn : n ≤ 16384) (hv : ∀ x ∈ its, It.ok n x) (cs : List Bool) : ∀ e ∈ ents its cs, e.ok := by
  intro e he
  unfold ents at he
  obtain ⟨i, hi, rfl⟩ := List.mem_map.1 he
  have hi' : i < its.length := List.mem_range.1 hi
  have hx : its[i]? = some its[i] := List.getElem?_eq_getElem hi'
  obtain ⟨c1, c2, c3, c4⟩ := hv its[i] (List.getElem_mem hi')
  unfold Ent.ok entAt
  rw [hx]
  dsimp only
  unfold It.num at c1
  by_cases h0 : 0 ≤ its[i].to
  · rw [if_pos h0]
    rw [if_pos h0] at c1
    have p0 := pos_lo cs its[i].to.toNat
    have p1 := pos_hi cs its[i].to.toNat
    have p2 := pos_lo cs (i + 1)
    have p3 := pos_hi cs (i + 1)
    exact chk_jump (c4 h0).1 c1 (by omega) (by omega)
  · rw [if_neg h0]
    rw [if_neg h0] at c1
    exact c1

theorem ent_size {its : List It} {bs : List Bool} {all : Bool} (F : Final its bs) {i : Nat} {e : Ent} (he : (ents its (lng its bs all))[i]? = some e) : (e.words.length : Int) = (if gt (lng its bs all) i = true then 2 else 1) := by
  have hi : i < its.length := by
    have := (List.getElem?_eq_some_iff.1 he).1
    simpa [ents] using this
  have hx : its[i]? = some its[i] := List.getElem?_eq_getElem hi
  rw [ents_get hx] at he
  cases he
  unfold Ent.words
  dsimp only
  by_cases hg : gt (lng its bs all) i = true
  · rw [if_pos hg, if_pos hg]; rfl
  · rw [if_neg hg, if_neg hg]
    unfold encL
    have hg' : lngAt its bs all i = false := by rw [← gt_lng hi]; simpa using hg
    unfold lngAt at hg'
    rw [hx] at hg'
    simp only [Bool.or_eq_false_iff] at hg'
    obtain ⟨hb, ha⟩ := hg'
    have hin : inB (if 0 ≤ its[i].to then pos (lng its bs all) its[i].to.toNat - pos (lng its bs all) (i + 1) else its[i].n) (-128) 127 = true := by
      by_cases h0 : 0 ≤ its[i].to
      · rw [if_pos h0]
        have hall : all = false := by simpa [h0] using ha
        subst hall
        rw [lng_false F.len] at hg ⊢
        have hf : far its bs i = false := by
          cases hf : far its bs i with
          | false => rfl
          | true => rw [F.f2 i hf] at hb; cases hb
        unfold far at hf
        rw [hx] at hf
        simp only [h0, decide_true, Bool.true_and, Bool.not_eq_false'] at hf
        rw [pos_succ, if_neg hg, show ∀ x y : Int, x - (y + 1) = x - y - 1 from fun x y => by omega]
        exact hf
      · rw [if_neg h0]
        have := F.f1 i its[i] hx (by omega)
        rw [hb] at this
        simpa using this.symm
    rw [if_pos hin]
    rfl

theorem pos_words {its : List It} {bs : List Bool} {all : Bool} (F : Final its bs) : ∀ i, i ≤ its.length → ((((ents its (lng its bs all)).take i).flatMap Ent.words).length : Int) = pos (lng its bs all) i := by
  intro i
  induction i with
  | zero => intro _; simp [pos]
  | succ i ih =>
    intro hi
    have hlt : i < (ents its (lng its bs all)).length := by simp [ents]; omega
    have he : (ents its (lng its bs all))[i]? = some (ents its (lng its bs all))[i] := List.getElem?_eq_getElem hlt
    have := ent_size F he
    rw [List.take_add_one, he, List.flatMap_append, List.length_append, pos_succ, ← ih (by omega), ← this]
    simp

end Go.Proofs.Ytmfmnbldngfelaa.I

/- relax: what Encode answers. -/
set_option linter.unusedVariables false
set_option linter.unusedSimpArgs false
namespace Go.Proofs.Ytmfmnbldngfelaa.I
open Go Go.Proofs.Ytmfmnbldngfelaa.Abs Go.Proofs

theorem all_loop {h0 : Heap} {s0 : SA} {n B : Nat} {its : List It} {bs : List Bool} {all : Bool} (HI : VS It.cells 6 h0 s0 n its) (hn : n < 1000000000) (hbl : bs.length = n) (hB : h0.length ≤ B) : ∀ (k j : Nat), j + k = n →
    ∀ (h : Heap), Old h0 h → h[B]? = some (.cells ((List.range n).map fun i => .bool (if i < j then gt (lng its bs all) i else gt bs i)) (.grow 1) 0) →
    ∃ h', L30x10 mk0 E s0 n all (.pos ⟨B, 0, 0⟩) n s0 n ((n : Nat) : Int) ((j : Nat) : Int) h (Q30x10 mk0 E) = Q30x10 mk0 E (.exit 0) (S30xe0 s0 n (.pos ⟨B, 0, 0⟩) n h') ∧
      Old h0 h' ∧ h'[B]? = some (.cells ((lng its bs all).map .bool) (.grow 1) 0) := by
  intro k
  have hil := HI.1
  induction k with
  | zero =>
    intro j hj h ho hb
    refine ⟨h, by rw [L30x10xeq, letK_eq, if_neg (by simp; omega)], ho, ?_⟩
    rw [hb]
    congr 2
    apply List.ext_getElem
    · simp [lng_len, hil]
    · intro i h1 h2
      have hi : i < n := by simpa using h1
      simp only [List.getElem_map, List.getElem_range, lng]
      rw [if_pos (by omega)]
      show AV.bool (gt (lng its bs all) i) = _
      rw [gt_lng (by omega)]
  | succ k ih =>
    intro j hj h ho hb
    obtain ⟨x, hx⟩ : ∃ x, its[j]? = some x := ⟨its[j]'(by omega), List.getElem?_eq_getElem (by omega)⟩
    obtain ⟨a, ha, la⟩ := vs_ld (vs_old HI ho) it_flat j x hx
    have lb : ld1 h ⟨B, 0, 0 + j * 1⟩ = some (.bool (gt bs j)) := ld1_at hb (by rw [Nat.zero_add, Nat.mul_one, range_get (by omega), if_neg (by omega)]) rfl
    rw [L30x10xeq, letK_eq, if_pos (by simp; omega), chk_of (by intro _; omega), ha, atP_of, Int.toNat_natCast, la, gCells_of]
    simp only [It.cells, List.getElem?_cons_zero, List.getElem?_cons_succ]
    rw [gI_of, gI_of, gI_of, gI_of, gI_of, gI_of, chk_of (by intro _; omega), adP_pos, atP_of, add_mk, lb, gB_of, gI_any, letK_eq, letK_eq, letK_eq, chk_of (by intro _; omega), atP_of, add_mk, st1_at hb (by simp) (by simp; omega), Option.bind_some, letK_eq, wrap64 (by omega) (by omega), show ((j : Int) + 1) = ((j + 1 : Nat) : Int) by omega]
    refine ih (j + 1) (by omega) _ (ho.set hB _) ?_
    rw [set_same hb, Nat.zero_add, Nat.mul_one, range_set]
    congr 2
    apply List.map_congr_left
    intro i hi
    by_cases e1 : i = j
    · subst e1
      rw [if_pos (show i = i from rfl), if_pos (show i < i + 1 by omega), gt_lng (by omega), lngAt, hx]
      cases gt bs i <;> cases all <;> simp
    · rw [if_neg e1]
      by_cases e2 : i < j
      · rw [if_pos e2, if_pos (by omega)]
      · rw [if_neg e2, if_neg (by omega)]

/-- A list of words that one owns. -/
theorem words_loop {h1 : Heap} {s0 : SA} {n B p : Nat} {its : List It} {cs : List Bool} (HI : VS It.cells 6 h1 s0 n its) (hv : ∀ x ∈ its, It.ok n x) (hn : n ≤ 16384) (hcl : cs.length = n)
    (hB : h1[B]? = some (.cells (cs.map .bool) (.grow 1) 0)) (hp : h1[p]? = some (.cells ((posL cs n).map (.int .i64)) (.grow 1) 0)) : ∀ (k j : Nat), j + k = n →
    ∀ (h : Heap) (s12 : SA) (n12 : Nat), Old h1 h → GS h s12 n12 1 ((((ents its cs).take j).flatMap Ent.words).map (.int .i64)) → n12 ≤ 2 * j → (∀ b, inS s12 b → h1.length ≤ b) →
    ∃ h' s12' n12', L30x28 mk0 E s0 n (.pos ⟨B, 0, 0⟩) n (.pos ⟨p, 0, 0⟩) (n + 1) s12 n12 s0 n ((n : Nat) : Int) ((j : Nat) : Int) h (Q30x28 mk0 E) = some (.tup [.sl s12' n12', .sl (.pos ⟨p, 0, 0⟩) n, .int .i64 0], h') ∧
      Old h1 h' ∧ GS h' s12' n12' 1 (((ents its cs).flatMap Ent.words).map (.int .i64)) ∧ (∀ b, inS s12' b → h1.length ≤ b) := by
  intro k
  have hil := HI.1
  have hel : (ents its cs).length = n := by simp [ents, hil]
  induction k with
  | zero =>
    intro j hj h s12 n12 ho hg hm hi
    refine ⟨h, s12, n12, ?_, ho, by rw [List.take_of_length_le (by omega)] at hg; exact hg, hi⟩
    rw [L30x28xeq, letK_eq, if_neg (by simp; omega), X30x28xe2, chkC_of (by intro _; exact ⟨by omega, .inl (by omega)⟩), letK_eq, Int.toNat_natCast]
  | succ k ih =>
    intro j hj h s12 n12 ho hg hm hi
    obtain ⟨x, hx⟩ : ∃ x, its[j]? = some x := ⟨its[j]'(by omega), List.getElem?_eq_getElem (by omega)⟩
    obtain ⟨a, ha, la⟩ := vs_ld (vs_old HI ho) it_flat j x hx
    have hxo := hv x (List.mem_of_getElem? hx)
    have hbj : cs[j]? = some (gt cs j) := by
      rw [List.getElem?_eq_getElem (by omega)]
      simp [gt, List.getD, show j < cs.length by omega]
    have lb : ld1 h ⟨B, 0, 0 + j * 1⟩ = some (.bool (gt cs j)) := ld1_at (ho _ _ hB) (by rw [Nat.zero_add, Nat.mul_one, List.getElem?_map, hbj]; rfl) rfl
    have at_pos : ∀ i, i ≤ n → ld1 h ⟨p, 0, 0 + i * 1⟩ = some (.int .i64 (pos cs i)) := fun i hi => ld1_at (ho _ _ hp) (by unfold posL; rw [Nat.zero_add, Nat.mul_one, List.getElem?_map, range_get (by omega)]; rfl) rfl
    have wj : IntKind.wrap .i64 ((j : Int) + 1) = ((j + 1 : Nat) : Int) := by rw [wrap64 (by omega) (by omega)]; omega
    have hex := ents_get (cs := cs) hx
    generalize he : Ent.mk x.op x.d x.a x.b (if 0 ≤ x.to then pos cs x.to.toNat - pos cs (j + 1) else x.n) (gt cs j) = e at hex
    have heo : e.ok := ent_ok hil hn hv cs e (List.mem_of_getElem? hex)
    have ht : (ents its cs).take (j + 1) = (ents its cs).take j ++ [e] := by rw [List.take_add_one, hex]; rfl
    have hw : 1 ≤ e.words.length ∧ e.words.length ≤ 2 := by
      rcases e.words_cases with ⟨_, w, _⟩ | ⟨w, _⟩ <;> rw [w] <;> simp [longL]
    have core : ∃ h' s12' n12', J30x45 mk0 E s0 n (.pos ⟨B, 0, 0⟩) n (.pos ⟨p, 0, 0⟩) (n + 1) s12 n12 e.op e.d e.a e.b e.n (.fn (encF e.long) [] []) s0 n ((n : Nat) : Int) ((j : Nat) : Int) h (Q30x28 mk0 E) = some (.tup [.sl s12' n12', .sl (.pos ⟨p, 0, 0⟩) n, .int .i64 0], h') ∧
      Old h1 h' ∧ GS h' s12' n12' 1 (((ents its cs).flatMap Ent.words).map (.int .i64)) ∧ (∀ b, inS s12' b → h1.length ≤ b) := by
      rw [J30x45xeq, fnK_fn]
      simp only [List.nil_append, List.append_nil]
      rw [show [AV.agg [.int .i64 e.op, .int .i64 e.d, .int .i64 e.a, .int .i64 e.b, .int .i64 e.n]] = [AV.agg e.cells] from rfl, enc_call_ok e heo h, Option.bind_some, gT2_of]
      simp only [List.getD_cons_zero, List.getD_cons_succ]
      rw [gL_of, gI_of, letK_eq, if_neg (by simp)]
      rw [Nat.mul_one, ldSl_at (last_get h _) (by simp) (flat_ints _), Option.bind_some]
      obtain ⟨t, h4, e5, w5, le5, kp5, nw5⟩ := apnd_GS (m := e.words.length) (bytes := 8) (ys := e.words.map (AV.int .i64)) (gs_app (l := [.cells (e.words.map (.int .i64)) (.grow 1) 0]) hg) (by omega) (by omega) (by simp) (flat_ints _) (by rw [← List.map_append]; exact flat_ints _) (by omega)
      rw [e5, Option.bind_some, gL_of, letK_eq, wj]
      dsimp only
      refine ih (j + 1) (by omega) h4 t _ ?_ ?_ (by omega) ?_
      · intro b x hx
        have hb := (List.getElem?_eq_some_iff.1 hx).1
        exact kp5 _ _ (app_old (ho _ _ hx)) fun hh => by have := hi b hh; omega
      · rw [ht, List.flatMap_append, List.map_append]
        simpa using w5
      · intro b hb
        have := ho.le
        rcases nw5 b hb with h | h
        · exact hi b h
        · rw [List.length_append] at h; omega
    have sel : ∃ h' s12' n12', J30x40 mk0 E s0 n (.pos ⟨B, 0, 0⟩) n (.pos ⟨p, 0, 0⟩) (n + 1) s12 n12 ((j : Nat) : Int) e.op e.d e.a e.b e.n s0 n ((n : Nat) : Int) ((j : Nat) : Int) h (Q30x28 mk0 E) = some (.tup [.sl s12' n12', .sl (.pos ⟨p, 0, 0⟩) n, .int .i64 0], h') ∧
      Old h1 h' ∧ GS h' s12' n12' 1 (((ents its cs).flatMap Ent.words).map (.int .i64)) ∧ (∀ b, inS s12' b → h1.length ≤ b) := by
      rw [J30x40xeq, chk_of (by intro _; omega), adP_pos, atP_of, Int.toNat_natCast, add_mk, lb, gB_of]
      have hlong : e.long = gt cs j := by rw [← he]
      rw [hlong] at core
      cases hg2 : gt cs j with
      | true => rw [hg2] at core; rw [if_pos rfl]; exact core
      | false => rw [hg2] at core; rw [if_neg (by simp)]; exact core
    rw [L30x28xeq, letK_eq, if_pos (by simp; omega), chk_of (by intro _; omega), ha, atP_of, Int.toNat_natCast, la, gCells_of]
    simp only [It.cells, List.getElem?_cons_zero, List.getElem?_cons_succ]
    rw [gI_of, gI_of, gI_of, gI_of, gI_of, gI_of, letK_eq]
    by_cases h0 : 0 ≤ x.to
    · obtain ⟨t, ht⟩ := Int.eq_ofNat_of_zero_le h0
      have htn := hxo.2.2.1
      have q0 := pos_lo cs t
      have q1 := pos_hi cs t
      have q2 := pos_lo cs (j + 1)
      have q3 := pos_hi cs (j + 1)
      rw [if_pos (by simpa using h0), ht, chk_of (by intro _; omega), adP_pos, atP_of, add_mk, Int.toNat_natCast, at_pos t (by omega), gI_of, letK_eq, wj, chk_of (by intro _; omega), atP_of, add_mk, Int.toNat_natCast, at_pos (j + 1) (by omega), gI_of, letK_eq, wrap64 (by omega) (by omega)]
      rw [if_pos h0, ht, Int.toNat_natCast] at he
      rw [← he] at sel
      exact sel
    · rw [if_neg (by simpa using h0)]
      rw [if_neg h0] at he
      rw [← he] at sel
      exact sel

/-- What Encode answers for valid items. -/
theorem rencode_ok {h : Heap} {s : SA} {n : Nat} {its : List It} (all : Bool) (HI : VS It.cells 6 h s n its) (hv : ∀ x ∈ its, It.ok n x) (hn : n ≤ 16384) :
    ∃ bs, Final its bs ∧ ((16384 < pos (lng its bs all) n ∧ ∃ h', E 30 [.sl s n, .bool all] h = some (.tup [.sl .nil 0, .sl .nil 0, .int .i64 2], h') ∧ Old h h') ∨
     (pos (lng its bs all) n ≤ 16384 ∧ ∃ h' s12 n12 p, E 30 [.sl s n, .bool all] h = some (.tup [.sl s12 n12, .sl (.pos ⟨p, 0, 0⟩) n, .int .i64 0], h') ∧ Old h h' ∧
      GS h' s12 n12 1 (((ents its (lng its bs all)).flatMap Ent.words).map (.int .i64)) ∧ (∀ b, inS s12 b → h.length ≤ b ∧ b ≠ p) ∧ h.length ≤ p ∧ h'[p]? = some (.cells ((posL (lng its bs all) n).map (.int .i64)) (.grow 1) 0))) := by
  have hil := HI.1
  obtain ⟨bs, h1, e1, o1, F, b1⟩ := sizes_ok HI hv hn
  have hbl : bs.length = n := by rw [F.len, hil]
  refine ⟨bs, F, ?_⟩
  rw [e30, e1, Option.bind_some, gT2_of]
  simp only [List.getD_cons_zero, List.getD_cons_succ]
  rw [gL_of, gI_of, letK_eq, if_neg (by simp)]
  obtain ⟨h2, e2, o2, b2⟩ := all_loop (all := all) HI (by omega) hbl (Nat.le_refl _) n 0 (by omega) h1 o1 (by
    rw [b1]
    congr 2
    apply List.ext_getElem
    · simp [hbl]
    · intro i a b
      simp at a
      simp [gt, List.getD, show i < bs.length by omega])
  rw [show (((0 : Nat) : Int)) = 0 from rfl] at e2
  have hcl : (lng its bs all).length = n := by rw [lng_len, hil]
  generalize hcs : lng its bs all = cs at *
  have st := starts_ok (s0 := s) (n := n) (by omega) (bl_blk b2 hcl) (Nat.le_refl _)
  have lp : ld1 (h2 ++ [.cells ((posL cs n).map (.int .i64)) (.grow 1) 0]) ⟨h2.length, 0, 0 + n * 1⟩ = some (.int .i64 (pos cs n)) := ld1_at (last_get _ _) (by unfold posL; rw [Nat.zero_add, Nat.mul_one, List.getElem?_map, range_get (by omega)]; rfl) rfl
  rw [e2, X30x10xe0, st, Option.bind_some, gL_of, chk_of (by intro _; omega), adP_pos, atP_of, add_mk, Int.toNat_natCast, lp, gI_of, letK_eq]
  have hle := o2.le
  have hb2 := (List.getElem?_eq_some_iff.1 b2).1
  by_cases hbig : 16384 < pos cs n
  · rw [if_pos (by simpa using hbig)]
    exact .inl ⟨hbig, _, rfl, o2.app _⟩
  · rw [if_neg (by simpa using hbig)]
    refine .inr ⟨by omega, ?_⟩
    obtain ⟨h3, s12, n12, e3, o3, g3, i3⟩ := words_loop (cs := cs) (vs_old HI (o2.app [.cells ((posL cs n).map (.int .i64)) (.grow 1) 0])) hv hn hcl (app_old b2) (last_get _ _) n 0 (by omega) (h2 ++ [.cells ((posL cs n).map (.int .i64)) (.grow 1) 0]) .nil 0 (Old.refl _) ⟨rfl, rfl, .inl ⟨rfl, rfl⟩⟩ (by omega) (by rintro b ⟨a, ha, _⟩; cases ha)
    rw [show (((0 : Nat) : Int)) = 0 from rfl] at e3
    dsimp only
    rw [e3]
    refine ⟨h3, s12, n12, h2.length, rfl, (o2.app _).trans o3, g3, ?_, hle, o3 _ _ (last_get _ _)⟩
    intro b hb
    have := i3 b hb
    rw [List.length_append, List.length_singleton] at this
    exact ⟨by omega, by omega⟩

end Go.Proofs.Ytmfmnbldngfelaa.I

/- What Rest answers. -/
set_option linter.unusedVariables false
set_option linter.unusedSimpArgs false
namespace Go.Proofs.Ytmfmnbldngfelaa.I
open Go Go.Proofs.Ytmfmnbldngfelaa.Abs Go.Proofs

theorem modulo_ok (n m : Int) (h : Heap) (h1 : 0 < m) (h2 : m ≤ 1000000000) : E 37 [.int .i64 n, .int .i64 m] h = some (.int .i64 (n % m), h) := by
  rw [e37]
  have hne : ¬ m = 0 := by omega
  rw [chk_of (fun _ => hne)]
  simp only [letK_eq, decide_eq_true_eq]
  have key : n % m = if n.tmod m < 0 then n.tmod m + m else n.tmod m := by
    have e := Int.tmod_def n m
    by_cases hn : n < 0
    · have e1 : n.tmod m = -((-n) % m) := by
        have := Int.neg_tmod n m
        rw [Int.tmod_eq_emod_of_nonneg (by omega : 0 ≤ -n)] at this
        omega
      have p1 := Int.emod_nonneg (-n) hne
      have p2 := Int.emod_lt_of_pos (-n) h1
      have p3 := Int.emod_nonneg n hne
      have p4 := Int.emod_lt_of_pos n h1
      have q1 := Int.emod_add_mul_ediv n m
      have q2 := Int.emod_add_mul_ediv (-n) m
      by_cases hz : (-n) % m = 0
      · have : n % m = 0 := by
          have := Int.dvd_of_emod_eq_zero hz
          exact Int.emod_eq_zero_of_dvd ((Int.dvd_neg).1 this)
        rw [if_neg (by omega), e1, hz, this]; rfl
      · rw [if_pos (by omega), e1]
        have hs : m * (n / m) + m * (-n / m) = -(n % m) - (-n) % m := by omega
        rw [← Int.mul_add] at hs
        have hr : n / m + -n / m = -1 := by
          have a1 : -2 * m < m * (n / m + -n / m) := by omega
          have a2 : m * (n / m + -n / m) < 0 := by omega
          have a3 : -2 < n / m + -n / m := by
            apply Int.lt_of_mul_lt_mul_left (a := m) _ (by omega)
            rw [Int.mul_comm m (-2)]; exact a1
          have a4 : n / m + -n / m < 0 := by
            apply Int.lt_of_mul_lt_mul_left (a := m) _ (by omega)
            rw [Int.mul_zero]; exact a2
          omega
        rw [hr] at hs
        omega
    · have hn : 0 ≤ n := by omega
      rw [Int.tmod_eq_emod_of_nonneg hn, if_neg (by have := Int.emod_nonneg n hne; omega)]
  have p3 := Int.emod_nonneg n hne
  have p4 := Int.emod_lt_of_pos n h1
  split
  · rename_i hlt
    rw [if_pos hlt] at key
    rw [wrap64 (by omega) (by omega), key]
  · rename_i hlt
    rw [if_neg hlt] at key
    rw [key]

theorem rest_ok (n m : Int) (h : Heap) (h1 : 0 < m) (h2 : m ≤ 1000000000) : E 14 [.int .i64 n, .int .i64 m] h = some (.int .i64 (n % m), h) := by
  rw [e14, modulo_ok n m h h1 h2]
  simp

end Go.Proofs.Ytmfmnbldngfelaa.I

/- relax: the items that the laws use, and the fact. -/
set_option linter.unusedVariables false
set_option linter.unusedSimpArgs false
namespace Go.Proofs.Ytmfmnbldngfelaa.I
open Go Go.Proofs.Ytmfmnbldngfelaa.Abs Go.Proofs

/-- An item, as items makes it. -/
def It.fit (m : Nat) (e : It) : Prop := It.ok m e ∧ e.to < m

end Go.Proofs.Ytmfmnbldngfelaa.I
