/- What the functions of the predictor answer. -/
import Derived.Test.YtmfmnbldngfelaaAbsUse
import Derived.Test.YtmfmnbldngfelaaPGen
set_option linter.unusedVariables false
set_option linter.unusedSimpArgs false
namespace Go.Proofs.Ytmfmnbldngfelaa.T
open Go Go.Proofs.Ytmfmnbldngfelaa.Abs Go.Proofs

theorem modulo_ok (n m : Int) (h : Heap) (h1 : 0 < m) (h2 : m ≤ 1000000000) : E 37 [.int .i64 n, .int .i64 m] h = some (.int .i64 (n % m), h) := by
  rw [e37]
  have hne : ¬ m = 0 := by omega
  rw [chk_of (fun _ => hne)]
  simp only [letK_eq, decide_eq_true_eq]
  have key : n % m = if n.tmod m < 0 then n.tmod m + m else n.tmod m := by
    have e := Int.tmod_def n m
    by_cases hn : n < 0
    · have e1 : n.tmod m = -((-n) % m) := by
        have := Int.neg_tmod n m
        rw [Int.tmod_eq_emod_of_nonneg (by omega : 0 ≤ -n)] at this
        omega
      have p1 := Int.emod_nonneg (-n) hne
      have p2 := Int.emod_lt_of_pos (-n) h1
      have p3 := Int.emod_nonneg n hne
      have p4 := Int.emod_lt_of_pos n h1
      have q1 := Int.emod_add_mul_ediv n m
      have q2 := Int.emod_add_mul_ediv (-n) m
      by_cases hz : (-n) % m = 0
      · have : n % m = 0 := by
          have := Int.dvd_of_emod_eq_zero hz
          exact Int.emod_eq_zero_of_dvd ((Int.dvd_neg).1 this)
        rw [if_neg (by omega), e1, hz, this]; rfl
      · rw [if_pos (by omega), e1]
        have hs : m * (n / m) + m * (-n / m) = -(n % m) - (-n) % m := by omega
        rw [← Int.mul_add] at hs
        have hr : n / m + -n / m = -1 := by
          have a1 : -2 * m < m * (n / m + -n / m) := by omega
          have a2 : m * (n / m + -n / m) < 0 := by omega
          have a3 : -2 < n / m + -n / m := by
            apply Int.lt_of_mul_lt_mul_left (a := m) _ (by omega)
            rw [Int.mul_comm m (-2)]; exact a1
          have a4 : n / m + -n / m < 0 := by
            apply Int.lt_of_mul_lt_mul_left (a := m) _ (by omega)
            rw [Int.mul_zero]; exact a2
          omega
        rw [hr] at hs
        omega
    · have hn : 0 ≤ n := by omega
      rw [Int.tmod_eq_emod_of_nonneg hn, if_neg (by have := Int.emod_nonneg n hne; omega)]
  have p3 := Int.emod_nonneg n hne
  have p4 := Int.emod_lt_of_pos n h1
  split
  · rename_i hlt
    rw [if_pos hlt] at key
    rw [wrap64 (by omega) (by omega), key]
  · rename_i hlt
    rw [if_neg hlt] at key
    rw [key]

theorem rest_ok (n m : Int) (h : Heap) (h1 : 0 < m) (h2 : m ≤ 1000000000) : E 14 [.int .i64 n, .int .i64 m] h = some (.int .i64 (n % m), h) := by
  rw [e14, modulo_ok n m h h1 h2]
  simp

/-- A predictor with these counters and this number of wrong predictions. -/
def Pr (h : Heap) (p : Ad) (l : List Int) (w : Int) : Prop :=
  ∃ q b : Nat, p = ⟨b, 0, 0⟩ ∧ q ≠ b ∧ h[b]? = some (.cells [.sl (.pos ⟨q, 0, 0⟩) l.length, .int .i64 w] .fix 0) ∧ h[q]? = some (.cells (l.map (AV.int .i64)) (.grow 1) 0)

theorem taken_ok {h : Heap} {p : Ad} {l : List Int} {w pc c : Int} (H : Pr h p l w) (h0 : 0 ≤ pc) (h1 : pc < 16384) (hc : l[(pc % l.length).toNat]? = some c) :
    E 20 [.ptr (some p), .int .i64 pc] h = some (.tup [.bool (decide (2 ≤ c)), .int .i64 0], h) := by
  obtain ⟨q, b, rfl, hne, hb, hq⟩ := H
  have hl : (0 : Int) < l.length := by
    have := (List.getElem?_eq_some_iff.1 hc).1
    omega
  have e1 : ld1 h ⟨b, 0, 0⟩ = some (.sl (.pos ⟨q, 0, 0⟩) l.length) := ld1_at hb rfl rfl
  have e2 : Int.tmod pc l.length = pc % l.length := Int.tmod_eq_emod_of_nonneg h0
  have p3 := Int.emod_nonneg pc (show (l.length : Int) ≠ 0 by omega)
  have p4 := Int.emod_lt_of_pos pc hl
  have e4 : ld1 h ⟨q, 0, (pc % l.length).toNat⟩ = some (.int .i64 c) := ld1_at hq (by simp [hc]) rfl
  have d1 : ¬ pc < 0 := by omega
  have d2 : ¬ 16384 ≤ pc := by omega
  rw [e20]
  simp only [letK_eq, d1, d2, decide_false, Bool.false_eq_true, if_false, atP_of, add_mk, Nat.add_zero, e1, gL_of, e2]
  rw [chk_of (fun _ => by omega), chk_of (fun _ => ⟨p3, p4⟩)]
  simp only [adP_pos, atP_of, add_mk, Nat.zero_add, Nat.mul_one, e4, gI_of]

theorem wrong_ok {h : Heap} {p : Ad} {l : List Int} {w : Int} (H : Pr h p l w) : E 21 [.ptr (some p)] h = some (.int .i64 w, h) := by
  obtain ⟨q, b, rfl, hne, hb, hq⟩ := H
  have e1 : ld1 h ⟨b, 0, 1⟩ = some (.int .i64 w) := ld1_at hb rfl rfl
  rw [e21]
  simp only [atP_of, add_mk, Nat.zero_add, e1, gI_of]

/-- A counter behind a branch. -/
def step (c : Int) (t : Bool) : Int := if t = true then min (c + 1) 3 else max (c - 1) 0
def miss (c : Int) (t : Bool) : Int := if decide (2 ≤ c) = t then 0 else 1

theorem update_ok {h : Heap} {p : Ad} {l : List Int} {w pc c : Int} {t : Bool} (H : Pr h p l w) (h0 : 0 ≤ pc) (h1 : pc < 16384) (hc : l[(pc % l.length).toNat]? = some c) (c0 : 0 ≤ c) (c3 : c ≤ 3)
    (w0 : 0 ≤ w) (w1 : w ≤ 1000000) : ∃ h', E 19 [.ptr (some p), .int .i64 pc, .bool t] h = some (.tup [.bool (!(decide (2 ≤ c) == t)), .int .i64 0], h') ∧ Pr h' p (l.set (pc % l.length).toNat (step c t)) (w + miss c t) := by
  have ht := taken_ok H h0 h1 hc
  obtain ⟨q, b, rfl, hne, hb, hq⟩ := H
  have hj := (List.getElem?_eq_some_iff.1 hc).1
  have hl : (0 : Int) < l.length := by omega
  have e1 : ld1 h ⟨b, 0, 0⟩ = some (.sl (.pos ⟨q, 0, 0⟩) l.length) := ld1_at hb rfl rfl
  have e2 : Int.tmod pc l.length = pc % l.length := Int.tmod_eq_emod_of_nonneg h0
  have p3 := Int.emod_nonneg pc (show (l.length : Int) ≠ 0 by omega)
  have p4 := Int.emod_lt_of_pos pc hl
  have e4 : ld1 h ⟨q, 0, (pc % l.length).toNat⟩ = some (.int .i64 c) := ld1_at hq (by simp [hc]) rfl
  -- the counter is written
  have hst : ∀ x : Int, st1 h ⟨q, 0, (pc % l.length).toNat⟩ (.int .i64 x) = some (h.set q (.cells ((l.set (pc % l.length).toNat x).map (AV.int .i64)) (.grow 1) 0)) := fun x => by
    rw [st1_at hq (by simp) (by simpa using hj), List.map_set]
  have fin : ∀ x : Int, ∃ h', J19x12 mk0 E (some ⟨b, 0, 0⟩) t (decide (2 ≤ c)) (h.set q (.cells ((l.set (pc % l.length).toNat x).map (AV.int .i64)) (.grow 1) 0)) = some (.tup [.bool (!(decide (2 ≤ c) == t)), .int .i64 0], h') ∧
      Pr h' ⟨b, 0, 0⟩ (l.set (pc % l.length).toNat x) (w + miss c t) := by
    intro x
    have hb' : (h.set q (.cells ((l.set (pc % l.length).toNat x).map (AV.int .i64)) (.grow 1) 0))[b]? = some (.cells [.sl (.pos ⟨q, 0, 0⟩) l.length, .int .i64 w] .fix 0) := by rw [set_other hne]; exact hb
    have hq' : (h.set q (.cells ((l.set (pc % l.length).toNat x).map (AV.int .i64)) (.grow 1) 0))[q]? = some (.cells ((l.set (pc % l.length).toNat x).map (AV.int .i64)) (.grow 1) 0) := set_same hq
    rw [J19x12xeq]
    by_cases hm : decide (2 ≤ c) = t
    · rw [if_neg (by simp [hm]), J19x16xeq]
      refine ⟨_, rfl, q, b, rfl, hne, ?_, hq'⟩
      rw [hb', List.length_set]
      simp [miss, hm]
    · rw [if_pos (by simpa using hm)]
      have e5 : ld1 (h.set q (.cells ((l.set (pc % l.length).toNat x).map (AV.int .i64)) (.grow 1) 0)) ⟨b, 0, 1⟩ = some (.int .i64 w) := ld1_at hb' rfl rfl
      simp only [atP_of, add_mk, Nat.zero_add, e5, gI_of, letK_eq]
      rw [wrap64 (by omega) (by omega), st1_at hb' (by simp) (by simp)]
      simp only [Option.bind_some]
      rw [J19x16xeq]
      refine ⟨_, rfl, q, b, rfl, hne, ?_, ?_⟩
      · rw [set_same hb', List.length_set]
        simp [miss, hm]
      · rw [set_other (Ne.symm hne)]; exact hq'
  rw [e19, ht]
  simp only [Option.bind_some, gT2_of, List.getD_cons_zero, List.getD_cons_succ, gB_of, gI_of, letK_eq, decide_true, Bool.not_true, Bool.false_eq_true, if_false, atP_of, add_mk, Nat.add_zero, e1, gL_of, e2]
  rw [chk_of (fun _ => by omega), chk_of (fun _ => ⟨p3, p4⟩)]
  simp only [adP_pos, atP_of, add_mk, Nat.zero_add, Nat.mul_one, e4, gI_of, mm_min, mm_max, hst, Option.bind_some]
  cases t with
  | true =>
    rw [if_pos rfl, wrap64 (by omega) (by omega)]
    exact fin (min (c + 1) 3)
  | false =>
    rw [if_neg (by simp), wrap64 (by omega) (by omega)]
    exact fin (max (c - 1) 0)

/-- The loop that sets the counters. -/
theorem new_loop {b q n : Nat} (hne : q ≠ b) {Q : Kont (AV × Heap)} : ∀ (k i : Nat) (h : Heap) (l : List Int), i + k = n → l.length = n → n ≤ 1024 → (∀ j, j < i → l[j]? = some 1) →
    h[b]? = some (.cells [.sl (.pos ⟨q, 0, 0⟩) n, .int .i64 0] .fix 0) → h[q]? = some (.cells (l.map (AV.int .i64)) (.grow 1) 0) →
    ∃ h', L18x10 mk0 E (some ⟨b, 0, 0⟩) n i h Q = Q (.exit 0) (S18xe0 (some ⟨b, 0, 0⟩) h') ∧ Pr h' ⟨b, 0, 0⟩ (List.replicate n 1) 0 := by
  intro k
  induction k with
  | zero =>
    intro i h l hi hl hn hall hb hq
    refine ⟨h, ?_, q, b, rfl, hne, ?_, ?_⟩
    · rw [L18x10xeq]
      simp only [letK_eq, decide_eq_true_eq]
      rw [if_neg (by omega)]
    · simpa using hb
    · have : l = List.replicate n 1 := List.ext_getElem? fun j => by
        rcases Nat.lt_or_ge j n with hj | hj
        · rw [hall j (by omega), List.getElem?_replicate, if_pos hj]
        · rw [List.getElem?_eq_none (by omega), List.getElem?_eq_none (by simp; omega)]
      rw [← this]; exact hq
  | succ k ih =>
    intro i h l hi hl hn hall hb hq
    have e1 : ld1 h ⟨b, 0, 0⟩ = some (.sl (.pos ⟨q, 0, 0⟩) n) := ld1_at hb rfl rfl
    have hst : st1 h ⟨q, 0, i⟩ (.int .i64 1) = some (h.set q (.cells ((l.set i 1).map (AV.int .i64)) (.grow 1) 0)) := by
      rw [st1_at hq (by simp) (by simp; omega), List.map_set]
    obtain ⟨h', h1, h2⟩ := ih (i + 1) (h.set q (.cells ((l.set i 1).map (AV.int .i64)) (.grow 1) 0)) (l.set i 1) (by omega) (by simpa using hl) hn
      (fun j hj => by
        rw [List.getElem?_set]
        split
        · rw [if_pos (by omega)]
        · exact hall j (by omega)) (by rw [set_other hne]; exact hb) (set_same hq)
    refine ⟨h', ?_, h2⟩
    rw [L18x10xeq]
    simp only [letK_eq, decide_eq_true_eq]
    rw [if_pos (by omega)]
    simp only [atP_of, add_mk, Nat.zero_add, Nat.add_zero, e1, gL_of]
    rw [chk_of (fun _ => by omega)]
    simp only [adP_pos, atP_of, add_mk, Nat.zero_add, Nat.mul_one, Int.toNat_natCast, hst, Option.bind_some]
    rw [wrap64 (by omega) (by omega)]
    exact h1

theorem new_ok (n : Nat) (h : Heap) (h1 : 1 ≤ n) (h2 : n ≤ 1024) : ∃ h' p, E 18 [.int .i64 n] h = some (.tup [.ptr (some p), .int .i64 0], h') ∧ Pr h' p (List.replicate n 1) 0 := by
  have d1 : ¬ (n : Int) < 1 := by omega
  have d2 : ¬ 1024 < (n : Int) := by omega
  have hb : (h ++ [.cells (List.replicate n (.int .i64 0)) (.grow 1) 0] ++ [.cells [.sl (.pos ⟨h.length, 0, 0⟩) n, .int .i64 0] .fix 0])[h.length + 1]? = some (.cells [.sl (.pos ⟨h.length, 0, 0⟩) n, .int .i64 0] .fix 0) := by simp
  have hq : (h ++ [.cells (List.replicate n (.int .i64 0)) (.grow 1) 0] ++ [.cells [.sl (.pos ⟨h.length, 0, 0⟩) n, .int .i64 0] .fix 0])[h.length]? = some (.cells ((List.replicate n (0 : Int)).map (AV.int .i64)) (.grow 1) 0) := by simp
  obtain ⟨h', g1, g2⟩ := new_loop (Q := Q18x10 mk0 E) (b := h.length + 1) (q := h.length) (n := n) (by omega) n 0 _ (List.replicate n 0) (by omega) (by simp) h2 (fun j hj => by omega) hb hq
  refine ⟨h', ⟨h.length + 1, 0, 0⟩, ?_, g2⟩
  rw [e18]
  simp only [letK_eq, d1, d2, decide_false, Bool.false_eq_true, if_false]
  rw [chk_of (by omega)]
  simp only [newK_eq, Int.toNat_natCast, repl, add_mk, Nat.add_zero, List.length_append, List.length_cons, List.length_nil, Nat.zero_add]
  rw [ld1_at hb rfl rfl]
  simp only [gL_of]
  exact g1.trans (X18x10xe0 mk0 E _ _)

end Go.Proofs.Ytmfmnbldngfelaa.T
