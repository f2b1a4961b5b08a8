/- What the functions of the instructions' encoding answer. -/
import Derived.Test.YtmfmnbldngfelaaLibD
import Derived.Test.YtmfmnbldngfelaaIGen
import Derived.Test.YtmfmnbldngfelaaINums
set_option linter.unusedVariables false
set_option linter.unusedSimpArgs false
namespace Go.Proofs.Ytmfmnbldngfelaa.I
open Go Go.Proofs.Ytmfmnbldngfelaa.Abs Go.Proofs

def inB (x lo hi : Int) : Bool := decide (lo ≤ x) && decide (x ≤ hi)

theorem in_ok (x lo hi : Int) (h : Heap) : E 41 [.int .i64 x, .int .i64 lo, .int .i64 hi] h = some (.bool (inB x lo hi), h) := by
  rw [e41]
  simp only [letK_eq, inB]
  by_cases a : lo ≤ x <;> by_cases b : x ≤ hi <;> simp [a, b]

theorem in_call (c : Bool) (x lo hi : Int) (h : Heap) : callO c (E 41 [.int .i64 x, .int .i64 lo, .int .i64 hi] h) (.bool false) h = some (.bool (c && inB x lo hi), h) := by
  rw [in_ok]
  cases c <;> rfl

/-- The fields that an operation uses. -/
def usD (op : Int) : Bool := decide (op ∈ [(1 : Int), 2, 3, 4, 5, 6, 7, 15, 8, 9, 10, 12, 11, 14])
def usA (op : Int) : Bool := decide (op ∈ [(1 : Int), 2, 3, 4, 5, 6, 7, 15, 8, 9, 10, 12, 13, 16, 17, 18, 21, 23])
def usB (op : Int) : Bool := decide (op ∈ [(1 : Int), 2, 3, 4, 5, 6, 7, 15, 13, 16, 17, 18, 14])
def usN (op : Int) : Bool := decide (op ∈ [(8 : Int), 9, 10, 12, 11, 13, 16, 17, 18, 14, 19, 20, 24])

theorem used_ok (op : Int) (h0 : 0 ≤ op) (h1 : op ≤ 24) (h : Heap) : E 51 [.int .i64 op] h = some (.agg [.bool (usD op), .bool (usA op), .bool (usB op), .bool (usN op)], h) := by
  obtain ⟨n, rfl⟩ := Int.eq_ofNat_of_zero_le h0
  have hn : n ≤ 24 := by omega
  rw [e51]
  have all : ∀ m, m ≤ 24 → n = m ∨ n ≠ m := fun m _ => by omega
  match n, hn with
  | 0, _ | 1, _ | 2, _ | 3, _ | 4, _ | 5, _ | 6, _ | 7, _ | 8, _ | 9, _ | 10, _ | 11, _ | 12, _ | 13, _ | 14, _ | 15, _ | 16, _ | 17, _ | 18, _ | 19, _ | 20, _ | 21, _ | 22, _ | 23, _ | 24, _ =>
    simp [J51x7xeq, J51x32xeq, J51x31xeq, J51x30xeq, J51x29xeq, J51x28xeq, J51x27xeq, J51x26xeq, J51x45xeq, J51x44xeq, J51x43xeq, J51x62xeq, J51x61xeq, J51x60xeq, J51x76xeq, J51x75xeq, usD, usA, usB, usN]
  | n + 25, hn => omega

/-- What Check answers. -/
def chkV (op d a b n : Int) : Int :=
  if inB op 0 24 = false then 1
  else if (inB d 0 15 && inB a 0 15 && inB b 0 15 && inB n (-2147483648) 2147483647) = false then 4
  else if ((!usD op && !decide (d = 0)) || (!usA op && !decide (a = 0)) || (!usB op && !decide (b = 0)) || (!usN op && !decide (n = 0))) = true then 3
  else if (((decide (op = 9) || decide (op = 10)) && !inB n 0 31) || (decide (op = 14) && !inB n 0 4095) || (decide (op = 24) && !inB n 1 6)) = true then 4
  else 0

theorem check_ok (op d a b n : Int) (h : Heap) : E 39 [.agg [.int .i64 op, .int .i64 d, .int .i64 a, .int .i64 b, .int .i64 n]] h = some (.int .i64 (chkV op d a b n), h) := by
  rw [e39, in_ok]
  simp only [Option.bind_some, gB_of, chkV]
  cases hop : inB op 0 24 with
  | false => simp
  | true =>
    have hu := used_ok op (by simp [inB] at hop; omega) (by simp [inB] at hop; omega)
    simp only [Bool.not_true, Bool.false_eq_true, if_false, in_ok, callO_bool, Option.bind_some, gB_of, gI_of, letK_eq, hu, gA_of, List.getElem?_cons_zero, List.getElem?_cons_succ, reduceCtorEq]
    cases h1 : inB d 0 15 <;> cases h2 : inB a 0 15 <;> cases h3 : inB b 0 15 <;> cases h4 : inB n (-2147483648) 2147483647 <;> simp
    rw [chk_of trivial]
    split
    · rfl
    · generalize inB n 0 31 = x1
      generalize inB n 0 4095 = x2
      generalize inB n 1 6 = x3
      by_cases e9 : op = 9
      · subst e9; cases x1 <;> simp [andB]
      · by_cases e10 : op = 10
        · subst e10; cases x1 <;> simp [andB]
        · by_cases e14 : op = 14
          · subst e14; cases x2 <;> simp [andB]
          · by_cases e24 : op = 24
            · subst e24; cases x3 <;> simp [andB]
            · simp [e9, e10, e14, e24]

/-- The instruction word, but for its number. -/
def wordV (op d a b : Int) : Int := op * 134217728 + d * 4194304 + a * 262144 + b * 16384

theorem word_ok (op d a b n : Int) (h : Heap) (o0 : 0 ≤ op) (o1 : op ≤ 24) (d0 : 0 ≤ d) (d1 : d ≤ 15) (a0 : 0 ≤ a) (a1 : a ≤ 15) (b0 : 0 ≤ b) (b1 : b ≤ 15) :
    E 40 [.agg [.int .i64 op, .int .i64 d, .int .i64 a, .int .i64 b, .int .i64 n]] h = some (.int .i64 (wordV op d a b), h) := by
  have p27 : (2 : Int) ^ 27 = 134217728 := by decide
  have p22 : (2 : Int) ^ 22 = 4194304 := by decide
  have p18 : (2 : Int) ^ 18 = 262144 := by decide
  have p14 : (2 : Int) ^ 14 = 16384 := by decide
  rw [e40]
  simp only [letK_eq]
  rw [wrap64 (by omega) (by omega), wrap64 (by omega) (by omega), wrap64 (by omega) (by omega), wrap64 (by omega) (by omega)]
  rw [or_int op (d * 2 ^ 22) 27 o0 (by omega) (by omega) (by omega) (by omega)]
  rw [show op * 2 ^ 27 + d * 2 ^ 22 = (op * 32 + d) * 2 ^ 22 by omega, or_int (op * 32 + d) (a * 2 ^ 18) 22 (by omega) (by omega) (by omega) (by omega) (by omega)]
  rw [show (op * 32 + d) * 2 ^ 22 + a * 2 ^ 18 = ((op * 32 + d) * 16 + a) * 2 ^ 18 by omega, or_int ((op * 32 + d) * 16 + a) (b * 2 ^ 14) 18 (by omega) (by omega) (by omega) (by omega) (by omega)]
  unfold wordV
  congr 3
  omega

theorem chk_bd {op d a b n : Int} (h : chkV op d a b n = 0) : 0 ≤ op ∧ op ≤ 24 ∧ 0 ≤ d ∧ d ≤ 15 ∧ 0 ≤ a ∧ a ≤ 15 ∧ 0 ≤ b ∧ b ≤ 15 ∧ -2147483648 ≤ n ∧ n ≤ 2147483647 := by
  unfold chkV at h
  split at h
  · omega
  · rename_i h1
    split at h
    · omega
    · rename_i h2
      simp [inB] at h1 h2
      omega

def sizeV (n : Int) : Int := if inB n (-128) 127 = true then 1 else 2

theorem size_ok (op d a b n : Int) (h : Heap) : E 25 [.agg [.int .i64 op, .int .i64 d, .int .i64 a, .int .i64 b, .int .i64 n]] h = some (.int .i64 (sizeV n), h) := by
  rw [e25, in_ok]
  simp only [Option.bind_some, gB_of, sizeV]
  split <;> rfl

/-- What Long answers: an error, or a block with the two words. -/
theorem long_bad {op d a b n : Int} (h : Heap) (hc : chkV op d a b n ≠ 0) : E 23 [.agg [.int .i64 op, .int .i64 d, .int .i64 a, .int .i64 b, .int .i64 n]] h = some (.tup [.sl .nil 0, .int .i64 (chkV op d a b n)], h) := by
  rw [e23, check_ok]
  simp [hc]

def longW (op d a b n : Int) : List AV := [.int .i64 (wordV op d a b + 67108864), .int .i64 (n % 4294967296)]
def shortW (op d a b n : Int) : List AV := [.int .i64 (wordV op d a b + n % 256)]

theorem long_ok {op d a b n : Int} (h : Heap) (hc : chkV op d a b n = 0) : E 23 [.agg [.int .i64 op, .int .i64 d, .int .i64 a, .int .i64 b, .int .i64 n]] h =
    some (.tup [.sl (.pos ⟨h.length, 0, 0⟩) 2, .int .i64 0], h ++ [.cells (longW op d a b n) (.grow 1) 0]) := by
  obtain ⟨o0, o1, d0, d1, a0, a1, b0, b1, n0, n1⟩ := chk_bd hc
  rw [e23, check_ok]
  simp only [hc, Option.bind_some, gI_of, letK_eq, decide_true, Bool.not_true, Bool.false_eq_true, if_false, and32]
  rw [word_ok op d a b n h o0 o1 d0 d1 a0 a1 b0 b1]
  have e : bits .or .i64 (wordV op d a b) 67108864 = wordV op d a b + 67108864 := by
    have := or_bit26 op (d * 4194304 + a * 262144 + b * 16384) o0 (by omega) (by omega) (by omega)
    rw [show wordV op d a b = op * 134217728 + (d * 4194304 + a * 262144 + b * 16384) by unfold wordV; omega]
    exact this
  simp only [Option.bind_some, gI_of, letK_eq, newK_eq, e, longW]

theorem encode_bad {op d a b n : Int} (h : Heap) (hc : chkV op d a b n ≠ 0) : E 22 [.agg [.int .i64 op, .int .i64 d, .int .i64 a, .int .i64 b, .int .i64 n]] h = some (.tup [.sl .nil 0, .int .i64 (chkV op d a b n)], h) := by
  rw [e22, check_ok]
  simp [hc]

/-- What Encode answers. -/
def encW (op d a b n : Int) : List AV := if inB n (-128) 127 = true then shortW op d a b n else longW op d a b n

theorem encode_ok {op d a b n : Int} (h : Heap) (hc : chkV op d a b n = 0) : E 22 [.agg [.int .i64 op, .int .i64 d, .int .i64 a, .int .i64 b, .int .i64 n]] h =
    some (.tup [.sl (.pos ⟨h.length, 0, 0⟩) (encW op d a b n).length, .int .i64 0], h ++ [.cells (encW op d a b n) (.grow 1) 0]) := by
  obtain ⟨o0, o1, d0, d1, a0, a1, b0, b1, n0, n1⟩ := chk_bd hc
  rw [e22, check_ok]
  simp only [hc, Option.bind_some, gI_of, letK_eq, decide_true, Bool.not_true, Bool.false_eq_true, if_false, size_ok, sizeV, encW]
  cases hn : inB n (-128) 127 with
  | false =>
    simp only [Bool.false_eq_true, if_false, decide_true, if_true, long_ok h hc, Option.bind_some, gT2_of, List.getD_cons_zero, List.getD_cons_succ, gL_of, gI_of]
    rfl
  | true =>
    simp only [if_true, show decide ((1 : Int) = 2) = false from rfl, Bool.false_eq_true, if_false, and255]
    rw [word_ok op d a b n h o0 o1 d0 d1 a0 a1 b0 b1]
    have e : bits .or .i64 (wordV op d a b) (n % 256) = wordV op d a b + n % 256 := by
      have := or_int (op * 8192 + d * 256 + a * 16 + b) (n % 256) 14 (by omega) (by omega) (by omega) (by omega) (by omega)
      rw [show wordV op d a b = (op * 8192 + d * 256 + a * 16 + b) * 2 ^ 14 by unfold wordV; omega]
      exact this
    simp only [Option.bind_some, gI_of, letK_eq, newK_eq, e, shortW]
    rfl

end Go.Proofs.Ytmfmnbldngfelaa.I

/- slices.Equal on blocks of whole numbers, and the law InsnUnique. -/
set_option linter.unusedVariables false
set_option linter.unusedSimpArgs false
namespace Go.Proofs.Ytmfmnbldngfelaa.I
open Go Go.Proofs.Ytmfmnbldngfelaa.Abs Go.Proofs

/-- A slice that reads as a list of whole numbers. -/
def IS (h : Heap) (s : SA) (n : Nat) (l : List Int) : Prop :=
  l.length = n ∧ (n = 0 ∨ ∃ b v o c m, s = .pos ⟨b, v, o⟩ ∧ h[b]? = some (.cells c m v) ∧ ∀ i, i < n → c[o + i]? = some (.int .i64 (l.getD i 0)))

theorem is_ld {h : Heap} {s : SA} {n : Nat} {l : List Int} (H : IS h s n l) (i : Nat) (hi : i < n) : ∃ a, adP s = some a ∧ ld1 h (Ad.add a i) = some (.int .i64 (l.getD i 0)) := by
  obtain ⟨_, H | ⟨b, v, o, c, m, rfl, hb, hc⟩⟩ := H
  · omega
  · exact ⟨_, rfl, ld1_at hb (hc i hi) rfl⟩

theorem is_app {h l' : Heap} {s : SA} {n : Nat} {l : List Int} (H : IS h s n l) : IS (h ++ l') s n l := by
  obtain ⟨hl, H | ⟨b, v, o, c, m, rfl, hb, hc⟩⟩ := H
  · exact ⟨hl, .inl H⟩
  · exact ⟨hl, .inr ⟨b, v, o, c, m, rfl, app_old hb, hc⟩⟩

theorem is_new (h : Heap) (l : List Int) : IS (h ++ [.cells (l.map (.int .i64)) (.grow 1) 0]) (.pos ⟨h.length, 0, 0⟩) l.length l := by
  refine ⟨rfl, .inr ⟨_, _, _, _, _, rfl, by rw [List.getElem?_append_right (Nat.le_refl _), Nat.sub_self]; rfl, fun i hi => ?_⟩⟩
  simp [hi]

theorem drop_eq (l m : List Int) (j : Nat) (h1 : j < l.length) (h2 : j < m.length) : (l.drop j = m.drop j) ↔ (l.getD j 0 = m.getD j 0 ∧ l.drop (j + 1) = m.drop (j + 1)) := by
  rw [List.drop_eq_getElem_cons h1, List.drop_eq_getElem_cons h2, List.cons.injEq, show l.getD j 0 = l[j] by simp [h1], show m.getD j 0 = m[j] by simp [h2]]

theorem eq_loop {h : Heap} {s0 s1 : SA} {n : Nat} {l0 l1 : List Int} (H0 : IS h s0 n l0) (H1 : IS h s1 n l1) (hn : n < 4611686018427387904) : ∀ (k j : Nat), j + k = n →
    L26x9 mk0 E s0 n s1 n ((n : Nat) : Int) ((j : Nat) : Int) h (Q26x9 mk0 E) = some (.bool (decide (l0.drop j = l1.drop j)), h) := by
  intro k
  induction k with
  | zero =>
    intro j hj
    rw [L26x9xeq]
    have e0 := H0.1
    have e1 := H1.1
    have : ¬ ((j : Int) < (n : Int)) := by omega
    simp only [letK_eq, this, decide_false, Bool.false_eq_true, if_false, X26x9xe0]
    rw [List.drop_eq_nil_of_le (by omega), List.drop_eq_nil_of_le (by omega)]
    rfl
  | succ k ih =>
    intro j hj
    rw [L26x9xeq]
    have e0 := H0.1
    have e1 := H1.1
    have hlt : (j : Int) < (n : Int) := by omega
    obtain ⟨a, ha, la⟩ := is_ld H0 j (by omega)
    obtain ⟨b, hb, lb⟩ := is_ld H1 j (by omega)
    simp only [letK_eq, hlt, decide_true, if_true]
    rw [chk_of (by intro _; constructor <;> first | omega | trivial)]
    simp only [ha, Int.toNat_natCast, Nat.mul_one]
    simp only [atP_of, la, gI_of]
    rw [chk_of (by intro _; constructor <;> first | omega | trivial)]
    simp only [hb, atP_of, lb, gI_of]
    rw [wrap64 (by omega) (by omega), show ((j : Int) + 1) = ((j + 1 : Nat) : Int) by omega, ih (j + 1) (by omega)]
    have hd := drop_eq l0 l1 j (by omega) (by omega)
    by_cases hx : l0.getD j 0 = l1.getD j 0
    · simp only [hx, decide_true, Bool.not_true, Bool.false_eq_true, if_false]
      congr 3
      exact decide_eq_decide.2 ⟨fun h => hd.2 ⟨hx, h⟩, fun h => (hd.1 h).2⟩
    · have : ¬ l0.drop j = l1.drop j := by rw [hd]; exact fun hh => hx hh.1
      simp only [hx, this, decide_false, Bool.not_false, if_true, X26x9xr]

theorem equal_ok {h : Heap} {s0 s1 : SA} {n0 n1 : Nat} {l0 l1 : List Int} (H0 : IS h s0 n0 l0) (H1 : IS h s1 n1 l1) (hn : n0 < 4611686018427387904) :
    E 26 [.sl s0 n0, .sl s1 n1] h = some (.bool (decide (l0 = l1)), h) := by
  rw [e26]
  by_cases e : n0 = n1
  · subst e
    simp only [letK_eq, decide_true, Bool.not_true, Bool.false_eq_true, if_false]
    have := eq_loop H0 H1 hn n0 0 (by omega)
    simpa using this
  · have e0 := H0.1
    have e1 := H1.1
    have : ¬ l0 = l1 := fun h => e (by rw [← e0, ← e1, h])
    have e' : ¬ ((n0 : Int) = (n1 : Int)) := by omega
    simp only [letK_eq, e', this, decide_false, Bool.not_false, if_true]

/-- The words of an encoding. -/
def encL (op d a b n : Int) : List Int := if inB n (-128) 127 = true then [wordV op d a b + n % 256] else [wordV op d a b + 67108864, n % 4294967296]
theorem encW_eq (op d a b n : Int) : encW op d a b n = (encL op d a b n).map (.int .i64) := by
  unfold encW encL
  split <;> rfl
theorem encL_len (op d a b n : Int) : (encL op d a b n).length ≤ 2 := by
  unfold encL
  split <;> simp

theorem encL_inj {op d a b n op' d' a' b' n' : Int} (h : chkV op d a b n = 0) (h' : chkV op' d' a' b' n' = 0) :
    encL op d a b n = encL op' d' a' b' n' ↔ op = op' ∧ d = d' ∧ a = a' ∧ b = b' ∧ n = n' := by
  obtain ⟨o0, o1, d0, d1, a0, a1, b0, b1, n0, n1⟩ := chk_bd h
  obtain ⟨o0', o1', d0', d1', a0', a1', b0', b1', n0', n1'⟩ := chk_bd h'
  constructor
  · intro e
    unfold encL at e
    by_cases x : inB n (-128) 127 = true <;> by_cases x' : inB n' (-128) 127 = true <;> simp only [x, x', if_true, if_false, List.cons.injEq, and_true, reduceCtorEq, and_false, wordV] at e <;> simp [inB] at x x' <;> omega
  · rintro ⟨rfl, rfl, rfl, rfl, rfl⟩
    rfl

theorem eqInts (x0 x1 x2 x3 x4 y0 y1 y2 y3 y4 : Int) : eqCells [false, false, false, false, false] [.int .i64 x0, .int .i64 x1, .int .i64 x2, .int .i64 x3, .int .i64 x4] [.int .i64 y0, .int .i64 y1, .int .i64 y2, .int .i64 y3, .int .i64 y4] =
    some (decide (x0 = y0 ∧ x1 = y1 ∧ x2 = y2 ∧ x3 = y3 ∧ x4 = y4)) := by
  simp [eqCells, Bool.decide_and]

end Go.Proofs.Ytmfmnbldngfelaa.I

/- What Decode answers, and the law InsnBack. -/
set_option linter.unusedVariables false
set_option linter.unusedSimpArgs false
namespace Go.Proofs.Ytmfmnbldngfelaa.I
open Go Go.Proofs.Ytmfmnbldngfelaa.Abs Go.Proofs

theorem wrap8 {x : Int} (h0 : 0 ≤ x) (h1 : x ≤ 255) : IntKind.wrap .i8 x = if x ≤ 127 then x else x - 256 := by
  unfold IntKind.wrap
  simp only [IntKind.bits, IntKind.signed]
  simp
  split <;> split <;> omega

theorem wrap32 {x : Int} (h0 : 0 ≤ x) (h1 : x ≤ 4294967295) : IntKind.wrap .i32 x = if x ≤ 2147483647 then x else x - 4294967296 := by
  unfold IntKind.wrap
  simp only [IntKind.bits, IntKind.signed]
  simp
  split <;> split <;> omega

theorem bit26_0 (m : Nat) (h : m < 9223372036854775808) : (bits .and .i64 (m : Int) 67108864 = 0) ↔ ((m : Int) / 67108864 % 2 = 0) := by
  rw [and_bit26 m h]
  have key : ∀ k : Nat, 0 < k → (((m / k % 2 * k : Nat) : Int) = 0 ↔ (m : Int) / (k : Int) % 2 = 0) := by
    intro k hk
    have e : (m : Int) / (k : Int) % 2 = ((m / k % 2 : Nat) : Int) := by simp
    rw [e]
    generalize m / k % 2 = q
    constructor
    · intro h
      have h' : q * k = 0 := by exact_mod_cast h
      rcases Nat.mul_eq_zero.1 h' with h | h <;> omega
    · intro h
      have : q = 0 := by omega
      subst this
      simp
  have := key 67108864 (by omega)
  rw [show ((67108864 : Nat) : Int) = 67108864 from rfl] at this
  exact this

theorem mid_0 (m : Nat) (h : m < 9223372036854775808) : (bits .and .i64 (m : Int) 16128 = 0) ↔ ((m : Int) / 256 % 64 = 0) := by
  rw [and_mid m h]
  omega

/-- What a word says. -/
def wOp (w : Int) : Int := w / 134217728
def wD (w : Int) : Int := w / 4194304 % 16
def wA (w : Int) : Int := w / 262144 % 16
def wB (w : Int) : Int := w / 16384 % 16
def wN (w : Int) : Int := if w % 256 ≤ 127 then w % 256 else w % 256 - 256
def lN (x : Int) : Int := if x ≤ 2147483647 then x else x - 4294967296

theorem fd27 (m : Int) : Int.fdiv m (2 ^ 27) = wOp m := by
  rw [show (2 : Int) ^ 27 = 134217728 by decide, Int.fdiv_eq_ediv_of_nonneg _ (by omega), wOp]
theorem fd22 (m : Int) : Int.fdiv m (2 ^ 22) % 16 = wD m := by
  rw [show (2 : Int) ^ 22 = 4194304 by decide, Int.fdiv_eq_ediv_of_nonneg _ (by omega), wD]
theorem fd18 (m : Int) : Int.fdiv m (2 ^ 18) % 16 = wA m := by
  rw [show (2 : Int) ^ 18 = 262144 by decide, Int.fdiv_eq_ediv_of_nonneg _ (by omega), wA]
theorem fd14 (m : Int) : Int.fdiv m (2 ^ 14) % 16 = wB m := by
  rw [show (2 : Int) ^ 14 = 16384 by decide, Int.fdiv_eq_ediv_of_nonneg _ (by omega), wB]

/-- What Decode makes of a list: an error, or the fields and the number of words. -/
def decV (l : List Int) : (Int × Int × Int × Int × Int) × Int × Int :=
  if l.length = 0 then ((0, 0, 0, 0, 0), 0, 12)
  else if (inB (l.getD 0 0) 0 4294967295 = false ∨ l.getD 0 0 / 256 % 64 ≠ 0) then ((0, 0, 0, 0, 0), 0, 3)
  else if l.getD 0 0 / 67108864 % 2 = 0 then
    if chkV (wOp (l.getD 0 0)) (wD (l.getD 0 0)) (wA (l.getD 0 0)) (wB (l.getD 0 0)) (wN (l.getD 0 0)) = 0 then ((wOp (l.getD 0 0), wD (l.getD 0 0), wA (l.getD 0 0), wB (l.getD 0 0), wN (l.getD 0 0)), 1, 0)
    else ((0, 0, 0, 0, 0), 0, 3)
  else if l.getD 0 0 % 256 ≠ 0 then ((0, 0, 0, 0, 0), 0, 3)
  else if l.length < 2 then ((0, 0, 0, 0, 0), 0, 12)
  else if inB (l.getD 1 0) 0 4294967295 = false then ((0, 0, 0, 0, 0), 0, 3)
  else if chkV (wOp (l.getD 0 0)) (wD (l.getD 0 0)) (wA (l.getD 0 0)) (wB (l.getD 0 0)) (lN (l.getD 1 0)) = 0 then ((wOp (l.getD 0 0), wD (l.getD 0 0), wA (l.getD 0 0), wB (l.getD 0 0), lN (l.getD 1 0)), 2, 0)
  else ((0, 0, 0, 0, 0), 0, 3)

def decR (v : (Int × Int × Int × Int × Int) × Int × Int) : AV :=
  .tup [.agg [.int .i64 v.1.1, .int .i64 v.1.2.1, .int .i64 v.1.2.2.1, .int .i64 v.1.2.2.2.1, .int .i64 v.1.2.2.2.2], .int .i64 v.2.1, .int .i64 v.2.2]

theorem decode_ok {h : Heap} {s : SA} {n : Nat} {l : List Int} (H : IS h s n l) : E 27 [.sl s n] h = some (decR (decV l), h) := by
  rw [e27]
  have hl := H.1
  unfold decV
  by_cases n0 : n = 0
  · have : (n : Int) = 0 := by omega
    have l0 : l.length = 0 := by omega
    rw [letK_eq, if_pos (by simp [this]), if_pos l0]
    rfl
  · have i0 : ¬ (n : Int) = 0 := by omega
    have l0 : ¬ l.length = 0 := by omega
    obtain ⟨a, ha, la⟩ := is_ld H 0 (by omega)
    generalize l.getD 0 0 = w at la ⊢
    rw [letK_eq, if_neg (by simp [n0]), if_neg l0, chk_of (by intro _; omega), ha, atP_of, show Int.toNat 0 * 1 = 0 from rfl, la, gI_of, in_ok]
    rw [Option.bind_some, gB_of, letK_eq, letK_eq, letK_eq]
    cases hw : inB w 0 4294967295 with
    | false => rw [if_pos (by simp), if_pos (by simp)]; rfl
    | true =>
      obtain ⟨w0, w1⟩ : 0 ≤ w ∧ w ≤ 4294967295 := by simpa [inB] using hw
      obtain ⟨m, rfl⟩ := Int.eq_ofNat_of_zero_le w0
      have B26 := bit26_0 m (by omega)
      have BM := mid_0 m (by omega)
      by_cases c1 : (m : Int) / 256 % 64 = 0
      · have fN : IntKind.wrap .i64 (IntKind.wrap .i8 ((m : Int) % 256)) = wN m := by
          rw [wrap8 (by omega) (by omega)]
          unfold wN
          rw [wrap64 (by split <;> omega) (by split <;> omega)]
        rw [if_neg (by simp [BM.2 c1]), if_neg (by simp [c1])]
        iterate 12 rw [letK_eq]
        rw [and15, and15, and15, and255, fd27, fd22, fd18, fd14, fN]
        by_cases c2 : (m : Int) / 67108864 % 2 = 0
        · rw [if_neg (by simp [B26.2 c2]), if_pos c2, J27x32xeq, check_ok, Option.bind_some, gI_of, letK_eq]
          by_cases c3 : chkV (wOp m) (wD m) (wA m) (wB m) (wN m) = 0
          · rw [if_neg (by simp [c3]), if_pos c3]; rfl
          · rw [if_pos (by simp [c3]), if_neg c3]; rfl
        · have c2' := fun h => c2 (B26.1 h)
          rw [if_pos (by simp; exact c2'), if_neg c2, letK_eq, letK_eq]
          by_cases c4 : (m : Int) % 256 = 0
          · rw [if_neg (by simp [c4]), if_neg (by simp [c4]), letK_eq]
            by_cases c5 : n < 2
            · rw [if_pos (by simp; omega), if_pos (by omega)]; rfl
            · obtain ⟨a', ha', la'⟩ := is_ld H 1 (by omega)
              rw [ha] at ha'
              cases ha'
              generalize l.getD 1 0 = x at la' ⊢
              rw [if_neg (by simp; omega), if_neg (by omega), chk_of (by intro _; omega), atP_of, show Int.toNat 1 * 1 = 1 from rfl, la', gI_of, in_ok, Option.bind_some, gB_of]
              cases hx : inB x 0 4294967295 with
              | false => rw [if_pos (by simp), if_pos (by simp)]; rfl
              | true =>
                obtain ⟨x0, x1⟩ : 0 ≤ x ∧ x ≤ 4294967295 := by simpa [inB] using hx
                have fL : IntKind.wrap .i64 (IntKind.wrap .i32 x) = lN x := by
                  rw [wrap32 x0 x1]
                  unfold lN
                  rw [wrap64 (by split <;> omega) (by split <;> omega)]
                rw [if_neg (by simp), if_neg (by simp), chk_of (by intro _; omega), atP_of]
                try rw [show Int.toNat 1 * 1 = 1 from rfl]
                rw [la', gI_of, letK_eq, letK_eq, fL, J27x32xeq, check_ok, Option.bind_some, gI_of, letK_eq]
                by_cases c3 : chkV (wOp m) (wD m) (wA m) (wB m) (lN x) = 0
                · rw [if_neg (by simp [c3]), if_pos c3]; rfl
                · rw [if_pos (by simp [c3]), if_neg c3]; rfl
          · rw [if_pos (by simp [c4]), if_pos c4]; rfl
      · have c1' := fun h => c1 (BM.1 h)
        rw [if_pos (by simp; exact c1'), if_pos (.inr c1)]; rfl

theorem take2 (l : List Int) (hh : 2 ≤ l.length) : l.take 2 = [l.getD 0 0, l.getD 1 0] := by
  match l, hh with
  | [], h => simp at h
  | [x], h => simp at h
  | x :: y :: t, _ => simp

/-- What Decode's answer tells of the words. -/
theorem dec_back (l : List Int) : (decV l).2.2 ≠ 0 ∧ (decV l).2.1 = 0 ∨
    ∃ op d a b n, chkV op d a b n = 0 ∧ ((decV l = ((op, d, a, b, n), 1, 0) ∧ 1 ≤ l.length ∧ l.take 1 = encL op d a b n) ∨
      (decV l = ((op, d, a, b, n), 2, 0) ∧ 2 ≤ l.length ∧ l.take 2 = [wordV op d a b + 67108864, n % 4294967296])) := by
  unfold decV
  split
  · left; simp
  · rename_i h0
    split
    · left; simp
    · rename_i h1
      simp only [not_or, Bool.not_eq_false, ne_eq, Decidable.not_not] at h1
      obtain ⟨h1, h2⟩ := h1
      have hw : 0 ≤ l.getD 0 0 ∧ l.getD 0 0 ≤ 4294967295 := by simpa only [inB, Bool.and_eq_true, decide_eq_true_eq] using h1
      have t1 : l.take 1 = [l.getD 0 0] := by
        cases l with
        | nil => simp at h0
        | cons x t => simp
      split
      · rename_i h3
        split
        · rename_i h4
          right
          refine ⟨_, _, _, _, _, h4, .inl ⟨rfl, by omega, ?_⟩⟩
          rw [t1]
          generalize l.getD 0 0 = w at *
          have : inB (wN w) (-128) 127 = true := by
            have hb : -128 ≤ wN w ∧ wN w ≤ 127 := by unfold wN; split <;> omega
            simp [inB, hb]
          rw [encL, if_pos this]
          have e1 : wN w % 256 = w % 256 := by unfold wN; split <;> omega
          have e2 : wordV (wOp w) (wD w) (wA w) (wB w) + w % 256 = w := by
            unfold wordV wOp wD wA wB
            omega
          rw [e1, e2]
        · left; simp
      · rename_i h3
        split
        · left; simp
        · rename_i h5
          split
          · left; simp
          · rename_i h6
            split
            · left; simp
            · rename_i h7
              split
              · rename_i h4
                right
                have t2 := take2 l (by omega)
                refine ⟨_, _, _, _, _, h4, .inr ⟨rfl, by omega, ?_⟩⟩
                rw [t2]
                have hx : 0 ≤ l.getD 1 0 ∧ l.getD 1 0 ≤ 4294967295 := by simpa only [inB, Bool.not_eq_false, Bool.and_eq_true, decide_eq_true_eq] using h7
                generalize l.getD 0 0 = w at *
                generalize l.getD 1 0 = x at *
                have e1 : lN x % 4294967296 = x := by unfold lN; split <;> omega
                have e2 : wordV (wOp w) (wD w) (wA w) (wB w) + 67108864 = w := by
                  unfold wordV wOp wD wA wB
                  omega
                rw [e1, e2]
              · left; simp

end Go.Proofs.Ytmfmnbldngfelaa.I

/- The law InsnBack. -/
set_option linter.unusedVariables false
set_option linter.unusedSimpArgs false
namespace Go.Proofs.Ytmfmnbldngfelaa.I
open Go Go.Proofs.Ytmfmnbldngfelaa.Abs Go.Proofs

theorem is_take {h : Heap} {s : SA} {n : Nat} {l : List Int} (H : IS h s n l) (k : Nat) (hk : k ≤ n) : IS h s k (l.take k) := by
  obtain ⟨hl, H | ⟨b, v, o, c, m, rfl, hb, hc⟩⟩ := H
  · have : k = 0 := by omega
    subst this
    exact ⟨by simp, .inl rfl⟩
  · refine ⟨by rw [List.length_take]; omega, .inr ⟨b, v, o, c, m, rfl, hb, fun i hi => ?_⟩⟩
    rw [hc i (by omega)]
    simp [List.getElem?_take, hi]

def longL (op d a b n : Int) : List Int := [wordV op d a b + 67108864, n % 4294967296]

end Go.Proofs.Ytmfmnbldngfelaa.I

/- Decode undoes Encode and Long, whatever stands behind. -/
set_option linter.unusedVariables false
set_option linter.unusedSimpArgs false
namespace Go.Proofs.Ytmfmnbldngfelaa.I
open Go Go.Proofs.Ytmfmnbldngfelaa.Abs Go.Proofs

theorem word_parts {op d a b r : Int} (o0 : 0 ≤ op) (o1 : op ≤ 24) (d0 : 0 ≤ d) (d1 : d ≤ 15) (a0 : 0 ≤ a) (a1 : a ≤ 15) (b0 : 0 ≤ b) (b1 : b ≤ 15) (x : Int) (hx : x = 0 ∨ x = 67108864) (r0 : 0 ≤ r) (r1 : r ≤ 255) :
    wOp (wordV op d a b + x + r) = op ∧ wD (wordV op d a b + x + r) = d ∧ wA (wordV op d a b + x + r) = a ∧ wB (wordV op d a b + x + r) = b ∧ (wordV op d a b + x + r) % 256 = r ∧ (wordV op d a b + x + r) / 256 % 64 = 0 ∧ (wordV op d a b + x + r) / 67108864 % 2 * 67108864 = x ∧ 0 ≤ wordV op d a b + x + r ∧ wordV op d a b + x + r ≤ 4294967295 := by
  unfold wOp wD wA wB wordV
  rcases hx with rfl | rfl <;> refine ⟨?_, ?_, ?_, ?_, ?_, ?_, ?_, ?_, ?_⟩ <;> omega

theorem dec_short {op d a b n : Int} (hc : chkV op d a b n = 0) (hs : inB n (-128) 127 = true) (t : List Int) : decV ((wordV op d a b + n % 256) :: t) = ((op, d, a, b, n), 1, 0) := by
  obtain ⟨o0, o1, d0, d1, a0, a1, b0, b1, n0, n1⟩ := chk_bd hc
  obtain ⟨h1, h2, h3, h4, h5, h6, h7, h8, h9⟩ := word_parts o0 o1 d0 d1 a0 a1 b0 b1 0 (.inl rfl) (r := n % 256) (by omega) (by omega)
  simp only [Int.add_zero] at h1 h2 h3 h4 h5 h6 h7 h8 h9
  have hn : -128 ≤ n ∧ n ≤ 127 := by simpa [inB] using hs
  have h10 : wN (wordV op d a b + n % 256) = n := by
    unfold wN
    rw [h5]
    split <;> omega
  have h11 : inB (wordV op d a b + n % 256) 0 4294967295 = true := by simp [inB, h8, h9]
  have h12 : (wordV op d a b + n % 256) / 67108864 % 2 = 0 := by omega
  unfold decV
  simp only [List.length_cons, List.getD_cons_zero]
  rw [if_neg (by omega), if_neg (by simp [h11, h6]), if_pos h12, h1, h2, h3, h4, h10, if_pos hc]

theorem dec_long {op d a b n : Int} (hc : chkV op d a b n = 0) (t : List Int) : decV ((wordV op d a b + 67108864) :: (n % 4294967296) :: t) = ((op, d, a, b, n), 2, 0) := by
  obtain ⟨o0, o1, d0, d1, a0, a1, b0, b1, n0, n1⟩ := chk_bd hc
  obtain ⟨h1, h2, h3, h4, h5, h6, h7, h8, h9⟩ := word_parts o0 o1 d0 d1 a0 a1 b0 b1 67108864 (.inr rfl) (r := 0) (by omega) (by omega)
  simp only [Int.add_zero] at h1 h2 h3 h4 h5 h6 h7 h8 h9
  have h10 : lN (n % 4294967296) = n := by
    unfold lN
    split <;> omega
  have h11 : inB (wordV op d a b + 67108864) 0 4294967295 = true := by simp [inB, h8, h9]
  have h12 : ¬ (wordV op d a b + 67108864) / 67108864 % 2 = 0 := by omega
  have h13 : inB (n % 4294967296) 0 4294967295 = true := by
    have : 0 ≤ n % 4294967296 ∧ n % 4294967296 ≤ 4294967295 := by omega
    simp [inB, this]
  unfold decV
  simp only [List.length_cons, List.getD_cons_zero, List.getD_cons_succ]
  rw [if_neg (by omega), if_neg (by simp [h11, h6]), if_neg h12, if_neg (by simp [h5]), if_neg (by omega), if_neg (by simp [h13]), h1, h2, h3, h4, h10, if_pos hc]

end Go.Proofs.Ytmfmnbldngfelaa.I
