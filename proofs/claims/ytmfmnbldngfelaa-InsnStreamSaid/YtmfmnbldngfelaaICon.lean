/- What the functions of the instructions' encoding answer. -/
import Derived.Test.YtmfmnbldngfelaaAbsUse
import Derived.Test.YtmfmnbldngfelaaIGen
import Derived.Test.YtmfmnbldngfelaaINums
set_option linter.unusedVariables false
set_option linter.unusedSimpArgs false
namespace Go.Proofs.Ytmfmnbldngfelaa.I
open Go Go.Proofs.Ytmfmnbldngfelaa.Abs Go.Proofs

def inB (x lo hi : Int) : Bool := decide (lo ≤ x) && decide (x ≤ hi)

theorem in_ok (x lo hi : Int) (h : Heap) : E 41 [.int .i64 x, .int .i64 lo, .int .i64 hi] h = some (.bool (inB x lo hi), h) := by
  rw [e41]
  simp only [letK_eq, inB]
  by_cases a : lo ≤ x <;> by_cases b : x ≤ hi <;> simp [a, b]

theorem in_call (c : Bool) (x lo hi : Int) (h : Heap) : callO c (E 41 [.int .i64 x, .int .i64 lo, .int .i64 hi] h) (.bool false) h = some (.bool (c && inB x lo hi), h) := by
  rw [in_ok]
  cases c <;> rfl

/-- The fields that an operation uses. -/
def usD (op : Int) : Bool := decide (op ∈ [(1 : Int), 2, 3, 4, 5, 6, 7, 15, 8, 9, 10, 12, 11, 14])
def usA (op : Int) : Bool := decide (op ∈ [(1 : Int), 2, 3, 4, 5, 6, 7, 15, 8, 9, 10, 12, 13, 16, 17, 18, 21, 23])
def usB (op : Int) : Bool := decide (op ∈ [(1 : Int), 2, 3, 4, 5, 6, 7, 15, 13, 16, 17, 18, 14])
def usN (op : Int) : Bool := decide (op ∈ [(8 : Int), 9, 10, 12, 11, 13, 16, 17, 18, 14, 19, 20, 24])

theorem used_ok (op : Int) (h0 : 0 ≤ op) (h1 : op ≤ 24) (h : Heap) : E 51 [.int .i64 op] h = some (.agg [.bool (usD op), .bool (usA op), .bool (usB op), .bool (usN op)], h) := by
  obtain ⟨n, rfl⟩ := Int.eq_ofNat_of_zero_le h0
  have hn : n ≤ 24 := by omega
  rw [e51]
  have all : ∀ m, m ≤ 24 → n = m ∨ n ≠ m := fun m _ => by omega
  match n, hn with
  | 0, _ | 1, _ | 2, _ | 3, _ | 4, _ | 5, _ | 6, _ | 7, _ | 8, _ | 9, _ | 10, _ | 11, _ | 12, _ | 13, _ | 14, _ | 15, _ | 16, _ | 17, _ | 18, _ | 19, _ | 20, _ | 21, _ | 22, _ | 23, _ | 24, _ =>
    simp [J51x7xeq, J51x32xeq, J51x31xeq, J51x30xeq, J51x29xeq, J51x28xeq, J51x27xeq, J51x26xeq, J51x45xeq, J51x44xeq, J51x43xeq, J51x62xeq, J51x61xeq, J51x60xeq, J51x76xeq, J51x75xeq, usD, usA, usB, usN]
  | n + 25, hn => omega

/-- What Check answers. -/
def chkV (op d a b n : Int) : Int :=
  if inB op 0 24 = false then 1
  else if (inB d 0 15 && inB a 0 15 && inB b 0 15 && inB n (-2147483648) 2147483647) = false then 4
  else if ((!usD op && !decide (d = 0)) || (!usA op && !decide (a = 0)) || (!usB op && !decide (b = 0)) || (!usN op && !decide (n = 0))) = true then 3
  else if (((decide (op = 9) || decide (op = 10)) && !inB n 0 31) || (decide (op = 14) && !inB n 0 4095) || (decide (op = 24) && !inB n 1 6)) = true then 4
  else 0

theorem check_ok (op d a b n : Int) (h : Heap) : E 39 [.agg [.int .i64 op, .int .i64 d, .int .i64 a, .int .i64 b, .int .i64 n]] h = some (.int .i64 (chkV op d a b n), h) := by
  rw [e39, in_ok]
  simp only [Option.bind_some, gB_of, chkV]
  cases hop : inB op 0 24 with
  | false => simp
  | true =>
    have hu := used_ok op (by simp [inB] at hop; omega) (by simp [inB] at hop; omega)
    simp only [Bool.not_true, Bool.false_eq_true, if_false, in_ok, callO_bool, Option.bind_some, gB_of, gI_of, letK_eq, hu, gA_of, List.getElem?_cons_zero, List.getElem?_cons_succ, reduceCtorEq]
    cases h1 : inB d 0 15 <;> cases h2 : inB a 0 15 <;> cases h3 : inB b 0 15 <;> cases h4 : inB n (-2147483648) 2147483647 <;> simp
    rw [chk_of trivial]
    split
    · rfl
    · generalize inB n 0 31 = x1
      generalize inB n 0 4095 = x2
      generalize inB n 1 6 = x3
      by_cases e9 : op = 9
      · subst e9; cases x1 <;> simp [andB]
      · by_cases e10 : op = 10
        · subst e10; cases x1 <;> simp [andB]
        · by_cases e14 : op = 14
          · subst e14; cases x2 <;> simp [andB]
          · by_cases e24 : op = 24
            · subst e24; cases x3 <;> simp [andB]
            · simp [e9, e10, e14, e24]

/-- The instruction word, but for its number. -/
def wordV (op d a b : Int) : Int := op * 134217728 + d * 4194304 + a * 262144 + b * 16384

theorem word_ok (op d a b n : Int) (h : Heap) (o0 : 0 ≤ op) (o1 : op ≤ 24) (d0 : 0 ≤ d) (d1 : d ≤ 15) (a0 : 0 ≤ a) (a1 : a ≤ 15) (b0 : 0 ≤ b) (b1 : b ≤ 15) :
    E 40 [.agg [.int .i64 op, .int .i64 d, .int .i64 a, .int .i64 b, .int .i64 n]] h = some (.int .i64 (wordV op d a b), h) := by
  have p27 : (2 : Int) ^ 27 = 134217728 := by decide
  have p22 : (2 : Int) ^ 22 = 4194304 := by decide
  have p18 : (2 : Int) ^ 18 = 262144 := by decide
  have p14 : (2 : Int) ^ 14 = 16384 := by decide
  rw [e40]
  simp only [letK_eq]
  rw [wrap64 (by omega) (by omega), wrap64 (by omega) (by omega), wrap64 (by omega) (by omega), wrap64 (by omega) (by omega)]
  rw [or_int op (d * 2 ^ 22) 27 o0 (by omega) (by omega) (by omega) (by omega)]
  rw [show op * 2 ^ 27 + d * 2 ^ 22 = (op * 32 + d) * 2 ^ 22 by omega, or_int (op * 32 + d) (a * 2 ^ 18) 22 (by omega) (by omega) (by omega) (by omega) (by omega)]
  rw [show (op * 32 + d) * 2 ^ 22 + a * 2 ^ 18 = ((op * 32 + d) * 16 + a) * 2 ^ 18 by omega, or_int ((op * 32 + d) * 16 + a) (b * 2 ^ 14) 18 (by omega) (by omega) (by omega) (by omega) (by omega)]
  unfold wordV
  congr 3
  omega

theorem chk_bd {op d a b n : Int} (h : chkV op d a b n = 0) : 0 ≤ op ∧ op ≤ 24 ∧ 0 ≤ d ∧ d ≤ 15 ∧ 0 ≤ a ∧ a ≤ 15 ∧ 0 ≤ b ∧ b ≤ 15 ∧ -2147483648 ≤ n ∧ n ≤ 2147483647 := by
  unfold chkV at h
  split at h
  · omega
  · rename_i h1
    split at h
    · omega
    · rename_i h2
      simp [inB] at h1 h2
      omega

def sizeV (n : Int) : Int := if inB n (-128) 127 = true then 1 else 2

theorem size_ok (op d a b n : Int) (h : Heap) : E 25 [.agg [.int .i64 op, .int .i64 d, .int .i64 a, .int .i64 b, .int .i64 n]] h = some (.int .i64 (sizeV n), h) := by
  rw [e25, in_ok]
  simp only [Option.bind_some, gB_of, sizeV]
  split <;> rfl

/-- What Long answers: an error, or a block with the two words. -/
theorem long_bad {op d a b n : Int} (h : Heap) (hc : chkV op d a b n ≠ 0) : E 23 [.agg [.int .i64 op, .int .i64 d, .int .i64 a, .int .i64 b, .int .i64 n]] h = some (.tup [.sl .nil 0, .int .i64 (chkV op d a b n)], h) := by
  rw [e23, check_ok]
  simp [hc]

def longW (op d a b n : Int) : List AV := [.int .i64 (wordV op d a b + 67108864), .int .i64 (n % 4294967296)]
def shortW (op d a b n : Int) : List AV := [.int .i64 (wordV op d a b + n % 256)]

theorem long_ok {op d a b n : Int} (h : Heap) (hc : chkV op d a b n = 0) : E 23 [.agg [.int .i64 op, .int .i64 d, .int .i64 a, .int .i64 b, .int .i64 n]] h =
    some (.tup [.sl (.pos ⟨h.length, 0, 0⟩) 2, .int .i64 0], h ++ [.cells (longW op d a b n) (.grow 1) 0]) := by
  obtain ⟨o0, o1, d0, d1, a0, a1, b0, b1, n0, n1⟩ := chk_bd hc
  rw [e23, check_ok]
  simp only [hc, Option.bind_some, gI_of, letK_eq, decide_true, Bool.not_true, Bool.false_eq_true, if_false, and32]
  rw [word_ok op d a b n h o0 o1 d0 d1 a0 a1 b0 b1]
  have e : bits .or .i64 (wordV op d a b) 67108864 = wordV op d a b + 67108864 := by
    have := or_bit26 op (d * 4194304 + a * 262144 + b * 16384) o0 (by omega) (by omega) (by omega)
    rw [show wordV op d a b = op * 134217728 + (d * 4194304 + a * 262144 + b * 16384) by unfold wordV; omega]
    exact this
  simp only [Option.bind_some, gI_of, letK_eq, newK_eq, e, longW]

theorem encode_bad {op d a b n : Int} (h : Heap) (hc : chkV op d a b n ≠ 0) : E 22 [.agg [.int .i64 op, .int .i64 d, .int .i64 a, .int .i64 b, .int .i64 n]] h = some (.tup [.sl .nil 0, .int .i64 (chkV op d a b n)], h) := by
  rw [e22, check_ok]
  simp [hc]

/-- What Encode answers. -/
def encW (op d a b n : Int) : List AV := if inB n (-128) 127 = true then shortW op d a b n else longW op d a b n

theorem encode_ok {op d a b n : Int} (h : Heap) (hc : chkV op d a b n = 0) : E 22 [.agg [.int .i64 op, .int .i64 d, .int .i64 a, .int .i64 b, .int .i64 n]] h =
    some (.tup [.sl (.pos ⟨h.length, 0, 0⟩) (encW op d a b n).length, .int .i64 0], h ++ [.cells (encW op d a b n) (.grow 1) 0]) := by
  obtain ⟨o0, o1, d0, d1, a0, a1, b0, b1, n0, n1⟩ := chk_bd hc
  rw [e22, check_ok]
  simp only [hc, Option.bind_some, gI_of, letK_eq, decide_true, Bool.not_true, Bool.false_eq_true, if_false, size_ok, sizeV, encW]
  cases hn : inB n (-128) 127 with
  | false =>
    simp only [Bool.false_eq_true, if_false, decide_true, if_true, long_ok h hc, Option.bind_some, gT2_of, List.getD_cons_zero, List.getD_cons_succ, gL_of, gI_of]
    rfl
  | true =>
    simp only [if_true, show decide ((1 : Int) = 2) = false from rfl, Bool.false_eq_true, if_false, and255]
    rw [word_ok op d a b n h o0 o1 d0 d1 a0 a1 b0 b1]
    have e : bits .or .i64 (wordV op d a b) (n % 256) = wordV op d a b + n % 256 := by
      have := or_int (op * 8192 + d * 256 + a * 16 + b) (n % 256) 14 (by omega) (by omega) (by omega) (by omega) (by omega)
      rw [show wordV op d a b = (op * 8192 + d * 256 + a * 16 + b) * 2 ^ 14 by unfold wordV; omega]
      exact this
    simp only [Option.bind_some, gI_of, letK_eq, newK_eq, e, shortW]
    rfl

theorem fact_ok (h : Heap) : ∃ h', E 24 [] h = some (.bool true, h') ∧ h' = h ++ [.cells (encW 11 2 0 0 (-1)) (.grow 1) 0] := by
  refine ⟨_, ?_, rfl⟩
  rw [e24, encode_ok h (by decide)]
  have hl : (h ++ [Blk.cells (encW 11 2 0 0 (-1)) (.grow 1) 0])[h.length]? = some (.cells [.int .i64 1484783871] (.grow 1) 0) := by
    rw [List.getElem?_append_right (Nat.le_refl _), Nat.sub_self]
    rfl
  have hd : ld1 (h ++ [Blk.cells (encW 11 2 0 0 (-1)) (.grow 1) 0]) ⟨h.length, 0, 0⟩ = some (.int .i64 1484783871) := ld1_at hl rfl rfl
  have ln : (encW 11 2 0 0 (-1)).length = 1 := rfl
  simp only [Option.bind_some, gT2_of, List.getD_cons_zero, List.getD_cons_succ, gL_of, gI_of, letK_eq, decide_true, if_true, ln]
  simp [chk_of, hd]

theorem insnSizes_ok (op d a b n : Int) (h : Heap) : ∃ h', E 6 [.agg [.int .i64 op, .int .i64 d, .int .i64 a, .int .i64 b, .int .i64 n]] h = some (.bool true, h') := by
  rw [e6]
  by_cases hc : chkV op d a b n = 0
  · rw [encode_ok h hc]
    simp only [Option.bind_some, gT2_of, List.getD_cons_zero, List.getD_cons_succ, gL_of, gI_of, letK_eq]
    rw [long_ok _ hc]
    simp only [Option.bind_some, gT2_of, List.getD_cons_zero, List.getD_cons_succ, gL_of, gI_of, letK_eq, decide_true, Bool.not_true, Bool.false_eq_true, if_false]
    obtain ⟨h', he, _⟩ := fact_ok ((h ++ [.cells (encW op d a b n) (.grow 1) 0]) ++ [.cells (longW op d a b n) (.grow 1) 0])
    rw [he]
    refine ⟨h', ?_⟩
    simp only [Option.bind_some, gB_of, letK_eq, if_true, gI_of]
    rw [chk_of (by intro _; omega), size_ok]
    simp only [callO_true, Option.bind_some, gI_of, letK_eq, encW, sizeV]
    by_cases hx : inB n (-128) 127 = true <;> simp [hx, shortW, longW]
  · rw [encode_bad h hc]
    simp only [Option.bind_some, gT2_of, List.getD_cons_zero, List.getD_cons_succ, gL_of, gI_of, letK_eq]
    rw [long_bad _ hc]
    obtain ⟨h', he, _⟩ := fact_ok h
    refine ⟨h', ?_⟩
    simp [hc, he, wrap64]

end Go.Proofs.Ytmfmnbldngfelaa.I
