/- Bits of whole numbers, plainly. -/
import GoSem.Step
import Derived.Laws.BitsLemmas
set_option linter.unusedVariables false
set_option linter.unusedSimpArgs false
namespace Go.Proofs.Ytmfmnbldngfelaa.I
open Go

theorem wrapN (n : Nat) (h : n < 9223372036854775808) : IntKind.wrap .i64 (n : Int) = n := by
  unfold IntKind.wrap
  simp only [IntKind.bits, IntKind.signed]
  simp
  split <;> omega

theorem ofIntN (n : Nat) (h : n < 18446744073709551616) : (BitVec.ofInt 64 (n : Int)).toNat = n := by
  rw [BitVec.toNat_ofInt]
  omega

theorem or_nat (a b : Nat) (ha : a < 9223372036854775808) (hb : b < 9223372036854775808) : bits .or .i64 (a : Int) (b : Int) = ((a ||| b : Nat) : Int) := by
  show IntKind.i64.wrap ((BitVec.ofInt 64 (a : Int) ||| BitVec.ofInt 64 (b : Int)).toNat : Int) = _
  rw [BitVec.toNat_or, ofIntN a (by omega), ofIntN b (by omega)]
  exact wrapN _ (Nat.or_lt_two_pow (n := 63) ha hb)

theorem and_nat (a b : Nat) (ha : a < 9223372036854775808) (hb : b < 9223372036854775808) : bits .and .i64 (a : Int) (b : Int) = ((a &&& b : Nat) : Int) := by
  show IntKind.i64.wrap ((BitVec.ofInt 64 (a : Int) &&& BitVec.ofInt 64 (b : Int)).toNat : Int) = _
  rw [BitVec.toNat_and, ofIntN a (by omega), ofIntN b (by omega)]
  exact wrapN _ (Nat.lt_of_le_of_lt Nat.and_le_left ha)

/-- The last k bits. -/
theorem and_mask (n : Int) (k : Nat) (hk : k ≤ 62) : bits .and .i64 n ((2 ^ k - 1 : Nat) : Int) = n % ((2 ^ k : Nat) : Int) := by
  show IntKind.i64.wrap ((BitVec.ofInt 64 n &&& BitVec.ofInt 64 ((2 ^ k - 1 : Nat) : Int)).toNat : Int) = _
  have hp : 2 ^ k ≤ 2 ^ 62 := Nat.pow_le_pow_right (by omega) hk
  have hpos : 0 < 2 ^ k := Nat.two_pow_pos k
  rw [BitVec.toNat_and, ofIntN (2 ^ k - 1) (by omega), Nat.and_two_pow_sub_one_eq_mod]
  have e : (BitVec.ofInt 64 n).toNat % 2 ^ k = (n % ((2 ^ k : Nat) : Int)).toNat := by
    rw [BitVec.toNat_ofInt]
    have hd : ((2 ^ k : Nat) : Int) ∣ ((2 ^ 64 : Nat) : Int) := by
      refine ⟨((2 ^ (64 - k) : Nat) : Int), ?_⟩
      rw [← Int.natCast_mul, ← Nat.pow_add, Nat.add_sub_cancel' (by omega)]
    have h1 := Int.emod_emod_of_dvd n hd
    have h2 := Int.emod_nonneg n (show ((2 ^ 64 : Nat) : Int) ≠ 0 by omega)
    have h3 : ((n % ((2 ^ 64 : Nat) : Int)).toNat % 2 ^ k : Nat) = ((n % ((2 ^ 64 : Nat) : Int)) % ((2 ^ k : Nat) : Int)).toNat := by
      rw [Int.toNat_emod h2 (by omega)]
      rfl
    rw [h3, h1]
  rw [e]
  have h4 := Int.emod_nonneg n (show ((2 ^ k : Nat) : Int) ≠ 0 by omega)
  have h5 := Int.emod_lt_of_pos n (show (0 : Int) < ((2 ^ k : Nat) : Int) by omega)
  rw [wrapN _ (by omega)]
  omega

theorem and255 (n : Int) : bits .and .i64 n 255 = n % 256 := and_mask n 8 (by omega)
theorem and15 (n : Int) : bits .and .i64 n 15 = n % 16 := and_mask n 4 (by omega)
theorem and32 (n : Int) : bits .and .i64 n 4294967295 = n % 4294967296 := and_mask n 32 (by omega)

/-- Numbers whose bits do not meet. -/
theorem or_add (a b k : Nat) (hb : b < 2 ^ k) : (a * 2 ^ k) ||| b = a * 2 ^ k + b := by
  rw [Nat.mul_comm, Nat.two_pow_add_eq_or_of_lt hb]

theorem or_int (a b : Int) (k : Nat) (h0 : 0 ≤ a) (ha : a * 2 ^ k < 9223372036854775808) (b0 : 0 ≤ b) (hb : b < 2 ^ k) (hk : k ≤ 62) : bits .or .i64 (a * 2 ^ k) b = a * 2 ^ k + b := by
  obtain ⟨m, rfl⟩ := Int.eq_ofNat_of_zero_le h0
  obtain ⟨n, rfl⟩ := Int.eq_ofNat_of_zero_le b0
  have e : ((m : Int) * 2 ^ k) = ((m * 2 ^ k : Nat) : Int) := by simp
  have hn : n < 2 ^ k := by
    have : ((2 : Int) ^ k) = ((2 ^ k : Nat) : Int) := by simp
    omega
  have hp : 2 ^ k ≤ 2 ^ 62 := Nat.pow_le_pow_right (by omega) hk
  rw [e] at ha ⊢
  rw [or_nat _ _ (by omega) (by omega), or_add _ _ _ hn]
  simp

/-- Bit 26, set where it was free. -/
theorem or_bit26 (a r : Int) (a0 : 0 ≤ a) (a1 : a ≤ 31) (r0 : 0 ≤ r) (r1 : r < 67108864) : bits .or .i64 (a * 134217728 + r) 67108864 = a * 134217728 + r + 67108864 := by
  obtain ⟨m, rfl⟩ := Int.eq_ofNat_of_zero_le a0
  obtain ⟨n, rfl⟩ := Int.eq_ofNat_of_zero_le r0
  have hn : n < 2 ^ 26 := by omega
  have e : ((m : Int) * 134217728 + n) = ((m * 2 ^ 27 + n : Nat) : Int) := by omega
  have e2 : m * 2 ^ 27 + n ||| 67108864 = m * 2 ^ 27 + n + 67108864 := by
    rw [← or_add m n 27 (by omega), Nat.or_assoc, Nat.or_comm n, show (67108864 : Nat) = 1 * 2 ^ 26 by omega, or_add 1 n 26 hn, or_add m _ 27 (by omega), or_add m n 27 (by omega)]
    omega
  rw [e, show (67108864 : Int) = ((67108864 : Nat) : Int) from rfl, or_nat _ _ (by omega) (by omega), e2]
  omega

/-- One bit, asked. -/
theorem and_bit26 (n : Nat) (h : n < 9223372036854775808) : bits .and .i64 (n : Int) 67108864 = ((n / 67108864 % 2 * 67108864 : Nat) : Int) := by
  rw [show (67108864 : Int) = ((2 ^ 26 : Nat) : Int) from rfl, and_nat _ _ h (by omega)]
  congr 1
  apply Nat.eq_of_testBit_eq
  intro i
  rw [Nat.testBit_and, Nat.testBit_two_pow, show (67108864 : Nat) = 2 ^ 26 from rfl, show n / 2 ^ 26 % 2 = n / 2 ^ 26 % 2 ^ 1 from rfl, Nat.testBit_mul_two_pow, Nat.testBit_mod_two_pow, Nat.testBit_div_two_pow]
  by_cases hi : 26 = i
  · subst hi; simp
  · by_cases h1 : 26 ≤ i
    · have h2 : ¬ i - 26 < 1 := by omega
      simp only [hi, h1, h2, decide_true, decide_false, Bool.and_false, Bool.false_and]
    · simp only [hi, h1, decide_false, Bool.and_false, Bool.false_and]

/-- Six bits in the middle, asked. -/
theorem and_mid (n : Nat) (h : n < 9223372036854775808) : bits .and .i64 (n : Int) 16128 = ((n / 256 % 64 * 256 : Nat) : Int) := by
  rw [show (16128 : Int) = ((63 * 2 ^ 8 : Nat) : Int) from rfl, and_nat _ _ h (by omega)]
  congr 1
  apply Nat.eq_of_testBit_eq
  intro i
  rw [Nat.testBit_and, show (256 : Nat) = 2 ^ 8 from rfl, show (64 : Nat) = 2 ^ 6 from rfl, show (63 : Nat) = 2 ^ 6 - 1 from rfl, Nat.testBit_mul_two_pow, Nat.testBit_mul_two_pow, Nat.testBit_mod_two_pow, Nat.testBit_two_pow_sub_one, Nat.testBit_div_two_pow]
  by_cases hi : 8 ≤ i
  · simp only [hi, decide_true, Bool.true_and]
    rw [Nat.sub_add_cancel hi, Bool.and_comm]
  · simp [hi]

end Go.Proofs.Ytmfmnbldngfelaa.I
