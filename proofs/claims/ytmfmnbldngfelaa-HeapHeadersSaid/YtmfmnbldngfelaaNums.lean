/- Plain facts on the bit operations of 64-bit integers (masks by 2^k - 1). -/
import Derived.Laws.Entries
import Derived.RowKit
namespace Go.Proofs.Ytmfmnbldngfelaa.Nums
open Go Go.RowKit

theorem wrap_small (n : Int) (h0 : -9223372036854775808 ≤ n) (h1 : n < 9223372036854775808) : IntKind.i64.wrap n = n := by
  simp only [IntKind.wrap, IntKind.bits, IntKind.signed, Bool.true_and, decide_eq_true_eq, ge_iff_le]
  split <;> omega

theorem ofInt_toNat (x : Int) : ((BitVec.ofInt 64 x).toNat : Int) = x % 18446744073709551616 := by
  rw [BitVec.toNat_ofInt]
  have : (0 : Int) ≤ x % ((2 ^ 64 : Nat) : Int) := Int.emod_nonneg _ (by decide)
  rw [Int.toNat_of_nonneg this]
  rfl

theorem and_mask (x : Int) (k : Nat) (hk : k ≤ 62) (m : Int) (hm : m = ((2 ^ k - 1 : Nat) : Int)) : Go.bits .and .i64 x m = x % ((2 ^ k : Nat) : Int) := by
  subst hm
  have hp : 0 < 2 ^ k := Nat.pow_pos (by decide)
  have hle : 2 ^ k ≤ 2 ^ 62 := Nat.pow_le_pow_right (by decide) hk
  have h62 : (2 : Nat) ^ 62 = 4611686018427387904 := by decide
  have hb : (BitVec.ofInt 64 (((2 ^ k - 1 : Nat) : Int))).toNat = 2 ^ k - 1 := by
    have := ofInt_toNat (((2 ^ k - 1 : Nat) : Int))
    omega
  have ha := ofInt_toNat x
  have h1 : (BitVec.ofInt 64 x &&& BitVec.ofInt 64 (((2 ^ k - 1 : Nat) : Int))).toNat = (BitVec.ofInt 64 x).toNat % 2 ^ k := by
    rw [BitVec.toNat_and, hb, Nat.and_two_pow_sub_one_eq_mod]
  show IntKind.i64.wrap ((BitVec.ofInt 64 x &&& BitVec.ofInt 64 (((2 ^ k - 1 : Nat) : Int))).toNat : Int) = _
  rw [h1]
  have hlt : (BitVec.ofInt 64 x).toNat % 2 ^ k < 2 ^ k := Nat.mod_lt _ hp
  rw [wrap_small _ (by omega) (by omega), Int.natCast_emod, ha]
  have hd : ((2 ^ k : Nat) : Int) ∣ 18446744073709551616 := by
    have : (18446744073709551616 : Int) = ((2 ^ k : Nat) : Int) * ((2 ^ (64 - k) : Nat) : Int) := by
      rw [← Int.natCast_mul, ← Nat.pow_add, Nat.add_sub_cancel' (by omega)]; rfl
    exact ⟨_, this⟩
  exact Int.emod_emod_of_dvd x hd

theorem and_1 (x : Int) : Go.bits .and .i64 x 1 = x % 2 := and_mask x 1 (by decide) 1 rfl
theorem and_15 (x : Int) : Go.bits .and .i64 x 15 = x % 16 := and_mask x 4 (by decide) 15 rfl
theorem and_255 (x : Int) : Go.bits .and .i64 x 255 = x % 256 := and_mask x 8 (by decide) 255 rfl
theorem and_4095 (x : Int) : Go.bits .and .i64 x 4095 = x % 4096 := and_mask x 12 (by decide) 4095 rfl
theorem and_u32 (x : Int) : Go.bits .and .i64 x 4294967295 = x % 4294967296 := and_mask x 32 (by decide) 4294967295 rfl

end Go.Proofs.Ytmfmnbldngfelaa.Nums
