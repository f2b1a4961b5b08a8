/- Decode undoes Encode and Long, whatever stands behind. -/
import Derived.Test.YtmfmnbldngfelaaIBack
set_option linter.unusedVariables false
set_option linter.unusedSimpArgs false
namespace Go.Proofs.Ytmfmnbldngfelaa.I
open Go Go.Proofs.Ytmfmnbldngfelaa.Abs Go.Proofs

theorem word_parts {op d a b r : Int} (o0 : 0 ≤ op) (o1 : op ≤ 24) (d0 : 0 ≤ d) (d1 : d ≤ 15) (a0 : 0 ≤ a) (a1 : a ≤ 15) (b0 : 0 ≤ b) (b1 : b ≤ 15) (x : Int) (hx : x = 0 ∨ x = 67108864) (r0 : 0 ≤ r) (r1 : r ≤ 255) :
    wOp (wordV op d a b + x + r) = op ∧ wD (wordV op d a b + x + r) = d ∧ wA (wordV op d a b + x + r) = a ∧ wB (wordV op d a b + x + r) = b ∧ (wordV op d a b + x + r) % 256 = r ∧ (wordV op d a b + x + r) / 256 % 64 = 0 ∧ (wordV op d a b + x + r) / 67108864 % 2 * 67108864 = x ∧ 0 ≤ wordV op d a b + x + r ∧ wordV op d a b + x + r ≤ 4294967295 := by
  unfold wOp wD wA wB wordV
  rcases hx with rfl | rfl <;> refine ⟨?_, ?_, ?_, ?_, ?_, ?_, ?_, ?_, ?_⟩ <;> omega

theorem dec_short {op d a b n : Int} (hc : chkV op d a b n = 0) (hs : inB n (-128) 127 = true) (t : List Int) : decV ((wordV op d a b + n % 256) :: t) = ((op, d, a, b, n), 1, 0) := by
  obtain ⟨o0, o1, d0, d1, a0, a1, b0, b1, n0, n1⟩ := chk_bd hc
  obtain ⟨h1, h2, h3, h4, h5, h6, h7, h8, h9⟩ := word_parts o0 o1 d0 d1 a0 a1 b0 b1 0 (.inl rfl) (r := n % 256) (by omega) (by omega)
  simp only [Int.add_zero] at h1 h2 h3 h4 h5 h6 h7 h8 h9
  have hn : -128 ≤ n ∧ n ≤ 127 := by simpa [inB] using hs
  have h10 : wN (wordV op d a b + n % 256) = n := by
    unfold wN
    rw [h5]
    split <;> omega
  have h11 : inB (wordV op d a b + n % 256) 0 4294967295 = true := by simp [inB, h8, h9]
  have h12 : (wordV op d a b + n % 256) / 67108864 % 2 = 0 := by omega
  unfold decV
  simp only [List.length_cons, List.getD_cons_zero]
  rw [if_neg (by omega), if_neg (by simp [h11, h6]), if_pos h12, h1, h2, h3, h4, h10, if_pos hc]

theorem dec_long {op d a b n : Int} (hc : chkV op d a b n = 0) (t : List Int) : decV ((wordV op d a b + 67108864) :: (n % 4294967296) :: t) = ((op, d, a, b, n), 2, 0) := by
  obtain ⟨o0, o1, d0, d1, a0, a1, b0, b1, n0, n1⟩ := chk_bd hc
  obtain ⟨h1, h2, h3, h4, h5, h6, h7, h8, h9⟩ := word_parts o0 o1 d0 d1 a0 a1 b0 b1 67108864 (.inr rfl) (r := 0) (by omega) (by omega)
  simp only [Int.add_zero] at h1 h2 h3 h4 h5 h6 h7 h8 h9
  have h10 : lN (n % 4294967296) = n := by
    unfold lN
    split <;> omega
  have h11 : inB (wordV op d a b + 67108864) 0 4294967295 = true := by simp [inB, h8, h9]
  have h12 : ¬ (wordV op d a b + 67108864) / 67108864 % 2 = 0 := by omega
  have h13 : inB (n % 4294967296) 0 4294967295 = true := by
    have : 0 ≤ n % 4294967296 ∧ n % 4294967296 ≤ 4294967295 := by omega
    simp [inB, this]
  unfold decV
  simp only [List.length_cons, List.getD_cons_zero, List.getD_cons_succ]
  rw [if_neg (by omega), if_neg (by simp [h11, h6]), if_neg h12, if_neg (by simp [h5]), if_neg (by omega), if_neg (by simp [h13]), h1, h2, h3, h4, h10, if_pos hc]

end Go.Proofs.Ytmfmnbldngfelaa.I
