/- What Decode answers, and the law InsnBack. -/
import Derived.Test.YtmfmnbldngfelaaIEq
set_option linter.unusedVariables false
set_option linter.unusedSimpArgs false
namespace Go.Proofs.Ytmfmnbldngfelaa.I
open Go Go.Proofs.Ytmfmnbldngfelaa.Abs Go.Proofs

theorem wrap8 {x : Int} (h0 : 0 ≤ x) (h1 : x ≤ 255) : IntKind.wrap .i8 x = if x ≤ 127 then x else x - 256 := by
  unfold IntKind.wrap
  simp only [IntKind.bits, IntKind.signed]
  simp
  split <;> split <;> omega

theorem wrap32 {x : Int} (h0 : 0 ≤ x) (h1 : x ≤ 4294967295) : IntKind.wrap .i32 x = if x ≤ 2147483647 then x else x - 4294967296 := by
  unfold IntKind.wrap
  simp only [IntKind.bits, IntKind.signed]
  simp
  split <;> split <;> omega

theorem bit26_0 (m : Nat) (h : m < 9223372036854775808) : (bits .and .i64 (m : Int) 67108864 = 0) ↔ ((m : Int) / 67108864 % 2 = 0) := by
  rw [and_bit26 m h]
  have key : ∀ k : Nat, 0 < k → (((m / k % 2 * k : Nat) : Int) = 0 ↔ (m : Int) / (k : Int) % 2 = 0) := by
    intro k hk
    have e : (m : Int) / (k : Int) % 2 = ((m / k % 2 : Nat) : Int) := by simp
    rw [e]
    generalize m / k % 2 = q
    constructor
    · intro h
      have h' : q * k = 0 := by exact_mod_cast h
      rcases Nat.mul_eq_zero.1 h' with h | h <;> omega
    · intro h
      have : q = 0 := by omega
      subst this
      simp
  have := key 67108864 (by omega)
  rw [show ((67108864 : Nat) : Int) = 67108864 from rfl] at this
  exact this

theorem mid_0 (m : Nat) (h : m < 9223372036854775808) : (bits .and .i64 (m : Int) 16128 = 0) ↔ ((m : Int) / 256 % 64 = 0) := by
  rw [and_mid m h]
  omega

/-- What a word says. -/
def wOp (w : Int) : Int := w / 134217728
def wD (w : Int) : Int := w / 4194304 % 16
def wA (w : Int) : Int := w / 262144 % 16
def wB (w : Int) : Int := w / 16384 % 16
def wN (w : Int) : Int := if w % 256 ≤ 127 then w % 256 else w % 256 - 256
def lN (x : Int) : Int := if x ≤ 2147483647 then x else x - 4294967296

theorem fd27 (m : Int) : Int.fdiv m (2 ^ 27) = wOp m := by
  rw [show (2 : Int) ^ 27 = 134217728 by decide, Int.fdiv_eq_ediv_of_nonneg _ (by omega), wOp]
theorem fd22 (m : Int) : Int.fdiv m (2 ^ 22) % 16 = wD m := by
  rw [show (2 : Int) ^ 22 = 4194304 by decide, Int.fdiv_eq_ediv_of_nonneg _ (by omega), wD]
theorem fd18 (m : Int) : Int.fdiv m (2 ^ 18) % 16 = wA m := by
  rw [show (2 : Int) ^ 18 = 262144 by decide, Int.fdiv_eq_ediv_of_nonneg _ (by omega), wA]
theorem fd14 (m : Int) : Int.fdiv m (2 ^ 14) % 16 = wB m := by
  rw [show (2 : Int) ^ 14 = 16384 by decide, Int.fdiv_eq_ediv_of_nonneg _ (by omega), wB]

/-- What Decode makes of a list: an error, or the fields and the number of words. -/
def decV (l : List Int) : (Int × Int × Int × Int × Int) × Int × Int :=
  if l.length = 0 then ((0, 0, 0, 0, 0), 0, 12)
  else if (inB (l.getD 0 0) 0 4294967295 = false ∨ l.getD 0 0 / 256 % 64 ≠ 0) then ((0, 0, 0, 0, 0), 0, 3)
  else if l.getD 0 0 / 67108864 % 2 = 0 then
    if chkV (wOp (l.getD 0 0)) (wD (l.getD 0 0)) (wA (l.getD 0 0)) (wB (l.getD 0 0)) (wN (l.getD 0 0)) = 0 then ((wOp (l.getD 0 0), wD (l.getD 0 0), wA (l.getD 0 0), wB (l.getD 0 0), wN (l.getD 0 0)), 1, 0)
    else ((0, 0, 0, 0, 0), 0, 3)
  else if l.getD 0 0 % 256 ≠ 0 then ((0, 0, 0, 0, 0), 0, 3)
  else if l.length < 2 then ((0, 0, 0, 0, 0), 0, 12)
  else if inB (l.getD 1 0) 0 4294967295 = false then ((0, 0, 0, 0, 0), 0, 3)
  else if chkV (wOp (l.getD 0 0)) (wD (l.getD 0 0)) (wA (l.getD 0 0)) (wB (l.getD 0 0)) (lN (l.getD 1 0)) = 0 then ((wOp (l.getD 0 0), wD (l.getD 0 0), wA (l.getD 0 0), wB (l.getD 0 0), lN (l.getD 1 0)), 2, 0)
  else ((0, 0, 0, 0, 0), 0, 3)

def decR (v : (Int × Int × Int × Int × Int) × Int × Int) : AV :=
  .tup [.agg [.int .i64 v.1.1, .int .i64 v.1.2.1, .int .i64 v.1.2.2.1, .int .i64 v.1.2.2.2.1, .int .i64 v.1.2.2.2.2], .int .i64 v.2.1, .int .i64 v.2.2]

theorem decode_ok {h : Heap} {s : SA} {n : Nat} {l : List Int} (H : IS h s n l) : E 27 [.sl s n] h = some (decR (decV l), h) := by
  rw [e27]
  have hl := H.1
  unfold decV
  by_cases n0 : n = 0
  · have : (n : Int) = 0 := by omega
    have l0 : l.length = 0 := by omega
    rw [letK_eq, if_pos (by simp [this]), if_pos l0]
    rfl
  · have i0 : ¬ (n : Int) = 0 := by omega
    have l0 : ¬ l.length = 0 := by omega
    obtain ⟨a, ha, la⟩ := is_ld H 0 (by omega)
    generalize l.getD 0 0 = w at la ⊢
    rw [letK_eq, if_neg (by simp [n0]), if_neg l0, chk_of (by intro _; omega), ha, atP_of, show Int.toNat 0 * 1 = 0 from rfl, la, gI_of, in_ok]
    rw [Option.bind_some, gB_of, letK_eq, letK_eq, letK_eq]
    cases hw : inB w 0 4294967295 with
    | false => rw [if_pos (by simp), if_pos (by simp)]; rfl
    | true =>
      obtain ⟨w0, w1⟩ : 0 ≤ w ∧ w ≤ 4294967295 := by simpa [inB] using hw
      obtain ⟨m, rfl⟩ := Int.eq_ofNat_of_zero_le w0
      have B26 := bit26_0 m (by omega)
      have BM := mid_0 m (by omega)
      by_cases c1 : (m : Int) / 256 % 64 = 0
      · have fN : IntKind.wrap .i64 (IntKind.wrap .i8 ((m : Int) % 256)) = wN m := by
          rw [wrap8 (by omega) (by omega)]
          unfold wN
          rw [wrap64 (by split <;> omega) (by split <;> omega)]
        rw [if_neg (by simp [BM.2 c1]), if_neg (by simp [c1])]
        iterate 12 rw [letK_eq]
        rw [and15, and15, and15, and255, fd27, fd22, fd18, fd14, fN]
        by_cases c2 : (m : Int) / 67108864 % 2 = 0
        · rw [if_neg (by simp [B26.2 c2]), if_pos c2, J27x32xeq, check_ok, Option.bind_some, gI_of, letK_eq]
          by_cases c3 : chkV (wOp m) (wD m) (wA m) (wB m) (wN m) = 0
          · rw [if_neg (by simp [c3]), if_pos c3]; rfl
          · rw [if_pos (by simp [c3]), if_neg c3]; rfl
        · have c2' := fun h => c2 (B26.1 h)
          rw [if_pos (by simp; exact c2'), if_neg c2, letK_eq, letK_eq]
          by_cases c4 : (m : Int) % 256 = 0
          · rw [if_neg (by simp [c4]), if_neg (by simp [c4]), letK_eq]
            by_cases c5 : n < 2
            · rw [if_pos (by simp; omega), if_pos (by omega)]; rfl
            · obtain ⟨a', ha', la'⟩ := is_ld H 1 (by omega)
              rw [ha] at ha'
              cases ha'
              generalize l.getD 1 0 = x at la' ⊢
              rw [if_neg (by simp; omega), if_neg (by omega), chk_of (by intro _; omega), atP_of, show Int.toNat 1 * 1 = 1 from rfl, la', gI_of, in_ok, Option.bind_some, gB_of]
              cases hx : inB x 0 4294967295 with
              | false => rw [if_pos (by simp), if_pos (by simp)]; rfl
              | true =>
                obtain ⟨x0, x1⟩ : 0 ≤ x ∧ x ≤ 4294967295 := by simpa [inB] using hx
                have fL : IntKind.wrap .i64 (IntKind.wrap .i32 x) = lN x := by
                  rw [wrap32 x0 x1]
                  unfold lN
                  rw [wrap64 (by split <;> omega) (by split <;> omega)]
                rw [if_neg (by simp), if_neg (by simp), chk_of (by intro _; omega), atP_of]
                try rw [show Int.toNat 1 * 1 = 1 from rfl]
                rw [la', gI_of, letK_eq, letK_eq, fL, J27x32xeq, check_ok, Option.bind_some, gI_of, letK_eq]
                by_cases c3 : chkV (wOp m) (wD m) (wA m) (wB m) (lN x) = 0
                · rw [if_neg (by simp [c3]), if_pos c3]; rfl
                · rw [if_pos (by simp [c3]), if_neg c3]; rfl
          · rw [if_pos (by simp [c4]), if_pos c4]; rfl
      · have c1' := fun h => c1 (BM.1 h)
        rw [if_pos (by simp; exact c1'), if_pos (.inr c1)]; rfl

theorem take2 (l : List Int) (hh : 2 ≤ l.length) : l.take 2 = [l.getD 0 0, l.getD 1 0] := by
  match l, hh with
  | [], h => simp at h
  | [x], h => simp at h
  | x :: y :: t, _ => simp

/-- What Decode's answer tells of the words. -/
theorem dec_back (l : List Int) : (decV l).2.2 ≠ 0 ∧ (decV l).2.1 = 0 ∨
    ∃ op d a b n, chkV op d a b n = 0 ∧ ((decV l = ((op, d, a, b, n), 1, 0) ∧ 1 ≤ l.length ∧ l.take 1 = encL op d a b n) ∨
      (decV l = ((op, d, a, b, n), 2, 0) ∧ 2 ≤ l.length ∧ l.take 2 = [wordV op d a b + 67108864, n % 4294967296])) := by
  unfold decV
  split
  · left; simp
  · rename_i h0
    split
    · left; simp
    · rename_i h1
      simp only [not_or, Bool.not_eq_false, ne_eq, Decidable.not_not] at h1
      obtain ⟨h1, h2⟩ := h1
      have hw : 0 ≤ l.getD 0 0 ∧ l.getD 0 0 ≤ 4294967295 := by simpa only [inB, Bool.and_eq_true, decide_eq_true_eq] using h1
      have t1 : l.take 1 = [l.getD 0 0] := by
        cases l with
        | nil => simp at h0
        | cons x t => simp
      split
      · rename_i h3
        split
        · rename_i h4
          right
          refine ⟨_, _, _, _, _, h4, .inl ⟨rfl, by omega, ?_⟩⟩
          rw [t1]
          generalize l.getD 0 0 = w at *
          have : inB (wN w) (-128) 127 = true := by
            have hb : -128 ≤ wN w ∧ wN w ≤ 127 := by unfold wN; split <;> omega
            simp [inB, hb]
          rw [encL, if_pos this]
          have e1 : wN w % 256 = w % 256 := by unfold wN; split <;> omega
          have e2 : wordV (wOp w) (wD w) (wA w) (wB w) + w % 256 = w := by
            unfold wordV wOp wD wA wB
            omega
          rw [e1, e2]
        · left; simp
      · rename_i h3
        split
        · left; simp
        · rename_i h5
          split
          · left; simp
          · rename_i h6
            split
            · left; simp
            · rename_i h7
              split
              · rename_i h4
                right
                have t2 := take2 l (by omega)
                refine ⟨_, _, _, _, _, h4, .inr ⟨rfl, by omega, ?_⟩⟩
                rw [t2]
                have hx : 0 ≤ l.getD 1 0 ∧ l.getD 1 0 ≤ 4294967295 := by simpa only [inB, Bool.not_eq_false, Bool.and_eq_true, decide_eq_true_eq] using h7
                generalize l.getD 0 0 = w at *
                generalize l.getD 1 0 = x at *
                have e1 : lN x % 4294967296 = x := by unfold lN; split <;> omega
                have e2 : wordV (wOp w) (wD w) (wA w) (wB w) + 67108864 = w := by
                  unfold wordV wOp wD wA wB
                  omega
                rw [e1, e2]
              · left; simp

end Go.Proofs.Ytmfmnbldngfelaa.I
