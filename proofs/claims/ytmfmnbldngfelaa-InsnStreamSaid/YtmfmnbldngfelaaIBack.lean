/- The law InsnBack. -/
import Derived.Test.YtmfmnbldngfelaaIDec
set_option linter.unusedVariables false
set_option linter.unusedSimpArgs false
namespace Go.Proofs.Ytmfmnbldngfelaa.I
open Go Go.Proofs.Ytmfmnbldngfelaa.Abs Go.Proofs

theorem is_take {h : Heap} {s : SA} {n : Nat} {l : List Int} (H : IS h s n l) (k : Nat) (hk : k ≤ n) : IS h s k (l.take k) := by
  obtain ⟨hl, H | ⟨b, v, o, c, m, rfl, hb, hc⟩⟩ := H
  · have : k = 0 := by omega
    subst this
    exact ⟨by simp, .inl rfl⟩
  · refine ⟨by rw [List.length_take]; omega, .inr ⟨b, v, o, c, m, rfl, hb, fun i hi => ?_⟩⟩
    rw [hc i (by omega)]
    simp [List.getElem?_take, hi]

def longL (op d a b n : Int) : List Int := [wordV op d a b + 67108864, n % 4294967296]

theorem insnBack_ok {h : Heap} {s : SA} {n : Nat} {l : List Int} (H : IS h s n l) : ∃ h', E 9 [.sl s n] h = some (.bool true, h') := by
  have hl := H.1
  rw [e9, decode_ok H, Option.bind_some, decR, gT3_of]
  simp only [List.getD_cons_zero, List.getD_cons_succ]
  rw [gA_of, chk_of (by intro _; rfl)]
  simp only [List.getElem?_cons_zero, List.getElem?_cons_succ]
  rw [gI_of, gI_of, gI_of, gI_of, gI_of, gI_of, gI_of, letK_eq]
  rcases dec_back l with ⟨h1, h2⟩ | ⟨op, d, a, b, N, hc, hh⟩
  · obtain ⟨h', he, _⟩ := fact_ok h
    refine ⟨h', ?_⟩
    rw [if_pos (by simp; exact h1), he, Option.bind_some, gB_of, letK_eq, letK_eq, h2]
    rfl
  · have key : ∃ k : Nat, decV l = ((op, d, a, b, N), (k : Int), 0) ∧ k ≤ n ∧ k ≤ 2 ∧ (l.take k = encL op d a b N ∨ l.take k = longL op d a b N) := by
      rcases hh with ⟨e, k1, t⟩ | ⟨e, k1, t⟩
      · exact ⟨1, e, by omega, by omega, .inl t⟩
      · exact ⟨2, e, by omega, by omega, .inr t⟩
    obtain ⟨k, e, kn, k2, hk⟩ := key
    rw [e, if_neg (by simp)]
    dsimp only
    rw [encode_ok h hc, Option.bind_some, gT2_of]
    simp only [List.getD_cons_zero, List.getD_cons_succ]
    rw [gL_of, gI_of, long_ok _ hc, Option.bind_some, gT2_of]
    simp only [List.getD_cons_zero, List.getD_cons_succ]
    rw [gL_of, gI_of]
    obtain ⟨h', he, hh'⟩ := fact_ok ((h ++ [.cells (encW op d a b N) (.grow 1) 0]) ++ [.cells (longW op d a b N) (.grow 1) 0])
    rw [he, Option.bind_some, gB_of]
    refine ⟨h', ?_⟩
    have kn' : (k : Int) ≤ (n : Int) := by omega
    iterate 6 rw [letK_eq]
    rw [chkC_of (by intro _; exact ⟨by omega, .inl kn'⟩), letK_eq]
    have Hk : IS h' s k (l.take k) := by
      rw [hh']
      exact is_app (is_app (is_app (is_take H k kn)))
    have H0 : IS h' (.pos ⟨h.length, 0, 0⟩) (encW op d a b N).length (encL op d a b N) := by
      rw [hh', encW_eq, List.length_map]
      exact is_app (is_app (is_new h _))
    have H1 : IS h' (.pos ⟨(h ++ [Blk.cells (encW op d a b N) (.grow 1) 0]).length, 0, 0⟩) 2 (longL op d a b N) := by
      rw [hh', show longW op d a b N = (longL op d a b N).map (.int .i64) from rfl]
      exact is_app (is_new _ (longL op d a b N))
    rw [Int.toNat_natCast, equal_ok Hk H0 (by omega)]
    simp only [decide_true, if_true, kn', callO_true]
    rw [Option.bind_some, gB_of, chkC_of (by intro _; exact ⟨by omega, .inl kn'⟩), letK_eq, equal_ok Hk H1 (by omega)]
    by_cases x : l.take k = encL op d a b N
    · simp [x]
    · have y := hk.resolve_left x
      simp [y]

end Go.Proofs.Ytmfmnbldngfelaa.I
