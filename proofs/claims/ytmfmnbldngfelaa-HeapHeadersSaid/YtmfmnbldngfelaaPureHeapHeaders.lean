/- A header made of a tag and a size is split into this tag and this size again, and what Split accepts is the header of its parts; for all integers (the law reduces tag and size first). -/
import Derived.Test.YtmfmnbldngfelaaPHeapHeadersx1
import Derived.Test.YtmfmnbldngfelaaNums
namespace Go.Proofs.Ytmfmnbldngfelaa.Pure
open Go.RowKit Go.Proofs.Ytmfmnbldngfelaa.PHeapHeaders Go.Proofs.YtmfmnbldngfelaaW.PrintWords Go.Proofs.YtmfmnbldngfelaaW.PrintLast
open Go.Proofs.Ytmfmnbldngfelaa.Nums

theorem rest_some (a m : Int) (hm : 0 < m) (hm2 : m ≤ 9223372036854775807) :
    ∃ r, provenanceref4_Rest.f a m = some r ∧ 0 ≤ r ∧ r < m := by
  unfold provenanceref4_Rest.f provenanceref4_modulo.f
  have hl := Int.tmod_lt_of_pos a hm
  have hr : -m < a.tmod m := by have := Int.lt_tmod_of_pos a hm; omega
  rw [if_neg (by omega)]
  by_cases c : Int.tmod a m < 0
  · rw [if_pos c]
    refine ⟨wrap64 (Int.tmod a m + m), rfl, ?_, ?_⟩ <;> unfold wrap64 <;> omega
  · rw [if_neg c]
    exact ⟨_, rfl, by omega, hl⟩

theorem split_is (h : Int) : heap_Split.f h = some (h / 2 / 4096, h / 2 % 4096, decide (h % 2 = 1 ∧ 0 ≤ h / 2 / 4096 ∧ h / 2 / 4096 ≤ 258)) := by
  unfold heap_Split.f
  rw [and_1, and_4095]
  by_cases c : h % 2 = 1
  · rw [if_pos c]
    unfold heap_in.f
    by_cases d : h / 2 / 4096 ≥ 0
    · rw [if_pos d]
      simp only [Option.bind_some, c, true_and]
      congr 3
      apply decide_eq_decide.mpr
      constructor
      · intro x; exact ⟨d, x⟩
      · intro x; exact x.2
    · rw [if_neg d]
      simp only [Option.bind_some, c, true_and]
      congr 3
      symm
      simp only [decide_eq_false_iff_not]
      omega
  · rw [if_neg c]
    congr 3
    symm
    simp only [decide_eq_false_iff_not]
    exact fun x => c x.1

theorem header_is (t s : Int) (h0 : 0 ≤ t) (h1 : t ≤ 258) (h2 : 0 ≤ s) (h3 : s < 4096) : heap_Header.f t s = some ((t * 4096 + s) * 2 + 1) := by
  unfold heap_Header.f wrap64
  congr 1
  omega

/-- YOURS: ∀ (a0 : Int) (a1 : Int) (a2 : Int), (Lit.int .i64 a0).wf = true → (Lit.int .i64 a1).wf = true → (Lit.int .i64 a2).wf = true → provenancekeep4_HeapHeaders.f a0 a1 a2 = some true
What it reaches (each with k first where it has rounds; `.mono`: more rounds tell the same; `.l0`, ..: its loops, with `.mono_l`): provenanceref4_modulo.f, provenanceref4_Rest.f, heap_in.f, heap_Split.f, heap_Header.f, provenanceref4_Small.f, provenancekeep4_HeapHeaders.f -/
theorem HeapHeaders : provenancekeep4_HeapHeaders.Pure := by
  intro a0 a1 a2 w0 w1 w2
  simp only [Lit.wf, IntKind.min, IntKind.max, IntKind.signed, IntKind.bits, Bool.and_eq_true, decide_eq_true_eq, if_true] at w0 w1 w2
  obtain ⟨t, ht, t0, t1⟩ := rest_some a0 259 (by omega) (by omega)
  obtain ⟨s, hs, s0, s1⟩ := rest_some a1 4096 (by omega) (by omega)
  unfold provenancekeep4_HeapHeaders.f
  rw [ht, hs]
  simp only [Option.bind_some]
  rw [header_is t s t0 (by omega) s0 s1]
  simp only [Option.bind_some, split_is]
  have e1 : ((t * 4096 + s) * 2 + 1) / 2 / 4096 = t := by omega
  have e2 : ((t * 4096 + s) * 2 + 1) / 2 % 4096 = s := by omega
  rw [e1, e2]
  obtain ⟨n, hn⟩ : ∃ n, provenanceref4_Small.f a2 = some n := ⟨_, rfl⟩
  rw [hn]
  simp only [Option.bind_some]
  rw [if_pos (by simp only [decide_eq_true_eq]; omega), if_pos True.intro, if_pos True.intro]
  by_cases c : n % 2 = 1 ∧ 0 ≤ n / 2 / 4096 ∧ n / 2 / 4096 ≤ 258
  · rw [if_pos (by simpa using c), if_pos (by omega), if_pos (by omega), header_is _ _ (by omega) (by omega) (by omega) (by omega)]
    simp only [Option.bind_some]
    congr 1
    rw [beq_iff_eq]
    omega
  · rw [if_neg (by simpa using c)]

end Go.Proofs.Ytmfmnbldngfelaa.Pure
