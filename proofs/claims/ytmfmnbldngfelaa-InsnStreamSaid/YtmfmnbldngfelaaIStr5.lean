/- InsnStream: one instruction written. -/
import Derived.Test.YtmfmnbldngfelaaIStr4
set_option linter.unusedVariables false
set_option linter.unusedSimpArgs false
namespace Go.Proofs.Ytmfmnbldngfelaa.I
open Go Go.Proofs.Ytmfmnbldngfelaa.Abs Go.Proofs

theorem wi_round {h0 h : Heap} {s1 s5 s6 s7 s24 : SA} {n1 n5 n6 n7 n24 : Nat} {os : List Ent} (W : WI h0 h s5 n5 s6 n6 s7 n7 os) (hn : n6 < 40) (e : Ent) (he : e.ok) (i25 i26 : Int) (Q : Kont (AV × Heap)) :
    ∃ s5' n5' s6' n6' s7' n7' h', J8x24 mk0 E s1 n1 s5 n5 s6 n6 s7 n7 e.op e.d e.a e.b e.n (.fn (encF e.long) [] []) s24 n24 i25 i26 h Q = J8x28 mk0 E s1 n1 s5' n5' s6' n6' s7' n7' s24 n24 i25 i26 h' Q ∧
      WI h0 h' s5' n5' s6' n6' s7' n7' (os ++ [e]) ∧ n6' = n6 + 1 := by
  have hw : 1 ≤ e.words.length ∧ e.words.length ≤ 2 := by
    rcases e.words_cases with ⟨_, w, _⟩ | ⟨w, _⟩ <;> rw [w] <;> simp [longL]
  have hcall := enc_call_ok e he h
  rw [J8x24xeq, fnK_fn]
  simp only [List.nil_append, List.append_nil]
  rw [show [AV.agg [.int .i64 e.op, .int .i64 e.d, .int .i64 e.a, .int .i64 e.b, .int .i64 e.n]] = [AV.agg e.cells] from rfl, hcall, Option.bind_some, gT2_of]
  simp only [List.getD_cons_zero, List.getD_cons_succ]
  rw [gL_of, gI_of, letK_eq, if_pos (by simp), newK_eq, newK_eq]
  have q5 := W.g5
  have q6 := W.g6
  have q7 := W.g7
  -- the three new blocks
  generalize hB0 : Blk.cells (e.words.map (.int .i64)) (.grow 1) 0 = B0
  generalize hB1 : Blk.cells [AV.int .i64 e.op, .int .i64 e.d, .int .i64 e.a, .int .i64 e.b, .int .i64 e.n] (.grow 5) 0 = B1
  generalize hB2 : Blk.cells [AV.int .i64 (e.words.length : Int)] (.grow 1) 0 = B2
  have k0 : (h ++ [B0] ++ [B1] ++ [B2])[h.length]? = some B0 := by simp
  have k1 : (h ++ [B0] ++ [B1] ++ [B2])[(h ++ [B0]).length]? = some B1 := by simp
  have k2 : (h ++ [B0] ++ [B1] ++ [B2])[(h ++ [B0] ++ [B1]).length]? = some B2 := by simp
  have L1 : (h ++ [B0]).length = h.length + 1 := by simp
  have L2 : (h ++ [B0] ++ [B1]).length = h.length + 2 := by simp
  have L3 : (h ++ [B0] ++ [B1] ++ [B2]).length = h.length + 3 := by simp
  have keep3 : ∀ (b : Nat) (x : Blk), h[b]? = some x → (h ++ [B0] ++ [B1] ++ [B2])[b]? = some x := fun b x hx => app_old (app_old (app_old hx))
  have p5 : GS (h ++ [B0] ++ [B1] ++ [B2]) s5 n5 1 _ := gs_app (gs_app (gs_app q5))
  have p6 : GS (h ++ [B0] ++ [B1] ++ [B2]) s6 n6 5 _ := gs_app (gs_app (gs_app q6))
  have p7 : GS (h ++ [B0] ++ [B1] ++ [B2]) s7 n7 1 _ := gs_app (gs_app (gs_app q7))
  generalize h ++ [B0] ++ [B1] ++ [B2] = h3 at k0 k1 k2 L3 keep3 p5 p6 p7 ⊢
  have l6 := W.l6
  have l7 := W.l7
  have l5 := W.l5
  have out5 : ∀ b, inS s5 b → b < h.length := fun b hb => gs_lt q5 hb
  have out6 : ∀ b, inS s6 b → b < h.length := fun b hb => gs_lt q6 hb
  have out7 : ∀ b, inS s7 b → b < h.length := fun b hb => gs_lt q7 hb
  rw [Nat.mul_one, ldSl_at (hB0 ▸ k0) (by simp) (flat_ints _), Option.bind_some]
  obtain ⟨t5, h4, e5, w5, le5, kp5, nw5⟩ := apnd_GS (m := e.words.length) (bytes := 8) (ys := e.words.map (AV.int .i64)) p5 (by omega) (by omega) (by simp) (flat_ints _) (by rw [← List.map_append]; exact flat_ints _) (by omega)
  rw [e5, Option.bind_some, gL_of]
  dsimp only
  have j1 : h4[(h ++ [B0]).length]? = some B1 := kp5 _ _ k1 fun hi => by have := out5 _ hi; omega
  have j2 : h4[(h ++ [B0] ++ [B1]).length]? = some B2 := kp5 _ _ k2 fun hi => by have := out5 _ hi; omega
  rw [chkC_of (j1.trans k1.symm), chkC_of (j2.trans k2.symm), show ldSl h4 (.pos ⟨(h ++ [B0]).length, 0, 0⟩) (1 * 5) = some e.cells from ldSl_at (hB1 ▸ j1) rfl rfl, Option.bind_some]
  have r6 := gs_keep p6 kp5 fun b hb h' => W.d56 b h' hb
  have r7 := gs_keep p7 kp5 fun b hb h' => W.d57 b h' hb
  obtain ⟨t6, h5, e6, w6, le6, kp6, nw6⟩ := apnd_GS (m := 1) (bytes := 40) (ys := e.cells) r6 (by omega) (by omega) rfl rfl (by have := flat_cells (os ++ [e]); simpa using this) (by omega)
  rw [e6, Option.bind_some, gL_of]
  dsimp only
  have i2 : h5[(h ++ [B0] ++ [B1]).length]? = some B2 := kp6 _ _ j2 fun hi => by have := out6 _ hi; omega
  rw [chkC_of (i2.trans j2.symm), show ldSl h5 (.pos ⟨(h ++ [B0] ++ [B1]).length, 0, 0⟩) (1 * 1) = some [AV.int .i64 (e.words.length : Int)] from ldSl_at (hB2 ▸ i2) rfl rfl, Option.bind_some]
  have u7 := gs_keep r7 kp6 fun b hb h' => W.d67 b h' hb
  obtain ⟨t7, h6, e7, w7, le7, kp7, nw7⟩ := apnd_GS (m := 1) (bytes := 8) (ys := [AV.int .i64 (e.words.length : Int)]) u7 (by omega) (by omega) rfl rfl (by have := flat_ints (os.map Ent.size ++ [(e.words.length : Int)]); simpa using this) (by omega)
  rw [e7, Option.bind_some, gL_of]
  have f5 : ∀ b, inS t5 b → inS s5 b ∨ h3.length ≤ b := nw5
  have f6 : ∀ b, inS t6 b → inS s6 b ∨ h4.length ≤ b := nw6
  have f7 : ∀ b, inS t7 b → inS s7 b ∨ h5.length ≤ b := nw7
  have lt5 : ∀ b, inS t5 b → b < h4.length := fun b hb => gs_lt w5 hb
  have lt6 : ∀ b, inS t6 b → b < h5.length := fun b hb => gs_lt w6 hb
  have d56 : ∀ b, inS t5 b → ¬ inS t6 b := by
    intro b hb hc
    have := lt5 b hb
    rcases f5 b hb with x | x <;> rcases f6 b hc with y | y
    · exact W.d56 b x y
    · omega
    · have := out6 b y; omega
    · omega
  have d57 : ∀ b, inS t5 b → ¬ inS t7 b := by
    intro b hb hc
    have := lt5 b hb
    rcases f5 b hb with x | x <;> rcases f7 b hc with y | y
    · exact W.d57 b x y
    · omega
    · have := out7 b y; omega
    · omega
  have d67 : ∀ b, inS t6 b → ¬ inS t7 b := by
    intro b hb hc
    have := lt6 b hb
    rcases f6 b hb with x | x <;> rcases f7 b hc with y | y
    · exact W.d67 b x y
    · omega
    · have := out7 b y; omega
    · omega
  have z5 : GS h6 t5 (n5 + e.words.length) 1 _ := gs_keep (gs_keep w5 kp6 fun b hb h' => by
    rcases f5 b hb with x | x
    · exact W.d56 b x h'
    · have := out6 b h'; omega) kp7 fun b hb h' => by
    rcases f5 b hb with x | x
    · exact W.d57 b x h'
    · have := out7 b h'; omega
  have z6 : GS h6 t6 (n6 + 1) 5 _ := gs_keep w6 kp7 fun b hb h' => by
    rcases f6 b hb with x | x
    · exact W.d67 b x h'
    · have := out7 b h'; omega
  have le0 := W.le
  refine ⟨t5, _, t6, _, t7, _, h6, rfl, ⟨?_, ?_, ?_, by simp [l6], by omega, by omega, ?_, ?_, by omega, ?_, ?_, ?_, d56, d57, d67⟩, rfl⟩
  · simpa using z5
  · simpa using z6
  · simpa [Ent.size] using w7
  · intro x hx
    rcases List.mem_append.1 hx with hx | hx
    · exact W.ok x hx
    · obtain rfl : x = e := by simpa using hx
      exact he
  · intro b x hx
    have hb := (List.getElem?_eq_some_iff.1 hx).1
    refine kp7 _ _ (kp6 _ _ (kp5 _ _ (keep3 _ _ (W.old b x hx)) ?_) ?_) ?_
    · intro hi; have := W.o5 b hi; omega
    · intro hi; have := W.o6 b hi; omega
    · intro hi; have := W.o7 b hi; omega
  · intro b hb
    rcases f5 b hb with x | x
    · exact W.o5 b x
    · omega
  · intro b hb
    rcases f6 b hb with x | x
    · exact W.o6 b x
    · omega
  · intro b hb
    rcases f7 b hb with x | x
    · exact W.o7 b x
    · omega

end Go.Proofs.Ytmfmnbldngfelaa.I
