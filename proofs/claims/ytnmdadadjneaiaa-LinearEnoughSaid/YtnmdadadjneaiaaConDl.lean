/- slices.Insert of one range: copy. -/
import Derived.Shelf.Spec.SlicesInsert
import Derived.Shelf.Spec.SlicesInsertGrow
import Derived.Test.YtnmdadadjneaiaaProg
import Derived.Test.YtnmdadadjneaiaaLibB
import Derived.KernelRfl
import Derived.Test.YtnmdadadjneaiaaLibD
set_option linter.unusedVariables false
set_option linter.unusedSimpArgs false
namespace Go.Proofs.Ytnmdadadjneaiaa.D
open Go Go.Proofs Go.Shelf Go.RowKit Go.Lib
theorem run_copy_wide {P : Program} (w : World) (dT sT ty elem : TypeId) (b o dLen dCap : Nat) (a : Addr) (sLen sCap k : Nat) (cs : List Value)
 (hu : P.underlying dT = some (.slice elem)) (hs : (P.info? elem).map (·.size) = some k) (hn : cs.length = Nat.min sLen dLen * k)
 (hsrc : ∀ j v, cs[j]? = some v → w.cell? (a.add j) = some v) (hc : ∀ j, j < cs.length → (w.cell? ⟨b, o + j, none⟩).isSome = true) (hf : ∀ j, j < cs.length → w.frozen? ⟨b, o + j, none⟩ = false) (h1 : ∀ v ∈ cs, v.oneCell' = true) :
 (Builtin.copy_ #[dT, sT] ty #[.slice (some ⟨b, o, none⟩) dLen dCap, .slice (some a) sLen sCap]).run P w = .ok (goInt (Nat.min sLen dLen)) (w.setCells b o cs) := by
 have hl := run_loadCells_list (P := P) w a cs hsrc
 have hst := run_storeCells_cells (P := P) b o cs 0 w (by simpa using hc) (by simpa using hf) h1
 cases hq : P.info? elem with
 | none => simp [hq] at hs
 | some i =>
  have hi : i.size = k := by simpa [hq] using hs
  simp [Builtin.copy_, run_underlying hu, Builtin.lenOf, Builtin.firstCells, sizeOf, typeInfo, hq, hi, ← hn, hl, hst]
theorem sz33 : (Try.prog.info? 33).map (·.size) = some 4 := by kernel_rfl
theorem sizeT33 : Abs.sizeOfT Try.prog 33 = some 4 := by kernel_rfl
theorem bytesT33 : Abs.bytesOfT Try.prog 33 = some 32 := by kernel_rfl
theorem zeroT33 : Abs.zeroOf Try.prog 33 = some [.int .i64 0, .int .i64 0, .int .i64 0, .bool false] := by kernel_rfl
end Go.Proofs.Ytnmdadadjneaiaa.D
/- slices.Insert of one range: ahead of the end, with room. -/
set_option linter.unusedVariables false
set_option linter.unusedSimpArgs false
namespace Go.Proofs.Ytnmdadadjneaiaa.D
open Go Go.Proofs Go.Shelf Go.RowKit Go.Lib
set_option maxHeartbeats 4000000 in
set_option maxRecDepth 100000 in
theorem rng_shift (b off n c i vb voff vc : Nat) (cs vs : List Value) (w : World) (hi : i < n) (hroom : n + 1 ≤ c) (hnm : n + 1 ≤ 4611686018427387904) (hvb : vb ≠ b)
 (hcl : cs.length = n * 4) (hvl : vs.length = 4)
 (hcs : ∀ j v, cs[j]? = some v → w.cell? ⟨b, off + j, none⟩ = some v) (hsp : ∀ j, j < (n + 1) * 4 → (w.cell? ⟨b, off + j, none⟩).isSome = true) (hfz : ∀ j, j < (n + 1) * 4 → w.frozen? ⟨b, off + j, none⟩ = false)
 (hvs : ∀ j v, vs[j]? = some v → w.cell? ⟨vb, voff + j, none⟩ = some v) (h1c : ∀ v ∈ cs, v.oneCell' = true) (h1v : ∀ v ∈ vs, v.oneCell' = true)
 (tA tB : TypeId) (kA kB : Nat) (hsa : w.shape? vb = some (tA, kA)) (hsb : w.shape? b = some (tB, kB)) (hkB : kB ≠ 0) (hfa : w.frozen? ⟨vb, voff, none⟩ = false) (hfe : w.frozen? ⟨vb, kA, none⟩ = false) :
 Calls Try.prog 76 #[.slice (some ⟨b, off, none⟩) n c, .int .i64 i, .slice (some ⟨vb, voff, none⟩) 1 vc] w fun e w' =>
  e = .returned (.slice (some ⟨b, off, none⟩) (n + 1) c) ∧ w' = (w.drew.setCells b (off + (i + 1) * 4) (cs.drop (i * 4))).setCells b (off + i * 4) vs := by
 have mixed : Try.prog.follows .mixedOrders = true := by kernel_rfl
 have t0 := Try.underlying0; have a0 := Try.isAgg0; have z0 := Try.sizeOf0; have v0 := Try.zeroValue0; have t3 := Try.underlying3; have a3 := Try.isAgg3; have z3 := Try.sizeOf3; have v3 := Try.zeroValue3; have t4 := Try.underlying4; have a4 := Try.isAgg4; have z4 := Try.sizeOf4; have v4 := Try.zeroValue4; have t27 := Try.underlying27; have a27 := Try.isAgg27; have z27 := Try.sizeOf27; have v27 := Try.zeroValue27; have a33 := Try.isAgg33; have z33 := Try.sizeOf33
 have u0 := run_underlying t0; have u3 := run_underlying t3; have u4 := run_underlying t4; have u27 := run_underlying t27
 have hz2 : ¬ ((i : Int) = (n : Int)) := by omega
 have apart : ∀ o lb cb, (callFunc 94 #[.slice (some ⟨vb, voff, none⟩) 1 vc, .slice (some ⟨b, o, none⟩) lb cb]).run Try.prog w = .ok (.value (.bool false)) w := by
  intro o lb cb
  rw [run_callFunc_extern Try.func94 (by kernel_rfl) (by kernel_rfl) (by kernel_rfl) (e := Extern.SlicesOverlaps.overlaps #[27, 27] #[4]) (by kernel_rfl)]
  rw [Lib.run_overlaps_apart w 27 4 33 t27 4 z33 ⟨vb, voff, none⟩ ⟨b, o, none⟩ 1 vc lb cb hvb tA tB kA kB hsa hsb hkB hfa hfe]
  rfl
 have rest : (cs.drop (i * 4)).length = (n - i) * 4 := by rw [List.length_drop, hcl]; omega
 generalize hW1 : w.drew.setCells b (off + (i + 1) * 4) (cs.drop (i * 4)) = W1
 have first : ∀ ty o dl dc o2 sl sc, o = off + (i + 1) * 4 → dl = n - i → o2 = off + i * 4 → sl = n + 1 - i → (Builtin.copy_ #[27, 27] ty #[.slice (some ⟨b, o, none⟩) dl dc, .slice (some ⟨b, o2, none⟩) sl sc]).run Try.prog w.drew = .ok (goInt ((n - i : Nat) : Int)) W1 := by
  rintro ty o dl dc o2 sl sc rfl rfl rfl rfl
  rw [← hW1]
  have mn : Nat.min (n + 1 - i) (n - i) = n - i := by simp only [Nat.min_def]; split <;> omega
  have e := run_copy_wide (P := Try.prog) w.drew 27 27 ty 33 b (off + (i + 1) * 4) (n - i) dc ⟨b, off + i * 4, none⟩ (n + 1 - i) sc 4 (cs.drop (i * 4)) t27 sz33 (by rw [mn, rest]) ?_ ?_ ?_ (fun v hv => h1c v (List.mem_of_mem_drop hv))
  · rw [e, mn]
  · intro j v hj
    rw [Addr.add_lit, Nat.add_assoc]
    exact hcs (i * 4 + j) v (by rwa [List.getElem?_drop] at hj)
  · intro j hj; rw [rest] at hj; rw [Nat.add_assoc]; exact hsp _ (by omega)
  · intro j hj; rw [rest] at hj; rw [Nat.add_assoc]; exact hfz _ (by omega)
 have there : ∀ k, k < (n + 1) * 4 → (W1.cell? ⟨b, off + k, none⟩).isSome = true := by
  intro k hk
  rw [← hW1]
  exact isSome_setCells b _ _ _ (fun j hj => by rw [rest] at hj; rw [Nat.add_assoc]; exact hsp _ (by omega)) _ (hsp k hk)
 have second : ∀ (W : World), (∀ x, W.cell? x = W1.cell? x) → (∀ x, W.frozen? x = W1.frozen? x) → ∀ ty o dl dc, o = off + i * 4 → 1 ≤ dl → (Builtin.copy_ #[27, 27] ty #[.slice (some ⟨b, o, none⟩) dl dc, .slice (some ⟨vb, voff, none⟩) 1 vc]).run Try.prog W = .ok (goInt ((1 : Nat) : Int)) (W.setCells b (off + i * 4) vs) := by
  rintro W hWc hWf ty o dl dc rfl hdl
  have mn : Nat.min 1 dl = 1 := by simp only [Nat.min_def]; split <;> omega
  have e := run_copy_wide (P := Try.prog) W 27 27 ty 33 b (off + i * 4) dl dc ⟨vb, voff, none⟩ 1 vc 4 vs t27 sz33 (by rw [hvl, mn]) ?_ ?_ ?_ h1v
  · rw [e, mn]
  · intro j v hj
    rw [Addr.add_lit, hWc, ← hW1, World.cell?_setCells_out b _ _ _ _ (fun h _ => absurd h hvb)]
    exact hvs j v hj
  · intro j hj; rw [hWc, Nat.add_assoc]; exact there _ (by omega)
  · intro j hj; rw [hWf, ← hW1, World.frozen?_setCells, Nat.add_assoc]; exact hfz _ (by omega)
 have hw1 : IntKind.i64.wrap ((i : Int) + 1) = (i : Int) + 1 := by rw [IntKind.wrap_i64]; omega
 have hb1 : (0 : Int) ≤ (i : Int) + 1 := by omega
 have hin : i ≤ n := by omega
 have htn : ((i : Int) + 1).toNat = i + 1 := by omega
 have hb2 : ¬ (c = i + 1) := by omega
 have hb3 : (i : Int) ≤ (n : Int) + 1 := by omega
 have hb5 : (i : Int) ≤ (n : Int) := by omega
 have hb4 : ¬ (c = i) := by omega
 go_enter Try.func76, Try.ntmps76
 go_wp2_with (simp only [apart])
 go_region_law_o (refine step_copy_runI rfl _ _ 27 27 rfl _ _ (by simp [Act.eval, Act.put]) (by simp [Act.eval, Act.put]) (first _ _ _ _ _ _ _ (by omega) (by omega) (by omega) (by omega)) ?_)
 go_wp2_with (simp only [second W1 (fun _ => rfl) (fun _ => rfl) 3 (off + i * 4) (n + 1 - i) (c - i) rfl (by omega)])
 go_ret
 exact ⟨rfl, rfl⟩
end Go.Proofs.Ytnmdadadjneaiaa.D
/- slices.Insert of one range: append at the end. -/
set_option linter.unusedVariables false
set_option linter.unusedSimpArgs false
namespace Go.Proofs.Ytnmdadadjneaiaa.D
open Go Go.Proofs Go.Shelf Go.RowKit Go.Lib
set_option maxHeartbeats 4000000 in
set_option maxRecDepth 100000 in
theorem rng_end (ao : Option Addr) (n c vb voff vc : Nat) (w w' : World) (r : Value)
 (hr : (Builtin.append_ #[27, 27] 27 #[.slice ao n c, .slice (some ⟨vb, voff, none⟩) 1 vc]).run Try.prog w = .ok r w') (hn : n ≤ 4611686018427387904) (hao : ao = none → c = 0 ∧ n = 0) :
 Calls Try.prog 76 #[.slice ao n c, .int .i64 n, .slice (some ⟨vb, voff, none⟩) 1 vc] w fun e w2 => e = .returned r ∧ w2 = w' := by
 have mixed : Try.prog.follows .mixedOrders = true := by kernel_rfl
 have t0 := Try.underlying0; have a0 := Try.isAgg0; have z0 := Try.sizeOf0; have v0 := Try.zeroValue0; have t3 := Try.underlying3; have a3 := Try.isAgg3; have z3 := Try.sizeOf3; have v3 := Try.zeroValue3; have t4 := Try.underlying4; have a4 := Try.isAgg4; have z4 := Try.sizeOf4; have v4 := Try.zeroValue4; have t27 := Try.underlying27; have a27 := Try.isAgg27; have z27 := Try.sizeOf27; have v27 := Try.zeroValue27; have a33 := Try.isAgg33; have z33 := Try.sizeOf33
 have u0 := run_underlying t0; have u3 := run_underlying t3; have u4 := run_underlying t4; have u27 := run_underlying t27
 cases ao with
 | none =>
  obtain ⟨rfl, rfl⟩ := hao rfl
  go_enter Try.func76, Try.ntmps76
  go_wp2_with (at_builtin; refine Lib.wpList_append_run _ rfl _ _ _ _ rfl _ _ rfl rfl _ _ hr ?_)
  go_ret
  exact ⟨rfl, rfl⟩
 | some a =>
  go_enter Try.func76, Try.ntmps76
  go_wp2_with (at_builtin; refine Lib.wpList_append_run _ rfl _ _ _ _ rfl _ _ rfl rfl _ _ hr ?_)
  all_goals
   go_ret
   exact ⟨rfl, rfl⟩
end Go.Proofs.Ytnmdadadjneaiaa.D
/- slices.Insert of one range: a new row. -/
set_option linter.unusedVariables false
set_option linter.unusedSimpArgs false
namespace Go.Proofs.Ytnmdadadjneaiaa.D
open Go Go.Proofs Go.Shelf Go.RowKit Go.Lib
set_option maxHeartbeats 4000000 in
set_option maxRecDepth 100000 in
theorem rng_grow (b off n c i vb voff vc : Nat) (cs vs : List Value) (w : World) (hi : i < n) (hnc : n ≤ c) (hroom : c < n + 1) (hbig : (n + 1) * 32 ≤ 140737488355328)
 (hcl : cs.length = n * 4) (hvl : vs.length = 4)
 (hcs : ∀ j v, cs[j]? = some v → w.cell? ⟨b, off + j, none⟩ = some v)
 (hvs : ∀ j v, vs[j]? = some v → w.cell? ⟨vb, voff + j, none⟩ = some v) (h1c : ∀ v ∈ cs, v.oneCell' = true) (h1v : ∀ v ∈ vs, v.oneCell' = true) :
 ∃ (G : Nat) (ROW : Array Value), n + 1 ≤ G ∧ ROW.size = G * 4 ∧ (∀ j, j < i * 4 → ROW[j]? = cs[j]?) ∧ Calls Try.prog 76 #[.slice (some ⟨b, off, none⟩) n c, .int .i64 i, .slice (some ⟨vb, voff, none⟩) 1 vc] w fun e w' =>
  e = .returned (.slice (some ⟨w.heap.size, 0, none⟩) (n + 1) G) ∧
  w' = (((w.alloc (.cells ROW 33)).drew.setCells w.heap.size (i * 4) vs).drew).setCells w.heap.size ((i + 1) * 4) (cs.drop (i * 4)) := by
 have mixed : Try.prog.follows .mixedOrders = true := by kernel_rfl
 have t0 := Try.underlying0; have a0 := Try.isAgg0; have z0 := Try.sizeOf0; have v0 := Try.zeroValue0; have t3 := Try.underlying3; have a3 := Try.isAgg3; have z3 := Try.sizeOf3; have v3 := Try.zeroValue3; have t4 := Try.underlying4; have a4 := Try.isAgg4; have z4 := Try.sizeOf4; have v4 := Try.zeroValue4; have t27 := Try.underlying27; have a27 := Try.isAgg27; have z27 := Try.sizeOf27; have v27 := Try.zeroValue27; have a33 := Try.isAgg33; have z33 := Try.sizeOf33
 have u0 := run_underlying t0; have u3 := run_underlying t3; have u4 := run_underlying t4; have u27 := run_underlying t27
 obtain ⟨i0, zv, hi0, hz0, hzr, hzl⟩ := Abs.zeroOf_sound (φ := fun _ => .unborn) zeroT33
 have hzs : i0.size = 4 := by have := sz33; rw [hi0] at this; simpa using this
 have hzb : i0.bytes = 32 := by
  have := bytesT33
  unfold Abs.bytesOfT at this
  rw [hi0] at this
  simpa using this
 have hzc : zv.cells.size = 4 := by have := hzr.1; simpa using this.symm
 have hz2 : ¬ ((i : Int) = (n : Int)) := by omega
 have hz3 : (c : Int) < (n : Int) + 1 := by omega
 have hbw : b < w.heap.size := block_lt_of_cell (hcs 0 _ (List.getElem?_eq_getElem (by omega)))
 have hvw : vb < w.heap.size := block_lt_of_cell (hvs 0 _ (List.getElem?_eq_getElem (by omega)))
 have hkk : (n : Int) + 1 - (i : Int) = ((n + 1 - i : Nat) : Int) := by omega
 have hik : i + (n + 1 - i) = n + 1 := by omega
 have hold : (Builtin.firstCells i0.size i (.slice (some ⟨b, off, none⟩) i c)).run Try.prog w.drew = .ok (cs.take (i * 4)).toArray w.drew := by
  rw [hzs]
  exact run_firstCells_some w.drew 4 i ⟨b, off, none⟩ i c (cs.take (i * 4)) (by rw [List.length_take]; omega) (fun j v hj => by
   rw [Addr.add_lit]
   rw [List.getElem?_take] at hj
   split at hj
   · exact hcs j v hj
   · cases hj)
 have hrz : ∀ ty, (Builtin.append_ #[27, 3] ty #[.slice (some ⟨b, off, none⟩) i c, .int .i64 ((n : Int) + 1 - (i : Int))]).run Try.prog w =
  .ok (.slice (some ⟨w.heap.size, 0, none⟩) (n + 1) (grownCap w (n + 1) c 33)) (w.drew.alloc (.cells ((cs.take (i * 4)).toArray ++ Builtin.zeroCells zv.cells (n + 1 - i) ++ Builtin.zeroCells zv.cells (grownCap w (n + 1) c 33 - (n + 1))) 33)) := fun ty => by
  have h := Lib.run_append_grow_zeros w 27 3 ty 33 i0 zv .i64 .i64 t27 t3 hi0 hz0 (some ⟨b, off, none⟩) i c (cs.take (i * 4)) hold (n + 1 - i) (by omega) (by omega) (by omega) (by omega) (by rw [hzb]; omega) (by rw [hzb, hik]; exact growslice_fits hroom hbig)
  rw [hik] at h
  rw [hkk]
  exact h
 obtain ⟨G, hG⟩ : ∃ G, G = grownCap w (n + 1) c 33 := ⟨_, rfl⟩
 obtain ⟨ROW, hROW⟩ : ∃ ROW : Array Value, ROW = (cs.take (i * 4)).toArray ++ Builtin.zeroCells zv.cells (n + 1 - i) ++ Builtin.zeroCells zv.cells (G - (n + 1)) := ⟨_, rfl⟩
 rw [← hG] at hrz
 rw [← hROW] at hrz
 have hGn : n + 1 ≤ G := by rw [hG]; exact grownCap_ge w _ _ _
 have htk : (cs.take (i * 4)).length = i * 4 := by rw [List.length_take]; omega
 have hRl : ROW.size = G * 4 := by
  rw [hROW]
  simp only [Builtin.zeroCells, Array.size_append, List.size_toArray, htk]
  simp [hzc]
  omega
 have hRg : ∀ j, j < i * 4 → ROW[j]? = cs[j]? := fun j hj => by
  rw [hROW, Array.getElem?_append_left (by rw [Array.size_append, List.size_toArray, htk]; omega), Array.getElem?_append_left (by rw [List.size_toArray, htk]; omega)]
  simp [hj]
 refine ⟨G, ROW, hGn, hRl, hRg, ?_⟩
 obtain ⟨W1, hW1⟩ : ∃ W1, W1 = w.drew.alloc (.cells ROW 33) := ⟨_, rfl⟩
 rw [← hW1] at hrz
 have hN : ∀ j, j < (n + 1) * 4 → (W1.cell? ⟨w.heap.size, j, none⟩).isSome = true := fun j hj => by
  rw [hW1, World.cell?_alloc_at (w := w.drew) ROW _ w.heap.size j rfl, Array.getElem?_eq_getElem (by omega)]; rfl
 have hNf : ∀ j, W1.frozen? ⟨w.heap.size, j, none⟩ = false := fun j => by rw [hW1]; exact World.frozen?_alloc_at (w := w.drew) ROW _ w.heap.size j rfl
 have hOb : ∀ j v, w.cell? ⟨b, j, none⟩ = some v → W1.cell? ⟨b, j, none⟩ = some v := fun j v h => by rw [hW1, World.cell?_alloc_past (w := w.drew) _ b j hbw]; exact h
 have hOv : ∀ j v, w.cell? ⟨vb, j, none⟩ = some v → W1.cell? ⟨vb, j, none⟩ = some v := fun j v h => by rw [hW1, World.cell?_alloc_past (w := w.drew) _ vb j hvw]; exact h
 have hcpA : ∀ (W : World), (∀ x, W.cell? x = W1.cell? x) → (∀ x, W.frozen? x = W1.frozen? x) → ∀ ty o dl dc, o = i * 4 → 1 ≤ dl → (Builtin.copy_ #[27, 27] ty #[.slice (some ⟨w.heap.size, o, none⟩) dl dc, .slice (some ⟨vb, voff, none⟩) 1 vc]).run Try.prog W = .ok (goInt ((1 : Nat) : Int)) (W.setCells w.heap.size (i * 4) vs) := fun W hWc hWf ty o dl dc ho hdl => by
  subst ho
  have mn : Nat.min 1 dl = 1 := by simp only [Nat.min_def]; split <;> omega
  have e := run_copy_wide (P := Try.prog) W 27 27 ty 33 w.heap.size (i * 4) dl dc ⟨vb, voff, none⟩ 1 vc 4 vs t27 sz33 (by rw [hvl, mn])
   (fun j v hj => by rw [Addr.add_lit, hWc]; exact hOv _ v (hvs j v hj))
   (fun j hj => by rw [hWc]; exact hN _ (by omega)) (fun j hj => by rw [hWf]; exact hNf _) h1v
  rw [e, mn]
 have hG63 : G ≤ 9223372036854775807 := by
  have := grownCap_le_maxLen w (n + 1) c 33 (by unfold maxLen; omega)
  rw [← hG] at this
  unfold maxLen at this
  omega
 have hGi : ¬ (G = i) := by omega
 have hGim : ¬ (G = i + 1) := by omega
 have hci : ¬ (c = i) := by omega
 have hbN : b ≠ w.heap.size := by omega
 have hdl : (cs.drop (i * 4)).length = (n - i) * 4 := by rw [List.length_drop, hcl]; omega
 have hcpB : ∀ (W : World), (∀ x, W.cell? x = (W1.setCells w.heap.size (i * 4) vs).cell? x) → (∀ x, W.frozen? x = (W1.setCells w.heap.size (i * 4) vs).frozen? x) → ∀ ty o dl dc o2 sl sc, o = (i + 1) * 4 → dl = n - i → o2 = off + i * 4 → sl = n - i → (Builtin.copy_ #[27, 27] ty #[.slice (some ⟨w.heap.size, o, none⟩) dl dc, .slice (some ⟨b, o2, none⟩) sl sc]).run Try.prog W = .ok (goInt ((n - i : Nat) : Int)) (W.setCells w.heap.size ((i + 1) * 4) (cs.drop (i * 4))) := fun W hWc hWf ty o dl dc o2 sl sc ho h1 h2 h3 => by
  subst ho h1 h2 h3
  have mn : Nat.min (n - i) (n - i) = n - i := by simp only [Nat.min_def]; split <;> omega
  have e := run_copy_wide (P := Try.prog) W 27 27 ty 33 w.heap.size ((i + 1) * 4) (n - i) dc ⟨b, off + i * 4, none⟩ (n - i) sc 4 (cs.drop (i * 4)) t27 sz33 (by rw [hdl, mn])
   (fun j v hj => by
     rw [Addr.add_lit, hWc, World.cell?_setCells_out _ _ _ _ _ (fun h _ => absurd h hbN), Nat.add_assoc]
     exact hOb _ v (hcs (i * 4 + j) v (by rwa [List.getElem?_drop] at hj)))
   (fun j hj => by rw [hdl] at hj; rw [hWc]; exact isSome_setCells _ _ _ _ (fun t ht => hN _ (by omega)) _ (hN _ (by omega)))
   (fun j hj => by rw [hWf, World.frozen?_setCells]; exact hNf _) (fun v hv => h1c v (List.mem_of_mem_drop hv))
  rw [e, mn]
 subst hW1
 have hE1 : ∀ x, ((w.alloc (.cells ROW 33)).drew).cell? x = (w.drew.alloc (.cells ROW 33)).cell? x := fun x => rfl
 have hE2 : ∀ x, ((w.alloc (.cells ROW 33)).drew).frozen? x = (w.drew.alloc (.cells ROW 33)).frozen? x := fun x => rfl
 have hF1 : ∀ x, (((w.alloc (.cells ROW 33)).drew.setCells w.heap.size (i * 4) vs).drew).cell? x = ((w.drew.alloc (.cells ROW 33)).setCells w.heap.size (i * 4) vs).cell? x := fun x => rfl
 have hF2 : ∀ x, (((w.alloc (.cells ROW 33)).drew.setCells w.heap.size (i * 4) vs).drew).frozen? x = ((w.drew.alloc (.cells ROW 33)).setCells w.heap.size (i * 4) vs).frozen? x := fun x => rfl
 have hw1 : IntKind.i64.wrap ((i : Int) + 1) = (i : Int) + 1 := by rw [IntKind.wrap_i64]; omega
 have hb1 : (0 : Int) ≤ (i : Int) + 1 := by omega
 have htn : ((i : Int) + 1).toNat = i + 1 := by omega
 have hin : i ≤ n := by omega
 have hb5 : (i : Int) ≤ (n : Int) := by omega
 clear hkk hik hold hROW hG hRl hRg htk
 go_enter Try.func76, Try.ntmps76
 go_wp2_with (first
  | (at_builtin; refine Lib.wpList_append_run _ rfl _ _ _ _ rfl _ _ rfl rfl _ _ (hrz _) ?_)
  | simp only [hcpA ((w.drew.alloc (.cells ROW 33))) (fun _ => rfl) (fun _ => rfl) 3 (i * 4) (n + 1 - i) (G - i) rfl (by omega)]
  | simp only [hcpA ((w.alloc (.cells ROW 33)).drew) hE1 hE2 3 (i * 4) (n + 1 - i) (G - i) rfl (by omega)])
 first
  | go_region_law_o (refine step_copy_runI rfl _ _ 27 27 rfl (.slice (some ⟨w.heap.size, (i + 1) * 4, none⟩) (n - i) (G - (i + 1))) (.slice (some ⟨b, off + i * 4, none⟩) (n - i) (c - i)) (by simp [Act.eval, Act.put]) (by simp [Act.eval, Act.put]) (hcpB _ hF1 hF2 3 _ (n - i) _ _ _ _ rfl (by omega) rfl rfl) ?_)
  | go_region_law_o (refine step_copy_runI rfl _ _ 27 27 rfl (.slice (some ⟨w.heap.size, (i + 1) * 4, none⟩) (n + 1 - (i + 1)) (G - (i + 1))) (.slice (some ⟨b, off + i * 4, none⟩) (n - i) (c - i)) (by simp [Act.eval, Act.put]) (by simp [Act.eval, Act.put]) (hcpB _ hF1 hF2 3 _ (n + 1 - (i + 1)) _ _ _ _ rfl (by omega) rfl rfl) ?_)
 go_wp2
 go_ret
 exact ⟨rfl, rfl⟩
end Go.Proofs.Ytnmdadadjneaiaa.D
/- slices.Insert of one range, abstractly: the rule, and that it says what the function does. -/
set_option linter.unusedVariables false
set_option linter.unusedSimpArgs false
set_option maxRecDepth 100000
namespace Go.Proofs.Ytnmdadadjneaiaa.D
open Go Go.Proofs.Ytnmdadadjneaiaa.Abs Go.Proofs Go.Shelf Go.RowKit
def spl (cc : Array Value) (o : Nat) : List Value → Array Value
 | [] => cc
 | v :: r => spl (cc.setIfInBounds o v) (o + 1) r
theorem spl_size : ∀ (vs : List Value) (cc : Array Value) (o : Nat), (spl cc o vs).size = cc.size
 | [], _, _ => rfl
 | v :: r, cc, o => by rw [spl, spl_size r]; simp
theorem spl_get : ∀ (vs : List Value) (cc : Array Value) (o j : Nat), o + vs.length ≤ cc.size → (spl cc o vs)[j]? = if o ≤ j ∧ j < o + vs.length then vs[j - o]? else cc[j]?
 | [], cc, o, j, _ => by rw [spl, if_neg (by simp only [List.length_nil]; omega)]
 | v :: r, cc, o, j, h => by
  simp only [List.length_cons] at h
  rw [spl, spl_get r _ _ _ (by simp; omega)]
  by_cases h1 : o + 1 ≤ j ∧ j < o + 1 + r.length
  · rw [if_pos h1, if_pos (by simp only [List.length_cons]; omega), show j - o = (j - (o + 1)) + 1 by omega, List.getElem?_cons_succ]
  · rw [if_neg h1, Array.getElem?_setIfInBounds]
    by_cases h2 : o = j
    · subst h2
      rw [if_pos rfl, if_pos (by omega), if_pos (by simp only [List.length_cons]; omega), Nat.sub_self, List.getElem?_cons_zero]
    · rw [if_neg h2, if_neg (by simp only [List.length_cons]; omega)]
theorem setCells_heap (b : Nat) : ∀ (vs : List Value) (o : Nat) (w : World) (cc : Array Value) (ty : TypeId) (fz : Nat × Nat), w.heap[b]? = some (.cells cc ty fz) → (w.setCells b o vs).heap[b]? = some (.cells (spl cc o vs) ty fz)
 | [], _, _, _, _, _, h => h
 | v :: r, o, w, cc, ty, fz, h => by
  rw [World.setCells, spl]
  refine setCells_heap b r (o + 1) _ _ ty fz ?_
  simp only [World.setCell, Array.getElem?_modify, if_pos rfl, h, Option.map_some]
  rfl
theorem setCells_same (b : Nat) : ∀ (vs : List Value) (o : Nat) (w : World), (w.setCells b o vs).heap.size = w.heap.size ∧ (w.setCells b o vs).os = w.os ∧ (w.setCells b o vs).tape = w.tape ∧ (w.setCells b o vs).output = w.output ∧ (∀ k, k ≠ b → (w.setCells b o vs).heap[k]? = w.heap[k]?)
 | [], _, _ => ⟨rfl, rfl, rfl, rfl, fun _ _ => rfl⟩
 | v :: r, o, w => by
  rw [World.setCells]
  obtain ⟨h1, h2, h3, h4, h5⟩ := setCells_same b r (o + 1) (w.setCell ⟨b, o, none⟩ v)
  refine ⟨h1.trans (by simp [World.setCell]), h2, h3, h4, fun k hk => (h5 k hk).trans ?_⟩
  simp only [World.setCell, Array.getElem?_modify]
  rw [if_neg (fun h => hk h.symm)]
def toV : AV → Value
 | .int k n => .int k n
 | .bool b => .bool b
 | _ => .bool false
def Pl : AV → Prop
 | .int _ _ => True
 | .bool _ => True
 | _ => False
theorem pl_vr {φ : Phi} {u : AV} {y : Value} (h : Pl u) (hv : VR φ u y) : y = toV u := by
 cases u with
 | int k n => cases hv; rfl
 | bool b => cases hv; rfl
 | _ => exact h.elim
theorem pl_of {φ : Phi} {u : AV} (h : Pl u) : VR φ u (toV u) := by
 cases u with
 | int k n => exact .int _ _
 | bool b => exact .bool _
 | _ => exact h.elim
theorem pl_one {u : AV} (h : Pl u) : (toV u).oneCell' = true := by
 cases u with
 | int k n => rfl
 | bool b => rfl
 | _ => exact h.elim
theorem toV_one {l : List AV} (h : ∀ u ∈ l, Pl u) : ∀ v ∈ l.map toV, v.oneCell' = true := by
 intro v hv
 obtain ⟨u, hu, rfl⟩ := List.mem_map.1 hv
 exact pl_one (h u hu)
def insN (os xs : List AV) (k : Nat) : List AV := os.take k ++ xs ++ os.drop k
theorem insN_len {os xs : List AV} {k : Nat} (h : k ≤ os.length) : (insN os xs k).length = os.length + xs.length := by
 unfold insN
 simp only [List.length_append, List.length_take, List.length_drop]
 omega
theorem insN_get {os xs : List AV} {k : Nat} (h : k ≤ os.length) (j : Nat) : (insN os xs k)[j]? = if j < k then os[j]? else if j < k + xs.length then xs[j - k]? else os[j - xs.length]? := by
 unfold insN
 have hk : (os.take k).length = k := by rw [List.length_take]; omega
 rw [List.append_assoc, List.getElem?_append, hk]
 by_cases h1 : j < k
 · rw [if_pos h1, if_pos h1, List.getElem?_take, if_pos h1]
 · rw [if_neg h1, if_neg h1, List.getElem?_append]
   by_cases h2 : j < k + xs.length
   · rw [if_pos (by omega), if_pos h2]
   · rw [if_neg (by omega), if_neg h2, List.getElem?_drop, show k + (j - k - xs.length) = j - xs.length by omega]
theorem insN_mem {os xs : List AV} {k : Nat} {u : AV} (h : u ∈ insN os xs k) : u ∈ os ∨ u ∈ xs := by
 unfold insN at h
 rcases List.mem_append.1 h with h | h
 · rcases List.mem_append.1 h with h | h
   · exact .inl (List.mem_of_mem_take h)
   · exact .inr h
 · exact .inl (List.mem_of_mem_drop h)
open Classical in
noncomputable def rngP (al : List AV) (h : Heap) : Res :=
 match al with
 | [.sl s n, .int .i64 i, .sl (.pos va) 1] =>
  match h[va.b]? with
  | some (.cells vc vm vv) =>
   if va.v = vv ∧ vm ≠ .ro ∧ ((vc.drop va.o).take 4).length = 4 ∧ (∀ u ∈ (vc.drop va.o).take 4, Pl u) ∧ 0 ≤ i ∧ i ≤ n then
    match s with
    | .nil => if n = 0 then some (.sl (.pos ⟨h.length, 0, 0⟩) 1, h ++ [.cells ((vc.drop va.o).take 4) (.grow 4) 0]) else none
    | .pos p => match h[p.b]? with
     | some (.cells c (.grow 4) v) =>
      if p.v = v ∧ p.o + n * 4 ≤ c.length ∧ va.b ≠ p.b ∧ (n + 1) * 32 ≤ 70368744177664 ∧ (∀ u ∈ (c.drop p.o).take (n * 4), Pl u) then
       some (.sl (.pos ⟨p.b, v + 1, 0⟩) (n + 1), h.set p.b (.cells (insN ((c.drop p.o).take (n * 4)) ((vc.drop va.o).take 4) (i.toNat * 4)) (.grow 4) (v + 1)))
      else none
     | _ => none
    | _ => none
   else none
  | _ => none
 | _ => none
variable {φ : Phi} {ah : Heap} {w : World}
theorem cells_pl {l : List AV} {base : Nat} {cc : Array Value} (hp : ∀ u ∈ l, Pl u) (hlen : base + l.length ≤ cc.size) (h : ∀ j u, l[j]? = some u → cc[base + j]? = some (toV u)) : CellsR φ l base cc :=
 ⟨hlen, fun i x hx => ⟨_, h i x hx, pl_of (hp x (List.mem_of_getElem? hx))⟩⟩
theorem enters76 : Abs.Enters Try.prog 76 := ⟨Try.f76, Try.func76, by kernel_rfl, by intro h; exact absurd h (by decide +kernel)⟩
theorem len_sl (a : Option Addr) (n c : Nat) (w : World) : (Builtin.lenOf (.slice a n c)).run Try.prog w = .ok n w := by simp [Builtin.lenOf]
theorem rngP_ok (al : List AV) (ah : Heap) (v : AV) (ah' : Heap) (h : rngP al ah = some (v, ah')) : CallOk Try.prog 76 al ah v ah' := by
 refine ⟨enters76, fun φ w args hargs S => ?_⟩
 unfold rngP at h
 split at h
 · rename_i s n i va
   split at h
   · rename_i vc vm vv hvb
     split at h
     · rename_i hcnd
       obtain ⟨hvv, hvro, hx4, hxp, hi0, hin⟩ := hcnd
       obtain ⟨k, rfl⟩ := Int.eq_ofNat_of_zero_le hi0
       have hkn : k ≤ n := by omega
       obtain ⟨x0, x1, x2, rfl⟩ : ∃ x0 x1 x2, args = [x0, x1, x2] := by
        have := hargs.1
        match args, this with
        | [x0, x1, x2], _ => exact ⟨x0, x1, x2, rfl⟩
       have v0 := hargs.2 0 _ _ rfl rfl
       have v1 := hargs.2 1 _ _ rfl rfl
       have v2 := hargs.2 2 _ _ rfl rfl
       obtain rfl : x1 = .int .i64 k := by cases v1; rfl
       cases v2 with
       | sl ha2 hcap2 hn2 =>
       rename_i a2 c2
       obtain ⟨r2, cc2, ty2, fz2, g1, g2, g3, g4, g5, g6, g7, g8⟩ := addr_live S ha2 hvb hvv
       subst g4
       have hfz2 := g7 (by rw [g2]; exact hvro)
       subst hfz2
       obtain ⟨xs, hxs⟩ : ∃ xs, xs = (vc.drop va.o).take 4 := ⟨_, rfl⟩
       rw [← hxs] at h hx4 hxp
       have hxat : ∀ j u, xs[j]? = some u → cc2[r2.base + va.o + j]? = some (toV u) := by
        intro j u hu
        have hj : j < 4 := by have := (List.getElem?_eq_some_iff.1 hu).1; omega
        have : vc[va.o + j]? = some u := by
         rw [hxs, List.getElem?_take, if_pos hj, List.getElem?_drop] at hu
         exact hu
        obtain ⟨y, hy, hyv⟩ := g6.get _ _ this
        obtain rfl := pl_vr (hxp u (List.mem_of_getElem? hu)) hyv
        rw [Nat.add_assoc]; exact hy
       have mapat : ∀ (l : List AV) (f : Nat → Option Value), (∀ j u, l[j]? = some u → f j = some (toV u)) → ∀ j v, (l.map toV)[j]? = some v → f j = some v := fun l f hf j v hj => by
        rw [List.getElem?_map] at hj
        cases e : l[j]? with
        | none => rw [e] at hj; cases hj
        | some y => rw [e] at hj; cases hj; exact hf j y e
       have hvs : ∀ j v, (xs.map toV)[j]? = some v → w.cell? ⟨r2.cb, r2.base + va.o + j, none⟩ = some v :=
        mapat xs (fun j => w.cell? ⟨r2.cb, r2.base + va.o + j, none⟩) fun j u hu => by
         simp only [World.cell?, g5]
         exact hxat j u hu
       have h1v : ∀ v ∈ xs.map toV, v.oneCell' = true := toV_one hxp
       have hvl : (xs.map toV).length = 4 := by rw [List.length_map, hx4]
       have fcv : ∀ (W : World), (∀ a, W.cell? a = w.cell? a) → (Builtin.firstCells 4 1 (.slice (some ⟨r2.cb, r2.base + va.o, none⟩) 1 c2)).run Try.prog W = .ok (xs.map toV).toArray W := fun W hW =>
        run_firstCells_some W 4 1 ⟨r2.cb, r2.base + va.o, none⟩ 1 c2 _ (by rw [hvl]) fun j v hj => by rw [Addr.add_lit, hW]; exact hvs j v hj
       cases s with
       | nil =>
        simp only at h
        split at h
        · rename_i hn0
          subst hn0
          obtain rfl : k = 0 := by omega
          cases v0
          simp only [Option.some.injEq, Prod.mk.injEq] at h
          obtain ⟨rfl, rfl⟩ := h
          obtain ⟨newCap, tail, q1, q2, q3⟩ := run_append_new (P := Try.prog) (w := w) (t := 27) (u := 27) Try.underlying27 Try.underlying27 sizeT33 bytesT33 (by omega) zeroT33 (base := none) (n := 0) (c := 0) (os := []) (len_sl _ _ _ _) (fcv w.drew fun _ => rfl) (run_firstCells_none _ _ _ _ _) (by omega) (by omega) 27
          rw [Nat.zero_add] at q1 q2 q3
          have key := rng_end none 0 0 r2.cb (r2.base + va.o) c2 w _ _ q3 (by omega) (fun _ => ⟨rfl, rfl⟩)
          refine key.mono fun e w' ⟨he, hw⟩ => ?_
          subst he hw
          obtain ⟨φ', hE, hv⟩ := fresh_sl (ys := xs) (zs := xs.map toV) (es := 4) (n := 1) (newCap := newCap) (tail := tail) (e := 33) S ⟨by rw [List.length_map], fun i x' y' h1 h2 => by
           rw [List.getElem?_map, h1] at h2
           cases h2
           exact pl_of (hxp _ (List.mem_of_getElem? h1))⟩ (by rw [hvl]) q1 q2
          exact ⟨_, rfl, φ', hv, by simpa using hE⟩
        · cases h
       | pos p =>
        simp only at h
        split at h
        · rename_i c v hpb
          split at h
          · rename_i hc
            obtain ⟨hpv, hpo, hne, hbig, hop⟩ := hc
            obtain ⟨os, hos⟩ : ∃ os, os = (c.drop p.o).take (n * 4) := ⟨_, rfl⟩
            rw [← hos] at h hop
            have hol : os.length = n * 4 := by rw [hos, List.length_take, List.length_drop]; omega
            simp only [Option.some.injEq, Prod.mk.injEq] at h
            obtain ⟨rfl, rfl⟩ := h
            rw [Int.toNat_natCast]
            cases v0 with
            | sl ha hcap hn =>
            rename_i a' cp
            obtain ⟨r, cc, ty, fz, k1, k2, k3, k4, k5, k6, k7, k8⟩ := addr_live S ha hpb hpv
            subst k4
            have hro : r.mode ≠ .ro := by rw [k2]; simp
            have hfz := k7 hro
            subst hfz
            unfold CapR at hcap
            rw [k1] at hcap
            have hcap := hcap (by rw [k3]; exact hpv) 4 k2
            have k8 := k8 4 k2
            have klen := k6.len
            have hrne : r2.cb ≠ r.cb := fun e => hne (S.inj _ _ r.cb (by rw [g1]; simp [cbOf, e]) (by rw [k1]; simp [cbOf]))
            have hat : ∀ j u, os[j]? = some u → cc[r.base + p.o + j]? = some (toV u) := by
             intro j u hu
             have hj : j < n * 4 := by have := (List.getElem?_eq_some_iff.1 hu).1; omega
             have : c[p.o + j]? = some u := by
              rw [hos, List.getElem?_take, if_pos hj, List.getElem?_drop] at hu
              exact hu
             obtain ⟨y, hy, hyv⟩ := k6.get _ _ this
             obtain rfl := pl_vr (hop u (List.mem_of_getElem? hu)) hyv
             rw [Nat.add_assoc]; exact hy
            have hcl : (os.map toV).length = n * 4 := by rw [List.length_map, hol]
            have hcs : ∀ j v, (os.map toV)[j]? = some v → w.cell? ⟨r.cb, r.base + p.o + j, none⟩ = some v :=
             mapat os (fun j => w.cell? ⟨r.cb, r.base + p.o + j, none⟩) fun j u hu => by
              simp only [World.cell?, k5]
              exact hat j u hu
            have h1c : ∀ v ∈ os.map toV, v.oneCell' = true := toV_one hop
            have hk4 : k * 4 ≤ os.length := by omega
            have hzl := insN_len (xs := xs) hk4
            rw [hol, hx4] at hzl
            have hzp : ∀ u ∈ insN os xs (k * 4), Pl u := fun u hu => (insN_mem hu).elim (hop u) (hxp u)
            have hmul : (n + 1) * 4 = n * 4 + 4 := by omega
            have vres : ∀ (φ' : Phi) (r' : Row) (c' : Nat), φ' p.b = .live r' → r'.ver = v + 1 → r'.mode = .grow 4 → r'.base + c' * 4 = r'.size → n + 1 ≤ c' →
             VR φ' (.sl (.pos ⟨p.b, v + 1, 0⟩) (n + 1)) (.slice (some ⟨r'.cb, r'.base, none⟩) (n + 1) c') := by
             intro φ' r' c' q1 q2 q3 q4 q5
             refine .sl ?_ ?_ q5
             · unfold AddrR
               simp only [q1]
               exact ⟨by omega, fun _ => rfl⟩
             · unfold CapR
               simp only [q1]
               intro _ e1 he1
               rw [q3] at he1
               cases he1
               omega
            have place : ∀ (w' : World) (cc' : Array Value), w'.heap[r.cb]? = some (.cells cc' ty (0, 0)) → cc'.size = cc.size → w'.heap.size = w.heap.size → w'.os = w.os → w'.tape = w.tape → w'.output = w.output → (∀ q, q ≠ r.cb → w'.heap[q]? = w.heap[q]?) →
             (∀ j u, (insN os xs (k * 4))[j]? = some u → cc'[r.base + p.o + j]? = some (toV u)) → n + 1 ≤ cp →
             ∃ φ', VR φ' (.sl (.pos ⟨p.b, v + 1, 0⟩) (n + 1)) (.slice (some ⟨r.cb, r.base + p.o, none⟩) (n + 1) cp) ∧ Eff φ φ' ah.length (ah.set p.b (.cells (insN os xs (k * 4)) (.grow 4) (v + 1))) w w' := by
             intro w' cc' q1 q2 q3 q4 q5 q6 q7 q8 q9
             have hEf := bump_sound S (b := p.b) (r := r) (r' := ⟨r.cb, r.base + p.o, r.ver + 1, r.mode, r.size⟩) (c := insN os xs (k * 4)) (cc := cc') (ty := ty) (w' := w') k1 (Nat.lt_succ_self _) rfl hro q1
              (cells_pl hzp (by show r.base + p.o + _ ≤ _; omega) q8) (fun es' _ => by show cc'.size = r.size; omega) (.inl rfl) (by omega) (fun q _ hq => q7 q hq) (fun h => absurd rfl h) q4 q5 q6
             refine ⟨setPhi φ p.b (.live ⟨r.cb, r.base + p.o, r.ver + 1, r.mode, r.size⟩), vres _ ⟨r.cb, r.base + p.o, r.ver + 1, r.mode, r.size⟩ cp (setPhi_same _ _ _) (by show r.ver + 1 = v + 1; omega) k2 (by show r.base + p.o + cp * 4 = r.size; omega) q9, ?_⟩
             rw [k3, k2] at hEf ⊢
             exact hEf
            have fresh : ∀ (w' : World) (cc' : Array Value) (ty' : TypeId) (G : Nat), w'.heap[w.heap.size]? = some (.cells cc' ty' (0, 0)) → cc'.size = G * 4 → w.heap.size ≤ w'.heap.size → w'.os = w.os → w'.tape = w.tape → w'.output = w.output → (∀ q, q < w.heap.size → w'.heap[q]? = w.heap[q]?) →
             (∀ (j : Nat) (u : AV), (insN os xs (k * 4))[j]? = some u → cc'[0 + j]? = some (toV u)) → n + 1 ≤ G →
             ∃ φ', VR φ' (.sl (.pos ⟨p.b, v + 1, 0⟩) (n + 1)) (.slice (some ⟨w.heap.size, 0, none⟩) (n + 1) G) ∧ Eff φ φ' ah.length (ah.set p.b (.cells (insN os xs (k * 4)) (.grow 4) (v + 1))) w w' := by
             intro w' cc' ty' G q1 q2 q3 q4 q5 q6 q7 q8 q9
             have hEf := bump_sound S (b := p.b) (r := r) (r' := ⟨w.heap.size, 0, r.ver + 1, r.mode, G * 4⟩) (c := insN os xs (k * 4)) (cc := cc') (ty := ty') (w' := w') k1 (Nat.lt_succ_self _) rfl hro q1
              (cells_pl hzp (by show 0 + _ ≤ _; omega) q8) (fun es' _ => q2) (.inr rfl) q3 (fun q hq _ => q7 q hq) (fun _ => q7 _ (S.cb_lt (b := p.b) (k := r.cb) (by simp [k1, cbOf]))) q4 q5 q6
             refine ⟨setPhi φ p.b (.live ⟨w.heap.size, 0, r.ver + 1, r.mode, G * 4⟩), vres _ ⟨w.heap.size, 0, r.ver + 1, r.mode, G * 4⟩ G (setPhi_same _ _ _) (by show r.ver + 1 = v + 1; omega) k2 (by show 0 + G * 4 = G * 4; omega) q9, ?_⟩
             rw [k3, k2] at hEf ⊢
             exact hEf
            have hsome : ∀ j, j < cp * 4 → (w.cell? ⟨r.cb, r.base + p.o + j, none⟩).isSome = true := by
             intro j hj
             simp only [World.cell?, k5]
             have : r.base + p.o + j < cc.size := by omega
             simp [this]
            have hfrz : ∀ (o : Nat), w.frozen? ⟨r.cb, o, none⟩ = false := by
             intro o
             simp only [World.frozen?, k5]
             simp
            have hfrz2 : ∀ (o : Nat), w.frozen? ⟨r2.cb, o, none⟩ = false := by
             intro o
             simp only [World.frozen?, g5]
             simp
            have hrlt : r.cb < w.heap.size := S.cb_lt (b := p.b) (k := r.cb) (by simp [k1, cbOf])
            have hgl : ∀ j u, (insN os xs (k * 4))[j]? = some u → j < n * 4 + 4 := fun j u hu => by have := (List.getElem?_eq_some_iff.1 hu).1; omega
            have vat : ∀ (l : List AV) j u, l[j]? = some u → (l.map toV)[j]? = some (toV u) := fun l j u hu => by rw [List.getElem?_map, hu]; rfl
            by_cases hk : k < n
            · by_cases hroom : n + 1 ≤ cp
              · have key := rng_shift r.cb (r.base + p.o) n cp k r2.cb (r2.base + va.o) c2 (os.map toV) (xs.map toV) w hk hroom (by omega) hrne hcl hvl hcs (fun j hj => hsome j (by omega)) (fun j _ => hfrz _) hvs h1c h1v
                 ty2 ty cc2.size cc.size (by simp only [World.shape?, g5]) (by simp only [World.shape?, k5]) (by omega) (hfrz2 _) (hfrz2 _)
                refine key.mono fun e w' ⟨he, hw⟩ => ?_
                subst he hw
                have dl : ((os.map toV).drop (k * 4)).length = (n - k) * 4 := by rw [List.length_drop, hcl]; omega
                have s1 := setCells_heap r.cb ((os.map toV).drop (k * 4)) (r.base + p.o + (k + 1) * 4) w.drew cc ty (0, 0) k5
                have s2 := setCells_heap r.cb (xs.map toV) (r.base + p.o + k * 4) _ _ ty (0, 0) s1
                obtain ⟨a1, a2, a3, a4, a5⟩ := setCells_same r.cb ((os.map toV).drop (k * 4)) (r.base + p.o + (k + 1) * 4) w.drew
                obtain ⟨b1, b2, b3, b4, b5⟩ := setCells_same r.cb (xs.map toV) (r.base + p.o + k * 4) (w.drew.setCells r.cb (r.base + p.o + (k + 1) * 4) ((os.map toV).drop (k * 4)))
                obtain ⟨φ', hv, hEf⟩ := place _ _ s2 (by rw [spl_size, spl_size]) (b1.trans a1) (b2.trans a2) (b3.trans a3) (b4.trans a4) (fun q hq => (b5 q hq).trans (a5 q hq)) (fun j u hu => by
                 have hj := hgl j u hu
                 rw [insN_get hk4, hx4] at hu
                 rw [spl_get _ _ _ _ (by rw [spl_size]; omega), hvl]
                 by_cases j1 : j < k * 4
                 · rw [if_pos j1] at hu
                   rw [if_neg (by omega), spl_get _ _ _ _ (by omega), if_neg (by omega)]
                   exact hat j u hu
                 · rw [if_neg j1] at hu
                   by_cases j2 : j < k * 4 + 4
                   · rw [if_pos j2] at hu
                     rw [if_pos (by omega), show r.base + p.o + j - (r.base + p.o + k * 4) = j - k * 4 by omega]
                     exact vat _ _ _ hu
                   · rw [if_neg j2] at hu
                     rw [if_neg (by omega), spl_get _ _ _ _ (by omega), if_pos (by omega), List.getElem?_drop, show k * 4 + (r.base + p.o + j - (r.base + p.o + (k + 1) * 4)) = j - 4 by omega]
                     exact vat _ _ _ hu) hroom
                exact ⟨_, rfl, φ', hv, hEf⟩
              · obtain ⟨G, ROW, hG, hR, hRg, key⟩ := rng_grow r.cb (r.base + p.o) n cp k r2.cb (r2.base + va.o) c2 (os.map toV) (xs.map toV) w hk hn (by omega) (by omega) hcl hvl hcs hvs h1c h1v
                refine key.mono fun e w' ⟨he, hw⟩ => ?_
                subst he hw
                have dl : ((os.map toV).drop (k * 4)).length = (n - k) * 4 := by rw [List.length_drop, hcl]; omega
                have s0 := al_new (w := w) (.cells ROW 33 (0, 0))
                have s1 := setCells_heap w.heap.size (xs.map toV) (k * 4) ((w.alloc (.cells ROW 33)).drew) ROW 33 (0, 0) s0
                have s2 := setCells_heap w.heap.size ((os.map toV).drop (k * 4)) ((k + 1) * 4) (((w.alloc (.cells ROW 33)).drew.setCells w.heap.size (k * 4) (xs.map toV)).drew) _ 33 (0, 0) s1
                obtain ⟨a1, a2, a3, a4, a5⟩ := setCells_same w.heap.size (xs.map toV) (k * 4) ((w.alloc (.cells ROW 33)).drew)
                obtain ⟨b1, b2, b3, b4, b5⟩ := setCells_same w.heap.size ((os.map toV).drop (k * 4)) ((k + 1) * 4) (((w.alloc (.cells ROW 33)).drew.setCells w.heap.size (k * 4) (xs.map toV)).drew)
                have z1 : w.heap.size ≤ ((w.alloc (.cells ROW 33)).drew).heap.size := al_size (w := w) (.cells ROW 33 (0, 0))
                obtain ⟨φ', hv, hEf⟩ := fresh _ _ 33 G s2 (by rw [spl_size, spl_size, hR]) (by rw [b1]; show _ ≤ (World.setCells _ _ _ _).heap.size; rw [a1]; exact z1) (b2.trans a2) (b3.trans a3) (b4.trans a4)
                 (fun q hq => (b5 q (by omega)).trans ((a5 q (by omega)).trans (al_old (w := w) (.cells ROW 33 (0, 0)) hq))) (fun j u hu => by
                 have hj := hgl j u hu
                 rw [insN_get hk4, hx4] at hu
                 rw [Nat.zero_add, spl_get _ _ _ _ (by rw [spl_size]; omega)]
                 by_cases j1 : j < k * 4
                 · rw [if_pos j1] at hu
                   rw [if_neg (by omega), spl_get _ _ _ _ (by omega), if_neg (by omega), hRg j j1]
                   exact vat _ _ _ hu
                 · rw [if_neg j1] at hu
                   by_cases j2 : j < k * 4 + 4
                   · rw [if_pos j2] at hu
                     rw [if_neg (by omega), spl_get _ _ _ _ (by omega), if_pos (by omega)]
                     exact vat _ _ _ hu
                   · rw [if_neg j2] at hu
                     rw [if_pos (by omega), List.getElem?_drop, show k * 4 + (j - (k + 1) * 4) = j - 4 by omega]
                     exact vat _ _ _ hu) hG
                exact ⟨_, rfl, φ', hv, hEf⟩
            · obtain rfl : k = n := by omega
              by_cases hroom : k + 1 ≤ cp
              · have hst : (storeCells ((⟨r.cb, r.base + p.o, none⟩ : Addr).add (k * 4)) (xs.map toV)).run Try.prog w = .ok () (w.setCells r.cb (r.base + p.o + k * 4) (xs.map toV)) := by
                 have := run_storeCells_cells (P := Try.prog) r.cb (r.base + p.o + k * 4) (xs.map toV) 0 w (fun j hj => by rw [Nat.add_zero, Nat.add_assoc]; exact hsome _ (by omega)) (fun j _ => hfrz _) h1v
                 rw [Addr.add_lit]
                 simpa only [Nat.add_zero] using this
                have q3 := run_append_in (P := Try.prog) (w := w) (t := 27) (u := 27) Try.underlying27 Try.underlying27 sizeT33 (base := some ⟨r.cb, r.base + p.o, none⟩) (n := k) (c := cp) (x := .slice (some ⟨r2.cb, r2.base + va.o, none⟩) 1 c2) (m := 1) (len_sl _ _ _ _) (fcv w fun _ => rfl) (by omega) hst 27
                have key := rng_end (some ⟨r.cb, r.base + p.o, none⟩) k cp r2.cb (r2.base + va.o) c2 w _ _ q3 (by omega) (fun h => by cases h)
                refine key.mono fun e w' ⟨he, hw⟩ => ?_
                subst he hw
                have s2 := setCells_heap r.cb (xs.map toV) (r.base + p.o + k * 4) w cc ty (0, 0) k5
                obtain ⟨b1, b2, b3, b4, b5⟩ := setCells_same r.cb (xs.map toV) (r.base + p.o + k * 4) w
                obtain ⟨φ', hv, hEf⟩ := place _ _ s2 (by rw [spl_size]) b1 b2 b3 b4 (fun q hq => b5 q hq) (fun j u hu => by
                 have hj := hgl j u hu
                 rw [insN_get hk4, hx4] at hu
                 rw [spl_get _ _ _ _ (by omega), hvl]
                 by_cases j1 : j < k * 4
                 · rw [if_pos j1] at hu
                   rw [if_neg (by omega)]
                   exact hat j u hu
                 · rw [if_neg j1, if_pos (by omega)] at hu
                   rw [if_pos (by omega), show r.base + p.o + j - (r.base + p.o + k * 4) = j - k * 4 by omega]
                   exact vat _ _ _ hu) hroom
                exact ⟨_, rfl, φ', hv, hEf⟩
              · obtain ⟨newCap, tail, q1, q2, q3⟩ := run_append_new (P := Try.prog) (w := w) (t := 27) (u := 27) Try.underlying27 Try.underlying27 sizeT33 bytesT33 (by omega) zeroT33 (base := some ⟨r.cb, r.base + p.o, none⟩) (n := k) (c := cp) (os := os.map toV) (len_sl _ _ _ _) (fcv w.drew fun _ => rfl) (run_firstCells_some w.drew 4 k ⟨r.cb, r.base + p.o, none⟩ k cp (os.map toV) (by rw [hcl]) (fun j v hj => by rw [Addr.add_lit]; exact hcs j v hj)) (by omega) (by omega) 27
                have key := rng_end (some ⟨r.cb, r.base + p.o, none⟩) k cp r2.cb (r2.base + va.o) c2 w _ _ q3 (by omega) (fun h => by cases h)
                refine key.mono fun e w' ⟨he, hw⟩ => ?_
                subst he hw
                obtain ⟨φ', hv, hEf⟩ := fresh _ _ 33 newCap (al_new (w := w) (.cells ((os.map toV).toArray ++ (xs.map toV).toArray ++ tail) 33 (0, 0))) (by
                 rw [Array.size_append, Array.size_append, List.size_toArray, List.size_toArray, hcl, hvl, q2]; omega) (al_size _) rfl rfl rfl (fun q hq => al_old _ hq) (fun j u hu => by
                 have hj := hgl j u hu
                 rw [insN_get hk4, hx4] at hu
                 rw [Nat.zero_add, Array.getElem?_append_left (by rw [Array.size_append, List.size_toArray, List.size_toArray, hcl, hvl]; omega)]
                 by_cases j1 : j < k * 4
                 · rw [if_pos j1] at hu
                   rw [Array.getElem?_append_left (by rw [List.size_toArray, hcl]; omega)]
                   simp only [List.getElem?_toArray]
                   exact vat _ _ _ hu
                 · rw [if_neg j1, if_pos (by omega)] at hu
                   rw [Array.getElem?_append_right (by rw [List.size_toArray, hcl]; omega)]
                   simp only [List.getElem?_toArray, List.size_toArray, hcl]
                   exact vat _ _ _ hu) q1
                exact ⟨_, rfl, φ', hv, hEf⟩
          · cases h
        · cases h
       | _ => simp at h
     · cases h
   · cases h
 · cases h
end Go.Proofs.Ytnmdadadjneaiaa.D
