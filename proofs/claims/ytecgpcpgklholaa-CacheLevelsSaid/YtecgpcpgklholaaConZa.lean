/- slices.Insert of one cache line ahead of the others: the walks, and what they do to memory. -/
import Derived.Shelf.Spec.SlicesInsert
import Derived.Shelf.Spec.SlicesInsertGrow
import Derived.Test.YtecgpcpgklholaaProg
import Derived.Test.YtecgpcpgklholaaLibB
import Derived.KernelRfl
import Derived.Test.YtecgpcpgklholaaLibD
set_option linter.unusedVariables false
set_option linter.unusedSimpArgs false
namespace Go.Proofs.Ytecgpcpgklholaa.Z
open Go Go.Proofs Go.Shelf Go.RowKit Go.Lib

/-- copy, of elements of any number of cells. -/
theorem run_copy_wide {P : Program} (w : World) (dT sT ty elem : TypeId) (b o dLen dCap : Nat) (a : Addr) (sLen sCap k : Nat) (cs : List Value)
    (hu : P.underlying dT = some (.slice elem)) (hs : (P.info? elem).map (·.size) = some k) (hn : cs.length = Nat.min sLen dLen * k)
    (hsrc : ∀ j v, cs[j]? = some v → w.cell? (a.add j) = some v) (hc : ∀ j, j < cs.length → (w.cell? ⟨b, o + j, none⟩).isSome = true) (hf : ∀ j, j < cs.length → w.frozen? ⟨b, o + j, none⟩ = false) (h1 : ∀ v ∈ cs, v.oneCell' = true) :
    (Builtin.copy_ #[dT, sT] ty #[.slice (some ⟨b, o, none⟩) dLen dCap, .slice (some a) sLen sCap]).run P w = .ok (goInt (Nat.min sLen dLen)) (w.setCells b o cs) := by
  have hl := run_loadCells_list (P := P) w a cs hsrc
  have hst := run_storeCells_cells (P := P) b o cs 0 w (by simpa using hc) (by simpa using hf) h1
  cases hq : P.info? elem with
  | none => simp [hq] at hs
  | some i =>
    have hi : i.size = k := by simpa [hq] using hs
    simp [Builtin.copy_, run_underlying hu, Builtin.lenOf, Builtin.firstCells, sizeOf, typeInfo, hq, hi, ← hn, hl, hst]

theorem sz92 : (Try.prog.info? 92).map (·.size) = some 2 := by kernel_rfl

set_option maxHeartbeats 4000000 in
set_option maxRecDepth 100000 in
/-- There is room, and the list has lines: what stood there moves up by one line. -/
theorem lin_shift (b off n c vb voff vc : Nat) (cs vs : List Value) (w : World) (hi : 0 < n) (hroom : n + 1 ≤ c) (hnm : n + 1 ≤ 4611686018427387904) (hvb : vb ≠ b)
    (hcl : cs.length = n * 2) (hvl : vs.length = 2)
    (hcs : ∀ j v, cs[j]? = some v → w.cell? ⟨b, off + j, none⟩ = some v) (hsp : ∀ j, j < (n + 1) * 2 → (w.cell? ⟨b, off + j, none⟩).isSome = true) (hfz : ∀ j, j < (n + 1) * 2 → w.frozen? ⟨b, off + j, none⟩ = false)
    (hvs : ∀ j v, vs[j]? = some v → w.cell? ⟨vb, voff + j, none⟩ = some v) (h1c : ∀ v ∈ cs, v.oneCell' = true) (h1v : ∀ v ∈ vs, v.oneCell' = true)
    (tA tB : TypeId) (kA kB : Nat) (hsa : w.shape? vb = some (tA, kA)) (hsb : w.shape? b = some (tB, kB)) (hkB : kB ≠ 0) (hfa : w.frozen? ⟨vb, voff, none⟩ = false) (hfe : w.frozen? ⟨vb, kA, none⟩ = false) :
    Calls Try.prog 52 #[.slice (some ⟨b, off, none⟩) n c, .int .i64 0, .slice (some ⟨vb, voff, none⟩) 1 vc] w fun e w' =>
      e = .returned (.slice (some ⟨b, off, none⟩) (n + 1) c) ∧ w' = (w.drew.setCells b (off + 2) cs).setCells b off vs := by
  have mixed : Try.prog.follows .mixedOrders = true := by kernel_rfl
  have t0 := Try.underlying0; have a0 := Try.isAgg0; have z0 := Try.sizeOf0; have v0 := Try.zeroValue0; have t3 := Try.underlying3; have a3 := Try.isAgg3; have z3 := Try.sizeOf3; have v3 := Try.zeroValue3; have t4 := Try.underlying4; have a4 := Try.isAgg4; have z4 := Try.sizeOf4; have v4 := Try.zeroValue4; have t89 := Try.underlying89; have a89 := Try.isAgg89; have z89 := Try.sizeOf89; have v89 := Try.zeroValue89; have a92 := Try.isAgg92; have z92 := Try.sizeOf92
  have u0 := run_underlying t0; have u3 := run_underlying t3; have u4 := run_underlying t4; have u89 := run_underlying t89
  have hz2 : ¬ ((0 : Int) = (n : Int)) := by omega
  have apart : ∀ lb cb, (callFunc 53 #[.slice (some ⟨vb, voff, none⟩) 1 vc, .slice (some ⟨b, off + 2, none⟩) lb cb]).run Try.prog w = .ok (.value (.bool false)) w := by
    intro lb cb
    rw [run_callFunc_extern Try.func53 (by kernel_rfl) (by kernel_rfl) (by kernel_rfl) (e := Extern.SlicesOverlaps.overlaps #[89, 89] #[4]) (by kernel_rfl)]
    rw [Lib.run_overlaps_apart w 89 4 92 t89 2 z92 ⟨vb, voff, none⟩ ⟨b, off + 2, none⟩ 1 vc lb cb hvb tA tB kA kB hsa hsb hkB hfa hfe]
    rfl
  generalize hW1 : w.drew.setCells b (off + 2) cs = W1
  have first : ∀ ty dc sc, (Builtin.copy_ #[89, 89] ty #[.slice (some ⟨b, off + 2, none⟩) n dc, .slice (some ⟨b, off, none⟩) (n + 1) sc]).run Try.prog w.drew = .ok (goInt n) W1 := by
    intro ty dc sc
    rw [← hW1]
    have e := run_copy_wide w.drew 89 89 ty 92 b (off + 2) n dc ⟨b, off, none⟩ (n + 1) sc 2 cs t89 sz92 (by rw [hcl]; simp only [Nat.min_def]; split <;> omega) ?_ ?_ ?_ h1c
    · rw [e]
      have : Nat.min (n + 1) n = n := by simp only [Nat.min_def]; split <;> omega
      rw [this]
    · intro j v hj
      rw [Addr.add_lit]
      exact hcs j v hj
    · intro j hj; rw [Nat.add_assoc]; exact hsp _ (by omega)
    · intro j hj; rw [Nat.add_assoc]; exact hfz _ (by omega)
  have there : ∀ k, k < (n + 1) * 2 → (W1.cell? ⟨b, off + k, none⟩).isSome = true := by
    intro k hk
    rw [← hW1]
    exact isSome_setCells b _ _ _ (fun j hj => by rw [Nat.add_assoc]; exact hsp _ (by omega)) _ (hsp k hk)
  have second : ∀ (W : World), (∀ x, W.cell? x = W1.cell? x) → (∀ x, W.frozen? x = W1.frozen? x) → ∀ ty dc, (Builtin.copy_ #[89, 89] ty #[.slice (some ⟨b, off, none⟩) (n + 1) dc, .slice (some ⟨vb, voff, none⟩) 1 vc]).run Try.prog W = .ok (goInt 1) (W.setCells b off vs) := by
    intro W hWc hWf ty dc
    have e := run_copy_wide W 89 89 ty 92 b off (n + 1) dc ⟨vb, voff, none⟩ 1 vc 2 vs t89 sz92 (by rw [hvl]; simp only [Nat.min_def]; split <;> omega) ?_ ?_ ?_ h1v
    · rw [e]
      have : Nat.min 1 (n + 1) = 1 := by simp only [Nat.min_def]; split <;> omega
      rw [this]; rfl
    · intro j v hj
      rw [Addr.add_lit, hWc, ← hW1, World.cell?_setCells_out b _ _ _ _ (fun h _ => absurd h hvb)]
      exact hvs j v hj
    · intro j hj; rw [hWc]; exact there _ (by omega)
    · intro j hj; rw [hWf, ← hW1, World.frozen?_setCells]; exact hfz _ (by omega)
  have hw1 : IntKind.i64.wrap 1 = 1 := by rw [IntKind.wrap_i64]; rfl
  have hb3 : (1 : Int) ≤ (n : Int) + 1 := by omega
  have hb2 : ¬ (c = 1) := by omega
  have hb1 : (0 : Int) ≤ (n : Int) + 1 := by omega
  have hb4 : ¬ (c = 0) := by omega
  go_enter Try.func52, Try.ntmps52
  go_wp2_with (simp only [apart])
  go_region_law_o (refine step_copy_runI rfl _ _ 89 89 rfl _ _ (by simp [Act.eval, Act.put]) (by simp [Act.eval, Act.put]) (first _ _ _) ?_)
  go_wp2_with (at_builtin; refine wpList_copy_runI _ rfl _ _ 89 89 rfl _ _ rfl rfl (second _ (fun _ => rfl) (fun _ => rfl) _ _) ?_)
  go_ret
  exact ⟨rfl, rfl⟩

theorem sizeT92 : Abs.sizeOfT Try.prog 92 = some 2 := by kernel_rfl
theorem bytesT92 : Abs.bytesOfT Try.prog 92 = some 16 := by kernel_rfl
theorem zeroT92 : Abs.zeroOf Try.prog 92 = some [.int .i64 0, .bool false] := by kernel_rfl

set_option maxHeartbeats 4000000 in
set_option maxRecDepth 100000 in
/-- The list is empty: append. -/
theorem lin_first (ao : Option Addr) (c vb voff vc : Nat) (w w' : World) (r : Value)
    (hr : (Builtin.append_ #[89, 89] 89 #[.slice ao 0 c, .slice (some ⟨vb, voff, none⟩) 1 vc]).run Try.prog w = .ok r w') (hao : ao = none → c = 0) :
    Calls Try.prog 52 #[.slice ao 0 c, .int .i64 0, .slice (some ⟨vb, voff, none⟩) 1 vc] w fun e w2 => e = .returned r ∧ w2 = w' := by
  have mixed : Try.prog.follows .mixedOrders = true := by kernel_rfl
  have t0 := Try.underlying0; have a0 := Try.isAgg0; have z0 := Try.sizeOf0; have v0 := Try.zeroValue0; have t3 := Try.underlying3; have a3 := Try.isAgg3; have z3 := Try.sizeOf3; have v3 := Try.zeroValue3; have t4 := Try.underlying4; have a4 := Try.isAgg4; have z4 := Try.sizeOf4; have v4 := Try.zeroValue4; have t89 := Try.underlying89; have a89 := Try.isAgg89; have z89 := Try.sizeOf89; have v89 := Try.zeroValue89; have a92 := Try.isAgg92; have z92 := Try.sizeOf92
  have u0 := run_underlying t0; have u3 := run_underlying t3; have u4 := run_underlying t4; have u89 := run_underlying t89
  cases ao with
  | none =>
    obtain rfl := hao rfl
    go_enter Try.func52, Try.ntmps52
    go_wp2_with (at_builtin; refine Lib.wpList_append_run _ rfl _ _ _ _ rfl _ _ rfl rfl _ _ hr ?_)
    go_ret
    exact ⟨rfl, rfl⟩
  | some a =>
    go_enter Try.func52, Try.ntmps52
    go_wp2_with (at_builtin; refine Lib.wpList_append_run _ rfl _ _ _ _ rfl _ _ rfl rfl _ _ hr ?_)
    go_ret
    exact ⟨rfl, rfl⟩

set_option maxHeartbeats 4000000 in
set_option maxRecDepth 100000 in
/-- No room, and the list has lines: a new row. -/
theorem lin_grow (b off n c vb voff vc : Nat) (cs vs : List Value) (w : World) (hi : 0 < n) (hnc : n ≤ c) (hroom : c < n + 1) (hbig : (n + 1) * 16 ≤ 140737488355328)
    (hcl : cs.length = n * 2) (hvl : vs.length = 2)
    (hcs : ∀ j v, cs[j]? = some v → w.cell? ⟨b, off + j, none⟩ = some v)
    (hvs : ∀ j v, vs[j]? = some v → w.cell? ⟨vb, voff + j, none⟩ = some v) (h1c : ∀ v ∈ cs, v.oneCell' = true) (h1v : ∀ v ∈ vs, v.oneCell' = true) :
    ∃ (G : Nat) (ROW : Array Value), n + 1 ≤ G ∧ ROW.size = G * 2 ∧ Calls Try.prog 52 #[.slice (some ⟨b, off, none⟩) n c, .int .i64 0, .slice (some ⟨vb, voff, none⟩) 1 vc] w fun e w' =>
      e = .returned (.slice (some ⟨w.heap.size, 0, none⟩) (n + 1) G) ∧
      w' = (((w.alloc (.cells ROW 92)).drew.setCells w.heap.size 0 vs).drew).setCells w.heap.size 2 cs := by
  have mixed : Try.prog.follows .mixedOrders = true := by kernel_rfl
  have t0 := Try.underlying0; have a0 := Try.isAgg0; have z0 := Try.sizeOf0; have v0 := Try.zeroValue0; have t3 := Try.underlying3; have a3 := Try.isAgg3; have z3 := Try.sizeOf3; have v3 := Try.zeroValue3; have t4 := Try.underlying4; have a4 := Try.isAgg4; have z4 := Try.sizeOf4; have v4 := Try.zeroValue4; have t89 := Try.underlying89; have a89 := Try.isAgg89; have z89 := Try.sizeOf89; have v89 := Try.zeroValue89; have a92 := Try.isAgg92; have z92 := Try.sizeOf92
  have u0 := run_underlying t0; have u3 := run_underlying t3; have u4 := run_underlying t4; have u89 := run_underlying t89
  obtain ⟨i0, zv, hi0, hz0, hzr, hzl⟩ := Abs.zeroOf_sound (φ := fun _ => .unborn) zeroT92
  have hzs : i0.size = 2 := by have := sz92; rw [hi0] at this; simpa using this
  have hzb : i0.bytes = 16 := by
    have := bytesT92
    unfold Abs.bytesOfT at this
    rw [hi0] at this
    simpa using this
  have hzc : zv.cells.size = 2 := by have := hzr.1; simpa using this.symm
  have hz2 : ¬ ((0 : Int) = (n : Int)) := by omega
  have hz3 : (c : Int) < (n : Int) + 1 := by omega
  have hbw : b < w.heap.size := block_lt_of_cell (hcs 0 _ (List.getElem?_eq_getElem (by omega)))
  have hvw : vb < w.heap.size := block_lt_of_cell (hvs 0 _ (List.getElem?_eq_getElem (by omega)))
  have hold : (Builtin.firstCells i0.size 0 (.slice (some ⟨b, off, none⟩) 0 c)).run Try.prog w.drew = .ok ([] : List Value).toArray w.drew :=
    run_firstCells_some w.drew i0.size 0 ⟨b, off, none⟩ 0 c [] (by simp) (by simp)
  have hrz : ∀ ty, (Builtin.append_ #[89, 3] ty #[.slice (some ⟨b, off, none⟩) 0 c, .int .i64 ((n : Int) + 1)]).run Try.prog w =
      .ok (.slice (some ⟨w.heap.size, 0, none⟩) (n + 1) (grownCap w (n + 1) c 92)) (w.drew.alloc (.cells (([] : List Value).toArray ++ Builtin.zeroCells zv.cells (n + 1) ++ Builtin.zeroCells zv.cells (grownCap w (n + 1) c 92 - (n + 1))) 92)) := fun ty => by
    have h := Lib.run_append_grow_zeros w 89 3 ty 92 i0 zv .i64 .i64 t89 t3 hi0 hz0 (some ⟨b, off, none⟩) 0 c [] hold (n + 1) (by omega) (by omega) (by omega) (by omega) (by rw [hzb]; omega) (by rw [hzb, Nat.zero_add]; exact growslice_fits hroom hbig)
    rw [Nat.zero_add] at h
    exact h
  obtain ⟨G, hG⟩ : ∃ G, G = grownCap w (n + 1) c 92 := ⟨_, rfl⟩
  obtain ⟨ROW, hROW⟩ : ∃ ROW : Array Value, ROW = ([] : List Value).toArray ++ Builtin.zeroCells zv.cells (n + 1) ++ Builtin.zeroCells zv.cells (G - (n + 1)) := ⟨_, rfl⟩
  rw [← hG] at hrz
  rw [← hROW] at hrz
  have hGn : n + 1 ≤ G := by rw [hG]; exact grownCap_ge w _ _ _
  have hRl : ROW.size = G * 2 := by
    rw [hROW]
    simp [Builtin.zeroCells, hzc]
    omega
  refine ⟨G, ROW, hGn, hRl, ?_⟩
  obtain ⟨W1, hW1⟩ : ∃ W1, W1 = w.drew.alloc (.cells ROW 92) := ⟨_, rfl⟩
  rw [← hW1] at hrz
  have hN : ∀ j, j < (n + 1) * 2 → (W1.cell? ⟨w.heap.size, j, none⟩).isSome = true := fun j hj => by
    rw [hW1, World.cell?_alloc_at (w := w.drew) ROW _ w.heap.size j rfl, Array.getElem?_eq_getElem (by omega)]; rfl
  have hNf : ∀ j, W1.frozen? ⟨w.heap.size, j, none⟩ = false := fun j => by rw [hW1]; exact World.frozen?_alloc_at (w := w.drew) ROW _ w.heap.size j rfl
  have hOb : ∀ j v, w.cell? ⟨b, j, none⟩ = some v → W1.cell? ⟨b, j, none⟩ = some v := fun j v h => by rw [hW1, World.cell?_alloc_past (w := w.drew) _ b j hbw]; exact h
  have hOv : ∀ j v, w.cell? ⟨vb, j, none⟩ = some v → W1.cell? ⟨vb, j, none⟩ = some v := fun j v h => by rw [hW1, World.cell?_alloc_past (w := w.drew) _ vb j hvw]; exact h
  have hcpA : ∀ (W : World), (∀ x, W.cell? x = W1.cell? x) → (∀ x, W.frozen? x = W1.frozen? x) → ∀ ty dc, (Builtin.copy_ #[89, 89] ty #[.slice (some ⟨w.heap.size, 0, none⟩) (n + 1) dc, .slice (some ⟨vb, voff, none⟩) 1 vc]).run Try.prog W = .ok (goInt 1) (W.setCells w.heap.size 0 vs) := fun W hWc hWf ty dc => by
    have e := run_copy_wide W 89 89 ty 92 w.heap.size 0 (n + 1) dc ⟨vb, voff, none⟩ 1 vc 2 vs t89 sz92 (by rw [hvl]; simp only [Nat.min_def]; split <;> omega)
      (fun j v hj => by rw [Addr.add_lit, hWc]; exact hOv _ v (hvs j v hj))
      (fun j hj => by rw [hWc]; exact hN _ (by omega)) (fun j hj => by rw [hWf]; exact hNf _) h1v
    rw [e]
    have : Nat.min 1 (n + 1) = 1 := by simp only [Nat.min_def]; split <;> omega
    rw [this]; rfl
  have hG63 : G ≤ 9223372036854775807 := by
    have := grownCap_le_maxLen w (n + 1) c 92 (by unfold maxLen; omega)
    rw [← hG] at this
    unfold maxLen at this
    omega
  have hGi : ¬ (G = 0) := by omega
  have hGim : ¬ (G = 1) := by omega
  have hci : ¬ (c = 0) := by omega
  have hbN : b ≠ w.heap.size := by omega
  have hcpB : ∀ (W : World), (∀ x, W.cell? x = (W1.setCells w.heap.size 0 vs).cell? x) → (∀ x, W.frozen? x = (W1.setCells w.heap.size 0 vs).frozen? x) → ∀ ty dc sc, (Builtin.copy_ #[89, 89] ty #[.slice (some ⟨w.heap.size, 2, none⟩) n dc, .slice (some ⟨b, off, none⟩) n sc]).run Try.prog W = .ok (goInt n) (W.setCells w.heap.size 2 cs) := fun W hWc hWf ty dc sc => by
    have e := run_copy_wide W 89 89 ty 92 w.heap.size 2 n dc ⟨b, off, none⟩ n sc 2 cs t89 sz92 (by rw [hcl]; simp only [Nat.min_def]; split <;> omega)
      (fun j v hj => by
        rw [Addr.add_lit, hWc, World.cell?_setCells_out _ _ _ _ _ (fun h _ => absurd h hbN)]
        exact hOb _ v (hcs j v hj))
      (fun j hj => by rw [hWc]; exact isSome_setCells _ _ _ _ (fun t ht => hN _ (by omega)) _ (hN _ (by omega)))
      (fun j hj => by rw [hWf, World.frozen?_setCells]; exact hNf _) h1c
    rw [e]
    have : Nat.min n n = n := by simp only [Nat.min_def]; split <;> omega
    rw [this]
  subst hW1
  have hE1 : ∀ x, ((w.alloc (.cells ROW 92)).drew).cell? x = (w.drew.alloc (.cells ROW 92)).cell? x := fun x => rfl
  have hE2 : ∀ x, ((w.alloc (.cells ROW 92)).drew).frozen? x = (w.drew.alloc (.cells ROW 92)).frozen? x := fun x => rfl
  have hF1 : ∀ x, (((w.alloc (.cells ROW 92)).drew.setCells w.heap.size 0 vs).drew).cell? x = ((w.drew.alloc (.cells ROW 92)).setCells w.heap.size 0 vs).cell? x := fun x => rfl
  have hF2 : ∀ x, (((w.alloc (.cells ROW 92)).drew.setCells w.heap.size 0 vs).drew).frozen? x = ((w.drew.alloc (.cells ROW 92)).setCells w.heap.size 0 vs).frozen? x := fun x => rfl
  have hw1 : IntKind.i64.wrap 1 = 1 := by rw [IntKind.wrap_i64]; rfl
  have hb3 : (1 : Int) ≤ (n : Int) + 1 := by omega
  have hb1 : (0 : Int) ≤ (n : Int) + 1 := by omega
  have hb5 : (0 : Int) ≤ (n : Int) := by omega
  clear hold hROW hG hRl
  go_enter Try.func52, Try.ntmps52
  go_wp2_with (first
    | (at_builtin; refine Lib.wpList_append_run _ rfl _ _ _ _ rfl _ _ rfl rfl _ _ (hrz _) ?_)
    | (at_builtin; refine wpList_copy_runI _ rfl _ _ 89 89 rfl _ _ rfl rfl (hcpA _ hE1 hE2 _ _) ?_)
    | (at_builtin; refine wpList_copy_runI _ rfl _ _ 89 89 rfl _ _ rfl rfl (hcpB _ (fun _ => rfl) (fun _ => rfl) _ _ _) ?_))
  go_region_law_o (refine step_copy_runI rfl _ _ 89 89 rfl (.slice (some ⟨w.heap.size, 2, none⟩) n (G - 1)) (.slice (some ⟨b, off, none⟩) n c) (by simp [Act.eval, Act.put]) (by simp [Act.eval, Act.put]) (hcpB _ hF1 hF2 3 (G - 1) c) ?_)
  go_wp2
  go_ret
  exact ⟨rfl, rfl⟩
end Go.Proofs.Ytecgpcpgklholaa.Z

/- slices.Insert of one cache line ahead of the others, abstractly: the rule, and that it says what the function does. -/
set_option linter.unusedVariables false
set_option linter.unusedSimpArgs false
set_option maxRecDepth 100000
namespace Go.Proofs.Ytecgpcpgklholaa.Z
open Go Go.Proofs.Ytecgpcpgklholaa.Abs Go.Proofs Go.Shelf Go.RowKit

/-- Cells written over, one by one. -/
def spl (cc : Array Value) (o : Nat) : List Value → Array Value
  | [] => cc
  | v :: r => spl (cc.setIfInBounds o v) (o + 1) r

theorem spl_size : ∀ (vs : List Value) (cc : Array Value) (o : Nat), (spl cc o vs).size = cc.size
  | [], _, _ => rfl
  | v :: r, cc, o => by rw [spl, spl_size r]; simp

theorem spl_get : ∀ (vs : List Value) (cc : Array Value) (o j : Nat), o + vs.length ≤ cc.size → (spl cc o vs)[j]? = if o ≤ j ∧ j < o + vs.length then vs[j - o]? else cc[j]?
  | [], cc, o, j, _ => by rw [spl, if_neg (by simp only [List.length_nil]; omega)]
  | v :: r, cc, o, j, h => by
    simp only [List.length_cons] at h
    rw [spl, spl_get r _ _ _ (by simp; omega)]
    by_cases h1 : o + 1 ≤ j ∧ j < o + 1 + r.length
    · rw [if_pos h1, if_pos (by simp only [List.length_cons]; omega), show j - o = (j - (o + 1)) + 1 by omega, List.getElem?_cons_succ]
    · rw [if_neg h1, Array.getElem?_setIfInBounds]
      by_cases h2 : o = j
      · subst h2
        rw [if_pos rfl, if_pos (by omega), if_pos (by simp only [List.length_cons]; omega), Nat.sub_self, List.getElem?_cons_zero]
      · rw [if_neg h2, if_neg (by simp only [List.length_cons]; omega)]

theorem setCells_heap (b : Nat) : ∀ (vs : List Value) (o : Nat) (w : World) (cc : Array Value) (ty : TypeId) (fz : Nat × Nat), w.heap[b]? = some (.cells cc ty fz) → (w.setCells b o vs).heap[b]? = some (.cells (spl cc o vs) ty fz)
  | [], _, _, _, _, _, h => h
  | v :: r, o, w, cc, ty, fz, h => by
    rw [World.setCells, spl]
    refine setCells_heap b r (o + 1) _ _ ty fz ?_
    simp only [World.setCell, Array.getElem?_modify, if_pos rfl, h, Option.map_some]
    rfl

theorem setCells_same (b : Nat) : ∀ (vs : List Value) (o : Nat) (w : World), (w.setCells b o vs).heap.size = w.heap.size ∧ (w.setCells b o vs).os = w.os ∧ (w.setCells b o vs).tape = w.tape ∧ (w.setCells b o vs).output = w.output ∧ (∀ k, k ≠ b → (w.setCells b o vs).heap[k]? = w.heap[k]?)
  | [], _, _ => ⟨rfl, rfl, rfl, rfl, fun _ _ => rfl⟩
  | v :: r, o, w => by
    rw [World.setCells]
    obtain ⟨h1, h2, h3, h4, h5⟩ := setCells_same b r (o + 1) (w.setCell ⟨b, o, none⟩ v)
    refine ⟨h1.trans (by simp [World.setCell]), h2, h3, h4, fun k hk => (h5 k hk).trans ?_⟩
    simp only [World.setCell, Array.getElem?_modify]
    rw [if_neg (fun h => hk h.symm)]

/-- The cells of cache lines. -/
def linC (l : List (Int × Bool)) : List AV := l.flatMap fun x => [.int .i64 x.1, .bool x.2]

def toV : AV → Value
  | .int k n => .int k n
  | .bool b => .bool b
  | _ => .bool false

def Pl : AV → Prop
  | .int _ _ => True
  | .bool _ => True
  | _ => False

theorem linC_pl {l : List (Int × Bool)} {i : Nat} {u : AV} (h : (linC l)[i]? = some u) : Pl u := by
  have := List.mem_of_getElem? h
  obtain ⟨x, _, hx⟩ := List.mem_flatMap.1 this
  rcases List.mem_cons.1 hx with rfl | hx
  · exact trivial
  · rw [List.mem_singleton.1 hx]; exact trivial

theorem linC_len (l : List (Int × Bool)) : (linC l).length = l.length * 2 := by
  induction l with
  | nil => rfl
  | cons x l ih =>
    have e : linC (x :: l) = .int .i64 x.1 :: .bool x.2 :: linC l := rfl
    rw [e, List.length_cons, List.length_cons, List.length_cons, ih]
    omega

theorem pl_vr {φ : Phi} {u : AV} {y : Value} (h : Pl u) (hv : VR φ u y) : y = toV u := by
  cases u with
  | int k n => cases hv; rfl
  | bool b => cases hv; rfl
  | _ => exact h.elim

theorem pl_of {φ : Phi} {u : AV} (h : Pl u) : VR φ u (toV u) := by
  cases u with
  | int k n => exact .int _ _
  | bool b => exact .bool _
  | _ => exact h.elim

theorem pl_one {u : AV} (h : Pl u) : (toV u).oneCell' = true := by
  cases u with
  | int k n => rfl
  | bool b => rfl
  | _ => exact h.elim

theorem toV_one {l : List AV} (h : ∀ (i : Nat) u, l[i]? = some u → Pl u) : ∀ v ∈ l.map toV, v.oneCell' = true := by
  intro v hv
  obtain ⟨u, hu, rfl⟩ := List.mem_map.1 hv
  obtain ⟨i, hi⟩ := List.mem_iff_getElem?.1 hu
  exact pl_one (h i u hi)

open Classical in
/-- What slices.Insert of one cache line at the front answers. -/
noncomputable def linP (al : List AV) (h : Heap) : Res :=
  match al with
  | [.sl s n, .int .i64 i, .sl (.pos va) 1] =>
    match h[va.b]? with
    | some (.cells vc vm vv) =>
      match vc[va.o]?, vc[va.o + 1]? with
      | some (.int .i64 x), some (.bool d) =>
        if va.v = vv ∧ vm ≠ .ro ∧ i = 0 then
          match s with
          | .nil => if n = 0 then some (.sl (.pos ⟨h.length, 0, 0⟩) 1, h ++ [.cells (linC [(x, d)]) (.grow 2) 0]) else none
          | .pos p => match h[p.b]? with
            | some (.cells c (.grow 2) v) =>
              if hl : ∃ l : List (Int × Bool), (c.drop p.o).take (n * 2) = linC l ∧ l.length = n then
                if p.v = v ∧ p.o + n * 2 ≤ c.length ∧ va.b ≠ p.b ∧ (n + 1) * 16 ≤ 70368744177664 then
                  some (.sl (.pos ⟨p.b, v + 1, 0⟩) (n + 1), h.set p.b (.cells (linC ((x, d) :: hl.choose)) (.grow 2) (v + 1)))
                else none
              else none
            | _ => none
          | _ => none
        else none
      | _, _ => none
    | _ => none
  | _ => none

variable {φ : Phi} {ah : Heap} {w : World}

theorem cells_lin {l : List (Int × Bool)} {base : Nat} {cc : Array Value} (hlen : base + (linC l).length ≤ cc.size) (h : ∀ j u, (linC l)[j]? = some u → cc[base + j]? = some (toV u)) : CellsR φ (linC l) base cc :=
  ⟨hlen, fun i x hx => ⟨_, h i x hx, pl_of (linC_pl hx)⟩⟩

theorem enters52 : Abs.Enters Try.prog 52 := ⟨Try.f52, Try.func52, by kernel_rfl, by intro h; exact absurd h (by decide +kernel)⟩

theorem len_sl (a : Option Addr) (n c : Nat) (w : World) : (Builtin.lenOf (.slice a n c)).run Try.prog w = .ok n w := by simp [Builtin.lenOf]

theorem linP_ok (al : List AV) (ah : Heap) (v : AV) (ah' : Heap) (h : linP al ah = some (v, ah')) : CallOk Try.prog 52 al ah v ah' := by
  refine ⟨enters52, fun φ w args hargs S => ?_⟩
  unfold linP at h
  split at h
  · rename_i s n i va
    split at h
    · rename_i vc vm vv hvb
      split at h
      · rename_i x d hvx hvd
        split at h
        · rename_i hcnd
          obtain ⟨hvv, hvro, rfl⟩ := hcnd
          obtain ⟨x0, x1, x2, rfl⟩ : ∃ x0 x1 x2, args = [x0, x1, x2] := by
            have := hargs.1
            match args, this with
            | [x0, x1, x2], _ => exact ⟨x0, x1, x2, rfl⟩
          have v0 := hargs.2 0 _ _ rfl rfl
          have v1 := hargs.2 1 _ _ rfl rfl
          have v2 := hargs.2 2 _ _ rfl rfl
          obtain rfl : x1 = .int .i64 0 := by cases v1; rfl
          cases v2 with
          | sl ha2 hcap2 hn2 =>
          rename_i a2 c2
          obtain ⟨r2, cc2, ty2, fz2, g1, g2, g3, g4, g5, g6, g7, g8⟩ := addr_live S ha2 hvb hvv
          subst g4
          have hfz2 := g7 (by rw [g2]; exact hvro)
          subst hfz2
          obtain ⟨y, hy, hyv⟩ := g6.get _ _ hvx
          obtain rfl := pl_vr (u := .int .i64 x) trivial hyv
          obtain ⟨y2, hy2, hyv2⟩ := g6.get _ _ hvd
          obtain rfl := pl_vr (u := .bool d) trivial hyv2
          have hvs : ∀ j v, [Value.int .i64 x, .bool d][j]? = some v → w.cell? ⟨r2.cb, r2.base + va.o + j, none⟩ = some v := by
            intro j v hj
            match j, hj with
            | 0, hj =>
              cases hj
              simp only [World.cell?, g5, Nat.add_zero]
              exact hy
            | 1, hj =>
              cases hj
              simp only [World.cell?, g5]
              rw [← Nat.add_assoc] at hy2
              exact hy2
          have h1v : ∀ v ∈ [Value.int .i64 x, .bool d], v.oneCell' = true := by simp [Value.oneCell']
          have fcv : ∀ (W : World), (∀ a, W.cell? a = w.cell? a) → (Builtin.firstCells 2 1 (.slice (some ⟨r2.cb, r2.base + va.o, none⟩) 1 c2)).run Try.prog W = .ok [Value.int .i64 x, .bool d].toArray W := fun W hW =>
            run_firstCells_some W 2 1 ⟨r2.cb, r2.base + va.o, none⟩ 1 c2 _ rfl fun j v hj => by rw [Addr.add_lit, hW]; exact hvs j v hj
          have hfin : ∀ (l : List (Int × Bool)) (base : Nat) (cc' : Array Value), cc'[base]? = some (.int .i64 x) → cc'[base + 1]? = some (.bool d) → (∀ j u, (linC l)[j]? = some u → cc'[base + 2 + j]? = some (toV u)) → ∀ j u, (linC ((x, d) :: l))[j]? = some u → cc'[base + j]? = some (toV u) := by
            intro l base cc' q1 q2 q3 j u hu
            match j, hu with
            | 0, hu => cases hu; exact q1
            | 1, hu => cases hu; exact q2
            | j + 2, hu =>
              have hu' : (linC l)[j]? = some u := hu
              rw [show base + (j + 2) = base + 2 + j by omega]
              exact q3 j u hu'
          cases s with
          | nil =>
            simp only at h
            split at h
            · rename_i hn0
              subst hn0
              cases v0
              simp only [Option.some.injEq, Prod.mk.injEq] at h
              obtain ⟨rfl, rfl⟩ := h
              obtain ⟨newCap, tail, q1, q2, q3⟩ := run_append_new (P := Try.prog) (w := w) (t := 89) (u := 89) Try.underlying89 Try.underlying89 sizeT92 bytesT92 (by omega) zeroT92 (base := none) (n := 0) (c := 0) (os := []) (len_sl _ _ _ _) (fcv w.drew fun _ => rfl) (run_firstCells_none _ _ _ _ _) (by omega) (by omega) 89
              rw [Nat.zero_add] at q1 q2 q3
              have key := lin_first none 0 r2.cb (r2.base + va.o) c2 w _ _ q3 (fun _ => rfl)
              refine key.mono fun e w' ⟨he, hw⟩ => ?_
              subst he hw
              obtain ⟨φ', hE, hv⟩ := fresh_sl (ys := linC [(x, d)]) (zs := [.int .i64 x, .bool d]) (es := 2) (n := 1) (newCap := newCap) (tail := tail) (e := 92) S ⟨rfl, fun i x' y' h1 h2 => by
                match i, h1, h2 with
                | 0, h1, h2 => cases h1; cases h2; exact .int _ _
                | 1, h1, h2 => cases h1; cases h2; exact .bool _⟩ rfl q1 q2
              exact ⟨_, rfl, φ', hv, by simpa using hE⟩
            · cases h
          | pos p =>
            simp only at h
            split at h
            · rename_i c v hpb
              split at h
              · rename_i hl
                split at h
                · rename_i hc
                  obtain ⟨hpv, hpo, hne, hbig⟩ := hc
                  obtain ⟨hl1, hl2⟩ := hl.choose_spec
                  generalize hl.choose = l at h hl1 hl2
                  simp only [Option.some.injEq, Prod.mk.injEq] at h
                  obtain ⟨rfl, rfl⟩ := h
                  cases v0 with
                  | sl ha hcap hn =>
                  rename_i a' cp
                  obtain ⟨r, cc, ty, fz, k1, k2, k3, k4, k5, k6, k7, k8⟩ := addr_live S ha hpb hpv
                  subst k4
                  have hro : r.mode ≠ .ro := by rw [k2]; simp
                  have hfz := k7 hro
                  subst hfz
                  unfold CapR at hcap
                  rw [k1] at hcap
                  have hcap := hcap (by rw [k3]; exact hpv) 2 k2
                  have k8 := k8 2 k2
                  have klen := k6.len
                  have hll := linC_len l
                  rw [hl2] at hll
                  have hrne : r2.cb ≠ r.cb := fun e => hne (S.inj _ _ r.cb (by rw [g1]; simp [cbOf, e]) (by rw [k1]; simp [cbOf]))
                  have hat : ∀ j u, (linC l)[j]? = some u → cc[r.base + p.o + j]? = some (toV u) := by
                    intro j u hu
                    have hj : j < n * 2 := by have := (List.getElem?_eq_some_iff.1 hu).1; omega
                    have : c[p.o + j]? = some u := by
                      rw [← hl1, List.getElem?_take, if_pos hj, List.getElem?_drop] at hu
                      exact hu
                    obtain ⟨y, hy, hyv⟩ := k6.get _ _ this
                    obtain rfl := pl_vr (linC_pl hu) hyv
                    rw [Nat.add_assoc]; exact hy
                  have hcl : ((linC l).map toV).length = n * 2 := by rw [List.length_map, hll]
                  have hcs : ∀ j v, ((linC l).map toV)[j]? = some v → w.cell? ⟨r.cb, r.base + p.o + j, none⟩ = some v := by
                    intro j u hu
                    rw [List.getElem?_map] at hu
                    cases e : (linC l)[j]? with
                    | none => rw [e] at hu; cases hu
                    | some y =>
                      rw [e] at hu
                      cases hu
                      simp only [World.cell?, k5]
                      exact hat j y e
                  have h1c : ∀ v ∈ (linC l).map toV, v.oneCell' = true := toV_one fun i u hu => linC_pl hu
                  have hzl := linC_len ((x, d) :: l)
                  rw [List.length_cons, hl2] at hzl
                  have vres : ∀ (φ' : Phi) (r' : Row) (c' : Nat), φ' p.b = .live r' → r'.ver = v + 1 → r'.mode = .grow 2 → r'.base + c' * 2 = r'.size → n + 1 ≤ c' →
                      VR φ' (.sl (.pos ⟨p.b, v + 1, 0⟩) (n + 1)) (.slice (some ⟨r'.cb, r'.base, none⟩) (n + 1) c') := by
                    intro φ' r' c' q1 q2 q3 q4 q5
                    refine .sl ?_ ?_ q5
                    · unfold AddrR
                      simp only [q1]
                      exact ⟨by omega, fun _ => rfl⟩
                    · unfold CapR
                      simp only [q1]
                      intro _ e1 he1
                      rw [q3] at he1
                      cases he1
                      omega
                  have hmul : (n + 1) * 2 = n * 2 + 2 := by omega
                  -- in place
                  have place : ∀ (w' : World) (cc' : Array Value), w'.heap[r.cb]? = some (.cells cc' ty (0, 0)) → cc'.size = cc.size → w'.heap.size = w.heap.size → w'.os = w.os → w'.tape = w.tape → w'.output = w.output → (∀ q, q ≠ r.cb → w'.heap[q]? = w.heap[q]?) →
                      (∀ j u, (linC ((x, d) :: l))[j]? = some u → cc'[r.base + p.o + j]? = some (toV u)) → n + 1 ≤ cp →
                      ∃ φ', VR φ' (.sl (.pos ⟨p.b, v + 1, 0⟩) (n + 1)) (.slice (some ⟨r.cb, r.base + p.o, none⟩) (n + 1) cp) ∧ Eff φ φ' ah.length (ah.set p.b (.cells (linC ((x, d) :: l)) (.grow 2) (v + 1))) w w' := by
                    intro w' cc' q1 q2 q3 q4 q5 q6 q7 q8 q9
                    have hEf := bump_sound S (b := p.b) (r := r) (r' := ⟨r.cb, r.base + p.o, r.ver + 1, r.mode, r.size⟩) (c := linC ((x, d) :: l)) (cc := cc') (ty := ty) (w' := w') k1 (Nat.lt_succ_self _) rfl hro q1
                      (cells_lin (by show r.base + p.o + _ ≤ _; omega) q8) (fun es' _ => by show cc'.size = r.size; omega) (.inl rfl) (by omega) (fun q _ hq => q7 q hq) (fun h => absurd rfl h) q4 q5 q6
                    refine ⟨setPhi φ p.b (.live ⟨r.cb, r.base + p.o, r.ver + 1, r.mode, r.size⟩), vres _ ⟨r.cb, r.base + p.o, r.ver + 1, r.mode, r.size⟩ cp (setPhi_same _ _ _) (by show r.ver + 1 = v + 1; omega) k2 (by show r.base + p.o + cp * 2 = r.size; omega) q9, ?_⟩
                    rw [k3, k2] at hEf ⊢
                    exact hEf
                  -- a new row
                  have fresh : ∀ (w' : World) (cc' : Array Value) (ty' : TypeId) (G : Nat), w'.heap[w.heap.size]? = some (.cells cc' ty' (0, 0)) → cc'.size = G * 2 → w.heap.size ≤ w'.heap.size → w'.os = w.os → w'.tape = w.tape → w'.output = w.output → (∀ q, q < w.heap.size → w'.heap[q]? = w.heap[q]?) →
                      (∀ (j : Nat) (u : AV), (linC ((x, d) :: l))[j]? = some u → cc'[0 + j]? = some (toV u)) → n + 1 ≤ G →
                      ∃ φ', VR φ' (.sl (.pos ⟨p.b, v + 1, 0⟩) (n + 1)) (.slice (some ⟨w.heap.size, 0, none⟩) (n + 1) G) ∧ Eff φ φ' ah.length (ah.set p.b (.cells (linC ((x, d) :: l)) (.grow 2) (v + 1))) w w' := by
                    intro w' cc' ty' G q1 q2 q3 q4 q5 q6 q7 q8 q9
                    have hEf := bump_sound S (b := p.b) (r := r) (r' := ⟨w.heap.size, 0, r.ver + 1, r.mode, G * 2⟩) (c := linC ((x, d) :: l)) (cc := cc') (ty := ty') (w' := w') k1 (Nat.lt_succ_self _) rfl hro q1
                      (cells_lin (by show 0 + _ ≤ _; omega) q8) (fun es' _ => q2) (.inr rfl) q3 (fun q hq _ => q7 q hq) (fun _ => q7 _ (S.cb_lt (b := p.b) (k := r.cb) (by simp [k1, cbOf]))) q4 q5 q6
                    refine ⟨setPhi φ p.b (.live ⟨w.heap.size, 0, r.ver + 1, r.mode, G * 2⟩), vres _ ⟨w.heap.size, 0, r.ver + 1, r.mode, G * 2⟩ G (setPhi_same _ _ _) (by show r.ver + 1 = v + 1; omega) k2 (by show 0 + G * 2 = G * 2; omega) q9, ?_⟩
                    rw [k3, k2] at hEf ⊢
                    exact hEf
                  have hsome : ∀ j, j < cp * 2 → (w.cell? ⟨r.cb, r.base + p.o + j, none⟩).isSome = true := by
                    intro j hj
                    simp only [World.cell?, k5]
                    have : r.base + p.o + j < cc.size := by omega
                    simp [this]
                  have hfrz : ∀ (o : Nat), w.frozen? ⟨r.cb, o, none⟩ = false := by
                    intro o
                    simp only [World.frozen?, k5]
                    simp
                  have hfrz2 : ∀ (o : Nat), w.frozen? ⟨r2.cb, o, none⟩ = false := by
                    intro o
                    simp only [World.frozen?, g5]
                    simp
                  have hrlt : r.cb < w.heap.size := S.cb_lt (b := p.b) (k := r.cb) (by simp [k1, cbOf])
                  by_cases hn0 : n = 0
                  · subst hn0
                    have hl0 : l = [] := List.length_eq_zero_iff.1 hl2
                    by_cases hroom : 1 ≤ cp
                    · have hst : (storeCells ((⟨r.cb, r.base + p.o, none⟩ : Addr).add (0 * 2)) [Value.int .i64 x, .bool d]).run Try.prog w = .ok () (w.setCells r.cb (r.base + p.o) [Value.int .i64 x, .bool d]) := by
                        have := run_storeCells_cells (P := Try.prog) r.cb (r.base + p.o) [Value.int .i64 x, .bool d] 0 w (fun j hj => by rw [Nat.add_zero]; exact hsome j (by simp at hj; omega)) (fun j _ => hfrz _) h1v
                        rw [Nat.zero_mul, Addr.add_lit, Nat.add_zero]
                        simpa only [Nat.add_zero] using this
                      have q3 := run_append_in (P := Try.prog) (w := w) (t := 89) (u := 89) Try.underlying89 Try.underlying89 sizeT92 (base := some ⟨r.cb, r.base + p.o, none⟩) (n := 0) (c := cp) (x := .slice (some ⟨r2.cb, r2.base + va.o, none⟩) 1 c2) (m := 1) (len_sl _ _ _ _) (fcv w fun _ => rfl) (by omega) hst 89
                      rw [Nat.zero_add] at q3
                      have key := lin_first (some ⟨r.cb, r.base + p.o, none⟩) cp r2.cb (r2.base + va.o) c2 w _ _ q3 (fun h => by cases h)
                      refine key.mono fun e w' ⟨he, hw⟩ => ?_
                      subst he hw
                      have s2 := setCells_heap r.cb [.int .i64 x, .bool d] (r.base + p.o) w cc ty (0, 0) k5
                      obtain ⟨b1, b2, b3, b4, b5⟩ := setCells_same r.cb [.int .i64 x, .bool d] (r.base + p.o) w
                      obtain ⟨φ', hv, hEf⟩ := place _ _ s2 (by rw [spl_size]) b1 b2 b3 b4 (fun q hq => b5 q hq) (hfin l _ _ (by
                        rw [spl_get _ _ _ _ (by simp only [List.length_cons, List.length_nil]; omega), if_pos (by simp), Nat.sub_self]; rfl) (by
                        rw [spl_get _ _ _ _ (by simp only [List.length_cons, List.length_nil]; omega), if_pos (by simp), show r.base + p.o + 1 - (r.base + p.o) = 1 by omega]; rfl) (by
                        intro j u hu; rw [hl0] at hu; simp [linC] at hu)) hroom
                      exact ⟨_, rfl, φ', hv, hEf⟩
                    · have hcp0 : cp = 0 := by omega
                      subst hcp0
                      obtain ⟨newCap, tail, q1, q2, q3⟩ := run_append_new (P := Try.prog) (w := w) (t := 89) (u := 89) Try.underlying89 Try.underlying89 sizeT92 bytesT92 (by omega) zeroT92 (base := some ⟨r.cb, r.base + p.o, none⟩) (n := 0) (c := 0) (os := []) (len_sl _ _ _ _) (fcv w.drew fun _ => rfl) (run_firstCells_some w.drew 2 0 ⟨r.cb, r.base + p.o, none⟩ 0 0 [] (by simp) (by simp)) (by omega) (by omega) 89
                      rw [Nat.zero_add] at q1 q2 q3
                      have key := lin_first (some ⟨r.cb, r.base + p.o, none⟩) 0 r2.cb (r2.base + va.o) c2 w _ _ q3 (fun h => by cases h)
                      refine key.mono fun e w' ⟨he, hw⟩ => ?_
                      subst he hw
                      obtain ⟨φ', hv, hEf⟩ := fresh _ _ 92 newCap (al_new (w := w) (.cells (([] : List Value).toArray ++ [Value.int .i64 x, .bool d].toArray ++ tail) 92 (0, 0))) (by simp [q2]; omega) (al_size _) rfl rfl rfl (fun q hq => al_old _ hq) (hfin l 0 _ (by rw [Array.getElem?_append_left (by simp)]; rfl) (by rw [Array.getElem?_append_left (by simp)]; rfl) (by
                        intro j u hu; rw [hl0] at hu; simp [linC] at hu)) q1
                      exact ⟨_, rfl, φ', hv, hEf⟩
                  · have hn1 : 0 < n := by omega
                    by_cases hroom : n + 1 ≤ cp
                    · have key := lin_shift r.cb (r.base + p.o) n cp r2.cb (r2.base + va.o) c2 ((linC l).map toV) [.int .i64 x, .bool d] w hn1 hroom (by omega) hrne hcl rfl hcs (fun j hj => hsome j (by omega)) (fun j _ => hfrz _) hvs h1c h1v
                        ty2 ty cc2.size cc.size (by simp only [World.shape?, g5]) (by simp only [World.shape?, k5]) (by omega) (hfrz2 _) (hfrz2 _)
                      refine key.mono fun e w' ⟨he, hw⟩ => ?_
                      subst he hw
                      have s1 := setCells_heap r.cb ((linC l).map toV) (r.base + p.o + 2) w.drew cc ty (0, 0) k5
                      have s2 := setCells_heap r.cb [.int .i64 x, .bool d] (r.base + p.o) _ _ ty (0, 0) s1
                      obtain ⟨a1, a2, a3, a4, a5⟩ := setCells_same r.cb ((linC l).map toV) (r.base + p.o + 2) w.drew
                      obtain ⟨b1, b2, b3, b4, b5⟩ := setCells_same r.cb [.int .i64 x, .bool d] (r.base + p.o) (w.drew.setCells r.cb (r.base + p.o + 2) ((linC l).map toV))
                      obtain ⟨φ', hv, hEf⟩ := place _ _ s2 (by rw [spl_size, spl_size]) (b1.trans a1) (b2.trans a2) (b3.trans a3) (b4.trans a4) (fun q hq => (b5 q hq).trans (a5 q hq)) (hfin l _ _ (by
                        rw [spl_get _ _ _ _ (by rw [spl_size]; simp only [List.length_cons, List.length_nil]; omega), if_pos (by simp), Nat.sub_self]; rfl) (by
                        rw [spl_get _ _ _ _ (by rw [spl_size]; simp only [List.length_cons, List.length_nil]; omega), if_pos (by simp), show r.base + p.o + 1 - (r.base + p.o) = 1 by omega]; rfl) (by
                        intro j u hu
                        have hj := (List.getElem?_eq_some_iff.1 hu).1
                        rw [spl_get _ _ _ _ (by rw [spl_size]; simp only [List.length_cons, List.length_nil]; omega), if_neg (by simp only [List.length_cons, List.length_nil]; omega), spl_get _ _ _ _ (by omega), if_pos (by omega), show r.base + p.o + 2 + j - (r.base + p.o + 2) = j by omega, List.getElem?_map, hu]
                        rfl)) hroom
                      exact ⟨_, rfl, φ', hv, hEf⟩
                    · obtain ⟨G, ROW, hG, hR, key⟩ := lin_grow r.cb (r.base + p.o) n cp r2.cb (r2.base + va.o) c2 ((linC l).map toV) [.int .i64 x, .bool d] w hn1 hn (by omega) (by omega) hcl rfl hcs hvs h1c h1v
                      refine key.mono fun e w' ⟨he, hw⟩ => ?_
                      subst he hw
                      have s0 := al_new (w := w) (.cells ROW 92 (0, 0))
                      have s1 := setCells_heap w.heap.size [.int .i64 x, .bool d] 0 ((w.alloc (.cells ROW 92)).drew) ROW 92 (0, 0) s0
                      have s2 := setCells_heap w.heap.size ((linC l).map toV) 2 (((w.alloc (.cells ROW 92)).drew.setCells w.heap.size 0 [.int .i64 x, .bool d]).drew) _ 92 (0, 0) s1
                      obtain ⟨a1, a2, a3, a4, a5⟩ := setCells_same w.heap.size [.int .i64 x, .bool d] 0 ((w.alloc (.cells ROW 92)).drew)
                      obtain ⟨b1, b2, b3, b4, b5⟩ := setCells_same w.heap.size ((linC l).map toV) 2 (((w.alloc (.cells ROW 92)).drew.setCells w.heap.size 0 [.int .i64 x, .bool d]).drew)
                      have z1 : w.heap.size ≤ ((w.alloc (.cells ROW 92)).drew).heap.size := al_size (w := w) (.cells ROW 92 (0, 0))
                      obtain ⟨φ', hv, hEf⟩ := fresh _ _ 92 G s2 (by rw [spl_size, spl_size, hR]) (by rw [b1]; show _ ≤ (World.setCells _ _ _ _).heap.size; rw [a1]; exact z1) (b2.trans a2) (b3.trans a3) (b4.trans a4)
                        (fun q hq => (b5 q (by omega)).trans ((a5 q (by omega)).trans (al_old (w := w) (.cells ROW 92 (0, 0)) hq))) (hfin l 0 _ (by
                        rw [spl_get _ _ _ _ (by rw [spl_size]; omega), if_neg (by omega), spl_get _ _ _ _ (by simp only [List.length_cons, List.length_nil]; omega), if_pos (by simp)]; rfl) (by
                        rw [spl_get _ _ _ _ (by rw [spl_size]; omega), if_neg (by omega), spl_get _ _ _ _ (by simp only [List.length_cons, List.length_nil]; omega), if_pos (by simp)]; rfl) (by
                        intro j u hu
                        have hj := (List.getElem?_eq_some_iff.1 hu).1
                        rw [spl_get _ _ _ _ (by rw [spl_size]; omega), if_pos (by omega), show 0 + 2 + j - 2 = j by omega, List.getElem?_map, hu]
                        rfl)) hG
                      exact ⟨_, rfl, φ', hv, hEf⟩
                · cases h
              · cases h
            · cases h
          | _ => simp at h
        · cases h
      · cases h
    · cases h
  · cases h

/-- The evaluator that knows the rule. -/
noncomputable def T0 : Prims := fun f => if f = 52 then some linP else none

theorem primsOk : PrimsOk Try.prog T0 := by
  intro f p hp al ah v ah' h
  unfold T0 at hp
  split at hp
  · rename_i hf
    subst hf
    cases hp
    exact linP_ok al ah v ah' h
  · cases hp

end Go.Proofs.Ytecgpcpgklholaa.Z
namespace Go.Proofs.Ytecgpcpgklholaa.Z
open Go Go.Proofs.Ytecgpcpgklholaa.Abs Go.Proofs
theorem EV_prim {P : Program} {T : Prims} {f : FuncId} {p : List AV → Heap → Res} (hT : T f = some p) (args : List AV) (ah : Heap) : EV P T f args ah = p args ah := by
  refine Option.same fun r => ?_
  rw [EV_iff]
  constructor
  · rintro ⟨k, h⟩
    cases k with
    | zero => simp [evalF] at h
    | succ k =>
      simp only [evalF, hT] at h
      exact h
  · intro h
    refine ⟨1, ?_⟩
    simp only [evalF, hT]
    exact h
end Go.Proofs.Ytecgpcpgklholaa.Z
