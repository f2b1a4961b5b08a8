/- SchedOrder. -/
import Derived.Test.YtepkdcgokedkdaaConHd
set_option linter.unusedVariables false
set_option linter.unusedSimpArgs false
namespace Go.Proofs.Ytepkdcgokedkdaa.H
open Go Go.Proofs.Ytepkdcgokedkdaa.Abs Go.Proofs

theorem minus_loop {B n : Nat} (hn : n ≤ 60) (s0 s3 : SA) (n0 n3 : Nat) : ∀ (k j : Nat), j + k = n → ∀ (h : Heap), h[B]? = some (.cells ((List.range n).map fun p => .int .i64 (if p < j then -1 else 0)) (.grow 1) 0) →
    ∃ h', L8x17 mk0 E s0 n0 s3 n3 (.pos ⟨B, 0, 0⟩) n ((n : Nat) : Int) ((j : Nat) : Int) h (Q8x17 mk0 E) = Q8x17 mk0 E (.exit 0) (S8xe0 s0 n0 s3 n3 (.pos ⟨B, 0, 0⟩) n h') ∧ But B h h' ∧ h'[B]? = some (.cells ((List.range n).map fun p => .int .i64 (-1)) (.grow 1) 0) := by
  intro k
  induction k with
  | zero =>
    intro j hj h hb
    refine ⟨h, by rw [L8x17xeq, letK_eq, if_neg (by simp; omega)], fun _ _ h _ => h, ?_⟩
    rw [hb]
    congr 2
    apply List.map_congr_left
    intro p hp
    rw [if_pos (by have := List.mem_range.1 hp; omega)]
  | succ k ih =>
    intro j hj h hb
    rw [L8x17xeq, letK_eq, if_pos (by simp; omega), chk_of (by intro _; omega), adP_pos, atP_of, add_mk, Int.toNat_natCast, st1_at hb (by simp) (by simp; omega), Option.bind_some, letK_eq, wrap64 (by omega) (by omega), show ((j : Int) + 1) = ((j + 1 : Nat) : Int) by omega, show 0 + j * 1 = j by omega, range_set]
    obtain ⟨h', e1, e2, e3⟩ := ih (j + 1) (by omega) (h.set B (.cells ((List.range n).map fun p => if p = j then AV.int .i64 (-1) else .int .i64 (if p < j then -1 else 0)) (.grow 1) 0)) (by
      rw [set_same hb]
      congr 2
      apply List.map_congr_left
      intro p hp
      by_cases e : p = j
      · subst e
        rw [if_pos rfl, if_pos (by omega)]
      · rw [if_neg e]
        by_cases h : p < j
        · rw [if_pos h, if_pos (by omega)]
        · rw [if_neg h, if_neg (by omega)])
    exact ⟨h', e1, (but_set B _ _).trans e2, e3⟩

/-- The places, of the first k. -/
def Pl (out : List Nat) (k : Nat) (f : Nat → Int) : Prop := (∀ (idx b : Nat), idx < k → out[idx]? = some b → f b = idx) ∧ (∀ p, p ∉ out.take k → f p = -1)

theorem place_loop {hb : Heap} {B n : Nat} {l : List Ins} {out : List Nat} {s41 : SA} (hn : n ≤ 60) (HO : VS intC 1 hb s41 n (castN out)) (hs : ¬ inS s41 B) (OK : OutOK l n out) (s0 : SA) : ∀ (k j : Nat), j + k = n → ∀ (h : Heap) (f : Nat → Int), But B hb h → h[B]? = some (.cells ((List.range n).map fun p => .int .i64 (f p)) (.grow 1) 0) → Pl out j f →
    ∃ h' f', L8x28 mk0 E s0 n (.pos ⟨B, 0, 0⟩) n s41 n ((n : Nat) : Int) ((j : Nat) : Int) h (Q8x28 mk0 E) = Q8x28 mk0 E (.exit 2) (S8xe2 s0 n (.pos ⟨B, 0, 0⟩) n h') ∧ But B h h' ∧ h'[B]? = some (.cells ((List.range n).map fun p => .int .i64 (f' p)) (.grow 1) 0) ∧ Pl out n f' := by
  intro k
  have hol := OK.len
  induction k with
  | zero =>
    intro j hj h f hbt hB hp
    obtain rfl : j = n := by omega
    exact ⟨h, f, by rw [L8x28xeq, letK_eq, if_neg (by simp)], fun _ _ h _ => h, hB, hp⟩
  | succ k ih =>
    intro j hj h f hbt hB hp
    obtain ⟨b, hbj⟩ : ∃ b, out[j]? = some b := ⟨out[j]'(by omega), List.getElem?_eq_getElem (by omega)⟩
    have hbn := OK.lt b (List.mem_of_getElem? hbj)
    have hc : (castN out)[j]? = some ((b : Nat) : Int) := by simp [castN, hbj]
    obtain ⟨a, ha, la⟩ := vs_ld1 (g := AV.int .i64) (vs_but HO hbt hs) (fun _ => rfl) j _ hc
    have hnt : b ∉ out.take j := by
      intro hm
      have nd := OK.nd
      have e1 : out = out.take j ++ b :: out.drop (j + 1) := by rw [← drop_get hbj, List.take_append_drop]
      rw [e1, List.nodup_append] at nd
      exact nd.2.2 b hm b List.mem_cons_self rfl
    have hf := hp.2 b hnt
    have lB : ld1 h ⟨B, 0, 0 + b * 1⟩ = some (.int .i64 (f b)) := ld1_at hB (by rw [Nat.zero_add, Nat.mul_one, range_get hbn]) rfl
    rw [L8x28xeq, letK_eq, if_pos (by simp; omega), chk_of (by intro _; omega), ha, atP_of, Int.toNat_natCast, la, gI_of, letK_eq, letK_eq, letK_eq, chk_of (by intro _; omega), adP_pos, atP_any, atP_any, add_mk, Int.toNat_natCast, lB, gI_any, hf, letK_eq, letK_eq, if_neg (by simp; omega), chk_of (by intro _; omega), atP_of, add_mk, st1_at hB (by simp) (by simp; omega), Option.bind_some, letK_eq, wrap64 (by omega) (by omega), show ((j : Int) + 1) = ((j + 1 : Nat) : Int) by omega, show 0 + b * 1 = b by omega, range_set]
    obtain ⟨h', f', e1, e2, e3, e4⟩ := ih (j + 1) (by omega) (h.set B (.cells ((List.range n).map fun p => if p = b then AV.int .i64 ((j : Nat) : Int) else .int .i64 (f p)) (.grow 1) 0)) (fun p => if p = b then (j : Int) else f p) (hbt.trans (but_set B _ _)) (by
      rw [set_same hB]
      congr 2
      apply List.map_congr_left
      intro p hp
      by_cases e : p = b
      · rw [if_pos e, if_pos e]
      · rw [if_neg e, if_neg e]) ⟨fun idx c hidx hcc => by
        by_cases e : c = b
        · subst e
          dsimp only
          rw [if_pos rfl]
          by_cases h1 : idx = j
          · subst h1; rfl
          · exact absurd (List.mem_of_getElem? (show (out.take j)[idx]? = some c by rw [List.getElem?_take, if_pos (by omega)]; exact hcc)) hnt
        · dsimp only
          rw [if_neg e]
          by_cases h1 : idx = j
          · subst h1
            rw [hbj] at hcc
            cases hcc
            exact absurd rfl e
          · exact hp.1 idx c (by omega) hcc, fun p hpn => by
        rw [List.take_add_one, hbj] at hpn
        have h1 : p ∉ out.take j := fun h => hpn (List.mem_append_left _ h)
        have h2 : p ≠ b := fun e => hpn (List.mem_append_right _ (by simp [e]))
        dsimp only
        rw [if_neg h2]
        exact hp.2 p h1⟩
    exact ⟨h', f', e1, (but_set B _ _).trans e2, e3, e4⟩

theorem place_lt {l : List Ins} {n : Nat} {out : List Nat} {f : Nat → Int} (OK : OutOK l n out) (hp : Pl out n f) {i k : Nat} (hk : k < n) (hik : i < k) (hd : D l i k = true) : f i < f k := by
  obtain ⟨kk, hkk⟩ := List.mem_iff_getElem?.1 (OK.all k hk)
  have hol := OK.len
  have hkl := (List.getElem?_eq_some_iff.1 hkk).1
  obtain ⟨ii, hii⟩ := List.mem_iff_getElem?.1 (OK.ord kk k hkk i hik hd)
  rw [List.getElem?_take] at hii
  split at hii
  · rw [hp.1 kk k (by omega) hkk, hp.1 ii i (by omega) hii]
    omega
  · cases hii

theorem pair_loop {hb : Heap} {B n i : Nat} {l : List Ins} {out : List Nat} {s0 : SA} {f : Nat → Int} (hn : n ≤ 60) (H : VS Ins.cells 5 hb s0 n l) (OK : OutOK l n out) (hp : Pl out n f) (hB : hb[B]? = some (.cells ((List.range n).map fun p => .int .i64 (f p)) (.grow 1) 0)) (hin : i < n) (i69 i70 : Int) (Q : Kont (AV × Heap)) : ∀ (j k : Nat), k + j = n → i < k → ∀ (h : Heap), Old hb h →
    ∃ h', L8x54 mk0 E s0 n (.pos ⟨B, 0, 0⟩) n ((i : Nat) : Int) ((k : Nat) : Int) i69 i70 h Q = Q (.exit 6) (S8xe6 s0 n (.pos ⟨B, 0, 0⟩) n i69 i70 h') ∧ Old hb h' := by
  intro j
  have hl := H.1
  induction j with
  | zero =>
    intro k hk hik h ho
    exact ⟨h, by rw [L8x54xeq, letK_eq, if_neg (by simp; omega)], ho⟩
  | succ j ih =>
    intro k hk hik h ho
    obtain ⟨x, hx⟩ : ∃ x, l[i]? = some x := ⟨l[i]'(by omega), List.getElem?_eq_getElem (by omega)⟩
    obtain ⟨y, hy⟩ : ∃ y, l[k]? = some y := ⟨l[k]'(by omega), List.getElem?_eq_getElem (by omega)⟩
    obtain ⟨a1, ha1, la1⟩ := vs_ld (vs_old H ho) ins_flat i x hx
    obtain ⟨a2, ha2, la2⟩ := vs_ld (vs_old H ho) ins_flat k y hy
    obtain ⟨h1, d1, d2⟩ := dep_ok x y h
    have wk : IntKind.wrap .i64 ((k : Int) + 1) = ((k + 1 : Nat) : Int) := by rw [wrap64 (by omega) (by omega)]; omega
    rw [L8x54xeq, letK_eq, if_pos (by simp; omega), chk_of (by intro _; omega), ha1, atP_of, Int.toNat_natCast, la1, gCells_of]
    simp only [Ins.cells, List.getElem?_cons_zero, List.getElem?_cons_succ]
    rw [gI_of, gI_of, gI_of, gI_of, gI_of, chk_of (by intro _; omega), atP_of, Int.toNat_natCast]
    rw [ha1] at ha2
    cases ha2
    rw [la2, gCells_of]
    simp only [Ins.cells, List.getElem?_cons_zero, List.getElem?_cons_succ]
    rw [gI_of, gI_of, gI_of, gI_of, gI_of]
    have hB1 := d2 _ _ (ho _ _ hB)
    have lBi : ld1 h1 ⟨B, 0, 0 + i * 1⟩ = some (.int .i64 (f i)) := ld1_at hB1 (by rw [Nat.zero_add, Nat.mul_one, range_get hin]) rfl
    have lBk : ld1 h1 ⟨B, 0, 0 + k * 1⟩ = some (.int .i64 (f k)) := ld1_at hB1 (by rw [Nat.zero_add, Nat.mul_one, range_get (by omega)]) rfl
    rw [show [AV.int .i64 x.op, .int .i64 x.d, .int .i64 x.a, .int .i64 x.b, .int .i64 x.n] = x.cells from rfl, show [AV.int .i64 y.op, .int .i64 y.d, .int .i64 y.a, .int .i64 y.b, .int .i64 y.n] = y.cells from rfl, d1, Option.bind_some, gB_of, chk_of (by intro _; omega), adP_pos, atP_any, atP_any, add_mk, lBi, gI_any, chk_of (by intro _; omega), atP_any, atP_any, add_mk, lBk, gI_any, letK_eq, letK_eq]
    rw [if_neg (by
      cases hd : depB x y with
      | false => simp
      | true =>
        have := place_lt OK hp (by omega) hik ((D_of hx hy).trans hd)
        simp; omega), letK_eq, wk]
    exact ih (k + 1) (by omega) (by omega) h1 (ho.trans d2)

theorem pairs_loop {hb : Heap} {B n : Nat} {l : List Ins} {out : List Nat} {s0 : SA} {f : Nat → Int} (hn : n ≤ 60) (H : VS Ins.cells 5 hb s0 n l) (OK : OutOK l n out) (hp : Pl out n f) (hB : hb[B]? = some (.cells ((List.range n).map fun p => .int .i64 (f p)) (.grow 1) 0)) : ∀ (j i : Nat), i + j = n → ∀ (h : Heap), Old hb h →
    ∃ h', L8x44 mk0 E s0 n (.pos ⟨B, 0, 0⟩) n ((n : Nat) : Int) ((i : Nat) : Int) h (Q8x44 mk0 E) = some (.bool true, h') := by
  intro j
  induction j with
  | zero =>
    intro i hi h ho
    exact ⟨h, by rw [L8x44xeq, letK_eq, if_neg (by simp; omega), X8x44xe4]⟩
  | succ j ih =>
    intro i hi h ho
    rw [L8x44xeq, letK_eq, if_pos (by simp; omega), letK_eq, wrap64 (by omega) (by omega), show ((i : Int) + 1) = ((i + 1 : Nat) : Int) by omega]
    obtain ⟨h1, e1, o1⟩ := pair_loop hn H OK hp hB (show i < n by omega) ((n : Nat) : Int) ((i : Nat) : Int) (Q8x54 mk0 E (Q8x44 mk0 E)) (n - (i + 1)) (i + 1) (by omega) (by omega) h ho
    rw [e1, X8x54xe6, letK_eq, wrap64 (by omega) (by omega), show ((i : Int) + 1) = ((i + 1 : Nat) : Int) by omega]
    exact ih (i + 1) (by omega) h1 o1

theorem schedOrder_ok {h : Heap} {s0 : SA} {n0 : Nat} {l : List Ins} (H : VS Ins.cells 5 h s0 n0 l) : ∃ h', E 8 [.sl s0 n0] h = some (.bool true, h') := by
  obtain ⟨h1, f1, f2⟩ := sfact_ok h
  obtain ⟨h2, s, n, ins, r1, r2, r3, r4, r5, r6⟩ := strl_ok (vs_old H f2)
  obtain ⟨h3, s', out, o1, o2, o3, o4, o5⟩ := Order_ok r3 r5 r4
  have r0 : repl (Int.toNat ((n : Nat) : Int)) [AV.int .i64 0] = (List.range n).map fun p => .int .i64 (if p < 0 then -1 else 0) := by
    rw [Int.toNat_natCast]
    show List.replicate n (AV.int .i64 0) = _
    apply List.ext_getElem
    · simp
    · intro i a b; simp
  rw [e8, f1, Option.bind_some, gB_of, if_neg (by simp), r1, Option.bind_some, gL_of, o1, Option.bind_some, gT2_of]
  simp only [List.getD_cons_zero, List.getD_cons_succ]
  rw [gL_of, gI_of, letK_eq, letK_eq, letK_eq, if_neg (by simp), chk_of (by omega), newK_eq, letK_eq]
  rw [r0, Int.toNat_natCast]
  obtain ⟨h4, e1, b1, m1⟩ := minus_loop (B := h3.length) r4 s s' n n n 0 (by omega) (h3 ++ [.cells ((List.range n).map fun p => .int .i64 (if p < 0 then -1 else 0)) (.grow 1) 0]) (last_get _ _)
  rw [show (((0 : Nat) : Int)) = 0 from rfl] at e1
  have old4 : Old h3 h4 := fun q x hq => by
    have := (List.getElem?_eq_some_iff.1 hq).1
    exact b1 q x (app_old hq) (by omega)
  by_cases hz : n = 0
  · subst hz
    rw [e1, X8x17xe0, show (((0 : Nat) : Int)) = 0 from rfl, L8x28xeq, letK_eq, if_neg (by simp), X8x28xe2, show (((0 : Nat) : Int)) = 0 from rfl, L8x44xeq, letK_eq, if_neg (by simp), X8x44xe4]
    exact ⟨h4, rfl⟩
  · -- the order's slice is a block of the old heap
    have hs : ¬ inS s' h3.length := by
      obtain ⟨q1, q2 | ⟨bb, v, o, c, md, q3, q4, q5⟩⟩ := o3
      · omega
      · rintro ⟨a, ha, hb⟩
        rw [q3] at ha
        cases ha
        have h1 := (List.getElem?_eq_some_iff.1 q4).1
        have h2 : bb = h3.length := hb
        omega
    obtain ⟨h5, f, e2, b2, m2, p2⟩ := place_loop (hb := h4) (B := h3.length) r4 (vs_old o3 old4) hs o4 s n 0 (by omega) h4 (fun _ => -1) (fun _ _ h _ => h) m1 ⟨fun idx b h => by omega, fun _ _ => rfl⟩
    rw [show (((0 : Nat) : Int)) = 0 from rfl] at e2
    have hs0 : ¬ inS s h3.length := by
      obtain ⟨q1, q2 | ⟨bb, v, o, c, md, q3, q4, q5⟩⟩ := vs_old r3 o2
      · omega
      · rintro ⟨a, ha, hb⟩
        rw [q3] at ha
        cases ha
        have h1 := (List.getElem?_eq_some_iff.1 q4).1
        have h2 : bb = h3.length := hb
        omega
    obtain ⟨h6, e3⟩ := pairs_loop r4 (vs_but (vs_old (vs_old r3 o2) old4) b2 hs0) o4 p2 m2 n 0 (by omega) h5 (Old.refl _)
    rw [show (((0 : Nat) : Int)) = 0 from rfl] at e3
    rw [e1, X8x17xe0, e2, X8x28xe2, e3]
    exact ⟨h6, rfl⟩

end Go.Proofs.Ytepkdcgokedkdaa.H
