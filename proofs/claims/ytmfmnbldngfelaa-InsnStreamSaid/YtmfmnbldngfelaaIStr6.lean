/- InsnStream: the writing loop and the whole function. -/
import Derived.Test.YtmfmnbldngfelaaIStr5
set_option linter.unusedVariables false
set_option linter.unusedSimpArgs false
namespace Go.Proofs.Ytmfmnbldngfelaa.I
open Go Go.Proofs.Ytmfmnbldngfelaa.Abs Go.Proofs

/-- A slice of truth values. -/
def BS (h : Heap) (s : SA) (n : Nat) : Prop :=
  n = 0 ∨ ∃ b v o c m, s = .pos ⟨b, v, o⟩ ∧ h[b]? = some (.cells c m v) ∧ ∀ i, i < n → ∃ x, c[o + i]? = some (.bool x)

theorem bs_ld {h : Heap} {s : SA} {n : Nat} (H : BS h s n) (i : Nat) (hi : i < n) : ∃ a x, adP s = some a ∧ ld1 h (Ad.add a i) = some (.bool x) := by
  obtain H | ⟨b, v, o, c, m, rfl, hb, hc⟩ := H
  · omega
  · obtain ⟨x, hx⟩ := hc i hi
    exact ⟨_, x, rfl, ld1_at hb hx rfl⟩

theorem bs_old {h h' : Heap} {s : SA} {n : Nat} (H : BS h s n) (hk : ∀ (b : Nat) (x : Blk), h[b]? = some x → h'[b]? = some x) : BS h' s n := by
  obtain H | ⟨b, v, o, c, m, rfl, hb, hc⟩ := H
  · exact .inl H
  · exact .inr ⟨b, v, o, c, m, rfl, hk _ _ hb, hc⟩

theorem os_old {h h' : Heap} {s : SA} {n : Nat} {os : List Ent} (H : OS h s n os) (hk : ∀ (b : Nat) (x : Blk), h[b]? = some x → h'[b]? = some x) : OS h' s n os := by
  obtain ⟨hl, H | ⟨b, v, o, c, m, rfl, hb, hc⟩⟩ := H
  · exact ⟨hl, .inl H⟩
  · exact ⟨hl, .inr ⟨b, v, o, c, m, rfl, hk _ _ hb, hc⟩⟩

theorem gP_none {R : Type} (K : Ad → Option R) (p : Option Ad) : ∃ a, atP p false K = K a := by
  cases p with
  | none => exact ⟨_, rfl⟩
  | some a => exact ⟨a, rfl⟩

theorem gB_none {R : Type} (K : Bool → Option R) (p : Option AV) : ∃ a, gB p false K = K a := by
  unfold gB gb
  cases p.bind rB with
  | none => exact ⟨_, rfl⟩
  | some a => exact ⟨a, rfl⟩

theorem esOk_GS {h : Heap} {s : SA} {n es : Nat} {cs : List AV} (H : GS h s n es cs) : esOk h s es := by
  obtain ⟨hl, _, ⟨rfl, rfl⟩ | ⟨b, v, rfl, hb⟩⟩ := H
  · intro p hp; cases hp
  · intro p hp
    cases hp
    refine ⟨_, hb, fun c e v h => ?_⟩
    cases h; rfl

theorem round_bad {h : Heap} {s1 s5 s6 s7 s24 : SA} {n1 n5 n6 n7 n24 : Nat} (e : Ent) (he : ¬ e.ok) (i25 i26 : Int) (Q : Kont (AV × Heap)) :
    J8x24 mk0 E s1 n1 s5 n5 s6 n6 s7 n7 e.op e.d e.a e.b e.n (.fn (encF e.long) [] []) s24 n24 i25 i26 h Q = J8x28 mk0 E s1 n1 s5 n5 s6 n6 s7 n7 s24 n24 i25 i26 h Q := by
  have hcall := enc_call_bad e he h
  rw [J8x24xeq, fnK_fn]
  simp only [List.nil_append, List.append_nil]
  rw [show [AV.agg [.int .i64 e.op, .int .i64 e.d, .int .i64 e.a, .int .i64 e.b, .int .i64 e.n]] = [AV.agg e.cells] from rfl, hcall, Option.bind_some, gT2_of]
  simp only [List.getD_cons_zero, List.getD_cons_succ]
  rw [gL_of, gI_of, letK_eq, if_neg (by unfold Ent.ok at he; simpa using he)]

theorem round_any {h0 h : Heap} {s1 s5 s6 s7 s24 : SA} {n1 n5 n6 n7 n24 : Nat} {os : List Ent} (W : WI h0 h s5 n5 s6 n6 s7 n7 os) (hn : n6 < 40) (e : Ent) (i25 i26 : Int) (Q : Kont (AV × Heap)) :
    ∃ s5' n5' s6' n6' s7' n7' h' os', J8x24 mk0 E s1 n1 s5 n5 s6 n6 s7 n7 e.op e.d e.a e.b e.n (.fn (encF e.long) [] []) s24 n24 i25 i26 h Q = J8x28 mk0 E s1 n1 s5' n5' s6' n6' s7' n7' s24 n24 i25 i26 h' Q ∧
      WI h0 h' s5' n5' s6' n6' s7' n7' os' ∧ n6' ≤ n6 + 1 := by
  by_cases he : e.ok
  · obtain ⟨s5', n5', s6', n6', s7', n7', h', h1, h2, h3⟩ := wi_round (s1 := s1) (s24 := s24) (n1 := n1) (n24 := n24) W hn e he i25 i26 Q
    exact ⟨s5', n5', s6', n6', s7', n7', h', _, h1, h2, by omega⟩
  · exact ⟨s5, n5, s6, n6, s7, n7, h, os, round_bad e he i25 i26 Q, W, by omega⟩

theorem write_loop {h0 : Heap} {s1 s24 : SA} {n1 n24 N : Nat} {xs : List Ent} (HA : OS h0 s24 N xs) (HB : BS h0 s1 n1) (hN : n24 ≤ N) (hn : n24 ≤ 40) :
    ∀ (k j : Nat), j + k = n24 → ∀ (h : Heap) (s5 : SA) (n5 : Nat) (s6 : SA) (n6 : Nat) (s7 : SA) (n7 : Nat) (os : List Ent), WI h0 h s5 n5 s6 n6 s7 n7 os → n6 ≤ j →
    ∃ h', L8x12 mk0 E s1 n1 s5 n5 s6 n6 s7 n7 s24 n24 ((n24 : Nat) : Int) ((j : Nat) : Int) h (Q8x12 mk0 E) = some (.bool true, h') := by
  intro k
  induction k with
  | zero =>
    intro j hj h s5 n5 s6 n6 s7 n7 os W h6
    rw [L8x12xeq, letK_eq, if_neg (by simp; omega), X8x12xe0]
    have l7 := W.l7
    subst l7
    have hl := W.l6
    have g5 : IS h s5 n5 (os.flatMap Ent.words) := is_of_GS W.g5
    have g7 : IS h s7 n7 (os.map Ent.size) := is_of_GS W.g7
    exact read_loop W.ok g7 (os_of_GS W.l6 W.g6) (by omega) n7 0 (by omega) s5 n5 (by rw [List.drop_zero]; exact g5) (esOk_GS W.g5)
  | succ k ih =>
    intro j hj h s5 n5 s6 n6 s7 n7 os W h6
    have hlen := HA.1
    obtain ⟨e, he⟩ : ∃ e, xs[j]? = some e := ⟨xs[j]'(by omega), List.getElem?_eq_getElem (by omega)⟩
    obtain ⟨a, ha, la⟩ := os_ld (os_old HA W.old) j e he
    rw [L8x12xeq, letK_eq, if_pos (by simp; omega), chk_of (by intro _; omega), ha, atP_of, Int.toNat_natCast, la, gCells_of]
    simp only [Ent.cells, List.getElem?_cons_zero, List.getElem?_cons_succ]
    rw [gI_of, gI_of, gI_of, gI_of, gI_of, letK_eq]
    have fin : ∀ (long : Bool), ∃ h', J8x24 mk0 E s1 n1 s5 n5 s6 n6 s7 n7 e.op e.d e.a e.b e.n (.fn (encF long) [] []) s24 n24 ((n24 : Nat) : Int) ((j : Nat) : Int) h (Q8x12 mk0 E) = some (.bool true, h') := by
      intro long
      obtain ⟨s5', n5', s6', n6', s7', n7', h', os', h1, h2, h3⟩ := round_any (s1 := s1) (s24 := s24) (n1 := n1) (n24 := n24) W (by omega) ⟨e.op, e.d, e.a, e.b, e.n, long⟩ ((n24 : Nat) : Int) ((j : Nat) : Int) (Q8x12 mk0 E)
      dsimp only at h1
      rw [h1, J8x28xeq, letK_eq, wrap64 (by omega) (by omega), show ((j : Int) + 1) = ((j + 1 : Nat) : Int) by omega]
      exact ih (j + 1) (by omega) h' s5' n5' s6' n6' s7' n7' os' h2 (by omega)
    by_cases hb : j < n1
    · obtain ⟨a1, x, ha1, la1⟩ := bs_ld (bs_old HB W.old) j hb
      rw [show decide ((j : Int) < (n1 : Int)) = true by simp; omega, chk_of (by intro _; omega), ha1, atP_of, atP_of, Nat.mul_one, la1, gB_of, letK_eq]
      cases x with
      | true => exact fin true
      | false => exact fin false
    · rw [show decide ((j : Int) < (n1 : Int)) = false by simp; omega, chk_of (by simp)]
      obtain ⟨a1, e1⟩ := gP_none (fun a38 => atP (some (Ad.add a38 (j * 1))) false fun a39 => gB (ld1 h a39) false fun b39 => letK ((if false = true then b39 else false) : Bool) fun b40 => if b40 = true then J8x24 mk0 E s1 n1 s5 n5 s6 n6 s7 n7 e.op e.d e.a e.b e.n (.fn 23 [] []) s24 n24 ((n24 : Nat) : Int) ((j : Nat) : Int) h (Q8x12 mk0 E) else J8x24 mk0 E s1 n1 s5 n5 s6 n6 s7 n7 e.op e.d e.a e.b e.n (.fn 22 [] []) s24 n24 ((n24 : Nat) : Int) ((j : Nat) : Int) h (Q8x12 mk0 E)) (adP s1)
      rw [e1, atP_of]
      obtain ⟨b1, e2⟩ := gB_none (fun b39 => letK ((if false = true then b39 else false) : Bool) fun b40 => if b40 = true then J8x24 mk0 E s1 n1 s5 n5 s6 n6 s7 n7 e.op e.d e.a e.b e.n (.fn 23 [] []) s24 n24 ((n24 : Nat) : Int) ((j : Nat) : Int) h (Q8x12 mk0 E) else J8x24 mk0 E s1 n1 s5 n5 s6 n6 s7 n7 e.op e.d e.a e.b e.n (.fn 22 [] []) s24 n24 ((n24 : Nat) : Int) ((j : Nat) : Int) h (Q8x12 mk0 E)) (ld1 h (Ad.add a1 (j * 1)))
      rw [e2, letK_eq]
      exact fin false

theorem insnStream_ok {h : Heap} {s0 s1 : SA} {n0 n1 : Nat} {xs : List Ent} (HA : OS h s0 n0 xs) (HB : BS h s1 n1) : ∃ h', E 8 [.sl s0 n0, .sl s1 n1] h = some (.bool true, h') := by
  obtain ⟨h1, hf, rfl⟩ := fact_ok h
  rw [e8, hf, Option.bind_some, gB_of, if_neg (by simp), letK_eq, mm_min, chkC_of (by intro _; exact ⟨by omega, .inl (by omega)⟩), letK_eq]
  have kp : ∀ (b : Nat) (x : Blk), h[b]? = some x → (h ++ [Blk.cells (encW 11 2 0 0 (-1)) (.grow 1) 0])[b]? = some x := fun b x hx => app_old hx
  exact write_loop (N := n0) (n24 := (min (n0 : Int) 40).toNat) (os_old HA kp) (bs_old HB kp) (by omega) (by omega) (min (n0 : Int) 40).toNat 0 (by omega) _ _ _ _ _ _ _ [] (wi0 _) (by omega)

end Go.Proofs.Ytmfmnbldngfelaa.I
