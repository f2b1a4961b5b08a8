/- Arguments, read: lists of functions. -/
import Derived.Test.YtmfmnbldngfelaaLFact
import Derived.Test.YtmfmnbldngfelaaLibD
import Derived.Test.YtmfmnbldngfelaaIArgs
set_option linter.unusedVariables false
set_option linter.unusedSimpArgs false
set_option maxRecDepth 100000
namespace Go.Proofs.Ytmfmnbldngfelaa.I
open Go Go.Proofs.Ytmfmnbldngfelaa.Abs Go.Proofs

theorem tys_int {h : Heap} {f : Nat} {l : List AV} (H : IsTyS Try.prog h f 3 l) : ∃ n, l = [.int .i64 n] := by
  cases f with
  | zero => exact H.elim
  | succ f =>
    unfold IsTyS at H
    rw [Try.underlying3] at H
    obtain ⟨n, hn, _⟩ := H
    exact ⟨n, hn⟩

theorem tys_bool {h : Heap} {f : Nat} {l : List AV} (H : IsTyS Try.prog h f 4 l) : ∃ b, l = [.bool b] := by
  cases f with
  | zero => exact H.elim
  | succ f =>
    unfold IsTyS at H
    rw [Try.underlying4] at H
    exact H

/-- A slice of values of a type whose cells are known, abstractly. -/
theorem tys_slice {α : Type} {g : α → List AV} {Q : α → Prop} {t u es by_ : Nat} (hu : Try.prog.underlying t = some (.slice u)) (hc : Try.prog.cellsOf u = es) (hb : Try.prog.bytesOf u = by_) (h0 : es ≠ 0) {h : Heap} (hg : ∀ f l, IsTyS Try.prog h f u l → ∃ x : α, l = g x ∧ Q x)
    {f : Nat} {x : List AV} (H : IsTyS Try.prog h f t x) : ∃ s l, x = [.sl s l.length] ∧ VS g es h s l.length l ∧ (∀ y ∈ l, Q y) ∧ l.length * by_ ≤ reachBytes := by
  cases f with
  | zero => exact H.elim
  | succ f =>
    unfold IsTyS at H
    rw [hu] at H
    rcases H with H | H | H | ⟨b, o, n, c, hn, hz, H, hbk, hf⟩
    · rw [hc] at H; exact absurd H h0
    · exact ⟨.nil, [], H, ⟨rfl, .inl rfl⟩, (fun y hy => by cases hy), by simp⟩
    · exact ⟨.lost, [], H, ⟨rfl, .inl rfl⟩, (fun y hy => by cases hy), by simp⟩
    · obtain ⟨l, ho, hp⟩ := pick_list (p := fun i e => (o + i * es + es ≤ c.length ∧ (c.drop (o + i * es)).take es = g e) ∧ Q e) n fun i hi => by
        obtain ⟨h1, h2⟩ := hf i hi
        rw [hc] at h1 h2
        obtain ⟨e, he, hq⟩ := hg _ _ h2
        refine ⟨e, ⟨?_, he⟩, hq⟩
        rw [List.length_take, List.length_drop] at h1
        omega
      subst ho
      refine ⟨_, l, H, ⟨rfl, .inr ⟨b, 0, o, c, .ro, rfl, hbk, fun i x hx => (hp i x hx).1⟩⟩, fun y hy => ?_, by rw [hb] at hz; exact hz⟩
      obtain ⟨i, hi⟩ := List.mem_iff_getElem?.1 hy
      exact (hp i y hi).2

theorem tys_ints {h : Heap} {f : Nat} {x : List AV} (H : IsTyS Try.prog h f 38 x) : ∃ s l, x = [.sl s l.length] ∧ VS intC 1 h s l.length l ∧ (∀ y ∈ l, True) ∧ l.length * 8 ≤ reachBytes :=
  tys_slice (Q := fun _ => True) Try.underlying38 (by kernel_rfl) (by kernel_rfl) (by omega) (fun f l hl => by obtain ⟨n, rfl⟩ := tys_int hl; exact ⟨n, rfl, trivial⟩) H

theorem tys_item {h : Heap} {f : Nat} {l : List AV} (H : IsTyS Try.prog h f 59 l) : ∃ e : It, l = e.cells ∧ True := by
  cases f with
  | zero => exact H.elim
  | succ f =>
    unfold IsTyS at H
    rw [Try.underlying59] at H
    obtain ⟨hl, hf⟩ := H
    have hc : Try.prog.cellsOf 59 = 6 := by kernel_rfl
    have hc37 : Try.prog.cellsOf 37 = 5 := by kernel_rfl
    have hc3 : Try.prog.cellsOf 3 = 1 := by kernel_rfl
    rw [hc] at hl
    obtain ⟨x0, x1, x2, x3, x4, x5, rfl⟩ : ∃ x0 x1 x2 x3 x4 x5, l = [x0, x1, x2, x3, x4, x5] := by
      match l, hl with
      | [x0, x1, x2, x3, x4, x5], _ => exact ⟨x0, x1, x2, x3, x4, x5, rfl⟩
    have g0 : IsTyS Try.prog h f 37 [x0, x1, x2, x3, x4] := by
      have := hf ⟨"Op", 37, 0, false, "", "", 0⟩ (by simp)
      rw [hc37] at this
      exact this
    have g1 : IsTyS Try.prog h f 3 [x5] := by
      have := hf ⟨"To", 3, 5, false, "", "", 40⟩ (by simp)
      rw [hc3] at this
      exact this
    obtain ⟨t, ht⟩ := tys_int g1
    cases f with
    | zero => exact g0.elim
    | succ f =>
      unfold IsTyS at g0
      rw [Try.underlying37] at g0
      obtain ⟨_, hf'⟩ := g0
      have f0 : IsTyS Try.prog h f 3 [x0] := by
        have := hf' ⟨"Op", 3, 0, false, "", "", 0⟩ (by simp)
        rw [hc3] at this
        exact this
      have f1 : IsTyS Try.prog h f 3 [x1] := by
        have := hf' ⟨"D", 3, 1, false, "", "", 8⟩ (by simp)
        rw [hc3] at this
        exact this
      have f2 : IsTyS Try.prog h f 3 [x2] := by
        have := hf' ⟨"A", 3, 2, false, "", "", 16⟩ (by simp)
        rw [hc3] at this
        exact this
      have f3 : IsTyS Try.prog h f 3 [x3] := by
        have := hf' ⟨"B", 3, 3, false, "", "", 24⟩ (by simp)
        rw [hc3] at this
        exact this
      have f4 : IsTyS Try.prog h f 3 [x4] := by
        have := hf' ⟨"N", 3, 4, false, "", "", 32⟩ (by simp)
        rw [hc3] at this
        exact this
      obtain ⟨a, ha⟩ := tys_int f0
      obtain ⟨b, hb⟩ := tys_int f1
      obtain ⟨c, hc'⟩ := tys_int f2
      obtain ⟨d, hd⟩ := tys_int f3
      obtain ⟨e, he⟩ := tys_int f4
      cases ha; cases hb; cases hc'; cases hd; cases he; cases ht
      exact ⟨⟨a, b, c, d, e, t⟩, rfl, trivial⟩

theorem tys_call {h : Heap} {f : Nat} {l : List AV} (H : IsTyS Try.prog h f 70 l) : ∃ e : Int × Int, l = clC e ∧ True := by
  cases f with
  | zero => exact H.elim
  | succ f =>
    unfold IsTyS at H
    rw [Try.underlying70] at H
    obtain ⟨hl, hf⟩ := H
    have hc : Try.prog.cellsOf 70 = 2 := by kernel_rfl
    have hc3 : Try.prog.cellsOf 3 = 1 := by kernel_rfl
    rw [hc] at hl
    obtain ⟨x0, x1, rfl⟩ : ∃ x0 x1, l = [x0, x1] := by
      match l, hl with
      | [x0, x1], _ => exact ⟨x0, x1, rfl⟩
    have f0 : IsTyS Try.prog h f 3 [x0] := by
      have := hf ⟨"Item", 3, 0, false, "", "", 0⟩ (by simp)
      rw [hc3] at this
      exact this
    have f1 : IsTyS Try.prog h f 3 [x1] := by
      have := hf ⟨"Fn", 3, 1, false, "", "", 8⟩ (by simp)
      rw [hc3] at this
      exact this
    obtain ⟨a, ha⟩ := tys_int f0
    obtain ⟨b, hb⟩ := tys_int f1
    cases ha; cases hb
    exact ⟨(a, b), rfl, trivial⟩

theorem reach_big {n b : Nat} (h : n * b ≤ reachBytes) (hb : 8 ≤ b) : n < big := by
  have h1 : reachBytes = 140737488351232 := rfl
  have h2 : big = 17592186044416 := rfl
  have h3 : n * 8 ≤ n * b := Nat.mul_le_mul_left _ hb
  omega

theorem tys_map {h : Heap} {f : Nat} {l : List AV} (H : IsTyS Try.prog h f 108 l) : ∃ e : Mp, l = e.cells ∧ e.R h := by
  cases f with
  | zero => exact H.elim
  | succ f =>
    unfold IsTyS at H
    rw [Try.underlying108] at H
    obtain ⟨hl, hf⟩ := H
    have hc : Try.prog.cellsOf 108 = 4 := by kernel_rfl
    have hc3 : Try.prog.cellsOf 3 = 1 := by kernel_rfl
    have hc4 : Try.prog.cellsOf 4 = 1 := by kernel_rfl
    have hc38 : Try.prog.cellsOf 38 = 1 := by kernel_rfl
    rw [hc] at hl
    obtain ⟨x0, x1, x2, x3, rfl⟩ : ∃ x0 x1 x2 x3, l = [x0, x1, x2, x3] := by
      match l, hl with
      | [x0, x1, x2, x3], _ => exact ⟨x0, x1, x2, x3, rfl⟩
    have f0 : IsTyS Try.prog h f 3 [x0] := by
      have := hf ⟨"Item", 3, 0, false, "", "", 0⟩ (by simp)
      rw [hc3] at this
      exact this
    have f1 : IsTyS Try.prog h f 4 [x1] := by
      have := hf ⟨"After", 4, 1, false, "", "", 8⟩ (by simp)
      rw [hc4] at this
      exact this
    have f2 : IsTyS Try.prog h f 38 [x2] := by
      have := hf ⟨"Slots", 38, 2, false, "", "", 16⟩ (by simp)
      rw [hc38] at this
      exact this
    have f3 : IsTyS Try.prog h f 3 [x3] := by
      have := hf ⟨"Regs", 3, 3, false, "", "", 40⟩ (by simp)
      rw [hc3] at this
      exact this
    obtain ⟨a, ha⟩ := tys_int f0
    obtain ⟨b, hb⟩ := tys_bool f1
    obtain ⟨s, sl, hs, h1, _, h2⟩ := tys_ints f2
    obtain ⟨d, hd⟩ := tys_int f3
    cases ha; cases hb; cases hs; cases hd
    exact ⟨⟨a, b, s, sl, d⟩, rfl, h1, reach_big h2 (by omega)⟩

theorem tys_fn {h : Heap} {f : Nat} {l : List AV} (H : IsTyS Try.prog h f 67 l) : ∃ e : Fn, l = e.cells ∧ e.R h := by
  cases f with
  | zero => exact H.elim
  | succ f =>
    unfold IsTyS at H
    rw [Try.underlying67] at H
    obtain ⟨hl, hf⟩ := H
    have hc : Try.prog.cellsOf 67 = 5 := by kernel_rfl
    have hc3 : Try.prog.cellsOf 3 = 1 := by kernel_rfl
    have hc52 : Try.prog.cellsOf 52 = 1 := by kernel_rfl
    have hc64 : Try.prog.cellsOf 64 = 1 := by kernel_rfl
    have hc65 : Try.prog.cellsOf 65 = 1 := by kernel_rfl
    rw [hc] at hl
    obtain ⟨x0, x1, x2, x3, x4, rfl⟩ : ∃ x0 x1 x2 x3 x4, l = [x0, x1, x2, x3, x4] := by
      match l, hl with
      | [x0, x1, x2, x3, x4], _ => exact ⟨x0, x1, x2, x3, x4, rfl⟩
    have f0 : IsTyS Try.prog h f 3 [x0] := by
      have := hf ⟨"Name", 3, 0, false, "", "", 0⟩ (by simp)
      rw [hc3] at this
      exact this
    have f1 : IsTyS Try.prog h f 52 [x1] := by
      have := hf ⟨"Items", 52, 1, false, "", "", 8⟩ (by simp)
      rw [hc52] at this
      exact this
    have f2 : IsTyS Try.prog h f 64 [x2] := by
      have := hf ⟨"Calls", 64, 2, false, "", "", 32⟩ (by simp)
      rw [hc64] at this
      exact this
    have f3 : IsTyS Try.prog h f 65 [x3] := by
      have := hf ⟨"Maps", 65, 3, false, "", "", 56⟩ (by simp)
      rw [hc65] at this
      exact this
    have f4 : IsTyS Try.prog h f 3 [x4] := by
      have := hf ⟨"Size", 3, 4, false, "", "", 80⟩ (by simp)
      rw [hc3] at this
      exact this
    obtain ⟨a, ha⟩ := tys_int f0
    obtain ⟨d, hd⟩ := tys_int f4
    obtain ⟨sI, its, i1, i2, _, i4⟩ := tys_slice (es := 6) (by_ := 48) (Q := fun _ => True) Try.underlying52 (by kernel_rfl) (by kernel_rfl) (by omega) (fun f l hl => tys_item hl) f1
    obtain ⟨sC, cls, c1, c2, _, c4⟩ := tys_slice (es := 2) (by_ := 16) (Q := fun _ => True) Try.underlying64 (by kernel_rfl) (by kernel_rfl) (by omega) (fun f l hl => tys_call hl) f2
    obtain ⟨sM, mps, m1, m2, m3, m4⟩ := tys_slice (es := 4) (by_ := 48) (Q := fun m => Mp.R h m) Try.underlying65 (by kernel_rfl) (by kernel_rfl) (by omega) (fun f l hl => tys_map hl) f3
    cases ha; cases hd; cases i1; cases c1; cases m1
    exact ⟨⟨a, d, sI, sC, sM, its, cls, mps⟩, rfl, i2, c2, m2, m3, reach_big i4 (by omega), reach_big c4 (by omega), reach_big m4 (by omega)⟩

/-- A list of functions, abstractly. -/
theorem tys_fns {h : Heap} {f : Nat} {x : AV} (H : IsTyS Try.prog h f 62 [x]) : ∃ s l, x = .sl s l.length ∧ VS Fn.cells 5 h s l.length l ∧ ∀ y ∈ l, Fn.R h y := by
  obtain ⟨s, l, h1, h2, h3, _⟩ := tys_slice (es := 5) (by_ := 88) (Q := fun m => Fn.R h m) Try.underlying62 (by kernel_rfl) (by kernel_rfl) (by omega) (fun f l hl => tys_fn hl) H
  cases h1
  exact ⟨s, l, rfl, h2, h3⟩

end Go.Proofs.Ytmfmnbldngfelaa.I
