/- Arguments, read: functions, allocations. -/
import Derived.Test.YtnmdadadjneaiaaProg
import Derived.Test.YtnmdadadjneaiaaLibD
import Derived.Test.YtnmdadadjneaiaaConDd
set_option linter.unusedVariables false
set_option linter.unusedSimpArgs false
set_option maxRecDepth 100000
namespace Go.Proofs.Ytnmdadadjneaiaa.D
open Go Go.Proofs.Ytnmdadadjneaiaa.Abs Go.Proofs
theorem pick_list {α : Type} {p : Nat → α → Prop} : ∀ (n : Nat), (∀ i, i < n → ∃ x, p i x) → ∃ l : List α, l.length = n ∧ ∀ i x, l[i]? = some x → p i x
 | 0, _ => ⟨[], rfl, fun i x h => by simp at h⟩
 | n + 1, h => by
  obtain ⟨l, hl, hp⟩ := pick_list n fun i hi => h i (by omega)
  obtain ⟨y, hy⟩ := h n (by omega)
  refine ⟨l ++ [y], by simp [hl], fun i x hx => ?_⟩
  rw [List.getElem?_append] at hx
  split at hx
  · exact hp i x hx
  · have hi := (List.getElem?_eq_some_iff.1 hx).1
    simp at hi
    have : i = n := by omega
    subst this
    rw [show i - l.length = 0 by omega] at hx
    cases hx
    exact hy
theorem tys_int {h : Heap} {f : Nat} {l : List AV} (H : IsTyS Try.prog h f 3 l) : ∃ n, l = [.int .i64 n] := by
 cases f with
 | zero => exact H.elim
 | succ f =>
  unfold IsTyS at H
  rw [Try.underlying3] at H
  obtain ⟨n, hn, _⟩ := H
  exact ⟨n, hn⟩
theorem tys_slice {α : Type} {g : α → List AV} {Q : α → Prop} {t u es by_ : Nat} (hu : Try.prog.underlying t = some (.slice u)) (hc : Try.prog.cellsOf u = es) (hb : Try.prog.bytesOf u = by_) (h0 : es ≠ 0) {h : Heap} (hg : ∀ f l, IsTyS Try.prog h f u l → ∃ x : α, l = g x ∧ Q x)
 {f : Nat} {x : List AV} (H : IsTyS Try.prog h f t x) : ∃ s l, x = [.sl s l.length] ∧ VS g es h s l.length l ∧ (∀ y ∈ l, Q y) ∧ l.length * by_ ≤ reachBytes := by
 cases f with
 | zero => exact H.elim
 | succ f =>
  unfold IsTyS at H
  rw [hu] at H
  rcases H with H | H | H | ⟨b, o, n, c, hn, hz, H, hbk, hf⟩
  · rw [hc] at H; exact absurd H h0
  · exact ⟨.nil, [], H, ⟨rfl, .inl rfl⟩, (fun y hy => by cases hy), by simp⟩
  · exact ⟨.lost, [], H, ⟨rfl, .inl rfl⟩, (fun y hy => by cases hy), by simp⟩
  · obtain ⟨l, ho, hp⟩ := pick_list (p := fun i e => (o + i * es + es ≤ c.length ∧ (c.drop (o + i * es)).take es = g e) ∧ Q e) n fun i hi => by
     obtain ⟨h1, h2⟩ := hf i hi
     rw [hc] at h1 h2
     obtain ⟨e, he, hq⟩ := hg _ _ h2
     refine ⟨e, ⟨?_, he⟩, hq⟩
     rw [List.length_take, List.length_drop] at h1
     omega
    subst ho
    refine ⟨_, l, H, ⟨rfl, .inr ⟨b, 0, o, c, .ro, rfl, hbk, fun i x hx => (hp i x hx).1⟩⟩, fun y hy => ?_, by rw [hb] at hz; exact hz⟩
    obtain ⟨i, hi⟩ := List.mem_iff_getElem?.1 hy
    exact (hp i y hi).2
theorem reach_len {n b : Nat} (h : n * b ≤ reachBytes) (hb : 1 ≤ b) : n ≤ 140737488355328 := by
 have h1 : reachBytes = 140737488351232 := rfl
 have h3 : n * 1 ≤ n * b := Nat.mul_le_mul_left _ hb
 omega
theorem tys_ints {h : Heap} {f : Nat} {x : List AV} (H : IsTyS Try.prog h f 22 x) : ∃ s l, x = [.sl s l.length] ∧ VS intC 1 h s l.length l ∧ l.length ≤ 140737488355328 := by
 obtain ⟨s, l, h1, h2, _, h4⟩ := tys_slice (g := intC) (es := 1) (by_ := 8) (Q := fun _ => True) Try.underlying22 (by kernel_rfl) (by kernel_rfl) (by omega) (fun f l hl => by obtain ⟨n, rfl⟩ := tys_int hl; exact ⟨n, rfl, trivial⟩) H
 exact ⟨s, l, h1, h2, reach_len h4 (by omega)⟩
theorem tys_vend {h : Heap} {f : Nat} {l : List AV} (H : IsTyS Try.prog h f 51 l) : ∃ e : VE, l = e.cells ∧ e.R h ∧ e.to.length ≤ 140737488355328 := by
 cases f with
 | zero => exact H.elim
 | succ f =>
  unfold IsTyS at H
  rw [Try.underlying51] at H
  obtain ⟨hl, hf⟩ := H
  have hc : Try.prog.cellsOf 51 = 6 := by kernel_rfl
  have hc3 : Try.prog.cellsOf 3 = 1 := by kernel_rfl
  have hc22 : Try.prog.cellsOf 22 = 1 := by kernel_rfl
  rw [hc] at hl
  obtain ⟨x0, x1, x2, x3, x4, x5, rfl⟩ : ∃ x0 x1 x2 x3 x4 x5, l = [x0, x1, x2, x3, x4, x5] := by
   match l, hl with
   | [x0, x1, x2, x3, x4, x5], _ => exact ⟨x0, x1, x2, x3, x4, x5, rfl⟩
  have f0 : IsTyS Try.prog h f 3 [x0] := by
   have := hf ⟨"Kind", 3, 0, false, "", "", 0⟩ (by simp)
   rw [hc3] at this
   exact this
  have f1 : IsTyS Try.prog h f 3 [x1] := by
   have := hf ⟨"Op", 3, 1, false, "", "", 8⟩ (by simp)
   rw [hc3] at this
   exact this
  have f2 : IsTyS Try.prog h f 3 [x2] := by
   have := hf ⟨"A", 3, 2, false, "", "", 16⟩ (by simp)
   rw [hc3] at this
   exact this
  have f3 : IsTyS Try.prog h f 3 [x3] := by
   have := hf ⟨"B", 3, 3, false, "", "", 24⟩ (by simp)
   rw [hc3] at this
   exact this
  have f4 : IsTyS Try.prog h f 3 [x4] := by
   have := hf ⟨"N", 3, 4, false, "", "", 32⟩ (by simp)
   rw [hc3] at this
   exact this
  have f5 : IsTyS Try.prog h f 22 [x5] := by
   have := hf ⟨"To", 22, 5, false, "", "", 40⟩ (by simp)
   rw [hc22] at this
   exact this
  obtain ⟨a, ha⟩ := tys_int f0
  obtain ⟨b, hb⟩ := tys_int f1
  obtain ⟨c, hc'⟩ := tys_int f2
  obtain ⟨d, hd⟩ := tys_int f3
  obtain ⟨e, he⟩ := tys_int f4
  obtain ⟨s, t, ht, h1, h2⟩ := tys_ints f5
  cases ha; cases hb; cases hc'; cases hd; cases he; cases ht
  exact ⟨⟨a, b, c, d, e, s, t⟩, rfl, h1, h2⟩
theorem tys_vins {h : Heap} {f : Nat} {l : List AV} (H : IsTyS Try.prog h f 55 l) : ∃ e : VI, l = e.cells ∧ e.R h := by
 cases f with
 | zero => exact H.elim
 | succ f =>
  unfold IsTyS at H
  rw [Try.underlying55] at H
  obtain ⟨hl, hf⟩ := H
  have hc : Try.prog.cellsOf 55 = 6 := by kernel_rfl
  have hc3 : Try.prog.cellsOf 3 = 1 := by kernel_rfl
  have hc22 : Try.prog.cellsOf 22 = 1 := by kernel_rfl
  rw [hc] at hl
  obtain ⟨x0, x1, x2, x3, x4, x5, rfl⟩ : ∃ x0 x1 x2 x3 x4 x5, l = [x0, x1, x2, x3, x4, x5] := by
   match l, hl with
   | [x0, x1, x2, x3, x4, x5], _ => exact ⟨x0, x1, x2, x3, x4, x5, rfl⟩
  have f0 : IsTyS Try.prog h f 3 [x0] := by
   have := hf ⟨"Op", 3, 0, false, "", "", 0⟩ (by simp)
   rw [hc3] at this
   exact this
  have f1 : IsTyS Try.prog h f 3 [x1] := by
   have := hf ⟨"D", 3, 1, false, "", "", 8⟩ (by simp)
   rw [hc3] at this
   exact this
  have f2 : IsTyS Try.prog h f 3 [x2] := by
   have := hf ⟨"A", 3, 2, false, "", "", 16⟩ (by simp)
   rw [hc3] at this
   exact this
  have f3 : IsTyS Try.prog h f 3 [x3] := by
   have := hf ⟨"B", 3, 3, false, "", "", 24⟩ (by simp)
   rw [hc3] at this
   exact this
  have f4 : IsTyS Try.prog h f 3 [x4] := by
   have := hf ⟨"N", 3, 4, false, "", "", 32⟩ (by simp)
   rw [hc3] at this
   exact this
  have f5 : IsTyS Try.prog h f 22 [x5] := by
   have := hf ⟨"Args", 22, 5, false, "", "", 40⟩ (by simp)
   rw [hc22] at this
   exact this
  obtain ⟨a, ha⟩ := tys_int f0
  obtain ⟨b, hb⟩ := tys_int f1
  obtain ⟨c, hc'⟩ := tys_int f2
  obtain ⟨d, hd⟩ := tys_int f3
  obtain ⟨e, he⟩ := tys_int f4
  obtain ⟨s, t, ht, h1, h2⟩ := tys_ints f5
  cases ha; cases hb; cases hc'; cases hd; cases he; cases ht
  exact ⟨⟨a, b, c, d, e, s, t⟩, rfl, h1⟩
theorem tys_vblock {h : Heap} {f : Nat} {l : List AV} (H : IsTyS Try.prog h f 53 l) : ∃ e : VB, l = e.cells ∧ e.R h ∧ e.ins.length ≤ 140737488355328 ∧ e.e.to.length ≤ 140737488355328 := by
 cases f with
 | zero => exact H.elim
 | succ f =>
  unfold IsTyS at H
  rw [Try.underlying53] at H
  obtain ⟨hl, hf⟩ := H
  have hc : Try.prog.cellsOf 53 = 7 := by kernel_rfl
  have hc49 : Try.prog.cellsOf 49 = 1 := by kernel_rfl
  have hc51 : Try.prog.cellsOf 51 = 6 := by kernel_rfl
  rw [hc] at hl
  obtain ⟨x0, x1, x2, x3, x4, x5, x6, rfl⟩ : ∃ x0 x1 x2 x3 x4 x5 x6, l = [x0, x1, x2, x3, x4, x5, x6] := by
   match l, hl with
   | [x0, x1, x2, x3, x4, x5, x6], _ => exact ⟨x0, x1, x2, x3, x4, x5, x6, rfl⟩
  have f0 : IsTyS Try.prog h f 49 [x0] := by
   have := hf ⟨"Ins", 49, 0, false, "", "", 0⟩ (by simp)
   rw [hc49] at this
   exact this
  have f1 : IsTyS Try.prog h f 51 [x1, x2, x3, x4, x5, x6] := by
   have := hf ⟨"End", 51, 1, false, "", "", 24⟩ (by simp)
   rw [hc51] at this
   exact this
  obtain ⟨s, t, ht, h1, h2, h3⟩ := tys_slice (g := VI.cells) (es := 6) (by_ := 64) (Q := fun y => VI.R h y) Try.underlying49 (by kernel_rfl) (by kernel_rfl) (by omega) (fun f l hl => tys_vins hl) f0
  obtain ⟨e, he, h4, h5⟩ := tys_vend f1
  cases ht; cases he
  exact ⟨⟨s, t, e⟩, rfl, ⟨h1, h2, h4⟩, reach_len h3 (by omega), h5⟩
theorem tys_vfn {h : Heap} {f : Nat} {l : List AV} (H : IsTyS Try.prog h f 25 l) : ∃ e : VF, l = e.cells ∧ e.R h ∧ e.B := by
 cases f with
 | zero => exact H.elim
 | succ f =>
  unfold IsTyS at H
  rw [Try.underlying25] at H
  obtain ⟨hl, hf⟩ := H
  have hc : Try.prog.cellsOf 25 = 4 := by kernel_rfl
  have hc3 : Try.prog.cellsOf 3 = 1 := by kernel_rfl
  have hc22 : Try.prog.cellsOf 22 = 1 := by kernel_rfl
  have hc23 : Try.prog.cellsOf 23 = 1 := by kernel_rfl
  rw [hc] at hl
  obtain ⟨x0, x1, x2, x3, rfl⟩ : ∃ x0 x1 x2 x3, l = [x0, x1, x2, x3] := by
   match l, hl with
   | [x0, x1, x2, x3], _ => exact ⟨x0, x1, x2, x3, rfl⟩
  have f0 : IsTyS Try.prog h f 3 [x0] := by
   have := hf ⟨"Name", 3, 0, false, "", "", 0⟩ (by simp)
   rw [hc3] at this
   exact this
  have f1 : IsTyS Try.prog h f 22 [x1] := by
   have := hf ⟨"Params", 22, 1, false, "", "", 8⟩ (by simp)
   rw [hc22] at this
   exact this
  have f2 : IsTyS Try.prog h f 3 [x2] := by
   have := hf ⟨"Regs", 3, 2, false, "", "", 32⟩ (by simp)
   rw [hc3] at this
   exact this
  have f3 : IsTyS Try.prog h f 23 [x3] := by
   have := hf ⟨"Blocks", 23, 3, false, "", "", 40⟩ (by simp)
   rw [hc23] at this
   exact this
  obtain ⟨a, ha⟩ := tys_int f0
  obtain ⟨sp, p, hp, h1, h2⟩ := tys_ints f1
  obtain ⟨c, hc'⟩ := tys_int f2
  obtain ⟨s, t, ht, h3, h4, h5⟩ := tys_slice (g := VB.cells) (es := 7) (by_ := 88) (Q := fun y => VB.R h y ∧ y.ins.length ≤ 140737488355328 ∧ y.e.to.length ≤ 140737488355328) Try.underlying23 (by kernel_rfl) (by kernel_rfl) (by omega) (fun f l hl => tys_vblock hl) f3
  cases ha; cases hp; cases hc'; cases ht
  exact ⟨⟨a, sp, p, c, s, t⟩, rfl, ⟨h1, h3, fun y hy => (h4 y hy).1⟩, ⟨h2, reach_len h5 (by omega), fun y hy => (h4 y hy).2.1, fun y hy => (h4 y hy).2.2⟩⟩
end Go.Proofs.Ytnmdadadjneaiaa.D
