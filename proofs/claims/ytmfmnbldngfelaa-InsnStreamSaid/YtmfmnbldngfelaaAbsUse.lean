/- Lemmas for the use of the written-out functions: integers, blocks. -/
import Derived.Test.YtmfmnbldngfelaaAbsSym
set_option linter.unusedVariables false
set_option linter.unusedSimpArgs false
namespace Go.Proofs.Ytmfmnbldngfelaa.Abs
open Go

theorem wrap64 {x : Int} (h1 : -9223372036854775808 ≤ x) (h2 : x ≤ 9223372036854775807) : IntKind.wrap .i64 x = x := by
  unfold IntKind.wrap
  simp only [IntKind.bits, IntKind.signed]
  simp
  split <;> omega

attribute [simp] gb_some gI_of gB_of gS_of gP_of gL_of gM_of gF_of gN_of gA_of gCells_of atP_of

section
variable {R : Type}
@[simp] theorem gT2_of {bc : Bool} (x y : AV) (K : List AV → Option R) : gT 2 (.tup [x, y]) bc K = K [x, y] := gT_of _ rfl _
@[simp] theorem gT3_of {bc : Bool} (x y z : AV) (K : List AV → Option R) : gT 3 (.tup [x, y, z]) bc K = K [x, y, z] := gT_of _ rfl _
@[simp] theorem gT0_of {bc : Bool} (K : List AV → Option R) : gT 0 (.tup []) bc K = K [] := gT_of _ rfl _
@[simp] theorem add_mk (b v o n : Nat) : Ad.add ⟨b, v, o⟩ n = ⟨b, v, o + n⟩ := rfl
@[simp] theorem mm_min (a b : Int) : foldMM false a [b] = min a b := by simp only [foldMM]; split <;> omega
@[simp] theorem mm_max (a b : Int) : foldMM true a [b] = max a b := by simp only [foldMM]; split <;> omega
@[simp] theorem letK_eq {α : Type} (x : α) (K : α → Option R) : letK x K = K x := rfl
@[simp] theorem newK_eq (h : Heap) (b : Blk) (K : Heap → Option R) : newK h b K = K (h ++ [b]) := rfl
@[simp] theorem callO_true (m : Res) (z : AV) (h : Heap) : callO true m z h = m := rfl
@[simp] theorem callO_false (m : Res) (z : AV) (h : Heap) : callO false m z h = some (z, h) := rfl
@[simp] theorem callO_bool (c x : Bool) (h : Heap) : callO c (some (.bool x, h)) (.bool false) h = some (.bool (c && x), h) := by cases c <;> rfl
@[simp] theorem adP_pos (a : Ad) : adP (.pos a) = some a := rfl
@[simp] theorem andB_true (b : Bool) : andB true b = b := rfl
@[simp] theorem andB_false (b : Bool) : andB false b = false := rfl

theorem gI_false {k : IntKind} (m : Option AV) (K : Int → Option R) : gI k m false K = K ((m.bind (rI k)).getD 0) := by unfold gI gb; cases m.bind (rI k) <;> rfl

theorem ld1_at {h : Heap} {b v o : Nat} {c : List AV} {m : Mode} {x : AV} (hb : h[b]? = some (.cells c m v)) (hx : c[o]? = some x) (hf : flatA x = true) : ld1 h ⟨b, v, o⟩ = some x := by
  unfold ld1
  simp only [hb, hx, hf, if_true]

theorem st1_at {h : Heap} {b v o : Nat} {c : List AV} {m : Mode} {x : AV} (hb : h[b]? = some (.cells c m v)) (hm : m ≠ .ro) (ho : o < c.length) : st1 h ⟨b, v, o⟩ x = some (h.set b (.cells (c.set o x) m v)) := by
  unfold st1
  simp only [hb]
  rw [if_pos ⟨trivial, hm, ho⟩]

theorem set_same {h : Heap} {b : Nat} {x y : Blk} (hb : h[b]? = some y) : (h.set b x)[b]? = some x := by
  have := (List.getElem?_eq_some_iff.1 hb).1
  simp [this]
theorem set_other {h : Heap} {b b' : Nat} {x : Blk} (hne : b ≠ b') : (h.set b x)[b']? = h[b']? := by simp [List.getElem?_set, hne]
theorem app_old {h l : Heap} {b : Nat} {x : Blk} (hb : h[b]? = some x) : (h ++ l)[b]? = some x := by
  rw [List.getElem?_append_left (List.getElem?_eq_some_iff.1 hb).1]; exact hb
end
end Go.Proofs.Ytmfmnbldngfelaa.Abs
