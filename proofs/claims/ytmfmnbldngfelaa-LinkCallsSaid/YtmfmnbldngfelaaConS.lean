/- InsnStream: the reading loop. -/
import Derived.Test.YtmfmnbldngfelaaConI
import Derived.Test.YtmfmnbldngfelaaLibD
set_option linter.unusedVariables false
set_option linter.unusedSimpArgs false
namespace Go.Proofs.Ytmfmnbldngfelaa.I
open Go Go.Proofs.Ytmfmnbldngfelaa.Abs Go.Proofs

/-- An instruction, encoded short (where it may be) or long. -/
structure Ent where
  op : Int
  d : Int
  a : Int
  b : Int
  n : Int
  long : Bool

def Ent.words (e : Ent) : List Int := if e.long = true then longL e.op e.d e.a e.b e.n else encL e.op e.d e.a e.b e.n
def Ent.size (e : Ent) : Int := e.words.length
def Ent.cells (e : Ent) : List AV := [.int .i64 e.op, .int .i64 e.d, .int .i64 e.a, .int .i64 e.b, .int .i64 e.n]
def Ent.ok (e : Ent) : Prop := chkV e.op e.d e.a e.b e.n = 0

theorem Ent.words_cases (e : Ent) : (inB e.n (-128) 127 = true ∧ e.words = [wordV e.op e.d e.a e.b + e.n % 256] ∧ e.size = 1) ∨ (e.words = longL e.op e.d e.a e.b e.n ∧ e.size = 2) := by
  unfold Ent.size Ent.words encL longL
  by_cases h : e.long = true
  · exact .inr (by simp [h])
  · by_cases h2 : inB e.n (-128) 127 = true
    · exact .inl ⟨h2, by simp [h, h2]⟩
    · exact .inr (by simp [h, h2])

theorem Ent.dec (e : Ent) (he : e.ok) (t : List Int) : decV (e.words ++ t) = ((e.op, e.d, e.a, e.b, e.n), e.size, 0) := by
  rcases e.words_cases with ⟨h, w, s⟩ | ⟨w, s⟩
  · rw [w, s]; exact dec_short he h t
  · rw [w, s]; exact dec_long he t

/-- A slice, advanced. -/
theorem is_drop {h : Heap} {s : SA} {n : Nat} {l : List Int} (H : IS h s n l) (k : Nat) (hk : k ≤ n) : IS h (adS s k (n - k)) (n - k) (l.drop k) := by
  obtain ⟨hl, H | ⟨b, v, o, c, m, rfl, hb, hc⟩⟩ := H
  · exact ⟨by rw [List.length_drop]; omega, .inl (by omega)⟩
  · refine ⟨by rw [List.length_drop]; omega, ?_⟩
    cases e : n - k with
    | zero => exact .inl rfl
    | succ j =>
      refine .inr ⟨b, v, o + k, c, m, rfl, hb, fun i hi => ?_⟩
      rw [Nat.add_assoc, hc (k + i) (by omega)]
      simp [List.getElem?_drop]

/-- A slice that reads as a list of instructions. -/
def OS (h : Heap) (s : SA) (n : Nat) (os : List Ent) : Prop :=
  os.length = n ∧ (n = 0 ∨ ∃ b v o c m, s = .pos ⟨b, v, o⟩ ∧ h[b]? = some (.cells c m v) ∧ ∀ i e, os[i]? = some e → o + i * 5 + 5 ≤ c.length ∧ (c.drop (o + i * 5)).take 5 = e.cells)

theorem os_ld {h : Heap} {s : SA} {n : Nat} {os : List Ent} (H : OS h s n os) (i : Nat) (e : Ent) (hi : os[i]? = some e) : ∃ a, adP s = some a ∧ ldN h (Ad.add a (i * 5)) 5 = some e.cells := by
  obtain ⟨hl, H | ⟨b, v, o, c, m, rfl, hb, hc⟩⟩ := H
  · have := (List.getElem?_eq_some_iff.1 hi).1
    omega
  · refine ⟨_, rfl, ?_⟩
    obtain ⟨h1, h2⟩ := hc i e hi
    simp only [ldN, Ad.add, hb]
    rw [if_pos ⟨trivial, h1, by rw [h2]; rfl⟩, h2]

theorem esOk_adS {h : Heap} {s : SA} {es q m : Nat} (H : esOk h s es) : esOk h (adS s q m) es := by
  intro p hp
  cases s with
  | pos a =>
    cases m with
    | zero => cases hp
    | succ m => cases hp; exact H a rfl
  | _ => cases hp

end Go.Proofs.Ytmfmnbldngfelaa.I

/- InsnStream: the writing loop. -/
set_option linter.unusedVariables false
set_option linter.unusedSimpArgs false
namespace Go.Proofs.Ytmfmnbldngfelaa.I
open Go Go.Proofs.Ytmfmnbldngfelaa.Abs Go.Proofs

theorem is_of_GS {h : Heap} {s : SA} {n : Nat} {l : List Int} (H : GS h s n 1 (l.map (.int .i64))) : IS h s n l := by
  obtain ⟨hl, _, ⟨rfl, rfl⟩ | ⟨b, v, rfl, hb⟩⟩ := H
  · exact ⟨by simpa using hl, .inl rfl⟩
  · rw [List.length_map, Nat.mul_one] at hl
    refine ⟨hl, .inr ⟨b, v, 0, _, _, rfl, hb, fun i hi => ?_⟩⟩
    simp [show i < l.length by omega]

theorem cells_at : ∀ (os : List Ent) (i : Nat) (e : Ent), os[i]? = some e → i * 5 + 5 ≤ (os.flatMap Ent.cells).length ∧ ((os.flatMap Ent.cells).drop (i * 5)).take 5 = Ent.cells e := by
  intro os
  induction os with
  | nil => intro i e h; simp at h
  | cons x os ih =>
    intro i e h
    rw [List.flatMap_cons]
    have hx : (Ent.cells x).length = 5 := rfl
    cases i with
    | zero =>
      cases h
      rw [List.length_append, hx]
      exact ⟨by omega, by rw [Nat.zero_mul, List.drop_zero]; exact List.take_left' hx⟩
    | succ i =>
      obtain ⟨h1, h2⟩ := ih i e h
      rw [List.length_append, hx]
      refine ⟨by omega, ?_⟩
      rw [show (i + 1) * 5 = (Ent.cells x).length + i * 5 by rw [hx]; omega, List.drop_append, List.drop_eq_nil_of_le (by omega), List.nil_append, Nat.add_sub_cancel_left, h2]

theorem os_of_GS {h : Heap} {s : SA} {n : Nat} {os : List Ent} (hn : os.length = n) (H : GS h s n 5 (os.flatMap Ent.cells)) : OS h s n os := by
  obtain ⟨hl, _, ⟨rfl, rfl⟩ | ⟨b, v, rfl, hb⟩⟩ := H
  · exact ⟨hn, .inl rfl⟩
  · refine ⟨hn, .inr ⟨b, v, 0, _, _, rfl, hb, fun i e he => ?_⟩⟩
    obtain ⟨h1, h2⟩ := cells_at os i e he
    exact ⟨by omega, by rw [Nat.zero_add]; exact h2⟩

end Go.Proofs.Ytmfmnbldngfelaa.I

/- InsnStream: one round of the writing loop. -/
set_option linter.unusedVariables false
set_option linter.unusedSimpArgs false
namespace Go.Proofs.Ytmfmnbldngfelaa.I
open Go Go.Proofs.Ytmfmnbldngfelaa.Abs Go.Proofs

/-- A slice of one's own stays when other blocks change. -/
theorem gs_keep {h h' : Heap} {s t : SA} {n es : Nat} {cs : List AV} (H : GS h t n es cs) (hk : ∀ b x, h[b]? = some x → ¬ inS s b → h'[b]? = some x) (hd : ∀ b, inS t b → ¬ inS s b) : GS h' t n es cs := by
  obtain ⟨hl, fc, hh⟩ := H
  refine ⟨hl, fc, ?_⟩
  rcases hh with hh | ⟨b, v, rfl, hb⟩
  · exact .inl hh
  · exact .inr ⟨b, v, rfl, hk b _ hb (hd b ⟨_, rfl, rfl⟩)⟩

theorem gs_app {h l : Heap} {t : SA} {n es : Nat} {cs : List AV} (H : GS h t n es cs) : GS (h ++ l) t n es cs := by
  obtain ⟨hl, fc, hh⟩ := H
  refine ⟨hl, fc, ?_⟩
  rcases hh with hh | ⟨b, v, rfl, hb⟩
  · exact .inl hh
  · exact .inr ⟨b, v, rfl, app_old hb⟩

theorem gs_lt {h : Heap} {t : SA} {n es : Nat} {cs : List AV} (H : GS h t n es cs) {b : Nat} (hb : inS t b) : b < h.length := by
  obtain ⟨_, _, ⟨rfl, _⟩ | ⟨b', v, rfl, h'⟩⟩ := H
  · obtain ⟨a, ha, _⟩ := hb; cases ha
  · obtain ⟨a, ha, rfl⟩ := hb
    cases ha
    exact (List.getElem?_eq_some_iff.1 h').1

/-- The two encoders, called. -/
def encF (long : Bool) : Nat := if long = true then 23 else 22

theorem enc_call_ok (e : Ent) (he : e.ok) (h : Heap) : E (encF e.long) [.agg e.cells] h = some (.tup [.sl (.pos ⟨h.length, 0, 0⟩) e.words.length, .int .i64 0], h ++ [.cells (e.words.map (.int .i64)) (.grow 1) 0]) := by
  obtain ⟨op, d, a, b, n, long⟩ := e
  cases long with
  | true => exact long_ok h he
  | false =>
    have := encode_ok h he
    rw [encW_eq, List.length_map] at this
    exact this

theorem enc_call_bad (e : Ent) (he : ¬ e.ok) (h : Heap) : E (encF e.long) [.agg e.cells] h = some (.tup [.sl .nil 0, .int .i64 (chkV e.op e.d e.a e.b e.n)], h) := by
  obtain ⟨op, d, a, b, n, long⟩ := e
  cases long with
  | true => exact long_bad h he
  | false => exact encode_bad h he

end Go.Proofs.Ytmfmnbldngfelaa.I

/- InsnStream: the writing loop's invariant and round. -/
set_option linter.unusedVariables false
set_option linter.unusedSimpArgs false
namespace Go.Proofs.Ytmfmnbldngfelaa.I
open Go Go.Proofs.Ytmfmnbldngfelaa.Abs Go.Proofs

/-- What holds while instructions are written. -/
structure WI (h0 h : Heap) (s5 : SA) (n5 : Nat) (s6 : SA) (n6 : Nat) (s7 : SA) (n7 : Nat) (os : List Ent) : Prop where
  g5 : GS h s5 n5 1 ((os.flatMap Ent.words).map (.int .i64))
  g6 : GS h s6 n6 5 (os.flatMap Ent.cells)
  g7 : GS h s7 n7 1 ((os.map Ent.size).map (.int .i64))
  l6 : os.length = n6
  l7 : n7 = n6
  l5 : n5 ≤ 2 * n6
  ok : ∀ e ∈ os, e.ok
  old : ∀ (b : Nat) (x : Blk), h0[b]? = some x → h[b]? = some x
  le : h0.length ≤ h.length
  o5 : ∀ b, inS s5 b → h0.length ≤ b
  o6 : ∀ b, inS s6 b → h0.length ≤ b
  o7 : ∀ b, inS s7 b → h0.length ≤ b
  d56 : ∀ b, inS s5 b → ¬ inS s6 b
  d57 : ∀ b, inS s5 b → ¬ inS s7 b
  d67 : ∀ b, inS s6 b → ¬ inS s7 b

theorem wi0 (h : Heap) : WI h h .nil 0 .nil 0 .nil 0 [] := by
  refine ⟨⟨rfl, rfl, .inl ⟨rfl, rfl⟩⟩, ⟨rfl, rfl, .inl ⟨rfl, rfl⟩⟩, ⟨rfl, rfl, .inl ⟨rfl, rfl⟩⟩, rfl, rfl, by omega, by simp, fun _ _ h => h, Nat.le_refl _, ?_, ?_, ?_, ?_, ?_, ?_⟩ <;> rintro b ⟨a, ha, _⟩ <;> cases ha

theorem fnK_fn {R : Type} (f : FuncId) (a c : List AV) (K : FuncId → List AV → List AV → Option R) : fnK (.fn f a c) K = K f a c := rfl

theorem flat_ints (l : List Int) : flatL (l.map (AV.int .i64)) = true := by
  induction l with
  | nil => rfl
  | cons x l ih => simpa [flatL, flatA] using ih

theorem flat_cells (os : List Ent) : flatL (os.flatMap Ent.cells) = true := by
  induction os with
  | nil => rfl
  | cons x l ih => rw [List.flatMap_cons]; simpa [Ent.cells, flatL, flatA] using ih

theorem ldSl_at {h : Heap} {b v : Nat} {c : List AV} {m : Abs.Mode} {n : Nat} (hb : h[b]? = some (.cells c m v)) (hn : c.length = n) (hf : flatL c = true) : ldSl h (.pos ⟨b, v, 0⟩) n = some c := by
  cases n with
  | zero =>
    have : c = [] := List.length_eq_zero_iff.1 hn
    subst this; rfl
  | succ n =>
    have ht : (c.drop 0).take (n + 1) = c := by rw [List.drop_zero, ← hn, List.take_length]
    simp only [ldSl, ldN, hb]
    rw [if_pos ⟨trivial, by omega, by rw [ht]; exact hf⟩, ht]

end Go.Proofs.Ytmfmnbldngfelaa.I

/- InsnStream: one instruction written. -/
set_option linter.unusedVariables false
set_option linter.unusedSimpArgs false
namespace Go.Proofs.Ytmfmnbldngfelaa.I
open Go Go.Proofs.Ytmfmnbldngfelaa.Abs Go.Proofs

end Go.Proofs.Ytmfmnbldngfelaa.I

/- InsnStream: the writing loop and the whole function. -/
set_option linter.unusedVariables false
set_option linter.unusedSimpArgs false
namespace Go.Proofs.Ytmfmnbldngfelaa.I
open Go Go.Proofs.Ytmfmnbldngfelaa.Abs Go.Proofs

/-- A slice of truth values. -/
def BS (h : Heap) (s : SA) (n : Nat) : Prop :=
  n = 0 ∨ ∃ b v o c m, s = .pos ⟨b, v, o⟩ ∧ h[b]? = some (.cells c m v) ∧ ∀ i, i < n → ∃ x, c[o + i]? = some (.bool x)

theorem bs_ld {h : Heap} {s : SA} {n : Nat} (H : BS h s n) (i : Nat) (hi : i < n) : ∃ a x, adP s = some a ∧ ld1 h (Ad.add a i) = some (.bool x) := by
  obtain H | ⟨b, v, o, c, m, rfl, hb, hc⟩ := H
  · omega
  · obtain ⟨x, hx⟩ := hc i hi
    exact ⟨_, x, rfl, ld1_at hb hx rfl⟩

theorem bs_old {h h' : Heap} {s : SA} {n : Nat} (H : BS h s n) (hk : ∀ (b : Nat) (x : Blk), h[b]? = some x → h'[b]? = some x) : BS h' s n := by
  obtain H | ⟨b, v, o, c, m, rfl, hb, hc⟩ := H
  · exact .inl H
  · exact .inr ⟨b, v, o, c, m, rfl, hk _ _ hb, hc⟩

theorem os_old {h h' : Heap} {s : SA} {n : Nat} {os : List Ent} (H : OS h s n os) (hk : ∀ (b : Nat) (x : Blk), h[b]? = some x → h'[b]? = some x) : OS h' s n os := by
  obtain ⟨hl, H | ⟨b, v, o, c, m, rfl, hb, hc⟩⟩ := H
  · exact ⟨hl, .inl H⟩
  · exact ⟨hl, .inr ⟨b, v, o, c, m, rfl, hk _ _ hb, hc⟩⟩

theorem gP_none {R : Type} (K : Ad → Option R) (p : Option Ad) : ∃ a, atP p false K = K a := by
  cases p with
  | none => exact ⟨_, rfl⟩
  | some a => exact ⟨a, rfl⟩

theorem gB_none {R : Type} (K : Bool → Option R) (p : Option AV) : ∃ a, gB p false K = K a := by
  unfold gB gb
  cases p.bind rB with
  | none => exact ⟨_, rfl⟩
  | some a => exact ⟨a, rfl⟩

theorem esOk_GS {h : Heap} {s : SA} {n es : Nat} {cs : List AV} (H : GS h s n es cs) : esOk h s es := by
  obtain ⟨hl, _, ⟨rfl, rfl⟩ | ⟨b, v, rfl, hb⟩⟩ := H
  · intro p hp; cases hp
  · intro p hp
    cases hp
    refine ⟨_, hb, fun c e v h => ?_⟩
    cases h; rfl

end Go.Proofs.Ytmfmnbldngfelaa.I

/- Lists in memory, each element in so many cells. -/
set_option linter.unusedVariables false
set_option linter.unusedSimpArgs false
namespace Go.Proofs.Ytmfmnbldngfelaa.I
open Go Go.Proofs.Ytmfmnbldngfelaa.Abs Go.Proofs

/-- What stood in the heap stands there still. -/
def Old (h h' : Heap) : Prop := ∀ (b : Nat) (x : Blk), h[b]? = some x → h'[b]? = some x

theorem Old.refl (h : Heap) : Old h h := fun _ _ hx => hx
theorem Old.trans {a b c : Heap} (h1 : Old a b) (h2 : Old b c) : Old a c := fun i x hx => h2 i x (h1 i x hx)
theorem Old.app {a b : Heap} (h1 : Old a b) (l : Heap) : Old a (b ++ l) := fun i x hx => app_old (h1 i x hx)
theorem old_app (a l : Heap) : Old a (a ++ l) := (Old.refl a).app l
theorem Old.set {a b : Heap} (h1 : Old a b) {k : Nat} (hk : a.length ≤ k) (x : Blk) : Old a (b.set k x) := fun i y hy => by
  have := (List.getElem?_eq_some_iff.1 hy).1
  rw [set_other (by omega)]
  exact h1 i y hy
theorem Old.le {a b : Heap} (h : Old a b) : a.length ≤ b.length := by
  cases hl : a.length with
  | zero => omega
  | succ n =>
    have := h n (a[n]'(by omega)) (List.getElem?_eq_getElem (by omega))
    have := (List.getElem?_eq_some_iff.1 this).1
    omega

/-- A slice that reads as a list. -/
def VS {α : Type} (f : α → List AV) (es : Nat) (h : Heap) (s : SA) (n : Nat) (l : List α) : Prop :=
  l.length = n ∧ (n = 0 ∨ ∃ b v o c m, s = .pos ⟨b, v, o⟩ ∧ h[b]? = some (.cells c m v) ∧ ∀ i x, l[i]? = some x → o + i * es + es ≤ c.length ∧ (c.drop (o + i * es)).take es = f x)

theorem vs_old {α : Type} {f : α → List AV} {es n : Nat} {h h' : Heap} {s : SA} {l : List α} (H : VS f es h s n l) (hk : Old h h') : VS f es h' s n l := by
  obtain ⟨hl, H | ⟨b, v, o, c, m, rfl, hb, hc⟩⟩ := H
  · exact ⟨hl, .inl H⟩
  · exact ⟨hl, .inr ⟨b, v, o, c, m, rfl, hk _ _ hb, hc⟩⟩

theorem vs_ld {α : Type} {f : α → List AV} {es n : Nat} {h : Heap} {s : SA} {l : List α} (H : VS f es h s n l) (hf : ∀ x, flatL (f x) = true) (i : Nat) (x : α) (hi : l[i]? = some x) :
    ∃ a, adP s = some a ∧ ldN h (Ad.add a (i * es)) es = some (f x) := by
  obtain ⟨hl, H | ⟨b, v, o, c, m, rfl, hb, hc⟩⟩ := H
  · have := (List.getElem?_eq_some_iff.1 hi).1
    omega
  · refine ⟨_, rfl, ?_⟩
    obtain ⟨h1, h2⟩ := hc i x hi
    simp only [ldN, Ad.add, hb]
    rw [if_pos ⟨trivial, h1, by rw [h2]; exact hf x⟩, h2]

theorem take1 {c : List AV} {k : Nat} {x : AV} (h : (c.drop k).take 1 = [x]) : c[k]? = some x := by
  have := congrArg (fun l => l[0]?) h
  simpa using this

theorem vs_ld1 {α : Type} {g : α → AV} {n : Nat} {h : Heap} {s : SA} {l : List α} (H : VS (fun x => [g x]) 1 h s n l) (hf : ∀ x, flatA (g x) = true) (i : Nat) (x : α) (hi : l[i]? = some x) :
    ∃ a, adP s = some a ∧ ld1 h (Ad.add a (i * 1)) = some (g x) := by
  obtain ⟨hl, H | ⟨b, v, o, c, m, rfl, hb, hc⟩⟩ := H
  · have := (List.getElem?_eq_some_iff.1 hi).1
    omega
  · refine ⟨_, rfl, ?_⟩
    obtain ⟨h1, h2⟩ := hc i x hi
    exact ld1_at hb (take1 h2) (hf x)

theorem vs_take {α : Type} {f : α → List AV} {es n : Nat} {h : Heap} {s : SA} {l : List α} (H : VS f es h s n l) (k : Nat) (hk : k ≤ n) : VS f es h s k (l.take k) := by
  obtain ⟨hl, H | ⟨b, v, o, c, m, rfl, hb, hc⟩⟩ := H
  · exact ⟨by rw [List.length_take]; omega, .inl (by omega)⟩
  · refine ⟨by rw [List.length_take]; omega, .inr ⟨b, v, o, c, m, rfl, hb, fun i x hx => hc i x ?_⟩⟩
    rw [List.getElem?_take] at hx
    split at hx
    · exact hx
    · cases hx

/-- Lists of rows of one size, read at a row. -/
theorem rows_at {α : Type} {f : α → List AV} {es : Nat} (hf : ∀ x, (f x).length = es) : ∀ (l : List α) (i : Nat) (x : α), l[i]? = some x → i * es + es ≤ (l.flatMap f).length ∧ ((l.flatMap f).drop (i * es)).take es = f x := by
  intro l
  induction l with
  | nil => intro i e h; simp at h
  | cons y l ih =>
    intro i e h
    rw [List.flatMap_cons]
    have hx := hf y
    cases i with
    | zero =>
      cases h
      rw [List.length_append, hx]
      exact ⟨by omega, by rw [Nat.zero_mul, List.drop_zero]; exact List.take_left' hx⟩
    | succ i =>
      obtain ⟨h1, h2⟩ := ih i e h
      have e1 : (i + 1) * es = es + i * es := by rw [Nat.add_mul]; omega
      rw [List.length_append, hx]
      refine ⟨by omega, ?_⟩
      rw [e1, ← hx, List.drop_append, List.drop_eq_nil_of_le (by omega), List.nil_append, Nat.add_sub_cancel_left, hx, h2]

theorem rows_len {α : Type} {f : α → List AV} {es : Nat} (hf : ∀ x, (f x).length = es) (l : List α) : (l.flatMap f).length = l.length * es := by
  induction l with
  | nil => simp
  | cons y l ih => rw [List.flatMap_cons, List.length_append, ih, hf, List.length_cons, Nat.add_mul]; omega

theorem rows_flat {α : Type} {f : α → List AV} (hf : ∀ x, flatL (f x) = true) (l : List α) : flatL (l.flatMap f) = true := by
  have app : ∀ a b : List AV, flatL a = true → flatL b = true → flatL (a ++ b) = true := by
    intro a
    induction a with
    | nil => intro b _ h; exact h
    | cons x a ih =>
      intro b h1 h2
      rw [List.cons_append]
      unfold flatL at h1 ⊢
      rw [Bool.and_eq_true] at h1 ⊢
      exact ⟨h1.1, ih b h1.2 h2⟩
  induction l with
  | nil => rfl
  | cons y l ih => rw [List.flatMap_cons]; exact app _ _ (hf y) ih

theorem rows_one {α : Type} (g : α → AV) (l : List α) : l.flatMap (fun x => [g x]) = l.map g := by
  induction l with
  | nil => rfl
  | cons y l ih => rw [List.flatMap_cons, ih]; rfl

/-- A slice from the start of a block with just these rows. -/
theorem vs_blk {α : Type} {f : α → List AV} {es : Nat} (hf : ∀ x, (f x).length = es) {h : Heap} {b v : Nat} {m : Abs.Mode} {l : List α} (hb : h[b]? = some (.cells (l.flatMap f) m v)) : VS f es h (.pos ⟨b, v, 0⟩) l.length l := by
  refine ⟨rfl, .inr ⟨b, v, 0, _, m, rfl, hb, fun i x hx => ?_⟩⟩
  obtain ⟨h1, h2⟩ := rows_at hf l i x hx
  exact ⟨by omega, by rw [Nat.zero_add]; exact h2⟩

theorem vs_blk1 {α : Type} {g : α → AV} {h : Heap} {b v : Nat} {m : Abs.Mode} {l : List α} (hb : h[b]? = some (.cells (l.map g) m v)) : VS (fun x => [g x]) 1 h (.pos ⟨b, v, 0⟩) l.length l :=
  vs_blk (f := fun x => [g x]) (es := 1) (m := m) (fun _ => rfl) (by rw [rows_one]; exact hb)

theorem vs_GS {α : Type} {f : α → List AV} {es n : Nat} (hf : ∀ x, (f x).length = es) {h : Heap} {s : SA} {l : List α} (hn : l.length = n) (H : GS h s n es (l.flatMap f)) : VS f es h s n l := by
  obtain ⟨hl, _, ⟨rfl, rfl⟩ | ⟨b, v, rfl, hb⟩⟩ := H
  · exact ⟨hn, .inl rfl⟩
  · subst hn
    exact vs_blk hf hb

def intC (v : Int) : List AV := [.int .i64 v]
def boolC (b : Bool) : List AV := [.bool b]

theorem is_VS {h : Heap} {s : SA} {n : Nat} {l : List Int} (H : VS intC 1 h s n l) : IS h s n l := by
  obtain ⟨hl, H | ⟨b, v, o, c, m, rfl, hb, hc⟩⟩ := H
  · exact ⟨hl, .inl H⟩
  · refine ⟨hl, .inr ⟨b, v, o, c, m, rfl, hb, fun i hi => ?_⟩⟩
    obtain ⟨x, hx⟩ : ∃ x, l[i]? = some x := ⟨l[i]'(by omega), List.getElem?_eq_getElem (by omega)⟩
    have := (hc i x hx).2
    rw [Nat.mul_one] at this
    rw [take1 this]
    simp [hx]

theorem range_set {f : Nat → AV} {n k : Nat} (v : AV) : ((List.range n).map f).set k v = (List.range n).map (fun i => if i = k then v else f i) := by
  apply List.ext_getElem
  · simp
  · intro i h1 h2
    simp only [List.length_map, List.length_range] at h2
    simp only [List.getElem_set, List.getElem_map, List.getElem_range]
    by_cases h : k = i
    · subst h; simp
    · rw [if_neg h, if_neg (fun e => h e.symm)]

theorem range_get {α : Type} {f : Nat → α} {n i : Nat} (h : i < n) : ((List.range n).map f)[i]? = some (f i) := by
  simp [h]

theorem set_last (h : Heap) (B B' : Blk) : (h ++ [B]).set h.length B' = h ++ [B'] := by
  rw [List.set_append_right _ _ (Nat.le_refl _), Nat.sub_self]
  rfl

theorem last_get (h : Heap) (B : Blk) : (h ++ [B])[h.length]? = some B := by
  rw [List.getElem?_append_right (Nat.le_refl _), Nat.sub_self]; rfl

end Go.Proofs.Ytmfmnbldngfelaa.I
