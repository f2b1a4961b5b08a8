/- What the functions of the instructions' check answer. -/
import Derived.Test.YtepkdcgokedkdaaLibD
import Derived.Test.YtepkdcgokedkdaaHGen
set_option linter.unusedVariables false
set_option linter.unusedSimpArgs false
namespace Go.Proofs.Ytepkdcgokedkdaa.H
open Go Go.Proofs.Ytepkdcgokedkdaa.Abs Go.Proofs

def inB (x lo hi : Int) : Bool := decide (lo ≤ x) && decide (x ≤ hi)

theorem in_ok (x lo hi : Int) (h : Heap) : E 41 [.int .i64 x, .int .i64 lo, .int .i64 hi] h = some (.bool (inB x lo hi), h) := by
  rw [e41]
  simp only [letK_eq, inB]
  by_cases a : lo ≤ x <;> by_cases b : x ≤ hi <;> simp [a, b]

theorem in_call (c : Bool) (x lo hi : Int) (h : Heap) : callO c (E 41 [.int .i64 x, .int .i64 lo, .int .i64 hi] h) (.bool false) h = some (.bool (c && inB x lo hi), h) := by
  rw [in_ok]
  cases c <;> rfl

/-- The fields that an operation uses. -/
def usD (op : Int) : Bool := decide (op ∈ [(1 : Int), 2, 3, 4, 5, 6, 7, 15, 8, 9, 10, 12, 11, 14])
def usA (op : Int) : Bool := decide (op ∈ [(1 : Int), 2, 3, 4, 5, 6, 7, 15, 8, 9, 10, 12, 13, 16, 17, 18, 21, 23])
def usB (op : Int) : Bool := decide (op ∈ [(1 : Int), 2, 3, 4, 5, 6, 7, 15, 13, 16, 17, 18, 14])
def usN (op : Int) : Bool := decide (op ∈ [(8 : Int), 9, 10, 12, 11, 13, 16, 17, 18, 14, 19, 20, 24])

theorem used_ok (op : Int) (h0 : 0 ≤ op) (h1 : op ≤ 24) (h : Heap) : E 42 [.int .i64 op] h = some (.agg [.bool (usD op), .bool (usA op), .bool (usB op), .bool (usN op)], h) := by
  obtain ⟨n, rfl⟩ := Int.eq_ofNat_of_zero_le h0
  have hn : n ≤ 24 := by omega
  rw [e42]
  have all : ∀ m, m ≤ 24 → n = m ∨ n ≠ m := fun m _ => by omega
  match n, hn with
  | 0, _ | 1, _ | 2, _ | 3, _ | 4, _ | 5, _ | 6, _ | 7, _ | 8, _ | 9, _ | 10, _ | 11, _ | 12, _ | 13, _ | 14, _ | 15, _ | 16, _ | 17, _ | 18, _ | 19, _ | 20, _ | 21, _ | 22, _ | 23, _ | 24, _ =>
    simp [J42x7xeq, J42x32xeq, J42x31xeq, J42x30xeq, J42x29xeq, J42x28xeq, J42x27xeq, J42x26xeq, J42x45xeq, J42x44xeq, J42x43xeq, J42x62xeq, J42x61xeq, J42x60xeq, J42x76xeq, J42x75xeq, usD, usA, usB, usN]
  | n + 25, hn => omega

/-- What Check answers. -/
def chkV (op d a b n : Int) : Int :=
  if inB op 0 24 = false then 1
  else if (inB d 0 15 && inB a 0 15 && inB b 0 15 && inB n (-2147483648) 2147483647) = false then 4
  else if ((!usD op && !decide (d = 0)) || (!usA op && !decide (a = 0)) || (!usB op && !decide (b = 0)) || (!usN op && !decide (n = 0))) = true then 3
  else if (((decide (op = 9) || decide (op = 10)) && !inB n 0 31) || (decide (op = 14) && !inB n 0 4095) || (decide (op = 24) && !inB n 1 6)) = true then 4
  else 0

theorem check_ok (op d a b n : Int) (h : Heap) : E 28 [.agg [.int .i64 op, .int .i64 d, .int .i64 a, .int .i64 b, .int .i64 n]] h = some (.int .i64 (chkV op d a b n), h) := by
  rw [e28, in_ok]
  simp only [Option.bind_some, gB_of, chkV]
  cases hop : inB op 0 24 with
  | false => simp
  | true =>
    have hu := used_ok op (by simp [inB] at hop; omega) (by simp [inB] at hop; omega)
    simp only [Bool.not_true, Bool.false_eq_true, if_false, in_ok, callO_bool, Option.bind_some, gB_of, gI_of, letK_eq, hu, gA_of, List.getElem?_cons_zero, List.getElem?_cons_succ, reduceCtorEq]
    cases h1 : inB d 0 15 <;> cases h2 : inB a 0 15 <;> cases h3 : inB b 0 15 <;> cases h4 : inB n (-2147483648) 2147483647 <;> simp
    rw [chk_of trivial]
    split
    · rfl
    · generalize inB n 0 31 = x1
      generalize inB n 0 4095 = x2
      generalize inB n 1 6 = x3
      by_cases e9 : op = 9
      · subst e9; cases x1 <;> simp [andB]
      · by_cases e10 : op = 10
        · subst e10; cases x1 <;> simp [andB]
        · by_cases e14 : op = 14
          · subst e14; cases x2 <;> simp [andB]
          · by_cases e24 : op = 24
            · subst e24; cases x3 <;> simp [andB]
            · simp [e9, e10, e14, e24]

theorem chk_bd {op d a b n : Int} (h : chkV op d a b n = 0) : 0 ≤ op ∧ op ≤ 24 ∧ 0 ≤ d ∧ d ≤ 15 ∧ 0 ≤ a ∧ a ≤ 15 ∧ 0 ≤ b ∧ b ≤ 15 ∧ -2147483648 ≤ n ∧ n ≤ 2147483647 := by
  unfold chkV at h
  split at h
  · omega
  · rename_i h1
    split at h
    · omega
    · rename_i h2
      simp [inB] at h1 h2
      omega

end Go.Proofs.Ytepkdcgokedkdaa.H

/- Lists in memory, each element in so many cells. -/
set_option linter.unusedVariables false
set_option linter.unusedSimpArgs false
namespace Go.Proofs.Ytepkdcgokedkdaa.H
open Go Go.Proofs.Ytepkdcgokedkdaa.Abs Go.Proofs

def IS (h : Heap) (s : SA) (n : Nat) (l : List Int) : Prop :=
  l.length = n ∧ (n = 0 ∨ ∃ b v o c m, s = .pos ⟨b, v, o⟩ ∧ h[b]? = some (.cells c m v) ∧ ∀ i, i < n → c[o + i]? = some (.int .i64 (l.getD i 0)))

theorem is_ld {h : Heap} {s : SA} {n : Nat} {l : List Int} (H : IS h s n l) (i : Nat) (hi : i < n) : ∃ a, adP s = some a ∧ ld1 h (Ad.add a i) = some (.int .i64 (l.getD i 0)) := by
  obtain ⟨_, H | ⟨b, v, o, c, m, rfl, hb, hc⟩⟩ := H
  · omega
  · exact ⟨_, rfl, ld1_at hb (hc i hi) rfl⟩

theorem is_app {h l' : Heap} {s : SA} {n : Nat} {l : List Int} (H : IS h s n l) : IS (h ++ l') s n l := by
  obtain ⟨hl, H | ⟨b, v, o, c, m, rfl, hb, hc⟩⟩ := H
  · exact ⟨hl, .inl H⟩
  · exact ⟨hl, .inr ⟨b, v, o, c, m, rfl, app_old hb, hc⟩⟩

theorem is_new (h : Heap) (l : List Int) : IS (h ++ [.cells (l.map (.int .i64)) (.grow 1) 0]) (.pos ⟨h.length, 0, 0⟩) l.length l := by
  refine ⟨rfl, .inr ⟨_, _, _, _, _, rfl, by rw [List.getElem?_append_right (Nat.le_refl _), Nat.sub_self]; rfl, fun i hi => ?_⟩⟩
  simp [hi]

theorem is_of_GS {h : Heap} {s : SA} {n : Nat} {l : List Int} (H : GS h s n 1 (l.map (.int .i64))) : IS h s n l := by
  obtain ⟨hl, _, ⟨rfl, rfl⟩ | ⟨b, v, rfl, hb⟩⟩ := H
  · exact ⟨by simpa using hl, .inl rfl⟩
  · rw [List.length_map, Nat.mul_one] at hl
    refine ⟨hl, .inr ⟨b, v, 0, _, _, rfl, hb, fun i hi => ?_⟩⟩
    simp [show i < l.length by omega]

theorem gs_keep {h h' : Heap} {s t : SA} {n es : Nat} {cs : List AV} (H : GS h t n es cs) (hk : ∀ b x, h[b]? = some x → ¬ inS s b → h'[b]? = some x) (hd : ∀ b, inS t b → ¬ inS s b) : GS h' t n es cs := by
  obtain ⟨hl, fc, hh⟩ := H
  refine ⟨hl, fc, ?_⟩
  rcases hh with hh | ⟨b, v, rfl, hb⟩
  · exact .inl hh
  · exact .inr ⟨b, v, rfl, hk b _ hb (hd b ⟨_, rfl, rfl⟩)⟩

theorem gs_app {h l : Heap} {t : SA} {n es : Nat} {cs : List AV} (H : GS h t n es cs) : GS (h ++ l) t n es cs := by
  obtain ⟨hl, fc, hh⟩ := H
  refine ⟨hl, fc, ?_⟩
  rcases hh with hh | ⟨b, v, rfl, hb⟩
  · exact .inl hh
  · exact .inr ⟨b, v, rfl, app_old hb⟩

theorem gs_lt {h : Heap} {t : SA} {n es : Nat} {cs : List AV} (H : GS h t n es cs) {b : Nat} (hb : inS t b) : b < h.length := by
  obtain ⟨_, _, ⟨rfl, _⟩ | ⟨b', v, rfl, h'⟩⟩ := H
  · obtain ⟨a, ha, _⟩ := hb; cases ha
  · obtain ⟨a, ha, rfl⟩ := hb
    cases ha
    exact (List.getElem?_eq_some_iff.1 h').1

theorem flat_ints (l : List Int) : flatL (l.map (AV.int .i64)) = true := by
  induction l with
  | nil => rfl
  | cons x l ih => simpa [flatL, flatA] using ih

theorem ldSl_at {h : Heap} {b v : Nat} {c : List AV} {m : Abs.Mode} {n : Nat} (hb : h[b]? = some (.cells c m v)) (hn : c.length = n) (hf : flatL c = true) : ldSl h (.pos ⟨b, v, 0⟩) n = some c := by
  cases n with
  | zero =>
    have : c = [] := List.length_eq_zero_iff.1 hn
    subst this; rfl
  | succ n =>
    have ht : (c.drop 0).take (n + 1) = c := by rw [List.drop_zero, ← hn, List.take_length]
    simp only [ldSl, ldN, hb]
    rw [if_pos ⟨trivial, by omega, by rw [ht]; exact hf⟩, ht]

/-- What stood in the heap stands there still. -/
def Old (h h' : Heap) : Prop := ∀ (b : Nat) (x : Blk), h[b]? = some x → h'[b]? = some x

theorem Old.refl (h : Heap) : Old h h := fun _ _ hx => hx
theorem Old.trans {a b c : Heap} (h1 : Old a b) (h2 : Old b c) : Old a c := fun i x hx => h2 i x (h1 i x hx)
theorem Old.app {a b : Heap} (h1 : Old a b) (l : Heap) : Old a (b ++ l) := fun i x hx => app_old (h1 i x hx)
theorem old_app (a l : Heap) : Old a (a ++ l) := (Old.refl a).app l
theorem Old.set {a b : Heap} (h1 : Old a b) {k : Nat} (hk : a.length ≤ k) (x : Blk) : Old a (b.set k x) := fun i y hy => by
  have := (List.getElem?_eq_some_iff.1 hy).1
  rw [set_other (by omega)]
  exact h1 i y hy
theorem Old.le {a b : Heap} (h : Old a b) : a.length ≤ b.length := by
  cases hl : a.length with
  | zero => omega
  | succ n =>
    have := h n (a[n]'(by omega)) (List.getElem?_eq_getElem (by omega))
    have := (List.getElem?_eq_some_iff.1 this).1
    omega

/-- A slice that reads as a list. -/
def VS {α : Type} (f : α → List AV) (es : Nat) (h : Heap) (s : SA) (n : Nat) (l : List α) : Prop :=
  l.length = n ∧ (n = 0 ∨ ∃ b v o c m, s = .pos ⟨b, v, o⟩ ∧ h[b]? = some (.cells c m v) ∧ ∀ i x, l[i]? = some x → o + i * es + es ≤ c.length ∧ (c.drop (o + i * es)).take es = f x)

theorem vs_old {α : Type} {f : α → List AV} {es n : Nat} {h h' : Heap} {s : SA} {l : List α} (H : VS f es h s n l) (hk : Old h h') : VS f es h' s n l := by
  obtain ⟨hl, H | ⟨b, v, o, c, m, rfl, hb, hc⟩⟩ := H
  · exact ⟨hl, .inl H⟩
  · exact ⟨hl, .inr ⟨b, v, o, c, m, rfl, hk _ _ hb, hc⟩⟩

theorem vs_ld {α : Type} {f : α → List AV} {es n : Nat} {h : Heap} {s : SA} {l : List α} (H : VS f es h s n l) (hf : ∀ x, flatL (f x) = true) (i : Nat) (x : α) (hi : l[i]? = some x) :
    ∃ a, adP s = some a ∧ ldN h (Ad.add a (i * es)) es = some (f x) := by
  obtain ⟨hl, H | ⟨b, v, o, c, m, rfl, hb, hc⟩⟩ := H
  · have := (List.getElem?_eq_some_iff.1 hi).1
    omega
  · refine ⟨_, rfl, ?_⟩
    obtain ⟨h1, h2⟩ := hc i x hi
    simp only [ldN, Ad.add, hb]
    rw [if_pos ⟨trivial, h1, by rw [h2]; exact hf x⟩, h2]

theorem take1 {c : List AV} {k : Nat} {x : AV} (h : (c.drop k).take 1 = [x]) : c[k]? = some x := by
  have := congrArg (fun l => l[0]?) h
  simpa using this

theorem vs_ld1 {α : Type} {g : α → AV} {n : Nat} {h : Heap} {s : SA} {l : List α} (H : VS (fun x => [g x]) 1 h s n l) (hf : ∀ x, flatA (g x) = true) (i : Nat) (x : α) (hi : l[i]? = some x) :
    ∃ a, adP s = some a ∧ ld1 h (Ad.add a (i * 1)) = some (g x) := by
  obtain ⟨hl, H | ⟨b, v, o, c, m, rfl, hb, hc⟩⟩ := H
  · have := (List.getElem?_eq_some_iff.1 hi).1
    omega
  · refine ⟨_, rfl, ?_⟩
    obtain ⟨h1, h2⟩ := hc i x hi
    exact ld1_at hb (take1 h2) (hf x)

theorem vs_take {α : Type} {f : α → List AV} {es n : Nat} {h : Heap} {s : SA} {l : List α} (H : VS f es h s n l) (k : Nat) (hk : k ≤ n) : VS f es h s k (l.take k) := by
  obtain ⟨hl, H | ⟨b, v, o, c, m, rfl, hb, hc⟩⟩ := H
  · exact ⟨by rw [List.length_take]; omega, .inl (by omega)⟩
  · refine ⟨by rw [List.length_take]; omega, .inr ⟨b, v, o, c, m, rfl, hb, fun i x hx => hc i x ?_⟩⟩
    rw [List.getElem?_take] at hx
    split at hx
    · exact hx
    · cases hx

/-- Lists of rows of one size, read at a row. -/
theorem rows_at {α : Type} {f : α → List AV} {es : Nat} (hf : ∀ x, (f x).length = es) : ∀ (l : List α) (i : Nat) (x : α), l[i]? = some x → i * es + es ≤ (l.flatMap f).length ∧ ((l.flatMap f).drop (i * es)).take es = f x := by
  intro l
  induction l with
  | nil => intro i e h; simp at h
  | cons y l ih =>
    intro i e h
    rw [List.flatMap_cons]
    have hx := hf y
    cases i with
    | zero =>
      cases h
      rw [List.length_append, hx]
      exact ⟨by omega, by rw [Nat.zero_mul, List.drop_zero]; exact List.take_left' hx⟩
    | succ i =>
      obtain ⟨h1, h2⟩ := ih i e h
      have e1 : (i + 1) * es = es + i * es := by rw [Nat.add_mul]; omega
      rw [List.length_append, hx]
      refine ⟨by omega, ?_⟩
      rw [e1, ← hx, List.drop_append, List.drop_eq_nil_of_le (by omega), List.nil_append, Nat.add_sub_cancel_left, hx, h2]

theorem rows_len {α : Type} {f : α → List AV} {es : Nat} (hf : ∀ x, (f x).length = es) (l : List α) : (l.flatMap f).length = l.length * es := by
  induction l with
  | nil => simp
  | cons y l ih => rw [List.flatMap_cons, List.length_append, ih, hf, List.length_cons, Nat.add_mul]; omega

theorem rows_flat {α : Type} {f : α → List AV} (hf : ∀ x, flatL (f x) = true) (l : List α) : flatL (l.flatMap f) = true := by
  have app : ∀ a b : List AV, flatL a = true → flatL b = true → flatL (a ++ b) = true := by
    intro a
    induction a with
    | nil => intro b _ h; exact h
    | cons x a ih =>
      intro b h1 h2
      rw [List.cons_append]
      unfold flatL at h1 ⊢
      rw [Bool.and_eq_true] at h1 ⊢
      exact ⟨h1.1, ih b h1.2 h2⟩
  induction l with
  | nil => rfl
  | cons y l ih => rw [List.flatMap_cons]; exact app _ _ (hf y) ih

theorem rows_one {α : Type} (g : α → AV) (l : List α) : l.flatMap (fun x => [g x]) = l.map g := by
  induction l with
  | nil => rfl
  | cons y l ih => rw [List.flatMap_cons, ih]; rfl

/-- A slice from the start of a block with just these rows. -/
theorem vs_blk {α : Type} {f : α → List AV} {es : Nat} (hf : ∀ x, (f x).length = es) {h : Heap} {b v : Nat} {m : Abs.Mode} {l : List α} (hb : h[b]? = some (.cells (l.flatMap f) m v)) : VS f es h (.pos ⟨b, v, 0⟩) l.length l := by
  refine ⟨rfl, .inr ⟨b, v, 0, _, m, rfl, hb, fun i x hx => ?_⟩⟩
  obtain ⟨h1, h2⟩ := rows_at hf l i x hx
  exact ⟨by omega, by rw [Nat.zero_add]; exact h2⟩

theorem vs_blk1 {α : Type} {g : α → AV} {h : Heap} {b v : Nat} {m : Abs.Mode} {l : List α} (hb : h[b]? = some (.cells (l.map g) m v)) : VS (fun x => [g x]) 1 h (.pos ⟨b, v, 0⟩) l.length l :=
  vs_blk (f := fun x => [g x]) (es := 1) (m := m) (fun _ => rfl) (by rw [rows_one]; exact hb)

theorem vs_GS {α : Type} {f : α → List AV} {es n : Nat} (hf : ∀ x, (f x).length = es) {h : Heap} {s : SA} {l : List α} (hn : l.length = n) (H : GS h s n es (l.flatMap f)) : VS f es h s n l := by
  obtain ⟨hl, _, ⟨rfl, rfl⟩ | ⟨b, v, rfl, hb⟩⟩ := H
  · exact ⟨hn, .inl rfl⟩
  · subst hn
    exact vs_blk hf hb

def intC (v : Int) : List AV := [.int .i64 v]
def boolC (b : Bool) : List AV := [.bool b]

theorem is_VS {h : Heap} {s : SA} {n : Nat} {l : List Int} (H : VS intC 1 h s n l) : IS h s n l := by
  obtain ⟨hl, H | ⟨b, v, o, c, m, rfl, hb, hc⟩⟩ := H
  · exact ⟨hl, .inl H⟩
  · refine ⟨hl, .inr ⟨b, v, o, c, m, rfl, hb, fun i hi => ?_⟩⟩
    obtain ⟨x, hx⟩ : ∃ x, l[i]? = some x := ⟨l[i]'(by omega), List.getElem?_eq_getElem (by omega)⟩
    have := (hc i x hx).2
    rw [Nat.mul_one] at this
    rw [take1 this]
    simp [hx]

theorem range_set {f : Nat → AV} {n k : Nat} (v : AV) : ((List.range n).map f).set k v = (List.range n).map (fun i => if i = k then v else f i) := by
  apply List.ext_getElem
  · simp
  · intro i h1 h2
    simp only [List.length_map, List.length_range] at h2
    simp only [List.getElem_set, List.getElem_map, List.getElem_range]
    by_cases h : k = i
    · subst h; simp
    · rw [if_neg h, if_neg (fun e => h e.symm)]

theorem range_get {α : Type} {f : Nat → α} {n i : Nat} (h : i < n) : ((List.range n).map f)[i]? = some (f i) := by
  simp [h]

theorem set_last (h : Heap) (B B' : Blk) : (h ++ [B]).set h.length B' = h ++ [B'] := by
  rw [List.set_append_right _ _ (Nat.le_refl _), Nat.sub_self]
  rfl

theorem last_get (h : Heap) (B : Blk) : (h ++ [B])[h.length]? = some B := by
  rw [List.getElem?_append_right (Nat.le_refl _), Nat.sub_self]; rfl

theorem modulo_ok (n m : Int) (h : Heap) (h1 : 0 < m) (h2 : m ≤ 1000000000) : E 31 [.int .i64 n, .int .i64 m] h = some (.int .i64 (n % m), h) := by
  rw [e31]
  have hne : ¬ m = 0 := by omega
  rw [chk_of (fun _ => hne)]
  simp only [letK_eq, decide_eq_true_eq]
  have key : n % m = if n.tmod m < 0 then n.tmod m + m else n.tmod m := by
    have e := Int.tmod_def n m
    by_cases hn : n < 0
    · have e1 : n.tmod m = -((-n) % m) := by
        have := Int.neg_tmod n m
        rw [Int.tmod_eq_emod_of_nonneg (by omega : 0 ≤ -n)] at this
        omega
      have p1 := Int.emod_nonneg (-n) hne
      have p2 := Int.emod_lt_of_pos (-n) h1
      have p3 := Int.emod_nonneg n hne
      have p4 := Int.emod_lt_of_pos n h1
      have q1 := Int.emod_add_mul_ediv n m
      have q2 := Int.emod_add_mul_ediv (-n) m
      by_cases hz : (-n) % m = 0
      · have : n % m = 0 := by
          have := Int.dvd_of_emod_eq_zero hz
          exact Int.emod_eq_zero_of_dvd ((Int.dvd_neg).1 this)
        rw [if_neg (by omega), e1, hz, this]; rfl
      · rw [if_pos (by omega), e1]
        have hs : m * (n / m) + m * (-n / m) = -(n % m) - (-n) % m := by omega
        rw [← Int.mul_add] at hs
        have hr : n / m + -n / m = -1 := by
          have a1 : -2 * m < m * (n / m + -n / m) := by omega
          have a2 : m * (n / m + -n / m) < 0 := by omega
          have a3 : -2 < n / m + -n / m := by
            apply Int.lt_of_mul_lt_mul_left (a := m) _ (by omega)
            rw [Int.mul_comm m (-2)]; exact a1
          have a4 : n / m + -n / m < 0 := by
            apply Int.lt_of_mul_lt_mul_left (a := m) _ (by omega)
            rw [Int.mul_zero]; exact a2
          omega
        rw [hr] at hs
        omega
    · have hn : 0 ≤ n := by omega
      rw [Int.tmod_eq_emod_of_nonneg hn, if_neg (by have := Int.emod_nonneg n hne; omega)]
  have p3 := Int.emod_nonneg n hne
  have p4 := Int.emod_lt_of_pos n h1
  split
  · rename_i hlt
    rw [if_pos hlt] at key
    rw [wrap64 (by omega) (by omega), key]
  · rename_i hlt
    rw [if_neg hlt] at key
    rw [key]

theorem rest_ok (n m : Int) (h : Heap) (h1 : 0 < m) (h2 : m ≤ 1000000000) : E 14 [.int .i64 n, .int .i64 m] h = some (.int .i64 (n % m), h) := by
  rw [e14, modulo_ok n m h h1 h2]
  simp


theorem gI_any {R : Type} (v : Int) (bc : Bool) (K : Int → Option R) : gI .i64 (some (AV.int .i64 v)) bc K = K v := by cases bc <;> rfl
theorem gB_any {R : Type} (v : Bool) (bc : Bool) (K : Bool → Option R) : gB (some (AV.bool v)) bc K = K v := by cases bc <;> rfl
theorem gP_none {R : Type} (K : Ad → Option R) (p : Option Ad) : ∃ a, atP p false K = K a := by
  cases p with
  | none => exact ⟨_, rfl⟩
  | some a => exact ⟨a, rfl⟩

end Go.Proofs.Ytepkdcgokedkdaa.H

/- timing: what the small functions answer. -/
set_option linter.unusedVariables false
set_option linter.unusedSimpArgs false
namespace Go.Proofs.Ytepkdcgokedkdaa.H
open Go Go.Proofs.Ytepkdcgokedkdaa.Abs Go.Proofs

def strt (op : Int) : Bool := decide ((1 ≤ op ∧ op ≤ 15) ∨ op = 23)

theorem straight_ok (op : Int) (h : Heap) : E 29 [.int .i64 op] h = some (.bool (strt op), h) := by
  rw [e29]
  simp only [letK_eq, strt]
  by_cases a : 1 ≤ op <;> by_cases b : op ≤ 15 <;> by_cases c : op = 23 <;> simp [a, b, c]

def lat (op : Int) : Int := if op = 3 ∨ op = 12 then 3 else if op = 14 ∨ op = 15 then 4 else if op = 4 ∨ op = 5 then 8 else 1

theorem lat_ok (op : Int) (h : Heap) : E 44 [.int .i64 op] h = some (.int .i64 (lat op), h) := by
  rw [e44]
  simp only [letK_eq, J44x7xeq, J44x14xeq, J44x21xeq, lat]
  by_cases a : op = 3
  · simp [a]
  · by_cases b : op = 12
    · simp [b]
    · by_cases c : op = 14
      · simp [c]
      · by_cases d : op = 15
        · simp [d]
        · by_cases e : op = 4
          · simp [e]
          · by_cases f : op = 5
            · simp [f]
            · simp [a, b, c, d, e, f]

theorem lat_bd (op : Int) : 1 ≤ lat op ∧ lat op ≤ 8 := by
  unfold lat
  split
  · omega
  · split
    · omega
    · split <;> omega

def divs (op : Int) : Bool := decide (op = 4 ∨ op = 5)

theorem divs_ok (op : Int) (h : Heap) : E 46 [.int .i64 op] h = some (.bool (divs op), h) := by
  rw [e46]
  simp only [letK_eq, divs]
  by_cases a : op = 4 <;> by_cases b : op = 5 <;> simp [a, b]

/-- The register that an instruction writes, or 0. -/
def wr (op d : Int) : Int := if op = 20 ∨ op = 21 then 15 else if op = 0 ∨ op = 13 ∨ op = 16 ∨ op = 17 ∨ op = 18 ∨ op = 19 ∨ op = 22 ∨ op = 23 ∨ op = 24 then 0 else d

theorem writes_ok (op d a b n : Int) (h : Heap) : E 34 [.agg [.int .i64 op, .int .i64 d, .int .i64 a, .int .i64 b, .int .i64 n]] h = some (.int .i64 (wr op d), h) := by
  rw [e34]
  simp only [letK_eq, J34x7xeq, J34x35xeq, J34x34xeq, J34x33xeq, J34x32xeq, J34x31xeq, J34x30xeq, J34x29xeq, J34x28xeq, wr]
  by_cases x1 : op = 20
  · simp [x1]
  by_cases x2 : op = 21
  · simp [x2]
  by_cases y1 : op = 0
  · simp [y1]
  by_cases y2 : op = 13
  · simp [y2]
  by_cases y3 : op = 16
  · simp [y3]
  by_cases y4 : op = 17
  · simp [y4]
  by_cases y5 : op = 18
  · simp [y5]
  by_cases y6 : op = 19
  · simp [y6]
  by_cases y7 : op = 22
  · simp [y7]
  by_cases y8 : op = 23
  · simp [y8]
  by_cases y9 : op = 24
  · simp [y9]
  simp [x1, x2, y1, y2, y3, y4, y5, y6, y7, y8, y9]

/-- The registers in a list, but for register 0. -/
def nz (l : List Int) : List Int := l.filter fun r => !decide (r = 0)

theorem nz_take (m : List Int) (j : Nat) (hj : j < m.length) : nz (m.take (j + 1)) = nz (m.take j) ++ (if m[j] = 0 then [] else [m[j]]) := by
  unfold nz
  rw [List.take_add_one, List.filter_append, List.getElem?_eq_getElem hj]
  congr 1
  by_cases h : m[j] = 0 <;> simp [h]

theorem add_loop {h1 : Heap} {b : Nat} {s5 : SA} {n5 : Nat} {m : List Int} (HM : VS intC 1 h1 s5 n5 m) (hm : n5 ≤ 16) (hbm : ∀ a, s5 = .pos a → a.b ≠ b) (hb1 : b < h1.length) : ∀ (k j : Nat), j + k = n5 →
    ∀ (hh : Heap) (s : SA) (n : Nat), (∀ q x, h1[q]? = some x → q ≠ b → hh[q]? = some x) → h1.length ≤ hh.length → hh[b]? = some (.cells [.sl s n] .fix 0) → GS hh s n 1 ((nz (m.take j)).map (.int .i64)) → (∀ q, inS s q → h1.length ≤ q) →
    ∃ h' s' n', L51x2 mk0 E (some ⟨b, 0, 0⟩) s5 n5 ((n5 : Nat) : Int) ((j : Nat) : Int) hh (Q51x2 mk0 E) = some (.tup [], h') ∧ (∀ q x, h1[q]? = some x → q ≠ b → h'[q]? = some x) ∧ h1.length ≤ h'.length ∧
      h'[b]? = some (.cells [.sl s' n'] .fix 0) ∧ GS h' s' n' 1 ((nz m).map (.int .i64)) := by
  intro k
  have hml := HM.1
  induction k with
  | zero =>
    intro j hj hh s n ho hle hb hg hi
    refine ⟨hh, s, n, by rw [L51x2xeq, letK_eq, if_neg (by simp; omega), X51x2xe0], ho, hle, hb, ?_⟩
    rw [List.take_of_length_le (by omega)] at hg
    exact hg
  | succ k ih =>
    intro j hj hh s n ho hle hb hg hi
    have hx : m[j]? = some m[j] := List.getElem?_eq_getElem (by omega)
    have HM' : VS intC 1 hh s5 n5 m := by
      obtain ⟨e1, e2 | ⟨bb, v, o, c, md, rfl, hbb, hc⟩⟩ := HM
      · exact ⟨e1, .inl e2⟩
      · exact ⟨e1, .inr ⟨bb, v, o, c, md, rfl, ho _ _ hbb (hbm _ rfl), hc⟩⟩
    obtain ⟨a, ha, la⟩ := vs_ld1 (g := AV.int .i64) HM' (fun _ => rfl) j _ hx
    have wj : IntKind.wrap .i64 ((j : Int) + 1) = ((j + 1 : Nat) : Int) := by rw [wrap64 (by omega) (by omega)]; omega
    have hlen := hg.1
    have hnle : n ≤ j := by
      rw [List.length_map, Nat.mul_one] at hlen
      rw [← hlen]
      exact Nat.le_trans (List.length_filter_le _ _) (by rw [List.length_take]; omega)
    rw [L51x2xeq, letK_eq, if_pos (by simp; omega), chk_of (by intro _; omega), ha, atP_of, Int.toNat_natCast, la, gI_of, letK_eq]
    by_cases h0 : m[j] = 0
    · rw [if_neg (by simp [h0]), J51x12xeq, letK_eq, wj]
      refine ih (j + 1) (by omega) hh s n ho hle hb ?_ hi
      rw [nz_take m j (by omega), if_pos h0, List.append_nil]
      exact hg
    · have l1 : ld1 hh ⟨b, 0, 0⟩ = some (.sl s n) := ld1_at hb rfl rfl
      rw [if_pos (by simp [h0]), atP_of, l1, gL_of, newK_eq, show ldSl (hh ++ [Blk.cells [AV.int .i64 m[j]] (.grow 1) 0]) (.pos ⟨hh.length, 0, 0⟩) (1 * 1) = some [.int .i64 m[j]] from ldSl_at (last_get _ _) rfl rfl, Option.bind_some]
      obtain ⟨t, h4, e5, w5, le5, kp5, nw5⟩ := apnd_GS (m := 1) (bytes := 8) (ys := [AV.int .i64 m[j]]) (gs_app (l := [Blk.cells [AV.int .i64 m[j]] (.grow 1) 0]) hg) (by omega) (by omega) rfl rfl (by have := flat_ints (nz (m.take j) ++ [m[j]]); simpa using this) (by omega)
      have hbs : ¬ inS s b := fun hh' => by have := hi b hh'; omega
      have hb4 : h4[b]? = some (.cells [.sl s n] .fix 0) := kp5 _ _ (app_old hb) hbs
      rw [e5, Option.bind_some, gL_of, atP_of]
      dsimp only
      rw [st1_at hb4 (by simp) (by simp), Option.bind_some, J51x12xeq, letK_eq, wj]
      rw [List.length_append] at le5
      have hbt : ∀ q, inS t q → h1.length ≤ q := by
        intro q hq
        rcases nw5 q hq with h | h
        · exact hi q h
        · rw [List.length_append] at h; omega
      refine ih (j + 1) (by omega) _ t (n + 1) ?_ (by rw [List.length_set]; omega) (by rw [set_same hb4]; rfl) ?_ hbt
      · intro q x hq hqb
        rw [set_other (fun e => hqb e.symm)]
        refine kp5 _ _ (app_old (ho q x hq hqb)) fun hh' => ?_
        have := hi q hh'
        have := (List.getElem?_eq_some_iff.1 hq).1
        omega
      · rw [nz_take m j (by omega), if_neg h0, List.map_append]
        exact gs_keep (s := .pos ⟨b, 0, 0⟩) w5 (fun q x hq hn => by
          rw [set_other (fun e => hn ⟨_, rfl, e⟩)]; exact hq) (fun q hq hn => by
          obtain ⟨a', ha', hb'⟩ := hn
          cases ha'
          have := hbt q hq
          have : b = q := hb'
          omega)

/-- The registers that an instruction reads. -/
def rdR (op a b : Int) : List Int :=
  if op = 0 then [1] else if op = 22 then [15]
  else if op = 1 ∨ op = 2 ∨ op = 3 ∨ op = 4 ∨ op = 5 ∨ op = 6 ∨ op = 7 ∨ op = 13 ∨ op = 15 ∨ op = 16 ∨ op = 17 ∨ op = 18 then [a, b]
  else if op = 8 ∨ op = 9 ∨ op = 10 ∨ op = 12 ∨ op = 21 ∨ op = 23 then [a]
  else if op = 14 then [b] else []
def rd (op a b : Int) : List Int := nz (rdR op a b)

theorem add_ok (h : Heap) (m : List Int) (hm : m.length ≤ 16) : ∃ h' s' n', E 51 [.sl (.pos ⟨h.length + 1, 0, 0⟩) m.length, .ptr (some ⟨h.length, 0, 0⟩)] (h ++ [.cells [.sl .nil 0] .fix 0] ++ [.cells (m.map (.int .i64)) (.grow 1) 0]) = some (.tup [], h') ∧
    Old h h' ∧ ld1 h' ⟨h.length, 0, 0⟩ = some (.sl s' n') ∧ VS intC 1 h' s' n' (nz m) := by
  rw [e51]
  have L1 : (h ++ [Blk.cells [.sl .nil 0] .fix 0]).length = h.length + 1 := by simp
  have hb : (h ++ [Blk.cells [.sl .nil 0] .fix 0] ++ [.cells (m.map (.int .i64)) (.grow 1) 0])[h.length]? = some (.cells [.sl .nil 0] .fix 0) := app_old (last_get _ _)
  have HM : VS intC 1 (h ++ [Blk.cells [.sl .nil 0] .fix 0] ++ [.cells (m.map (.int .i64)) (.grow 1) 0]) (.pos ⟨h.length + 1, 0, 0⟩) m.length m := by
    rw [← L1]
    exact vs_blk1 (last_get _ _)
  obtain ⟨h', s', n', e, o, le, b', g⟩ := add_loop (b := h.length) HM hm (fun a ha => by cases ha; show h.length + 1 ≠ h.length; omega) (by simp) m.length 0 (by omega) _ .nil 0 (fun _ _ h _ => h) (Nat.le_refl _) hb ⟨rfl, rfl, .inl ⟨rfl, rfl⟩⟩ (by rintro q ⟨a, ha, _⟩; cases ha)
  refine ⟨h', s', n', e, ?_, ld1_at b' rfl rfl, ?_⟩
  · intro q x hq
    have := (List.getElem?_eq_some_iff.1 hq).1
    exact o q x (app_old (app_old hq)) (by omega)
  · have : ((nz m).map (AV.int .i64)) = (nz m).flatMap intC := (rows_one _ _).symm
    rw [this] at g
    exact vs_GS (f := intC) (es := 1) (fun _ => rfl) (by have h1 := g.1; have h2 := rows_len (f := intC) (es := 1) (fun _ => rfl) (nz m); omega) g


theorem reads_ok (op d a b n : Int) (h : Heap) : ∃ h' s' n', E 35 [.agg [.int .i64 op, .int .i64 d, .int .i64 a, .int .i64 b, .int .i64 n]] h = some (.sl s' n', h') ∧ Old h h' ∧ VS intC 1 h' s' n' (rd op a b) := by
  have L1 : (h ++ [Blk.cells [.sl .nil 0] .fix 0]).length = h.length + 1 := by simp
  have fin : ∀ (m : List Int), m.length ≤ 16 → rdR op a b = m → ∀ K : Option Ad → Heap → Option (AV × Heap), (∀ hh, K (some ⟨h.length, 0, 0⟩) hh = gL (ld1 hh ⟨h.length, 0, 0⟩) true fun s n => some (.sl s n, hh)) →
      ∃ h' s' n', ((E 51 [.sl (.pos ⟨(h ++ [Blk.cells [AV.sl .nil 0] .fix 0]).length, 0, 0⟩) m.length, .ptr (some ⟨h.length, 0, 0⟩)] (h ++ [Blk.cells [AV.sl .nil 0] .fix 0] ++ [.cells (m.map (.int .i64)) (.grow 1) 0])).bind fun r => gT 0 r.1 true fun u => K (some ⟨h.length, 0, 0⟩) r.2) = some (.sl s' n', h') ∧ Old h h' ∧ VS intC 1 h' s' n' (rd op a b) := by
    intro m hm hr K hK
    obtain ⟨h', s', n', x1, x2, x3, x4⟩ := add_ok h m hm
    refine ⟨h', s', n', ?_, x2, by unfold rd; rw [hr]; exact x4⟩
    rw [L1, x1, Option.bind_some, gT0_of, hK, x3, gL_of]
  have k68 : ∀ hh, J35x68 mk0 E (some ⟨h.length, 0, 0⟩) hh = gL (ld1 hh ⟨h.length, 0, 0⟩) true fun s n => some (.sl s n, hh) := fun hh => by rw [J35x68xeq, atP_of]
  have k67 : ∀ hh, J35x67 mk0 E (some ⟨h.length, 0, 0⟩) hh = gL (ld1 hh ⟨h.length, 0, 0⟩) true fun s n => some (.sl s n, hh) := fun hh => by rw [J35x67xeq, k68]
  have k66 : ∀ hh, J35x66 mk0 E (some ⟨h.length, 0, 0⟩) hh = gL (ld1 hh ⟨h.length, 0, 0⟩) true fun s n => some (.sl s n, hh) := fun hh => by rw [J35x66xeq, k67]
  have k65 : ∀ hh, J35x65 mk0 E (some ⟨h.length, 0, 0⟩) hh = gL (ld1 hh ⟨h.length, 0, 0⟩) true fun s n => some (.sl s n, hh) := fun hh => by rw [J35x65xeq, k66]
  have k64 : ∀ hh, J35x64 mk0 E (some ⟨h.length, 0, 0⟩) hh = gL (ld1 hh ⟨h.length, 0, 0⟩) true fun s n => some (.sl s n, hh) := fun hh => by rw [J35x64xeq, k65]
  have two : rdR op a b = [a, b] → ∃ h' s' n', J35x43 mk0 E op d a b n (some ⟨h.length, 0, 0⟩) (some ⟨h.length, 0, 0⟩) op true (h ++ [Blk.cells [AV.sl .nil 0] .fix 0]) = some (.sl s' n', h') ∧ Old h h' ∧ VS intC 1 h' s' n' (rd op a b) := by
    intro hr
    rw [J35x43xeq, if_pos rfl, newK_eq]
    exact fin [a, b] (by simp) hr (fun p hh => J35x66 mk0 E p hh) k66
  have one : rdR op a b = [a] → ∃ h' s' n', J35x60 mk0 E op d a b n (some ⟨h.length, 0, 0⟩) (some ⟨h.length, 0, 0⟩) op true (h ++ [Blk.cells [AV.sl .nil 0] .fix 0]) = some (.sl s' n', h') ∧ Old h h' ∧ VS intC 1 h' s' n' (rd op a b) := by
    intro hr
    rw [J35x60xeq, if_pos rfl, newK_eq]
    exact fin [a] (by simp) hr (fun p hh => J35x65 mk0 E p hh) k65
  rw [e35, newK_eq, letK_eq]
  by_cases x0 : op = 0
  · rw [if_pos (by simpa using x0), newK_eq]
    exact fin [1] (by simp) (by simp [rdR, x0]) (fun p hh => J35x68 mk0 E p hh) k68
  rw [if_neg (by simpa using x0), letK_eq]
  by_cases x22 : op = 22
  · rw [if_pos (by simpa using x22), newK_eq]
    exact fin [15] (by simp) (by simp [rdR, x22]) (fun p hh => J35x67 mk0 E p hh) k67
  rw [if_neg (by simpa using x22), letK_eq]
  by_cases x1 : op = 1
  · rw [decide_eq_true x1, if_pos rfl]
    try simp only [J35x33xeq, J35x34xeq, J35x35xeq, J35x36xeq, J35x37xeq, J35x38xeq, J35x39xeq, J35x40xeq, J35x41xeq, J35x42xeq]
    exact two (by simp [rdR, x1])
  rw [if_neg (by simpa using x1), letK_eq]
  by_cases x2 : op = 2
  · rw [decide_eq_true x2, if_pos rfl]
    try simp only [J35x33xeq, J35x34xeq, J35x35xeq, J35x36xeq, J35x37xeq, J35x38xeq, J35x39xeq, J35x40xeq, J35x41xeq, J35x42xeq]
    exact two (by simp [rdR, x2])
  rw [if_neg (by simpa using x2), letK_eq]
  by_cases x3 : op = 3
  · rw [decide_eq_true x3, if_pos rfl]
    try simp only [J35x33xeq, J35x34xeq, J35x35xeq, J35x36xeq, J35x37xeq, J35x38xeq, J35x39xeq, J35x40xeq, J35x41xeq, J35x42xeq]
    exact two (by simp [rdR, x3])
  rw [if_neg (by simpa using x3), letK_eq]
  by_cases x4 : op = 4
  · rw [decide_eq_true x4, if_pos rfl]
    try simp only [J35x33xeq, J35x34xeq, J35x35xeq, J35x36xeq, J35x37xeq, J35x38xeq, J35x39xeq, J35x40xeq, J35x41xeq, J35x42xeq]
    exact two (by simp [rdR, x4])
  rw [if_neg (by simpa using x4), letK_eq]
  by_cases x5 : op = 5
  · rw [decide_eq_true x5, if_pos rfl]
    try simp only [J35x33xeq, J35x34xeq, J35x35xeq, J35x36xeq, J35x37xeq, J35x38xeq, J35x39xeq, J35x40xeq, J35x41xeq, J35x42xeq]
    exact two (by simp [rdR, x5])
  rw [if_neg (by simpa using x5), letK_eq]
  by_cases x6 : op = 6
  · rw [decide_eq_true x6, if_pos rfl]
    try simp only [J35x33xeq, J35x34xeq, J35x35xeq, J35x36xeq, J35x37xeq, J35x38xeq, J35x39xeq, J35x40xeq, J35x41xeq, J35x42xeq]
    exact two (by simp [rdR, x6])
  rw [if_neg (by simpa using x6), letK_eq]
  by_cases x7 : op = 7
  · rw [decide_eq_true x7, if_pos rfl]
    try simp only [J35x33xeq, J35x34xeq, J35x35xeq, J35x36xeq, J35x37xeq, J35x38xeq, J35x39xeq, J35x40xeq, J35x41xeq, J35x42xeq]
    exact two (by simp [rdR, x7])
  rw [if_neg (by simpa using x7), letK_eq]
  by_cases x13 : op = 13
  · rw [decide_eq_true x13, if_pos rfl]
    try simp only [J35x33xeq, J35x34xeq, J35x35xeq, J35x36xeq, J35x37xeq, J35x38xeq, J35x39xeq, J35x40xeq, J35x41xeq, J35x42xeq]
    exact two (by simp [rdR, x13])
  rw [if_neg (by simpa using x13), letK_eq]
  by_cases x15 : op = 15
  · rw [decide_eq_true x15, if_pos rfl]
    try simp only [J35x33xeq, J35x34xeq, J35x35xeq, J35x36xeq, J35x37xeq, J35x38xeq, J35x39xeq, J35x40xeq, J35x41xeq, J35x42xeq]
    exact two (by simp [rdR, x15])
  rw [if_neg (by simpa using x15), letK_eq]
  by_cases x16 : op = 16
  · rw [decide_eq_true x16, if_pos rfl]
    try simp only [J35x33xeq, J35x34xeq, J35x35xeq, J35x36xeq, J35x37xeq, J35x38xeq, J35x39xeq, J35x40xeq, J35x41xeq, J35x42xeq]
    exact two (by simp [rdR, x16])
  rw [if_neg (by simpa using x16), letK_eq]
  by_cases x17 : op = 17
  · rw [decide_eq_true x17, if_pos rfl]
    try simp only [J35x33xeq, J35x34xeq, J35x35xeq, J35x36xeq, J35x37xeq, J35x38xeq, J35x39xeq, J35x40xeq, J35x41xeq, J35x42xeq]
    exact two (by simp [rdR, x17])
  rw [if_neg (by simpa using x17), letK_eq]
  simp only [J35x33xeq, J35x34xeq, J35x35xeq, J35x36xeq, J35x37xeq, J35x38xeq, J35x39xeq, J35x40xeq, J35x41xeq, J35x42xeq]
  by_cases x18 : op = 18
  · rw [decide_eq_true x18]
    exact two (by simp [rdR, x18])
  rw [decide_eq_false x18, J35x43xeq, if_neg (by simp), letK_eq]
  by_cases x8 : op = 8
  · rw [decide_eq_true x8, if_pos rfl]
    try simp only [J35x56xeq, J35x57xeq, J35x58xeq, J35x59xeq]
    exact one (by simp [rdR, x8])
  rw [if_neg (by simpa using x8), letK_eq]
  by_cases x9 : op = 9
  · rw [decide_eq_true x9, if_pos rfl]
    try simp only [J35x56xeq, J35x57xeq, J35x58xeq, J35x59xeq]
    exact one (by simp [rdR, x9])
  rw [if_neg (by simpa using x9), letK_eq]
  by_cases x10 : op = 10
  · rw [decide_eq_true x10, if_pos rfl]
    try simp only [J35x56xeq, J35x57xeq, J35x58xeq, J35x59xeq]
    exact one (by simp [rdR, x10])
  rw [if_neg (by simpa using x10), letK_eq]
  by_cases x12 : op = 12
  · rw [decide_eq_true x12, if_pos rfl]
    try simp only [J35x56xeq, J35x57xeq, J35x58xeq, J35x59xeq]
    exact one (by simp [rdR, x12])
  rw [if_neg (by simpa using x12), letK_eq]
  by_cases x21 : op = 21
  · rw [decide_eq_true x21, if_pos rfl]
    try simp only [J35x56xeq, J35x57xeq, J35x58xeq, J35x59xeq]
    exact one (by simp [rdR, x21])
  rw [if_neg (by simpa using x21), letK_eq]
  simp only [J35x56xeq, J35x57xeq, J35x58xeq, J35x59xeq]
  by_cases x23 : op = 23
  · rw [decide_eq_true x23]
    exact one (by simp [rdR, x23])
  rw [decide_eq_false x23, J35x60xeq, if_neg (by simp), letK_eq]
  by_cases x14 : op = 14
  · rw [if_pos (by simpa using x14), newK_eq]
    exact fin [b] (by simp) (by simp [rdR, x14]) (fun p hh => J35x64 mk0 E p hh) k64
  rw [if_neg (by simpa using x14), k64]
  refine ⟨_, .nil, 0, by rw [show ld1 (h ++ [Blk.cells [AV.sl .nil 0] .fix 0]) ⟨h.length, 0, 0⟩ = some (.sl .nil 0) from ld1_at (last_get _ _) rfl rfl, gL_of], old_app _ _, ?_⟩
  have : rd op a b = [] := by simp [rd, rdR, nz, x0, x22, x1, x2, x3, x4, x5, x6, x7, x13, x15, x16, x17, x18, x8, x9, x10, x12, x21, x23, x14]
  rw [this]
  exact ⟨rfl, .inl rfl⟩

end Go.Proofs.Ytepkdcgokedkdaa.H

/- timing: search, check, start. -/
set_option linter.unusedVariables false
set_option linter.unusedSimpArgs false
namespace Go.Proofs.Ytepkdcgokedkdaa.H
open Go Go.Proofs.Ytepkdcgokedkdaa.Abs Go.Proofs

theorem drop_get {α : Type} {l : List α} {j : Nat} {x : α} (h : l[j]? = some x) : l.drop j = x :: l.drop (j + 1) := by
  obtain ⟨hj, rfl⟩ := List.getElem?_eq_some_iff.1 h
  exact List.drop_eq_getElem_cons hj

theorem index_loop {h : Heap} {s : SA} {n : Nat} {l : List Int} (H : VS intC 1 h s n l) (hn : n < 1000000000) (v : Int) : ∀ (k j : Nat), j + k = n →
    ∃ r, L60x4 mk0 E s n v ((n : Nat) : Int) ((j : Nat) : Int) h (Q60x4 mk0 E) = some (.int .i64 r, h) ∧ decide (0 ≤ r) = decide (v ∈ l.drop j) := by
  intro k
  have hl := H.1
  induction k with
  | zero =>
    intro j hj
    refine ⟨-1, by rw [L60x4xeq, letK_eq, if_neg (by simp; omega), X60x4xe0], ?_⟩
    rw [List.drop_eq_nil_of_le (by omega)]
    simp
  | succ k ih =>
    intro j hj
    obtain ⟨x, hx⟩ : ∃ x, l[j]? = some x := ⟨l[j]'(by omega), List.getElem?_eq_getElem (by omega)⟩
    obtain ⟨a, ha, la⟩ := vs_ld1 (g := AV.int .i64) H (fun _ => rfl) j _ hx
    rw [L60x4xeq, letK_eq, if_pos (by simp; omega), chk_of (by intro _; omega), ha, atP_of, Int.toNat_natCast, la, gI_of, letK_eq]
    rw [drop_get hx]
    by_cases e : v = x
    · rw [if_pos (by simpa using e), X60x4xr]
      exact ⟨j, rfl, by simp [e]⟩
    · rw [if_neg (by simpa using e), letK_eq, wrap64 (by omega) (by omega), show ((j : Int) + 1) = ((j + 1 : Nat) : Int) by omega]
      obtain ⟨r, h1, h2⟩ := ih (j + 1) (by omega)
      refine ⟨r, h1, ?_⟩
      rw [h2]
      simp [e]

theorem contains_ok {h : Heap} {s : SA} {n : Nat} {l : List Int} (H : VS intC 1 h s n l) (hn : n < 1000000000) (v : Int) : E 55 [.sl s n, .int .i64 v] h = some (.bool (decide (v ∈ l)), h) := by
  obtain ⟨r, h1, h2⟩ := index_loop H hn v n 0 (by omega)
  rw [List.drop_zero] at h2
  rw [e55, e60]
  rw [show (((0 : Nat) : Int)) = 0 from rfl] at h1
  rw [h1, Option.bind_some, gI_of, letK_eq, h2]

/-! ### The state of the pipeline -/

structure TS where
  nx : Int
  dv : Int
  dn : Int
  rg : List Int
  ws : List Int

def TS.zero : TS := ⟨0, 0, 0, List.replicate 16 0, []⟩

/-- Its cells, the writes in slice s. -/
def tc (t : TS) (s : SA) (n : Nat) : List AV := [.int .i64 t.nx, .int .i64 t.dv, .int .i64 t.dn] ++ t.rg.map (.int .i64) ++ [.sl s n]

structure TOk (t : TS) (K : Int) : Prop where
  len : t.rg.length = 16
  nx0 : 0 ≤ t.nx
  nxK : t.nx ≤ K
  dv0 : 0 ≤ t.dv
  dvK : t.dv ≤ K
  dn0 : 0 ≤ t.dn
  dnK : t.dn ≤ K
  rg0 : ∀ r ∈ t.rg, 0 ≤ r ∧ r ≤ K
  ws0 : ∀ w ∈ t.ws, t.nx ≤ w ∧ w ≤ K
  srt : t.ws.Pairwise (· < ·)

/-- A state in memory. -/
def TR (h : Heap) (t : TS) (s : SA) (n : Nat) : Prop := VS intC 1 h s n t.ws

theorem tc_len {t : TS} {s : SA} {n : Nat} (h : t.rg.length = 16) : (tc t s n).length = 20 := by simp [tc, h]
theorem tc_nx (t : TS) (s : SA) (n : Nat) : (tc t s n)[0]? = some (.int .i64 t.nx) := rfl
theorem tc_dv (t : TS) (s : SA) (n : Nat) : (tc t s n)[1]? = some (.int .i64 t.dv) := rfl
theorem tc_dn (t : TS) (s : SA) (n : Nat) : (tc t s n)[2]? = some (.int .i64 t.dn) := rfl
theorem tc_ws {t : TS} {s : SA} {n : Nat} (h : t.rg.length = 16) : (tc t s n)[19]? = some (.sl s n) := by
  unfold tc
  rw [List.getElem?_append_right (by simp [h])]
  simp [h]
theorem tc_rg {t : TS} {s : SA} {n : Nat} {r : Nat} {x : Int} (hx : t.rg[r]? = some x) : (tc t s n)[3 + r * 1]? = some (.int .i64 x) := by
  have := (List.getElem?_eq_some_iff.1 hx).1
  unfold tc
  rw [List.getElem?_append_left (by simp <;> omega), List.getElem?_append_right (by simp <;> omega)]
  simp [hx]
theorem tc_all {t : TS} {s : SA} {n : Nat} (h : t.rg.length = 16) : ((tc t s n).drop 0).take 20 = tc t s n := by
  rw [List.drop_zero, List.take_of_length_le (by rw [tc_len h]; omega)]
theorem tc_regs {t : TS} {s : SA} {n : Nat} (h : t.rg.length = 16) : ((tc t s n).drop 3).take 16 = t.rg.map (.int .i64) := by
  unfold tc
  simp [h]

theorem ready_loop {l1 : List AV} {rg : List Int} (hl : rg.length = 16) (h0 : ∀ r ∈ rg, 0 ≤ r) (h : Heap) : ∀ (k j : Nat), j + k = 16 →
    L43x9 mk0 E l1 (rg.map (.int .i64)) ((j : Nat) : Int) h (Q43x9 mk0 E) = Q43x9 mk0 E (.exit 0) (S43xe0 l1 h) := by
  intro k
  induction k with
  | zero => intro j hj; rw [L43x9xeq, letK_eq, if_neg (by simp; omega)]
  | succ k ih =>
    intro j hj
    have hx : rg[j]? = some rg[j] := List.getElem?_eq_getElem (by omega)
    have := h0 _ (List.mem_of_getElem? hx)
    rw [L43x9xeq, letK_eq, if_pos (by simp; omega), chk_of (by intro _; omega), Int.toNat_natCast, Nat.mul_one, List.getElem?_map, hx, Option.map_some, gI_of, letK_eq, if_neg (by simp; omega), letK_eq, wrap64 (by omega) (by omega), show ((j : Int) + 1) = ((j + 1 : Nat) : Int) by omega]
    exact ih (j + 1) (by omega)

theorem writes_loop {h : Heap} {s : SA} {n : Nat} {ws : List Int} (H : VS intC 1 h s n ws) (hn : n < 1000000000) (srt : ws.Pairwise (· < ·)) : ∀ (k j : Nat), j + k = n →
    ∀ (last : Int), (∀ w ∈ ws.drop j, last < w) → L43x25 mk0 E last s n ((n : Nat) : Int) ((j : Nat) : Int) h (Q43x25 mk0 E) = some (.int .i64 0, h) := by
  intro k
  have hl := H.1
  induction k with
  | zero => intro j hj last _; rw [L43x25xeq, letK_eq, if_neg (by simp; omega), X43x25xe2]
  | succ k ih =>
    intro j hj last hlast
    obtain ⟨x, hx⟩ : ∃ x, ws[j]? = some x := ⟨ws[j]'(by omega), List.getElem?_eq_getElem (by omega)⟩
    obtain ⟨a, ha, la⟩ := vs_ld1 (g := AV.int .i64) H (fun _ => rfl) j _ hx
    have hd := drop_get hx
    rw [hd] at hlast
    have h1 := hlast x (List.mem_cons_self)
    rw [L43x25xeq, letK_eq, if_pos (by simp; omega), chk_of (by intro _; omega), ha, atP_of, Int.toNat_natCast, la, gI_of, letK_eq, if_neg (by simp; omega), letK_eq, wrap64 (by omega) (by omega), show ((j : Int) + 1) = ((j + 1 : Nat) : Int) by omega]
    refine ih (j + 1) (by omega) x fun w hw => ?_
    have : (x :: ws.drop (j + 1)).Pairwise (· < ·) := by rw [← hd]; exact srt.sublist (List.drop_sublist j ws)
    exact (List.pairwise_cons.1 this).1 w hw

theorem tcheck_ok {h : Heap} {t : TS} {s : SA} {n : Nat} {K : Int} (ok : TOk t K) (H : TR h t s n) (hn : n ≤ 16384) (hK : K < 1000000000) : E 43 [.agg (tc t s n)] h = some (.int .i64 0, h) := by
  have := ok.nx0; have := ok.dv0; have := ok.dn0
  have a1 : decide (t.nx < 0) = false := by simp; omega
  have a2 : decide (t.dv < 0) = false := by simp; omega
  have a3 : decide (t.dn < 0) = false := by simp; omega
  have a4 : decide ((16384 : Int) < ((n : Nat) : Int)) = false := by simp; omega
  have l : ((tc t s n).drop 3).take 16 = t.rg.map (.int .i64) := tc_regs ok.len
  rw [e43, tc_nx, gI_of, letK_eq, a1, tc_dv, gI_any, letK_eq, a2, letK_eq, tc_dn, gI_any, letK_eq, a3, letK_eq, tc_ws ok.len]
  simp only [Bool.false_eq_true, if_false, Bool.not_false]
  rw [gL_of, letK_eq, a4, letK_eq, if_neg (by simp), chk_of (by rw [tc_len ok.len]; intro _; omega), l]
  have r := ready_loop (l1 := tc t s n) ok.len (fun r hr => (ok.rg0 r hr).1) h 16 0 (by omega)
  rw [show (((0 : Nat) : Int)) = 0 from rfl] at r
  have nk := ok.nxK
  rw [r, X43x9xe0, tc_nx, gI_of, letK_eq, wrap64 (by omega) (by omega), tc_ws ok.len, gL_of]
  exact writes_loop H (by omega) ok.srt n 0 (by omega) (t.nx - 1) fun w hw => by
    rw [List.drop_zero] at hw
    have := (ok.ws0 w hw).1
    omega

/-- Where an instruction's result is written to a free cycle. -/
def bump (ws : List Int) (lt : Int) : Nat → Int → Int
  | 0, a => a
  | k + 1, a => if a + lt ∈ ws then bump ws lt k (a + 1) else a

theorem bump_ge (ws : List Int) (lt : Int) : ∀ (k : Nat) (a : Int), a ≤ bump ws lt k a
  | 0, a => Int.le_refl _
  | k + 1, a => by
    rw [bump]
    split
    · have := bump_ge ws lt k (a + 1); omega
    · omega

theorem bump_free (ws : List Int) (lt : Int) : ∀ (k : Nat) (a : Int), (∀ w ∈ ws, w < a + lt + k) → bump ws lt k a + lt ∉ ws
  | 0, a, h => fun hm => by have := h _ hm; rw [bump] at this; omega
  | k + 1, a, h => by
    rw [bump]
    split
    · exact bump_free ws lt k (a + 1) fun w hw => by have := h w hw; omega
    · assumption

theorem bump_le (ws : List Int) (lt K : Int) (hK : ∀ w ∈ ws, w ≤ K) : ∀ (k : Nat) (a : Int), bump ws lt k a = a ∨ bump ws lt k a + lt ≤ K + 1
  | 0, a => .inl rfl
  | k + 1, a => by
    rw [bump]
    split
    · rename_i hm
      have := hK _ hm
      rcases bump_le ws lt K hK k (a + 1) with h | h
      · right; rw [h]; omega
      · exact .inr h
    · exact .inl rfl

def mxL (l : List Int) : Int := l.foldl max 0
theorem mxL_ge (l : List Int) : ∀ w ∈ l, w ≤ mxL l := by
  have key : ∀ (l : List Int) (a : Int), a ≤ l.foldl max a ∧ ∀ w ∈ l, w ≤ l.foldl max a := by
    intro l
    induction l with
    | nil => intro a; exact ⟨Int.le_refl _, by simp⟩
    | cons x l ih =>
      intro a
      rw [List.foldl_cons]
      obtain ⟨h1, h2⟩ := ih (max a x)
      refine ⟨by omega, fun w hw => ?_⟩
      rcases List.mem_cons.1 hw with rfl | hw
      · omega
      · exact h2 w hw
  exact (key l 0).2

def fuel (ws : List Int) (a lt : Int) : Nat := (mxL ws + 1 - (a + lt)).toNat

def reg (t : TS) (r : Int) : Int := t.rg.getD r.toNat 0

/-- The cycle in which an instruction is issued. -/
def att (t : TS) (op d a b lt : Int) : Int :=
  let x := (rd op a b).foldl (fun x r => max x (reg t r)) t.nx
  let y := if divs op = true then max x t.dv else x
  if wr op d = 0 then y else bump t.ws lt (fuel t.ws (max y (reg t (wr op d) + 1 - lt)) lt) (max y (reg t (wr op d) + 1 - lt))

theorem start_bump {h : Heap} {t : TS} {s : SA} {n : Nat} {K lt : Int} (ok : TOk t K) (H : TR h t s n) (hn : n < 1000000000) (hK : K < 1000000000) (hlt : 0 ≤ lt) (hlt2 : lt < 1000000000) : ∀ (k : Nat) (a : Int), (∀ w ∈ t.ws, w < a + lt + k) → -1000000000 ≤ a → a ≤ 1000000000 →
    L45x23 mk0 E lt (tc t s n) a h (Q45x23 mk0 E) = some (.int .i64 (bump t.ws lt k a), h) := by
  intro k
  induction k with
  | zero =>
    intro a hw a0 a1
    have : ¬ (a + lt ∈ t.ws) := fun hm => by have := hw _ hm; omega
    rw [L45x23xeq, tc_ws ok.len, gL_of, letK_eq, wrap64 (by omega) (by omega), contains_ok H hn, Option.bind_some, gB_of, if_neg (by simpa using this), X45x23xe2, J45x29xeq]
    rfl
  | succ k ih =>
    intro a hw a0 a1
    rw [L45x23xeq, tc_ws ok.len, gL_of, letK_eq, wrap64 (by omega) (by omega), contains_ok H hn, Option.bind_some, gB_of]
    by_cases hm : a + lt ∈ t.ws
    · have := (ok.ws0 _ hm).2
      rw [if_pos (by simpa using hm), letK_eq, wrap64 (by omega) (by omega), bump, if_pos hm]
      exact ih (a + 1) (fun w hw' => by have := hw w hw'; omega) (by omega) (by omega)
    · rw [if_neg (by simpa using hm), X45x23xe2, J45x29xeq, bump, if_neg hm]

theorem fold_bd {t : TS} {K : Int} (ok : TOk t K) (hK : 0 ≤ K) : ∀ (l : List Int) (x : Int), 0 ≤ x → x ≤ K → 0 ≤ l.foldl (fun x r => max x (reg t r)) x ∧ l.foldl (fun x r => max x (reg t r)) x ≤ K ∧ x ≤ l.foldl (fun x r => max x (reg t r)) x := by
  have hr : ∀ r, 0 ≤ reg t r ∧ reg t r ≤ K := by
    intro r
    unfold reg
    by_cases h : r.toNat < t.rg.length
    · have := ok.rg0 t.rg[r.toNat] (List.getElem_mem h)
      simpa [List.getD, h] using this
    · simp [List.getD, h, hK]
  intro l
  induction l with
  | nil => intro x h0 h1; exact ⟨h0, h1, Int.le_refl _⟩
  | cons y l ih =>
    intro x h0 h1
    rw [List.foldl_cons]
    have := hr y
    obtain ⟨a, b, c⟩ := ih (max x (reg t y)) (by omega) (by omega)
    exact ⟨a, b, by omega⟩

theorem reg_bd {t : TS} {K : Int} (ok : TOk t K) (hK : 0 ≤ K) (r : Int) : 0 ≤ reg t r ∧ reg t r ≤ K := by
  unfold reg
  by_cases h : r.toNat < t.rg.length
  · have := ok.rg0 t.rg[r.toNat] (List.getElem_mem h)
    simpa [List.getD, h] using this
  · simp [List.getD, h, hK]

theorem start_fold {h : Heap} {t : TS} {s s14 : SA} {n n14 : Nat} {K lt op d a b nn : Int} {l : List Int} (ok : TOk t K) (HL : VS intC 1 h s14 n14 l) (hn14 : n14 < 1000) (hl : ∀ r ∈ l, 0 ≤ r ∧ r ≤ 15) : ∀ (k j : Nat), j + k = n14 → ∀ x : Int,
    L45x5 mk0 E lt (tc t s n) op d a b nn x s14 n14 ((n14 : Nat) : Int) ((j : Nat) : Int) h (Q45x5 mk0 E) = Q45x5 mk0 E (.exit 0) (S45xe0 lt (tc t s n) op d a b nn ((l.drop j).foldl (fun x r => max x (reg t r)) x) h) := by
  intro k
  have hll := HL.1
  induction k with
  | zero =>
    intro j hj x
    rw [L45x5xeq, letK_eq, if_neg (by simp; omega), List.drop_eq_nil_of_le (by omega)]
    rfl
  | succ k ih =>
    intro j hj x
    obtain ⟨r, hr⟩ : ∃ r, l[j]? = some r := ⟨l[j]'(by omega), List.getElem?_eq_getElem (by omega)⟩
    obtain ⟨ad, ha, la⟩ := vs_ld1 (g := AV.int .i64) HL (fun _ => rfl) j _ hr
    have hb := hl r (List.mem_of_getElem? hr)
    have hg : t.rg[r.toNat]? = some (reg t r) := by
      have : r.toNat < t.rg.length := by rw [ok.len]; omega
      simp [reg, List.getD, this]
    rw [L45x5xeq, letK_eq, if_pos (by simp; omega), chk_of (by intro _; omega), ha, atP_of, Int.toNat_natCast, la, gI_of, chk_of (by intro _; omega), tc_rg hg, gI_of, letK_eq, mm_max, letK_eq, wrap64 (by omega) (by omega), show ((j : Int) + 1) = ((j + 1 : Nat) : Int) by omega, ih (j + 1) (by omega), drop_get hr, List.foldl_cons]

theorem rd_len (op a b : Int) : (rd op a b).length ≤ 2 := by
  refine Nat.le_trans (List.length_filter_le _ _) ?_
  unfold rdR
  repeat' split
  all_goals simp

theorem rd_bd {op a b : Int} (a0 : 0 ≤ a) (a1 : a ≤ 15) (b0 : 0 ≤ b) (b1 : b ≤ 15) : ∀ r ∈ rd op a b, 0 ≤ r ∧ r ≤ 15 := by
  intro r hr
  have hr := (List.mem_filter.1 hr).1
  unfold rdR at hr
  repeat' split at hr
  all_goals simp at hr
  all_goals omega

theorem start_ok {h : Heap} {t : TS} {s : SA} {n : Nat} {K lt op d a b nn : Int} (ok : TOk t K) (H : TR h t s n) (hn : n < 1000000) (hK : K < 100000000) (h1 : 0 ≤ lt) (h2 : lt < 100000)
    (d0 : 0 ≤ d) (d1 : d ≤ 15) (a0 : 0 ≤ a) (a1 : a ≤ 15) (b0 : 0 ≤ b) (b1 : b ≤ 15) :
    ∃ h', E 45 [.agg (tc t s n), .agg [.int .i64 op, .int .i64 d, .int .i64 a, .int .i64 b, .int .i64 nn], .int .i64 lt] h = some (.int .i64 (att t op d a b lt), h') ∧ Old h h' := by
  obtain ⟨h', s', n', r1, r2, r3⟩ := reads_ok op d a b nn h
  refine ⟨h', ?_, r2⟩
  have hlen := rd_len op a b
  have hn' := r3.1
  have f := start_fold (s := s) (n := n) (lt := lt) (op := op) (d := d) (a := a) (b := b) (nn := nn) ok r3 (by omega) (rd_bd a0 a1 b0 b1) n' 0 (by omega) t.nx
  rw [show (((0 : Nat) : Int)) = 0 from rfl, List.drop_zero] at f
  have nk := ok.nxK
  have n0 := ok.nx0
  obtain ⟨x0, x1, x2⟩ := fold_bd ok (by omega) (rd op a b) t.nx n0 nk
  rw [e45, tc_nx, gI_of, r1, Option.bind_some, gL_of, f, X45x5xe0, divs_ok, Option.bind_some, gB_of]
  unfold att
  dsimp only
  generalize (rd op a b).foldl (fun x r => max x (reg t r)) t.nx = x at x0 x1 x2 ⊢
  have fin : ∀ y : Int, 0 ≤ y → y ≤ K → J45x16 mk0 E lt (tc t s n) op d a b nn y h' = some (.int .i64 (if wr op d = 0 then y else bump t.ws lt (fuel t.ws (max y (reg t (wr op d) + 1 - lt)) lt) (max y (reg t (wr op d) + 1 - lt))), h') := by
    intro y y0 y1
    rw [J45x16xeq, writes_ok, Option.bind_some, gI_of, letK_eq]
    by_cases hw : wr op d = 0
    · rw [if_neg (by simp [hw]), if_pos hw, J45x29xeq]
    · rw [if_pos (by simp [hw]), if_neg hw]
      have wb : 0 ≤ wr op d ∧ wr op d ≤ 15 := by
        unfold wr
        split
        · omega
        · split <;> omega
      have hg : t.rg[(wr op d).toNat]? = some (reg t (wr op d)) := by
        have : (wr op d).toNat < t.rg.length := by rw [ok.len]; omega
        simp [reg, List.getD, this]
      have rb := reg_bd ok (by omega) (wr op d)
      rw [chk_of (by intro _; omega), tc_rg hg, gI_of, letK_eq, wrap64 (x := reg t (wr op d) + 1) (by omega) (by omega), letK_eq, wrap64 (by omega) (by omega), letK_eq, mm_max]
      refine start_bump ok (vs_old H r2) (by omega) (by omega) h1 (by omega) _ _ (fun w hw' => ?_) (by omega) (by omega)
      have := mxL_ge t.ws w hw'
      unfold fuel
      omega
  have v0 := ok.dv0
  have vk := ok.dvK
  by_cases hd : divs op = true
  · rw [if_pos hd, if_pos hd, tc_dv, gI_of, letK_eq, mm_max]
    exact fin _ (by omega) (by omega)
  · rw [if_neg hd, if_neg hd]
    exact fin _ x0 x1

end Go.Proofs.Ytepkdcgokedkdaa.H

/- timing: the search in order, the insertion, and the step. -/
set_option linter.unusedVariables false
set_option linter.unusedSimpArgs false
namespace Go.Proofs.Ytepkdcgokedkdaa.H
open Go Go.Proofs.Ytepkdcgokedkdaa.Abs Go.Proofs

theorem less_ok (x v : Int) (h : Heap) : E 56 [.int .i64 x, .int .i64 v] h = some (.bool (decide (x < v)), h) := by
  have nan : ∀ y : Int, E 61 [.int .i64 y] h = some (.bool false, h) := fun y => by rw [e61, letK_eq]; simp
  rw [e56, nan, Option.bind_some, gB_of, callO_false, Option.bind_some, gB_any, letK_eq, letK_eq, letK_eq]
  simp

/-- How many are less. -/
def cutN (l : List Int) (v : Int) : Nat := (l.filter fun x => decide (x < v)).length

theorem cut_eq {l : List Int} {v : Int} {i : Nat} (hi : i ≤ l.length) (h1 : ∀ p x, l[p]? = some x → p < i → x < v) (h2 : ∀ p x, l[p]? = some x → i ≤ p → v ≤ x) : cutN l v = i := by
  unfold cutN
  have e : l = l.take i ++ l.drop i := (List.take_append_drop i l).symm
  rw [e, List.filter_append]
  have a : (l.take i).filter (fun x => decide (x < v)) = l.take i := by
    rw [List.filter_eq_self]
    intro x hx
    obtain ⟨p, hp⟩ := List.mem_iff_getElem?.1 hx
    rw [List.getElem?_take] at hp
    split at hp
    · simpa using h1 p x hp (by assumption)
    · cases hp
  have b : (l.drop i).filter (fun x => decide (x < v)) = [] := by
    rw [List.filter_eq_nil_iff]
    intro x hx
    obtain ⟨p, hp⟩ := List.mem_iff_getElem?.1 hx
    rw [List.getElem?_drop] at hp
    have := h2 _ x hp (by omega)
    simp; omega
  rw [a, b, List.append_nil, List.length_take]
  omega

theorem search_loop {h : Heap} {s : SA} {n : Nat} {l : List Int} (H : VS intC 1 h s n l) (hn : n < 1000000000) (srt : l.Pairwise (· < ·)) (v : Int) : ∀ (k i j : Nat), j - i ≤ k → i ≤ j → j ≤ n →
    (∀ p x, l[p]? = some x → p < i → x < v) → (∀ p x, l[p]? = some x → j ≤ p → v ≤ x) →
    L47x5 mk0 E s n v ((n : Nat) : Int) ((i : Nat) : Int) ((j : Nat) : Int) h (Q47x5 mk0 E) = Q47x5 mk0 E (.exit 0) (S47xe0 s n v ((n : Nat) : Int) ((cutN l v : Nat) : Int) h) := by
  intro k
  have hl := H.1
  have mono : ∀ (p q : Nat) (x y : Int), l[p]? = some x → l[q]? = some y → p < q → x < y := by
    intro p q x y hp hq hpq
    obtain ⟨h1, rfl⟩ := List.getElem?_eq_some_iff.1 hp
    obtain ⟨h2, rfl⟩ := List.getElem?_eq_some_iff.1 hq
    exact (List.pairwise_iff_getElem.1 srt) p q h1 h2 hpq
  have stop : ∀ i : Nat, i ≤ n → (∀ p x, l[p]? = some x → p < i → x < v) → (∀ p x, l[p]? = some x → i ≤ p → v ≤ x) → L47x5 mk0 E s n v ((n : Nat) : Int) ((i : Nat) : Int) ((i : Nat) : Int) h (Q47x5 mk0 E) = Q47x5 mk0 E (.exit 0) (S47xe0 s n v ((n : Nat) : Int) ((cutN l v : Nat) : Int) h) := by
    intro i hi h1 h2
    rw [L47x5xeq, letK_eq, if_neg (by simp), cut_eq (by omega) h1 h2]
  induction k with
  | zero =>
    intro i j hk hij hj h1 h2
    obtain rfl : i = j := by omega
    exact stop i hj h1 h2
  | succ k ih =>
    intro i j hk hij hj h1 h2
    by_cases he : i = j
    · subst he; exact stop i hj h1 h2
    · have hm : (i + j) / 2 < n := by omega
      obtain ⟨x, hx⟩ : ∃ x, l[(i + j) / 2]? = some x := ⟨l[(i + j) / 2]'(by omega), List.getElem?_eq_getElem (by omega)⟩
      obtain ⟨a, ha, la⟩ := vs_ld1 (g := AV.int .i64) H (fun _ => rfl) _ _ hx
      have w1 : IntKind.wrap .i64 (((i : Nat) : Int) + ((j : Nat) : Int)) = ((i + j : Nat) : Int) := by rw [wrap64 (by omega) (by omega)]; omega
      have w2 : IntKind.wrap .u64 ((i + j : Nat) : Int) = ((i + j : Nat) : Int) := by
        rw [IntKind.wrap_u64]; omega
      have w3 : Int.fdiv ((i + j : Nat) : Int) (2 ^ 1) = (((i + j) / 2 : Nat) : Int) := by
        rw [Int.fdiv_eq_ediv_of_nonneg _ (by omega)]
        omega
      have w4 : IntKind.wrap .i64 (((i + j) / 2 : Nat) : Int) = (((i + j) / 2 : Nat) : Int) := wrap64 (by omega) (by omega)
      rw [L47x5xeq, letK_eq, if_pos (by simp; omega), letK_eq, w1, letK_eq, w2, letK_eq, w3, letK_eq, w4, chk_of (by intro _; omega), ha, atP_of, Int.toNat_natCast, la, gI_of, less_ok, Option.bind_some, gB_of]
      by_cases hlt : x < v
      · rw [if_pos (by simpa using hlt), letK_eq, wrap64 (by omega) (by omega), J47x14xeq, show ((((i + j) / 2 : Nat) : Int) + 1) = (((i + j) / 2 + 1 : Nat) : Int) by omega]
        refine ih _ _ (by omega) (by omega) hj (fun p y hp hpi => ?_) h2
        by_cases e : p = (i + j) / 2
        · subst e; rw [hx] at hp; cases hp; exact hlt
        · have := mono p _ y x hp hx (by omega)
          omega
      · rw [if_neg (by simpa using hlt), J47x14xeq]
        refine ih _ _ (by omega) (by omega) (by omega) h1 (fun p y hp hpi => ?_)
        by_cases e : p = (i + j) / 2
        · subst e; rw [hx] at hp; cases hp; omega
        · have := mono _ p x y hx hp (by omega)
          omega

theorem search_ok {h : Heap} {s : SA} {n : Nat} {l : List Int} (H : VS intC 1 h s n l) (hn : n < 1000000000) (srt : l.Pairwise (· < ·)) (v : Int) :
    ∃ b, E 47 [.sl s n, .int .i64 v] h = some (.tup [.int .i64 ((cutN l v : Nat) : Int), .bool b], h) := by
  have hl := H.1
  have f := search_loop H hn srt v n 0 n (by omega) (by omega) (by omega) (fun _ _ _ h => absurd h (by omega)) (fun p x hp hnp => by
    have := (List.getElem?_eq_some_iff.1 hp).1; omega)
  rw [show (((0 : Nat) : Int)) = 0 from rfl] at f
  have hc : cutN l v ≤ n := by
    rw [← hl]
    exact List.length_filter_le _ _
  have nan : ∀ y : Int, E 57 [.int .i64 y] h = some (.bool false, h) := fun y => by rw [e57, letK_eq]; simp
  have nanO : ∀ (c : Bool) (y : Int), callO c (E 57 [.int .i64 y] h) (.bool false) h = some (.bool false, h) := fun c y => by
    rw [nan]; cases c <;> rfl
  rw [e47, f, X47x5xe0, letK_eq, chk_of (by intro hh; simp at hh; omega)]
  by_cases hlt : cutN l v < n
  · obtain ⟨x, hx⟩ : ∃ x, l[cutN l v]? = some x := ⟨l[cutN l v]'(by omega), List.getElem?_eq_getElem (by omega)⟩
    obtain ⟨a, ha, la⟩ := vs_ld1 (g := AV.int .i64) H (fun _ => rfl) _ _ hx
    rw [decide_eq_true (show ((cutN l v : Nat) : Int) < ((n : Nat) : Int) by omega), ha, atP_of, atP_of, Int.toNat_natCast, la, gI_of, letK_eq, chk_of (by intro _; omega), atP_of, atP_of, la, gI_any, nanO, Option.bind_some, gB_any, nanO, Option.bind_some, gB_any, letK_eq, letK_eq, letK_eq]
    exact ⟨_, rfl⟩
  · rw [decide_eq_false (show ¬ ((cutN l v : Nat) : Int) < ((n : Nat) : Int) by omega)]
    obtain ⟨a1, q1⟩ := gP_none (fun a38 => atP (some (Ad.add a38 (Int.toNat ((cutN l v : Nat) : Int) * 1))) false fun a39 => (some (.tup [.int .i64 ((cutN l v : Nat) : Int), .bool false], h) : Option (AV × Heap))) (adP s)
    have gf : ∀ (m : Option AV) (K : Int → Option (AV × Heap)), ∃ y, gI .i64 m false K = K y := fun m K => ⟨_, gI_false m K⟩
    have gp : ∀ (p : Option Ad) (K : Ad → Option (AV × Heap)), ∃ y, atP p false K = K y := fun p K => gP_none K p
    simp only [andB_false, andB, Bool.false_eq_true, if_false]
    obtain ⟨y1, z1⟩ := gp (adP s) _
    rw [z1]
    obtain ⟨y2, z2⟩ := gp (some (Ad.add y1 (Int.toNat ((cutN l v : Nat) : Int) * 1))) _
    rw [z2]
    obtain ⟨y3, z3⟩ := gf (ld1 h y2) _
    rw [z3, letK_eq, chk_of (by intro hh; cases hh)]
    obtain ⟨y4, z4⟩ := gp (adP s) _
    rw [z4]
    obtain ⟨y5, z5⟩ := gp (some (Ad.add y4 (Int.toNat ((cutN l v : Nat) : Int) * 1))) _
    rw [z5]
    obtain ⟨y6, z6⟩ := gf (ld1 h y5) _
    rw [z6, callO_false, Option.bind_some, gB_any, callO_false, Option.bind_some, gB_any, letK_eq, letK_eq, letK_eq]
    exact ⟨_, rfl⟩

/-- slices.Insert into a list of one's own. -/
theorem insert_ok {h : Heap} {s : SA} {n i : Nat} {l : List Int} {x : Int} {q : Nat} (H : GS h s n 1 (l.map (.int .i64))) (hi : i ≤ n) (hq : h[q]? = some (.cells [.int .i64 x] (.grow 1) 0)) (hsq : ¬ inS s q) (hb : (n + 1) * 8 ≤ 70368744177664) :
    ∃ s' h', E 48 [.sl s n, .int .i64 ((i : Nat) : Int), .sl (.pos ⟨q, 0, 0⟩) 1] h = some (.sl s' (n + 1), h') ∧ GS h' s' (n + 1) 1 ((insL l i x).map (.int .i64)) ∧ h.length ≤ h'.length ∧ (∀ b y, h[b]? = some y → ¬ inS s b → h'[b]? = some y) ∧ (∀ b, inS s' b → inS s b ∨ h.length ≤ b) := by
  have e48 : E 48 [.sl s n, .int .i64 ((i : Nat) : Int), .sl (.pos ⟨q, 0, 0⟩) 1] h = insP [.sl s n, .int .i64 ((i : Nat) : Int), .sl (.pos ⟨q, 0, 0⟩) 1] h := EV_prim (P := Try.prog) (T := T0) rfl _ _
  rw [e48]
  obtain ⟨hl, fl, ⟨rfl, rfl⟩ | ⟨b, v, rfl, hbk⟩⟩ := H
  · have hnil : l = [] := by
      rw [List.length_map] at hl
      exact List.length_eq_zero_iff.1 hl
    subst hnil
    obtain rfl : i = 0 := by omega
    refine ⟨.pos ⟨h.length, 0, 0⟩, h ++ [.cells [.int .i64 x] (.grow 1) 0], ?_, ⟨rfl, rfl, .inr ⟨_, _, rfl, last_get _ _⟩⟩, by simp, fun b y hy _ => app_old hy, ?_⟩
    · unfold insP
      simp only [hq]
      rw [show [AV.int IntKind.i64 x][0]? = some (.int .i64 x) from rfl]
      simp
    · rintro b ⟨a, ha, rfl⟩
      cases ha
      exact .inr (Nat.le_refl _)
  · rw [List.length_map, Nat.mul_one] at hl
    have hne : q ≠ b := fun e => hsq ⟨_, rfl, e.symm⟩
    have hex : ∃ l' : List Int, (l.map (AV.int .i64)).drop 0 = l'.map (.int .i64) ∧ l'.length = n := ⟨l, rfl, hl⟩
    have hch : hex.choose = l := by
      have this : l.map (AV.int .i64) = hex.choose.map (.int .i64) := (List.drop_zero).symm.trans hex.choose_spec.1
      exact (List.map_inj_right (fun a b e => by cases e; rfl)).1 this.symm
    have hil := insL_len l i x (by omega)
    refine ⟨.pos ⟨b, v + 1, 0⟩, h.set b (.cells ((insL l i x).map (.int .i64)) (.grow 1) (v + 1)), ?_, ⟨by rw [List.length_map, hil, hl, Nat.mul_one], flat_ints _, .inr ⟨_, _, rfl, set_same hbk⟩⟩, by simp, ?_, ?_⟩
    · unfold insP
      simp only [hq]
      rw [show [AV.int IntKind.i64 x][0]? = some (.int .i64 x) from rfl]
      simp only [hbk]
      rw [if_pos ⟨trivial, by simp, by omega, by omega⟩, dif_pos hex, if_pos ⟨trivial, by omega, hne, hb⟩, Int.toNat_natCast, hch]
    · intro b' y hy hn
      rw [set_other (fun e => hn ⟨_, rfl, e⟩)]
      exact hy
    · rintro b' ⟨a, ha, rfl⟩
      cases ha
      exact .inl ⟨_, rfl, rfl⟩

/-- One instruction issued: the next state, and the cycle. -/
def step (t : TS) (op d a b ex : Int) : TS × Int :=
  let at' := att t op d a b (lat op + ex)
  let e := at' + (lat op + ex)
  let nx := at' + 1 + ex
  let ws := t.ws.filter fun w => decide (nx ≤ w)
  (⟨nx, if divs op = true then e else t.dv, max t.dn e, if wr op d = 0 then t.rg else t.rg.set (wr op d).toNat e, if wr op d = 0 then ws else insL ws (cutN ws e) e⟩, at')

theorem att_bd {t : TS} {K op d a b lt : Int} (ok : TOk t K) (h1 : 1 ≤ lt) : t.nx ≤ att t op d a b lt ∧ att t op d a b lt ≤ K := by
  have n0 := ok.nx0
  have nk := ok.nxK
  obtain ⟨x0, x1, x2⟩ := fold_bd ok (by omega) (rd op a b) t.nx n0 nk
  unfold att
  dsimp only
  generalize (rd op a b).foldl (fun x r => max x (reg t r)) t.nx = x at x0 x1 x2 ⊢
  have v0 := ok.dv0
  have vk := ok.dvK
  have hy : t.nx ≤ (if divs op = true then max x t.dv else x) ∧ (if divs op = true then max x t.dv else x) ≤ K := by split <;> omega
  generalize (if divs op = true then max x t.dv else x) = y at hy ⊢
  split
  · exact hy
  · have rb := reg_bd ok (by omega) (wr op d)
    have g := bump_ge t.ws lt (fuel t.ws (max y (reg t (wr op d) + 1 - lt)) lt) (max y (reg t (wr op d) + 1 - lt))
    refine ⟨by omega, ?_⟩
    rcases bump_le t.ws lt K (fun w hw => (ok.ws0 w hw).2) (fuel t.ws (max y (reg t (wr op d) + 1 - lt)) lt) (max y (reg t (wr op d) + 1 - lt)) with h | h
    · rw [h]; omega
    · omega

theorem att_free {t : TS} {op d a b lt : Int} (hw : wr op d ≠ 0) : att t op d a b lt + lt ∉ t.ws := by
  unfold att
  dsimp only
  rw [if_neg hw]
  apply bump_free
  intro w hw'
  have := mxL_ge t.ws w hw'
  unfold fuel
  omega

theorem insL_mem {l : List Int} {k : Nat} {x y : Int} (h : y ∈ insL l k x) : y = x ∨ y ∈ l := by
  unfold insL at h
  rcases List.mem_append.1 h with h | h
  · exact .inr (List.mem_of_mem_take h)
  · rcases List.mem_cons.1 h with h | h
    · exact .inl h
    · exact .inr (List.mem_of_mem_drop h)

theorem cut_parts {l : List Int} (srt : l.Pairwise (· < ·)) (v : Int) : (∀ x ∈ l.take (cutN l v), x < v) ∧ (∀ x ∈ l.drop (cutN l v), v ≤ x) := by
  induction l with
  | nil => simp [cutN]
  | cons y l ih =>
    obtain ⟨h1, h2⟩ := List.pairwise_cons.1 srt
    obtain ⟨i1, i2⟩ := ih h2
    unfold cutN at *
    by_cases h : y < v
    · simp only [List.filter_cons, h, decide_true, if_true, List.length_cons, List.take_succ_cons, List.drop_succ_cons, List.forall_mem_cons]
      exact ⟨⟨trivial, i1⟩, i2⟩
    · have : l.filter (fun x => decide (x < v)) = [] := by
        rw [List.filter_eq_nil_iff]
        intro x hx
        have := h1 x hx
        simp; omega
      simp only [List.filter_cons, h, decide_false, Bool.false_eq_true, if_false, this, List.length_nil, List.take_zero, List.drop_zero, List.forall_mem_cons]
      exact ⟨by simp, by omega, fun x hx => by have := h1 x hx; omega⟩

theorem insL_srt {l : List Int} (srt : l.Pairwise (· < ·)) {v : Int} (hv : v ∉ l) : (insL l (cutN l v) v).Pairwise (· < ·) := by
  obtain ⟨h1, h2⟩ := cut_parts srt v
  unfold insL
  rw [List.pairwise_append]
  refine ⟨srt.sublist (List.take_sublist _ _), List.pairwise_cons.2 ⟨fun x hx => ?_, srt.sublist (List.drop_sublist _ _)⟩, fun x hx y hy => ?_⟩
  · have := h2 x hx
    have hne : x ≠ v := fun e => hv (e ▸ List.mem_of_mem_drop hx)
    omega
  · have := h1 x hx
    rcases List.mem_cons.1 hy with rfl | hy
    · exact this
    · have := h2 y hy
      omega

theorem step_ok {t : TS} {K op d a b ex : Int} (ok : TOk t K) (h0 : 0 ≤ ex) : TOk (step t op d a b ex).1 (K + 8 + ex) ∧ t.nx + 1 + ex ≤ (step t op d a b ex).1.nx ∧ (step t op d a b ex).1.nx ≤ (step t op d a b ex).1.dn ∧ t.dn ≤ (step t op d a b ex).1.dn ∧ t.nx ≤ (step t op d a b ex).2 ∧ (step t op d a b ex).1.nx = (step t op d a b ex).2 + 1 + ex := by
  have lb := lat_bd op
  obtain ⟨a1, a2⟩ := att_bd (op := op) (d := d) (a := a) (b := b) ok (show 1 ≤ lat op + ex by omega)
  have n0 := ok.nx0
  have v0 := ok.dv0
  have vk := ok.dvK
  have d0 := ok.dn0
  have dk := ok.dnK
  unfold step
  dsimp only
  generalize hat : att t op d a b (lat op + ex) = at' at a1 a2 ⊢
  have hf : ∀ w ∈ t.ws.filter (fun w => decide (at' + 1 + ex ≤ w)), at' + 1 + ex ≤ w ∧ w ≤ K := by
    intro w hw
    obtain ⟨w1, w2⟩ := List.mem_filter.1 hw
    exact ⟨by simpa using w2, (ok.ws0 w w1).2⟩
  have hs : (t.ws.filter (fun w => decide (at' + 1 + ex ≤ w))).Pairwise (· < ·) := ok.srt.sublist List.filter_sublist
  refine ⟨⟨?_, by dsimp only; omega, by dsimp only; omega, by dsimp only; split <;> omega, by dsimp only; split <;> omega, by dsimp only; omega, by dsimp only; omega, ?_, ?_, ?_⟩, by omega, by omega, by omega, by omega, by omega⟩
  · dsimp only; split
    · exact ok.len
    · rw [List.length_set]; exact ok.len
  · dsimp only
    intro r hr
    split at hr
    · have := ok.rg0 r hr; omega
    · rcases List.mem_or_eq_of_mem_set hr with h | h
      · have := ok.rg0 r h; omega
      · omega
  · dsimp only
    intro w hw
    split at hw
    · have := hf w hw; omega
    · rcases insL_mem hw with h | h
      · omega
      · have := hf w h; omega
  · dsimp only
    split
    · exact hs
    · rename_i hw
      refine insL_srt hs fun hm => ?_
      have := att_free (t := t) (a := a) (b := b) (lt := lat op + ex) hw
      rw [hat] at this
      exact this (List.mem_filter.1 hm).1

end Go.Proofs.Ytepkdcgokedkdaa.H

/- timing: Issue. -/
set_option linter.unusedVariables false
set_option linter.unusedSimpArgs false
namespace Go.Proofs.Ytepkdcgokedkdaa.H
open Go Go.Proofs.Ytepkdcgokedkdaa.Abs Go.Proofs

theorem tc_set0 (t : TS) (s : SA) (n : Nat) (x : Int) : (tc t s n).set 0 (.int .i64 x) = tc { t with nx := x } s n := rfl
theorem tc_set1 (t : TS) (s : SA) (n : Nat) (x : Int) : (tc t s n).set 1 (.int .i64 x) = tc { t with dv := x } s n := rfl
theorem tc_set2 (t : TS) (s : SA) (n : Nat) (x : Int) : (tc t s n).set 2 (.int .i64 x) = tc { t with dn := x } s n := rfl
theorem tc_setr {t : TS} (h : t.rg.length = 16) (s : SA) (n : Nat) (r : Nat) (hr : r < 16) (x : Int) : (tc t s n).set (3 + r * 1) (.int .i64 x) = tc { t with rg := t.rg.set r x } s n := by
  unfold tc
  rw [List.set_append_left _ _ (by simp; omega), List.set_append_right _ _ (by simp)]
  simp only [List.length_cons, List.length_nil, Nat.mul_one, List.map_set]
  congr 3
  omega
theorem tc_set19 {t : TS} (h : t.rg.length = 16) (s s' : SA) (n n' : Nat) : (tc t s n).set 19 (.sl s' n') = tc t s' n' := by
  unfold tc
  rw [List.set_append_right _ _ (by simp [h])]
  simp [h]

theorem splice_all : ∀ (a b : List AV), a.length = b.length → splice 0 a b = a
  | [], [], _ => rfl
  | x :: a, y :: b, h => by
    have := splice_all a b (by simpa using h)
    simp [splice, this]
  | [], y :: b, h => by simp at h
  | x :: a, [], h => by simp at h

theorem flat_tc (t : TS) (s : SA) (n : Nat) : flatL (tc t s n) = true := by
  unfold tc
  have key : ∀ (l : List Int) (r : List AV), flatL r = true → flatL (l.map (AV.int .i64) ++ r) = true := by
    intro l r hr
    induction l with
    | nil => exact hr
    | cons x l ih => simpa [flatL, flatA] using ih
  have := key t.rg [.sl s n] rfl
  simpa [flatL, flatA] using this

theorem filt_loop {h1 : Heap} {s67 : SA} {n67 : Nat} {ws : List Int} (H : VS intC 1 h1 s67 n67 ws) (hn : n67 ≤ 16384) (t : TS) (s : SA) (n : Nat) (op d a b nn i12 i13 : Int) : ∀ (k j : Nat), j + k = n67 →
    ∀ (h : Heap) (s14 : SA) (n14 : Nat), Old h1 h → GS h s14 n14 1 (((ws.take j).filter fun w => decide (t.nx ≤ w)).map (.int .i64)) → n14 ≤ j → (∀ q, inS s14 q → h1.length ≤ q) →
    ∃ h' s14' n14', L30x31 mk0 E (tc t s n) op d a b nn 0 0 0 0 0 0 0 0 0 0 0 0 0 0 0 0 0 0 0 .nil 0 i12 i13 s14 n14 s67 n67 ((n67 : Nat) : Int) ((j : Nat) : Int) h (Q30x31 mk0 E) = Q30x31 mk0 E (.exit 0) (S30xe0 (tc t s n) op d a b nn 0 0 0 0 0 0 0 0 0 0 0 0 0 0 0 0 0 0 0 .nil 0 i12 i13 s14' n14' h') ∧
      Old h1 h' ∧ GS h' s14' n14' 1 ((ws.filter fun w => decide (t.nx ≤ w)).map (.int .i64)) ∧ n14' ≤ n67 ∧ (∀ q, inS s14' q → h1.length ≤ q) := by
  intro k
  have hl := H.1
  induction k with
  | zero =>
    intro j hj h s14 n14 ho hg hle hi
    refine ⟨h, s14, n14, by rw [L30x31xeq, letK_eq, if_neg (by simp; omega)], ho, ?_, by omega, hi⟩
    rw [List.take_of_length_le (by omega)] at hg
    exact hg
  | succ k ih =>
    intro j hj h s14 n14 ho hg hle hi
    obtain ⟨x, hx⟩ : ∃ x, ws[j]? = some x := ⟨ws[j]'(by omega), List.getElem?_eq_getElem (by omega)⟩
    obtain ⟨ad, ha, la⟩ := vs_ld1 (g := AV.int .i64) (vs_old H ho) (fun _ => rfl) j _ hx
    have wj : IntKind.wrap .i64 ((j : Int) + 1) = ((j + 1 : Nat) : Int) := by rw [wrap64 (by omega) (by omega)]; omega
    have ht : (ws.take (j + 1)).filter (fun w => decide (t.nx ≤ w)) = (ws.take j).filter (fun w => decide (t.nx ≤ w)) ++ (if t.nx ≤ x then [x] else []) := by
      rw [List.take_add_one, hx, List.filter_append]
      congr 1
      by_cases h : t.nx ≤ x <;> simp [h]
    rw [L30x31xeq, letK_eq, if_pos (by simp; omega), chk_of (by intro _; omega), ha, atP_of, Int.toNat_natCast, la, gI_of, tc_nx, gI_of, letK_eq]
    by_cases hge : t.nx ≤ x
    · rw [if_pos (by simpa using hge), newK_eq, show ldSl (h ++ [Blk.cells [AV.int .i64 x] (.grow 1) 0]) (.pos ⟨h.length, 0, 0⟩) (1 * 1) = some [.int .i64 x] from ldSl_at (last_get _ _) rfl rfl, Option.bind_some]
      obtain ⟨tt, h4, e5, w5, le5, kp5, nw5⟩ := apnd_GS (m := 1) (bytes := 8) (ys := [AV.int .i64 x]) (gs_app (l := [Blk.cells [AV.int .i64 x] (.grow 1) 0]) hg) (by omega) (by omega) rfl rfl (by have := flat_ints ((ws.take j).filter (fun w => decide (t.nx ≤ w)) ++ [x]); simpa using this) (by omega)
      rw [e5, Option.bind_some, gL_of, J30x41xeq, letK_eq, wj]
      dsimp only
      refine ih (j + 1) (by omega) h4 tt (n14 + 1) ?_ ?_ (by omega) ?_
      · intro q y hq
        have hb := (List.getElem?_eq_some_iff.1 hq).1
        exact kp5 _ _ (app_old (ho _ _ hq)) fun hh => by have := hi q hh; omega
      · rw [ht, if_pos hge, List.map_append]
        exact w5
      · intro q hq
        have := ho.le
        rcases nw5 q hq with h | h
        · exact hi q h
        · rw [List.length_append] at h; omega
    · rw [if_neg (by simpa using hge), J30x41xeq, letK_eq, wj]
      refine ih (j + 1) (by omega) h s14 n14 ho ?_ (by omega) hi
      rw [ht, if_neg hge, List.append_nil]
      exact hg

theorem fin_issue {t : TS} (hr : t.rg.length = 16) (s s14 : SA) (n n14 : Nat) (i12 : Int) (h : Heap) : J30x51 mk0 E (tc t s n) 0 0 0 0 0 0 0 0 0 0 0 0 0 0 0 0 0 0 0 .nil 0 i12 s14 n14 h = some (.tup [.agg (tc t s14 n14), .int .i64 i12, .int .i64 0], h) := by
  have l20 := tc_len (s := s14) (n := n14) hr
  rw [J30x51xeq, chk_of (by rw [tc_len hr]; exact ⟨rfl, by omega⟩), letK_eq, tc_set19 hr, chk_of (by rw [l20]; intro _; omega), tc_all hr, chk_of ⟨l20, flat_tc _ _ _, by omega⟩, letK_eq, splice_all _ _ (by rw [l20]; rfl), chk_of (by rw [l20]; intro _; omega), tc_all hr]

theorem issue_ok {h : Heap} {t : TS} {s : SA} {n : Nat} {K op d a b nn ex : Int} (ok : TOk t K) (H : TR h t s n) (hn : n ≤ 10000) (hK : K < 10000000) (hc : chkV op d a b nn = 0) (h0 : 0 ≤ ex) (h1 : ex ≤ 10000) :
    ∃ h' s' n', E 30 [.agg (tc t s n), .agg [.int .i64 op, .int .i64 d, .int .i64 a, .int .i64 b, .int .i64 nn], .int .i64 ex] h = some (.tup [.agg (tc (step t op d a b ex).1 s' n'), .int .i64 (step t op d a b ex).2, .int .i64 0], h') ∧
      Old h h' ∧ TR h' (step t op d a b ex).1 s' n' ∧ n' ≤ n + 1 ∧ (∀ q, inS s' q → h.length ≤ q ∧ q < h'.length) := by
  obtain ⟨o0, o1, d0, d1, a0, a1, b0, b1, -, -⟩ := chk_bd hc
  have lb := lat_bd op
  obtain ⟨h2, r1, r2⟩ := start_ok (nn := nn) (op := op) (lt := lat op + ex) ok H (by omega) (by omega) (by omega) (by omega) d0 d1 a0 a1 b0 b1
  obtain ⟨at0, at1⟩ := att_bd (op := op) (d := d) (a := a) (b := b) ok (show 1 ≤ lat op + ex by omega)
  have n0 := ok.nx0
  have v0 := ok.dv0
  have vk := ok.dvK
  have dn0 := ok.dn0
  have dnk := ok.dnK
  obtain ⟨sk, -⟩ := step_ok (op := op) (d := d) (a := a) (b := b) ok h0
  rw [e30, chk_of (by rw [tc_len ok.len]; intro _; omega), tc_all ok.len, tcheck_ok ok H (by omega) (by omega), Option.bind_some, gI_of, letK_eq, if_neg (by simp), check_ok, Option.bind_some, hc, gI_of, letK_eq, if_neg (by simp), letK_eq, letK_eq, letK_eq]
  rw [if_neg (by simp; omega), lat_ok, Option.bind_some, gI_of, letK_eq, wrap64 (by omega) (by omega), chk_of (by rw [tc_len ok.len]; intro _; omega), r1, Option.bind_some, gI_of]
  unfold step at sk ⊢
  dsimp only at sk ⊢
  generalize hat : att t op d a b (lat op + ex) = at' at at0 at1 sk ⊢
  rw [letK_eq, wrap64 (by omega) (by omega), letK_eq, wrap64 (by omega) (by omega), letK_eq, wrap64 (by omega) (by omega), chk_of (by rw [tc_len ok.len]; exact ⟨rfl, by omega⟩), letK_eq, tc_set0, tc_dn, gI_of, letK_eq, mm_max, chk_of (by rw [tc_len (t := { t with nx := at' + 1 + ex }) ok.len]; exact ⟨rfl, by omega⟩), letK_eq, tc_set2, divs_ok, Option.bind_some, gB_of]
  generalize he : at' + (lat op + ex) = e at sk ⊢
  generalize hx : at' + 1 + ex = nx at sk ⊢
  have core : ∀ t2 : TS, t2.rg = t.rg → t2.ws = t.ws → t2.nx = nx → (⟨nx, if divs op = true then e else t.dv, max t.dn e, t.rg, t.ws⟩ : TS) = t2 →
      ∃ h' s' n', J30x26 mk0 E (tc t2 s n) op d a b nn 0 0 0 0 0 0 0 0 0 0 0 0 0 0 0 0 0 0 0 .nil 0 at' e h2 = some (.tup [.agg (tc ⟨nx, if divs op = true then e else t.dv, max t.dn e, if wr op d = 0 then t.rg else t.rg.set (wr op d).toNat e, if wr op d = 0 then t.ws.filter (fun w => decide (nx ≤ w)) else insL (t.ws.filter fun w => decide (nx ≤ w)) (cutN (t.ws.filter fun w => decide (nx ≤ w)) e) e⟩ s' n'), .int .i64 at', .int .i64 0], h') ∧
        Old h h' ∧ TR h' ⟨nx, if divs op = true then e else t.dv, max t.dn e, if wr op d = 0 then t.rg else t.rg.set (wr op d).toNat e, if wr op d = 0 then t.ws.filter (fun w => decide (nx ≤ w)) else insL (t.ws.filter fun w => decide (nx ≤ w)) (cutN (t.ws.filter fun w => decide (nx ≤ w)) e) e⟩ s' n' ∧ n' ≤ n + 1 ∧ (∀ q, inS s' q → h.length ≤ q ∧ q < h'.length) := by
    intro t2 q1 q2 q3 q4
    have hr : t2.rg.length = 16 := by rw [q1]; exact ok.len
    obtain ⟨h3, s14, n14, f1, f2, f3, f4, f5⟩ := filt_loop (vs_old H r2) (by omega) t2 s n op d a b nn at' e n 0 (by omega) h2 .nil 0 (Old.refl _) ⟨rfl, rfl, .inl ⟨rfl, rfl⟩⟩ (by omega) (by rintro q ⟨a, ha, _⟩; cases ha)
    rw [show (((0 : Nat) : Int)) = 0 from rfl] at f1
    rw [q3] at f3
    rw [J30x26xeq, tc_ws hr, gL_of, f1, X30x31xe0, writes_ok, Option.bind_some, gI_of, letK_eq]
    have vsf : ∀ (hh : Heap) (ss : SA) (m : Nat) (l : List Int), GS hh ss m 1 (l.map (.int .i64)) → VS intC 1 hh ss m l := by
      intro hh ss m l g
      have e1 : (l.map (AV.int .i64)) = l.flatMap intC := (rows_one _ _).symm
      have h1 := g.1
      rw [List.length_map] at h1
      rw [e1] at g
      exact vs_GS (f := intC) (es := 1) (fun _ => rfl) (by omega) g
    have o3 := r2.trans f2
    by_cases hw : wr op d = 0
    · rw [if_neg (by simp [hw]), fin_issue hr]
      refine ⟨h3, s14, n14, ?_, o3, ?_, by omega, fun q hq => by have := f5 q hq; have := r2.le; have := gs_lt f3 hq; omega⟩
      · rw [if_pos hw, if_pos hw, ← q4]
        rfl
      · unfold TR
        dsimp only
        rw [if_pos hw]
        exact vsf _ _ _ _ f3
    · have wb : 0 ≤ wr op d ∧ wr op d ≤ 15 := by
        unfold wr
        split
        · omega
        · split <;> omega
      have hg := f3.1
      rw [List.length_map, Nat.mul_one] at hg
      have srt : (t.ws.filter (fun w => decide (nx ≤ w))).Pairwise (· < ·) := ok.srt.sublist List.filter_sublist
      have hcut : cutN (t.ws.filter (fun w => decide (nx ≤ w))) e ≤ n14 := by rw [← hg]; exact List.length_filter_le _ _
      obtain ⟨bb, sr⟩ := search_ok (vsf _ _ _ _ f3) (by omega) srt e
      obtain ⟨s', h5, i1, i2, i3, i4, i5⟩ := insert_ok (q := h3.length) (x := e) (gs_app (l := [Blk.cells [AV.int .i64 e] (.grow 1) 0]) f3) hcut (last_get _ _) (fun hh => by have := gs_lt f3 hh; omega) (by omega)
      rw [if_pos (by simp [hw]), chk_of (by intro _; omega), chk_of (by rw [tc_len hr]; exact ⟨rfl, by omega⟩), letK_eq, tc_setr hr s n _ (by omega), tc_nx, gI_of, letK_eq]
      rw [if_pos (by simp only [decide_eq_true_eq]; rw [q3]; omega), sr, Option.bind_some, gT2_of]
      simp only [List.getD_cons_zero, List.getD_cons_succ]
      rw [gI_of, gB_of, newK_eq, i1, Option.bind_some, gL_of, J30x50xeq, fin_issue (t := { t2 with rg := t2.rg.set (wr op d).toNat e }) (by dsimp only; rw [List.length_set]; exact hr)]
      refine ⟨h5, s', n14 + 1, ?_, ?_, ?_, by omega, fun q hq => by
        have := r2.le
        have := f2.le
        have := gs_lt i2 hq
        rcases i5 q hq with hh | hh
        · have := f5 q hh; omega
        · rw [List.length_append] at hh; omega⟩
      · rw [if_neg hw, if_neg hw, ← q4]
        rfl
      · intro q y hq
        have := (List.getElem?_eq_some_iff.1 hq).1
        have := r2.le
        exact i4 _ _ (app_old (o3 _ _ hq)) fun hh => by have := f5 q hh; omega
      · unfold TR
        dsimp only
        rw [if_neg hw]
        exact vsf _ _ _ _ i2
  by_cases hd : divs op = true
  · rw [if_pos hd, chk_of (by rw [tc_len (t := { t with nx := nx, dn := max t.dn e }) ok.len]; exact ⟨rfl, by omega⟩), letK_eq, tc_set1]
    exact core { t with nx := nx, dn := max t.dn e, dv := e } rfl rfl rfl (by rw [if_pos hd])
  · rw [if_neg hd]
    exact core { t with nx := nx, dn := max t.dn e } rfl rfl rfl (by rw [if_neg hd])

end Go.Proofs.Ytepkdcgokedkdaa.H
