/- Lists in memory, each element in so many cells. -/
import Derived.Test.YtecgpcpgklholaaLibD
import Derived.Test.YtecgpcpgklholaaKGen
import Derived.Test.YtecgpcpgklholaaINums
set_option linter.unusedVariables false
set_option linter.unusedSimpArgs false
namespace Go.Proofs.Ytecgpcpgklholaa.K
open Go Go.Proofs.Ytecgpcpgklholaa.Abs Go.Proofs

def IS (h : Heap) (s : SA) (n : Nat) (l : List Int) : Prop :=
  l.length = n ∧ (n = 0 ∨ ∃ b v o c m, s = .pos ⟨b, v, o⟩ ∧ h[b]? = some (.cells c m v) ∧ ∀ i, i < n → c[o + i]? = some (.int .i64 (l.getD i 0)))

theorem is_ld {h : Heap} {s : SA} {n : Nat} {l : List Int} (H : IS h s n l) (i : Nat) (hi : i < n) : ∃ a, adP s = some a ∧ ld1 h (Ad.add a i) = some (.int .i64 (l.getD i 0)) := by
  obtain ⟨_, H | ⟨b, v, o, c, m, rfl, hb, hc⟩⟩ := H
  · omega
  · exact ⟨_, rfl, ld1_at hb (hc i hi) rfl⟩

theorem is_app {h l' : Heap} {s : SA} {n : Nat} {l : List Int} (H : IS h s n l) : IS (h ++ l') s n l := by
  obtain ⟨hl, H | ⟨b, v, o, c, m, rfl, hb, hc⟩⟩ := H
  · exact ⟨hl, .inl H⟩
  · exact ⟨hl, .inr ⟨b, v, o, c, m, rfl, app_old hb, hc⟩⟩

theorem is_new (h : Heap) (l : List Int) : IS (h ++ [.cells (l.map (.int .i64)) (.grow 1) 0]) (.pos ⟨h.length, 0, 0⟩) l.length l := by
  refine ⟨rfl, .inr ⟨_, _, _, _, _, rfl, by rw [List.getElem?_append_right (Nat.le_refl _), Nat.sub_self]; rfl, fun i hi => ?_⟩⟩
  simp [hi]

theorem is_of_GS {h : Heap} {s : SA} {n : Nat} {l : List Int} (H : GS h s n 1 (l.map (.int .i64))) : IS h s n l := by
  obtain ⟨hl, _, ⟨rfl, rfl⟩ | ⟨b, v, rfl, hb⟩⟩ := H
  · exact ⟨by simpa using hl, .inl rfl⟩
  · rw [List.length_map, Nat.mul_one] at hl
    refine ⟨hl, .inr ⟨b, v, 0, _, _, rfl, hb, fun i hi => ?_⟩⟩
    simp [show i < l.length by omega]

theorem gs_keep {h h' : Heap} {s t : SA} {n es : Nat} {cs : List AV} (H : GS h t n es cs) (hk : ∀ b x, h[b]? = some x → ¬ inS s b → h'[b]? = some x) (hd : ∀ b, inS t b → ¬ inS s b) : GS h' t n es cs := by
  obtain ⟨hl, fc, hh⟩ := H
  refine ⟨hl, fc, ?_⟩
  rcases hh with hh | ⟨b, v, rfl, hb⟩
  · exact .inl hh
  · exact .inr ⟨b, v, rfl, hk b _ hb (hd b ⟨_, rfl, rfl⟩)⟩

theorem gs_app {h l : Heap} {t : SA} {n es : Nat} {cs : List AV} (H : GS h t n es cs) : GS (h ++ l) t n es cs := by
  obtain ⟨hl, fc, hh⟩ := H
  refine ⟨hl, fc, ?_⟩
  rcases hh with hh | ⟨b, v, rfl, hb⟩
  · exact .inl hh
  · exact .inr ⟨b, v, rfl, app_old hb⟩

theorem gs_lt {h : Heap} {t : SA} {n es : Nat} {cs : List AV} (H : GS h t n es cs) {b : Nat} (hb : inS t b) : b < h.length := by
  obtain ⟨_, _, ⟨rfl, _⟩ | ⟨b', v, rfl, h'⟩⟩ := H
  · obtain ⟨a, ha, _⟩ := hb; cases ha
  · obtain ⟨a, ha, rfl⟩ := hb
    cases ha
    exact (List.getElem?_eq_some_iff.1 h').1

theorem flat_ints (l : List Int) : flatL (l.map (AV.int .i64)) = true := by
  induction l with
  | nil => rfl
  | cons x l ih => simpa [flatL, flatA] using ih

theorem ldSl_at {h : Heap} {b v : Nat} {c : List AV} {m : Abs.Mode} {n : Nat} (hb : h[b]? = some (.cells c m v)) (hn : c.length = n) (hf : flatL c = true) : ldSl h (.pos ⟨b, v, 0⟩) n = some c := by
  cases n with
  | zero =>
    have : c = [] := List.length_eq_zero_iff.1 hn
    subst this; rfl
  | succ n =>
    have ht : (c.drop 0).take (n + 1) = c := by rw [List.drop_zero, ← hn, List.take_length]
    simp only [ldSl, ldN, hb]
    rw [if_pos ⟨trivial, by omega, by rw [ht]; exact hf⟩, ht]

/-- What stood in the heap stands there still. -/
def Old (h h' : Heap) : Prop := ∀ (b : Nat) (x : Blk), h[b]? = some x → h'[b]? = some x

theorem Old.refl (h : Heap) : Old h h := fun _ _ hx => hx
theorem Old.trans {a b c : Heap} (h1 : Old a b) (h2 : Old b c) : Old a c := fun i x hx => h2 i x (h1 i x hx)
theorem Old.app {a b : Heap} (h1 : Old a b) (l : Heap) : Old a (b ++ l) := fun i x hx => app_old (h1 i x hx)
theorem old_app (a l : Heap) : Old a (a ++ l) := (Old.refl a).app l
theorem Old.set {a b : Heap} (h1 : Old a b) {k : Nat} (hk : a.length ≤ k) (x : Blk) : Old a (b.set k x) := fun i y hy => by
  have := (List.getElem?_eq_some_iff.1 hy).1
  rw [set_other (by omega)]
  exact h1 i y hy
theorem Old.le {a b : Heap} (h : Old a b) : a.length ≤ b.length := by
  cases hl : a.length with
  | zero => omega
  | succ n =>
    have := h n (a[n]'(by omega)) (List.getElem?_eq_getElem (by omega))
    have := (List.getElem?_eq_some_iff.1 this).1
    omega

/-- A slice that reads as a list. -/
def VS {α : Type} (f : α → List AV) (es : Nat) (h : Heap) (s : SA) (n : Nat) (l : List α) : Prop :=
  l.length = n ∧ (n = 0 ∨ ∃ b v o c m, s = .pos ⟨b, v, o⟩ ∧ h[b]? = some (.cells c m v) ∧ ∀ i x, l[i]? = some x → o + i * es + es ≤ c.length ∧ (c.drop (o + i * es)).take es = f x)

theorem vs_old {α : Type} {f : α → List AV} {es n : Nat} {h h' : Heap} {s : SA} {l : List α} (H : VS f es h s n l) (hk : Old h h') : VS f es h' s n l := by
  obtain ⟨hl, H | ⟨b, v, o, c, m, rfl, hb, hc⟩⟩ := H
  · exact ⟨hl, .inl H⟩
  · exact ⟨hl, .inr ⟨b, v, o, c, m, rfl, hk _ _ hb, hc⟩⟩

theorem vs_ld {α : Type} {f : α → List AV} {es n : Nat} {h : Heap} {s : SA} {l : List α} (H : VS f es h s n l) (hf : ∀ x, flatL (f x) = true) (i : Nat) (x : α) (hi : l[i]? = some x) :
    ∃ a, adP s = some a ∧ ldN h (Ad.add a (i * es)) es = some (f x) := by
  obtain ⟨hl, H | ⟨b, v, o, c, m, rfl, hb, hc⟩⟩ := H
  · have := (List.getElem?_eq_some_iff.1 hi).1
    omega
  · refine ⟨_, rfl, ?_⟩
    obtain ⟨h1, h2⟩ := hc i x hi
    simp only [ldN, Ad.add, hb]
    rw [if_pos ⟨trivial, h1, by rw [h2]; exact hf x⟩, h2]

theorem take1 {c : List AV} {k : Nat} {x : AV} (h : (c.drop k).take 1 = [x]) : c[k]? = some x := by
  have := congrArg (fun l => l[0]?) h
  simpa using this

theorem vs_ld1 {α : Type} {g : α → AV} {n : Nat} {h : Heap} {s : SA} {l : List α} (H : VS (fun x => [g x]) 1 h s n l) (hf : ∀ x, flatA (g x) = true) (i : Nat) (x : α) (hi : l[i]? = some x) :
    ∃ a, adP s = some a ∧ ld1 h (Ad.add a (i * 1)) = some (g x) := by
  obtain ⟨hl, H | ⟨b, v, o, c, m, rfl, hb, hc⟩⟩ := H
  · have := (List.getElem?_eq_some_iff.1 hi).1
    omega
  · refine ⟨_, rfl, ?_⟩
    obtain ⟨h1, h2⟩ := hc i x hi
    exact ld1_at hb (take1 h2) (hf x)

theorem vs_take {α : Type} {f : α → List AV} {es n : Nat} {h : Heap} {s : SA} {l : List α} (H : VS f es h s n l) (k : Nat) (hk : k ≤ n) : VS f es h s k (l.take k) := by
  obtain ⟨hl, H | ⟨b, v, o, c, m, rfl, hb, hc⟩⟩ := H
  · exact ⟨by rw [List.length_take]; omega, .inl (by omega)⟩
  · refine ⟨by rw [List.length_take]; omega, .inr ⟨b, v, o, c, m, rfl, hb, fun i x hx => hc i x ?_⟩⟩
    rw [List.getElem?_take] at hx
    split at hx
    · exact hx
    · cases hx

/-- Lists of rows of one size, read at a row. -/
theorem rows_at {α : Type} {f : α → List AV} {es : Nat} (hf : ∀ x, (f x).length = es) : ∀ (l : List α) (i : Nat) (x : α), l[i]? = some x → i * es + es ≤ (l.flatMap f).length ∧ ((l.flatMap f).drop (i * es)).take es = f x := by
  intro l
  induction l with
  | nil => intro i e h; simp at h
  | cons y l ih =>
    intro i e h
    rw [List.flatMap_cons]
    have hx := hf y
    cases i with
    | zero =>
      cases h
      rw [List.length_append, hx]
      exact ⟨by omega, by rw [Nat.zero_mul, List.drop_zero]; exact List.take_left' hx⟩
    | succ i =>
      obtain ⟨h1, h2⟩ := ih i e h
      have e1 : (i + 1) * es = es + i * es := by rw [Nat.add_mul]; omega
      rw [List.length_append, hx]
      refine ⟨by omega, ?_⟩
      rw [e1, ← hx, List.drop_append, List.drop_eq_nil_of_le (by omega), List.nil_append, Nat.add_sub_cancel_left, hx, h2]

theorem rows_len {α : Type} {f : α → List AV} {es : Nat} (hf : ∀ x, (f x).length = es) (l : List α) : (l.flatMap f).length = l.length * es := by
  induction l with
  | nil => simp
  | cons y l ih => rw [List.flatMap_cons, List.length_append, ih, hf, List.length_cons, Nat.add_mul]; omega

theorem rows_flat {α : Type} {f : α → List AV} (hf : ∀ x, flatL (f x) = true) (l : List α) : flatL (l.flatMap f) = true := by
  have app : ∀ a b : List AV, flatL a = true → flatL b = true → flatL (a ++ b) = true := by
    intro a
    induction a with
    | nil => intro b _ h; exact h
    | cons x a ih =>
      intro b h1 h2
      rw [List.cons_append]
      unfold flatL at h1 ⊢
      rw [Bool.and_eq_true] at h1 ⊢
      exact ⟨h1.1, ih b h1.2 h2⟩
  induction l with
  | nil => rfl
  | cons y l ih => rw [List.flatMap_cons]; exact app _ _ (hf y) ih

theorem rows_one {α : Type} (g : α → AV) (l : List α) : l.flatMap (fun x => [g x]) = l.map g := by
  induction l with
  | nil => rfl
  | cons y l ih => rw [List.flatMap_cons, ih]; rfl

/-- A slice from the start of a block with just these rows. -/
theorem vs_blk {α : Type} {f : α → List AV} {es : Nat} (hf : ∀ x, (f x).length = es) {h : Heap} {b v : Nat} {m : Abs.Mode} {l : List α} (hb : h[b]? = some (.cells (l.flatMap f) m v)) : VS f es h (.pos ⟨b, v, 0⟩) l.length l := by
  refine ⟨rfl, .inr ⟨b, v, 0, _, m, rfl, hb, fun i x hx => ?_⟩⟩
  obtain ⟨h1, h2⟩ := rows_at hf l i x hx
  exact ⟨by omega, by rw [Nat.zero_add]; exact h2⟩

theorem vs_blk1 {α : Type} {g : α → AV} {h : Heap} {b v : Nat} {m : Abs.Mode} {l : List α} (hb : h[b]? = some (.cells (l.map g) m v)) : VS (fun x => [g x]) 1 h (.pos ⟨b, v, 0⟩) l.length l :=
  vs_blk (f := fun x => [g x]) (es := 1) (m := m) (fun _ => rfl) (by rw [rows_one]; exact hb)

theorem vs_GS {α : Type} {f : α → List AV} {es n : Nat} (hf : ∀ x, (f x).length = es) {h : Heap} {s : SA} {l : List α} (hn : l.length = n) (H : GS h s n es (l.flatMap f)) : VS f es h s n l := by
  obtain ⟨hl, _, ⟨rfl, rfl⟩ | ⟨b, v, rfl, hb⟩⟩ := H
  · exact ⟨hn, .inl rfl⟩
  · subst hn
    exact vs_blk hf hb

def intC (v : Int) : List AV := [.int .i64 v]
def boolC (b : Bool) : List AV := [.bool b]

theorem is_VS {h : Heap} {s : SA} {n : Nat} {l : List Int} (H : VS intC 1 h s n l) : IS h s n l := by
  obtain ⟨hl, H | ⟨b, v, o, c, m, rfl, hb, hc⟩⟩ := H
  · exact ⟨hl, .inl H⟩
  · refine ⟨hl, .inr ⟨b, v, o, c, m, rfl, hb, fun i hi => ?_⟩⟩
    obtain ⟨x, hx⟩ : ∃ x, l[i]? = some x := ⟨l[i]'(by omega), List.getElem?_eq_getElem (by omega)⟩
    have := (hc i x hx).2
    rw [Nat.mul_one] at this
    rw [take1 this]
    simp [hx]

theorem range_set {f : Nat → AV} {n k : Nat} (v : AV) : ((List.range n).map f).set k v = (List.range n).map (fun i => if i = k then v else f i) := by
  apply List.ext_getElem
  · simp
  · intro i h1 h2
    simp only [List.length_map, List.length_range] at h2
    simp only [List.getElem_set, List.getElem_map, List.getElem_range]
    by_cases h : k = i
    · subst h; simp
    · rw [if_neg h, if_neg (fun e => h e.symm)]

theorem range_get {α : Type} {f : Nat → α} {n i : Nat} (h : i < n) : ((List.range n).map f)[i]? = some (f i) := by
  simp [h]

theorem set_last (h : Heap) (B B' : Blk) : (h ++ [B]).set h.length B' = h ++ [B'] := by
  rw [List.set_append_right _ _ (Nat.le_refl _), Nat.sub_self]
  rfl

theorem last_get (h : Heap) (B : Blk) : (h ++ [B])[h.length]? = some B := by
  rw [List.getElem?_append_right (Nat.le_refl _), Nat.sub_self]; rfl

theorem modulo_ok (n m : Int) (h : Heap) (h1 : 0 < m) (h2 : m ≤ 1000000000) : E 27 [.int .i64 n, .int .i64 m] h = some (.int .i64 (n % m), h) := by
  rw [e27]
  have hne : ¬ m = 0 := by omega
  rw [chk_of (fun _ => hne)]
  simp only [letK_eq, decide_eq_true_eq]
  have key : n % m = if n.tmod m < 0 then n.tmod m + m else n.tmod m := by
    have e := Int.tmod_def n m
    by_cases hn : n < 0
    · have e1 : n.tmod m = -((-n) % m) := by
        have := Int.neg_tmod n m
        rw [Int.tmod_eq_emod_of_nonneg (by omega : 0 ≤ -n)] at this
        omega
      have p1 := Int.emod_nonneg (-n) hne
      have p2 := Int.emod_lt_of_pos (-n) h1
      have p3 := Int.emod_nonneg n hne
      have p4 := Int.emod_lt_of_pos n h1
      have q1 := Int.emod_add_mul_ediv n m
      have q2 := Int.emod_add_mul_ediv (-n) m
      by_cases hz : (-n) % m = 0
      · have : n % m = 0 := by
          have := Int.dvd_of_emod_eq_zero hz
          exact Int.emod_eq_zero_of_dvd ((Int.dvd_neg).1 this)
        rw [if_neg (by omega), e1, hz, this]; rfl
      · rw [if_pos (by omega), e1]
        have hs : m * (n / m) + m * (-n / m) = -(n % m) - (-n) % m := by omega
        rw [← Int.mul_add] at hs
        have hr : n / m + -n / m = -1 := by
          have a1 : -2 * m < m * (n / m + -n / m) := by omega
          have a2 : m * (n / m + -n / m) < 0 := by omega
          have a3 : -2 < n / m + -n / m := by
            apply Int.lt_of_mul_lt_mul_left (a := m) _ (by omega)
            rw [Int.mul_comm m (-2)]; exact a1
          have a4 : n / m + -n / m < 0 := by
            apply Int.lt_of_mul_lt_mul_left (a := m) _ (by omega)
            rw [Int.mul_zero]; exact a2
          omega
        rw [hr] at hs
        omega
    · have hn : 0 ≤ n := by omega
      rw [Int.tmod_eq_emod_of_nonneg hn, if_neg (by have := Int.emod_nonneg n hne; omega)]
  have p3 := Int.emod_nonneg n hne
  have p4 := Int.emod_lt_of_pos n h1
  split
  · rename_i hlt
    rw [if_pos hlt] at key
    rw [wrap64 (by omega) (by omega), key]
  · rename_i hlt
    rw [if_neg hlt] at key
    rw [key]

theorem rest_ok (n m : Int) (h : Heap) (h1 : 0 < m) (h2 : m ≤ 1000000000) : E 11 [.int .i64 n, .int .i64 m] h = some (.int .i64 (n % m), h) := by
  rw [e11, modulo_ok n m h h1 h2]
  simp


theorem gI_any {R : Type} (v : Int) (bc : Bool) (K : Int → Option R) : gI .i64 (some (AV.int .i64 v)) bc K = K v := by cases bc <;> rfl
theorem gB_any {R : Type} (v : Bool) (bc : Bool) (K : Bool → Option R) : gB (some (AV.bool v)) bc K = K v := by cases bc <;> rfl
theorem gP_none {R : Type} (K : Ad → Option R) (p : Option Ad) : ∃ a, atP p false K = K a := by
  cases p with
  | none => exact ⟨_, rfl⟩
  | some a => exact ⟨a, rfl⟩

end Go.Proofs.Ytecgpcpgklholaa.K
