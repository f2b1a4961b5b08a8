/- Lists in memory, each element in so many cells. -/
import Derived.Test.YtecgpcpgklholaaLibD
import Derived.Test.YtecgpcpgklholaaKGen
import Derived.Test.YtecgpcpgklholaaINums
set_option linter.unusedVariables false
set_option linter.unusedSimpArgs false
namespace Go.Proofs.Ytecgpcpgklholaa.K
open Go Go.Proofs.Ytecgpcpgklholaa.Abs Go.Proofs

def IS (h : Heap) (s : SA) (n : Nat) (l : List Int) : Prop :=
  l.length = n ∧ (n = 0 ∨ ∃ b v o c m, s = .pos ⟨b, v, o⟩ ∧ h[b]? = some (.cells c m v) ∧ ∀ i, i < n → c[o + i]? = some (.int .i64 (l.getD i 0)))

theorem is_ld {h : Heap} {s : SA} {n : Nat} {l : List Int} (H : IS h s n l) (i : Nat) (hi : i < n) : ∃ a, adP s = some a ∧ ld1 h (Ad.add a i) = some (.int .i64 (l.getD i 0)) := by
  obtain ⟨_, H | ⟨b, v, o, c, m, rfl, hb, hc⟩⟩ := H
  · omega
  · exact ⟨_, rfl, ld1_at hb (hc i hi) rfl⟩

theorem is_app {h l' : Heap} {s : SA} {n : Nat} {l : List Int} (H : IS h s n l) : IS (h ++ l') s n l := by
  obtain ⟨hl, H | ⟨b, v, o, c, m, rfl, hb, hc⟩⟩ := H
  · exact ⟨hl, .inl H⟩
  · exact ⟨hl, .inr ⟨b, v, o, c, m, rfl, app_old hb, hc⟩⟩

theorem is_new (h : Heap) (l : List Int) : IS (h ++ [.cells (l.map (.int .i64)) (.grow 1) 0]) (.pos ⟨h.length, 0, 0⟩) l.length l := by
  refine ⟨rfl, .inr ⟨_, _, _, _, _, rfl, by rw [List.getElem?_append_right (Nat.le_refl _), Nat.sub_self]; rfl, fun i hi => ?_⟩⟩
  simp [hi]

theorem is_of_GS {h : Heap} {s : SA} {n : Nat} {l : List Int} (H : GS h s n 1 (l.map (.int .i64))) : IS h s n l := by
  obtain ⟨hl, _, ⟨rfl, rfl⟩ | ⟨b, v, rfl, hb⟩⟩ := H
  · exact ⟨by simpa using hl, .inl rfl⟩
  · rw [List.length_map, Nat.mul_one] at hl
    refine ⟨hl, .inr ⟨b, v, 0, _, _, rfl, hb, fun i hi => ?_⟩⟩
    simp [show i < l.length by omega]

theorem gs_keep {h h' : Heap} {s t : SA} {n es : Nat} {cs : List AV} (H : GS h t n es cs) (hk : ∀ b x, h[b]? = some x → ¬ inS s b → h'[b]? = some x) (hd : ∀ b, inS t b → ¬ inS s b) : GS h' t n es cs := by
  obtain ⟨hl, fc, hh⟩ := H
  refine ⟨hl, fc, ?_⟩
  rcases hh with hh | ⟨b, v, rfl, hb⟩
  · exact .inl hh
  · exact .inr ⟨b, v, rfl, hk b _ hb (hd b ⟨_, rfl, rfl⟩)⟩

theorem gs_app {h l : Heap} {t : SA} {n es : Nat} {cs : List AV} (H : GS h t n es cs) : GS (h ++ l) t n es cs := by
  obtain ⟨hl, fc, hh⟩ := H
  refine ⟨hl, fc, ?_⟩
  rcases hh with hh | ⟨b, v, rfl, hb⟩
  · exact .inl hh
  · exact .inr ⟨b, v, rfl, app_old hb⟩

theorem gs_lt {h : Heap} {t : SA} {n es : Nat} {cs : List AV} (H : GS h t n es cs) {b : Nat} (hb : inS t b) : b < h.length := by
  obtain ⟨_, _, ⟨rfl, _⟩ | ⟨b', v, rfl, h'⟩⟩ := H
  · obtain ⟨a, ha, _⟩ := hb; cases ha
  · obtain ⟨a, ha, rfl⟩ := hb
    cases ha
    exact (List.getElem?_eq_some_iff.1 h').1

theorem flat_ints (l : List Int) : flatL (l.map (AV.int .i64)) = true := by
  induction l with
  | nil => rfl
  | cons x l ih => simpa [flatL, flatA] using ih

theorem ldSl_at {h : Heap} {b v : Nat} {c : List AV} {m : Abs.Mode} {n : Nat} (hb : h[b]? = some (.cells c m v)) (hn : c.length = n) (hf : flatL c = true) : ldSl h (.pos ⟨b, v, 0⟩) n = some c := by
  cases n with
  | zero =>
    have : c = [] := List.length_eq_zero_iff.1 hn
    subst this; rfl
  | succ n =>
    have ht : (c.drop 0).take (n + 1) = c := by rw [List.drop_zero, ← hn, List.take_length]
    simp only [ldSl, ldN, hb]
    rw [if_pos ⟨trivial, by omega, by rw [ht]; exact hf⟩, ht]

/-- What stood in the heap stands there still. -/
def Old (h h' : Heap) : Prop := ∀ (b : Nat) (x : Blk), h[b]? = some x → h'[b]? = some x

theorem Old.refl (h : Heap) : Old h h := fun _ _ hx => hx
theorem Old.trans {a b c : Heap} (h1 : Old a b) (h2 : Old b c) : Old a c := fun i x hx => h2 i x (h1 i x hx)
theorem Old.app {a b : Heap} (h1 : Old a b) (l : Heap) : Old a (b ++ l) := fun i x hx => app_old (h1 i x hx)
theorem old_app (a l : Heap) : Old a (a ++ l) := (Old.refl a).app l
theorem Old.set {a b : Heap} (h1 : Old a b) {k : Nat} (hk : a.length ≤ k) (x : Blk) : Old a (b.set k x) := fun i y hy => by
  have := (List.getElem?_eq_some_iff.1 hy).1
  rw [set_other (by omega)]
  exact h1 i y hy
theorem Old.le {a b : Heap} (h : Old a b) : a.length ≤ b.length := by
  cases hl : a.length with
  | zero => omega
  | succ n =>
    have := h n (a[n]'(by omega)) (List.getElem?_eq_getElem (by omega))
    have := (List.getElem?_eq_some_iff.1 this).1
    omega

/-- A slice that reads as a list. -/
def VS {α : Type} (f : α → List AV) (es : Nat) (h : Heap) (s : SA) (n : Nat) (l : List α) : Prop :=
  l.length = n ∧ (n = 0 ∨ ∃ b v o c m, s = .pos ⟨b, v, o⟩ ∧ h[b]? = some (.cells c m v) ∧ ∀ i x, l[i]? = some x → o + i * es + es ≤ c.length ∧ (c.drop (o + i * es)).take es = f x)

theorem vs_old {α : Type} {f : α → List AV} {es n : Nat} {h h' : Heap} {s : SA} {l : List α} (H : VS f es h s n l) (hk : Old h h') : VS f es h' s n l := by
  obtain ⟨hl, H | ⟨b, v, o, c, m, rfl, hb, hc⟩⟩ := H
  · exact ⟨hl, .inl H⟩
  · exact ⟨hl, .inr ⟨b, v, o, c, m, rfl, hk _ _ hb, hc⟩⟩

theorem vs_ld {α : Type} {f : α → List AV} {es n : Nat} {h : Heap} {s : SA} {l : List α} (H : VS f es h s n l) (hf : ∀ x, flatL (f x) = true) (i : Nat) (x : α) (hi : l[i]? = some x) :
    ∃ a, adP s = some a ∧ ldN h (Ad.add a (i * es)) es = some (f x) := by
  obtain ⟨hl, H | ⟨b, v, o, c, m, rfl, hb, hc⟩⟩ := H
  · have := (List.getElem?_eq_some_iff.1 hi).1
    omega
  · refine ⟨_, rfl, ?_⟩
    obtain ⟨h1, h2⟩ := hc i x hi
    simp only [ldN, Ad.add, hb]
    rw [if_pos ⟨trivial, h1, by rw [h2]; exact hf x⟩, h2]

theorem take1 {c : List AV} {k : Nat} {x : AV} (h : (c.drop k).take 1 = [x]) : c[k]? = some x := by
  have := congrArg (fun l => l[0]?) h
  simpa using this

theorem vs_ld1 {α : Type} {g : α → AV} {n : Nat} {h : Heap} {s : SA} {l : List α} (H : VS (fun x => [g x]) 1 h s n l) (hf : ∀ x, flatA (g x) = true) (i : Nat) (x : α) (hi : l[i]? = some x) :
    ∃ a, adP s = some a ∧ ld1 h (Ad.add a (i * 1)) = some (g x) := by
  obtain ⟨hl, H | ⟨b, v, o, c, m, rfl, hb, hc⟩⟩ := H
  · have := (List.getElem?_eq_some_iff.1 hi).1
    omega
  · refine ⟨_, rfl, ?_⟩
    obtain ⟨h1, h2⟩ := hc i x hi
    exact ld1_at hb (take1 h2) (hf x)

theorem vs_take {α : Type} {f : α → List AV} {es n : Nat} {h : Heap} {s : SA} {l : List α} (H : VS f es h s n l) (k : Nat) (hk : k ≤ n) : VS f es h s k (l.take k) := by
  obtain ⟨hl, H | ⟨b, v, o, c, m, rfl, hb, hc⟩⟩ := H
  · exact ⟨by rw [List.length_take]; omega, .inl (by omega)⟩
  · refine ⟨by rw [List.length_take]; omega, .inr ⟨b, v, o, c, m, rfl, hb, fun i x hx => hc i x ?_⟩⟩
    rw [List.getElem?_take] at hx
    split at hx
    · exact hx
    · cases hx

/-- Lists of rows of one size, read at a row. -/
theorem rows_at {α : Type} {f : α → List AV} {es : Nat} (hf : ∀ x, (f x).length = es) : ∀ (l : List α) (i : Nat) (x : α), l[i]? = some x → i * es + es ≤ (l.flatMap f).length ∧ ((l.flatMap f).drop (i * es)).take es = f x := by
  intro l
  induction l with
  | nil => intro i e h; simp at h
  | cons y l ih =>
    intro i e h
    rw [List.flatMap_cons]
    have hx := hf y
    cases i with
    | zero =>
      cases h
      rw [List.length_append, hx]
      exact ⟨by omega, by rw [Nat.zero_mul, List.drop_zero]; exact List.take_left' hx⟩
    | succ i =>
      obtain ⟨h1, h2⟩ := ih i e h
      have e1 : (i + 1) * es = es + i * es := by rw [Nat.add_mul]; omega
      rw [List.length_append, hx]
      refine ⟨by omega, ?_⟩
      rw [e1, ← hx, List.drop_append, List.drop_eq_nil_of_le (by omega), List.nil_append, Nat.add_sub_cancel_left, hx, h2]

theorem rows_len {α : Type} {f : α → List AV} {es : Nat} (hf : ∀ x, (f x).length = es) (l : List α) : (l.flatMap f).length = l.length * es := by
  induction l with
  | nil => simp
  | cons y l ih => rw [List.flatMap_cons, List.length_append, ih, hf, List.length_cons, Nat.add_mul]; omega

theorem rows_flat {α : Type} {f : α → List AV} (hf : ∀ x, flatL (f x) = true) (l : List α) : flatL (l.flatMap f) = true := by
  have app : ∀ a b : List AV, flatL a = true → flatL b = true → flatL (a ++ b) = true := by
    intro a
    induction a with
    | nil => intro b _ h; exact h
    | cons x a ih =>
      intro b h1 h2
      rw [List.cons_append]
      unfold flatL at h1 ⊢
      rw [Bool.and_eq_true] at h1 ⊢
      exact ⟨h1.1, ih b h1.2 h2⟩
  induction l with
  | nil => rfl
  | cons y l ih => rw [List.flatMap_cons]; exact app _ _ (hf y) ih

theorem rows_one {α : Type} (g : α → AV) (l : List α) : l.flatMap (fun x => [g x]) = l.map g := by
  induction l with
  | nil => rfl
  | cons y l ih => rw [List.flatMap_cons, ih]; rfl

/-- A slice from the start of a block with just these rows. -/
theorem vs_blk {α : Type} {f : α → List AV} {es : Nat} (hf : ∀ x, (f x).length = es) {h : Heap} {b v : Nat} {m : Abs.Mode} {l : List α} (hb : h[b]? = some (.cells (l.flatMap f) m v)) : VS f es h (.pos ⟨b, v, 0⟩) l.length l := by
  refine ⟨rfl, .inr ⟨b, v, 0, _, m, rfl, hb, fun i x hx => ?_⟩⟩
  obtain ⟨h1, h2⟩ := rows_at hf l i x hx
  exact ⟨by omega, by rw [Nat.zero_add]; exact h2⟩

theorem vs_blk1 {α : Type} {g : α → AV} {h : Heap} {b v : Nat} {m : Abs.Mode} {l : List α} (hb : h[b]? = some (.cells (l.map g) m v)) : VS (fun x => [g x]) 1 h (.pos ⟨b, v, 0⟩) l.length l :=
  vs_blk (f := fun x => [g x]) (es := 1) (m := m) (fun _ => rfl) (by rw [rows_one]; exact hb)

theorem vs_GS {α : Type} {f : α → List AV} {es n : Nat} (hf : ∀ x, (f x).length = es) {h : Heap} {s : SA} {l : List α} (hn : l.length = n) (H : GS h s n es (l.flatMap f)) : VS f es h s n l := by
  obtain ⟨hl, _, ⟨rfl, rfl⟩ | ⟨b, v, rfl, hb⟩⟩ := H
  · exact ⟨hn, .inl rfl⟩
  · subst hn
    exact vs_blk hf hb

def intC (v : Int) : List AV := [.int .i64 v]
def boolC (b : Bool) : List AV := [.bool b]

theorem is_VS {h : Heap} {s : SA} {n : Nat} {l : List Int} (H : VS intC 1 h s n l) : IS h s n l := by
  obtain ⟨hl, H | ⟨b, v, o, c, m, rfl, hb, hc⟩⟩ := H
  · exact ⟨hl, .inl H⟩
  · refine ⟨hl, .inr ⟨b, v, o, c, m, rfl, hb, fun i hi => ?_⟩⟩
    obtain ⟨x, hx⟩ : ∃ x, l[i]? = some x := ⟨l[i]'(by omega), List.getElem?_eq_getElem (by omega)⟩
    have := (hc i x hx).2
    rw [Nat.mul_one] at this
    rw [take1 this]
    simp [hx]

theorem range_set {f : Nat → AV} {n k : Nat} (v : AV) : ((List.range n).map f).set k v = (List.range n).map (fun i => if i = k then v else f i) := by
  apply List.ext_getElem
  · simp
  · intro i h1 h2
    simp only [List.length_map, List.length_range] at h2
    simp only [List.getElem_set, List.getElem_map, List.getElem_range]
    by_cases h : k = i
    · subst h; simp
    · rw [if_neg h, if_neg (fun e => h e.symm)]

theorem range_get {α : Type} {f : Nat → α} {n i : Nat} (h : i < n) : ((List.range n).map f)[i]? = some (f i) := by
  simp [h]

theorem set_last (h : Heap) (B B' : Blk) : (h ++ [B]).set h.length B' = h ++ [B'] := by
  rw [List.set_append_right _ _ (Nat.le_refl _), Nat.sub_self]
  rfl

theorem last_get (h : Heap) (B : Blk) : (h ++ [B])[h.length]? = some B := by
  rw [List.getElem?_append_right (Nat.le_refl _), Nat.sub_self]; rfl

theorem modulo_ok (n m : Int) (h : Heap) (h1 : 0 < m) (h2 : m ≤ 1000000000) : E 27 [.int .i64 n, .int .i64 m] h = some (.int .i64 (n % m), h) := by
  rw [e27]
  have hne : ¬ m = 0 := by omega
  rw [chk_of (fun _ => hne)]
  simp only [letK_eq, decide_eq_true_eq]
  have key : n % m = if n.tmod m < 0 then n.tmod m + m else n.tmod m := by
    have e := Int.tmod_def n m
    by_cases hn : n < 0
    · have e1 : n.tmod m = -((-n) % m) := by
        have := Int.neg_tmod n m
        rw [Int.tmod_eq_emod_of_nonneg (by omega : 0 ≤ -n)] at this
        omega
      have p1 := Int.emod_nonneg (-n) hne
      have p2 := Int.emod_lt_of_pos (-n) h1
      have p3 := Int.emod_nonneg n hne
      have p4 := Int.emod_lt_of_pos n h1
      have q1 := Int.emod_add_mul_ediv n m
      have q2 := Int.emod_add_mul_ediv (-n) m
      by_cases hz : (-n) % m = 0
      · have : n % m = 0 := by
          have := Int.dvd_of_emod_eq_zero hz
          exact Int.emod_eq_zero_of_dvd ((Int.dvd_neg).1 this)
        rw [if_neg (by omega), e1, hz, this]; rfl
      · rw [if_pos (by omega), e1]
        have hs : m * (n / m) + m * (-n / m) = -(n % m) - (-n) % m := by omega
        rw [← Int.mul_add] at hs
        have hr : n / m + -n / m = -1 := by
          have a1 : -2 * m < m * (n / m + -n / m) := by omega
          have a2 : m * (n / m + -n / m) < 0 := by omega
          have a3 : -2 < n / m + -n / m := by
            apply Int.lt_of_mul_lt_mul_left (a := m) _ (by omega)
            rw [Int.mul_comm m (-2)]; exact a1
          have a4 : n / m + -n / m < 0 := by
            apply Int.lt_of_mul_lt_mul_left (a := m) _ (by omega)
            rw [Int.mul_zero]; exact a2
          omega
        rw [hr] at hs
        omega
    · have hn : 0 ≤ n := by omega
      rw [Int.tmod_eq_emod_of_nonneg hn, if_neg (by have := Int.emod_nonneg n hne; omega)]
  have p3 := Int.emod_nonneg n hne
  have p4 := Int.emod_lt_of_pos n h1
  split
  · rename_i hlt
    rw [if_pos hlt] at key
    rw [wrap64 (by omega) (by omega), key]
  · rename_i hlt
    rw [if_neg hlt] at key
    rw [key]

theorem rest_ok (n m : Int) (h : Heap) (h1 : 0 < m) (h2 : m ≤ 1000000000) : E 11 [.int .i64 n, .int .i64 m] h = some (.int .i64 (n % m), h) := by
  rw [e11, modulo_ok n m h h1 h2]
  simp


theorem gI_any {R : Type} (v : Int) (bc : Bool) (K : Int → Option R) : gI .i64 (some (AV.int .i64 v)) bc K = K v := by cases bc <;> rfl
theorem gB_any {R : Type} (v : Bool) (bc : Bool) (K : Bool → Option R) : gB (some (AV.bool v)) bc K = K v := by cases bc <;> rfl
theorem gP_none {R : Type} (K : Ad → Option R) (p : Option Ad) : ∃ a, atP p false K = K a := by
  cases p with
  | none => exact ⟨_, rfl⟩
  | some a => exact ⟨a, rfl⟩

end Go.Proofs.Ytecgpcpgklholaa.K

/- heap: what its functions answer, for objects with words. -/
set_option linter.unusedVariables false
set_option linter.unusedSimpArgs false
namespace Go.Proofs.Ytecgpcpgklholaa.K
open Go Go.Proofs.Ytecgpcpgklholaa.Abs Go.Proofs

def inB (x lo hi : Int) : Bool := decide (lo ≤ x) && decide (x ≤ hi)

theorem in_ok (x lo hi : Int) (h : Heap) : E 26 [.int .i64 x, .int .i64 lo, .int .i64 hi] h = some (.bool (inB x lo hi), h) := by
  rw [e26]
  simp only [letK_eq, inB]
  by_cases a : lo ≤ x <;> by_cases b : x ≤ hi <;> simp [a, b]

/-- The header of an object of words. -/
def hdr (z : Int) : Int := 8193 + 2 * z

theorem header_ok (z : Int) (h : Heap) (h0 : 0 ≤ z) (h1 : z ≤ 4095) : E 28 [.int .i64 1, .int .i64 z] h = some (.int .i64 (hdr z), h) := by
  rw [e28, letK_eq, letK_eq, letK_eq, letK_eq, wrap64 (x := 1 * 4096) (by omega) (by omega), wrap64 (x := 1 * 4096 + z) (by omega) (by omega), wrap64 (x := (1 * 4096 + z) * 2) (by omega) (by omega), wrap64 (by omega) (by omega)]
  unfold hdr
  congr 3
  omega

theorem and1 (n : Int) : bits .and .i64 n 1 = n % 2 := I.and_mask n 1 (by omega)
theorem and4095 (n : Int) : bits .and .i64 n 4095 = n % 4096 := I.and_mask n 12 (by omega)

theorem split_ok (z : Int) (h : Heap) (h0 : 0 ≤ z) (h1 : z ≤ 4095) : E 31 [.int .i64 (hdr z)] h = some (.tup [.int .i64 1, .int .i64 z, .bool true], h) := by
  have a1 : Int.fdiv (hdr z) (2 ^ 1) = 4096 + z := by
    rw [Int.fdiv_eq_ediv_of_nonneg _ (by omega)]
    unfold hdr; omega
  have a2 : Int.fdiv (4096 + z) (2 ^ 12) = 1 := by
    rw [Int.fdiv_eq_ediv_of_nonneg _ (by omega)]
    omega
  rw [e31, letK_eq, a1, letK_eq, a2, letK_eq, and4095, letK_eq, and1, letK_eq]
  have b1 : hdr z % 2 = 1 := by unfold hdr; omega
  have b2 : (4096 + z) % 4096 = z := by omega
  rw [b1, b2]
  simp only [decide_true]
  rw [callO_true, in_ok, Option.bind_some, gB_of, letK_eq]
  rfl

/-- A memory. -/
structure HS where
  M : Nat
  st : Int
  nu : Int
  yo : Int
  ha : Int
  fr : Int
  ol : Int
  f : Nat → Int

def hc (S : HS) (q : Nat) : List AV := [.sl (.pos ⟨q, 0, 0⟩) S.M, .int .i64 S.st, .int .i64 S.nu, .int .i64 S.yo, .int .i64 S.ha, .int .i64 S.fr, .int .i64 S.ol, .sl .nil 0]

structure HP (h : Heap) (b q : Nat) (S : HS) : Prop where
  c : h[b]? = some (.cells (hc S q) .fix 0)
  m : h[q]? = some (.cells ((List.range S.M).map fun i => .int .i64 (S.f i)) (.grow 1) 0)
  ne : q ≠ b

structure HB (S : HS) : Prop where
  m : S.M ≤ 65536
  nu : 5 ≤ S.nu
  fr : S.fr = S.nu
  ha : 0 ≤ S.ha
  st : S.nu + 2 * S.ha ≤ S.M
  y0 : 1 ≤ S.yo
  y1 : S.yo ≤ S.nu
  o0 : S.nu ≤ S.ol
  o1 : S.ol ≤ S.nu + S.ha

def room (S : HS) (n : Int) : Bool := if S.nu - 1 < n + 1 then decide (S.ol + n + 1 ≤ S.fr + S.ha) else decide (S.yo + n + 1 ≤ S.nu)

theorem room_ok {h : Heap} {b q : Nat} {S : HS} (H : HP h b q S) (B : HB S) (n : Int) (h0 : 0 ≤ n) (h1 : n ≤ 4095) : E 13 [.ptr (some ⟨b, 0, 0⟩), .int .i64 n] h = some (.bool (room S n), h) := by
  obtain ⟨a1, a2, a3, a4, a5, a6, a7, a8, a9⟩ := B
  have r2 : ld1 h ⟨b, 0, 0 + 2⟩ = some (.int .i64 S.nu) := ld1_at H.c rfl rfl
  have r3 : ld1 h ⟨b, 0, 0 + 3⟩ = some (.int .i64 S.yo) := ld1_at H.c rfl rfl
  have r4 : ld1 h ⟨b, 0, 0 + 4⟩ = some (.int .i64 S.ha) := ld1_at H.c rfl rfl
  have r5 : ld1 h ⟨b, 0, 0 + 5⟩ = some (.int .i64 S.fr) := ld1_at H.c rfl rfl
  have r6 : ld1 h ⟨b, 0, 0 + 6⟩ = some (.int .i64 S.ol) := ld1_at H.c rfl rfl
  rw [e13, letK_eq, wrap64 (by omega) (by omega), atP_of, add_mk, r2, gI_of, letK_eq, wrap64 (by omega) (by omega), letK_eq]
  unfold room
  by_cases hc : S.nu - 1 < n + 1
  · rw [if_pos (by simpa using hc), if_pos hc, atP_of, add_mk, r6, gI_of, letK_eq, letK_eq, wrap64 (x := S.ol + n) (by omega) (by omega), wrap64 (x := S.ol + n + 1) (by omega) (by omega), atP_of, add_mk, r5, gI_of, atP_of, add_mk, r4, gI_of, letK_eq, wrap64 (by omega) (by omega), letK_eq]
  · rw [if_neg (by simpa using hc), if_neg hc, atP_of, add_mk, r3, gI_of, letK_eq, letK_eq, wrap64 (x := S.yo + n) (by omega) (by omega), wrap64 (x := S.yo + n + 1) (by omega) (by omega), atP_of, add_mk, r2, gI_of, letK_eq]

def upd (f : Nat → Int) (i : Nat) (v : Int) : Nat → Int := fun j => if j = i then v else f j

theorem young1_ok (p : Ad) (h : Heap) {b q : Nat} {S : HS} (H : HP h b q S) (hp : p = ⟨b, 0, 0⟩) : E 41 [.ptr (some p), .int .i64 1] h = some (.bool false, h) := by
  subst hp
  have r2 : ld1 h ⟨b, 0, 0 + 2⟩ = some (.int .i64 S.nu) := ld1_at H.c rfl rfl
  rw [e41, letK_eq, letK_eq, and1, letK_eq, letK_eq, chk_of (by intro _; omega), letK_eq]
  have e0 : (if decide ((0 : Int) < 1) = true then decide ((1 : Int) % 2 = 0) else false) = false := by decide
  rw [e0]
  have ga : ∀ (K : Ad → Option (AV × Heap)) (a : Ad), atP (some a) false K = K a := fun _ _ => rfl
  rw [ga, ga, ga, add_mk, r2, gI_any, letK_eq, letK_eq]
  rfl

theorem put1_ok {h : Heap} {b q i : Nat} {S : HS} (H : HP h b q S) (B : HB S) (hi : i < S.M) : ∃ h', E 29 [.ptr (some ⟨b, 0, 0⟩), .int .i64 ((i : Nat) : Int), .int .i64 1] h = some (.tup [], h') ∧ HP h' b q { S with f := upd S.f i 1 } ∧ (∀ k x, h[k]? = some x → k ≠ q → h'[k]? = some x) := by
  obtain ⟨a1, a2, a3, a4, a5, a6, a7, a8, a9⟩ := B
  have r0 : ld1 h ⟨b, 0, 0 + 0⟩ = some (.sl (.pos ⟨q, 0, 0⟩) S.M) := ld1_at H.c rfl rfl
  have hne := H.ne
  generalize hh2 : h.set q (.cells ((List.range S.M).map fun j => if j = i then .int .i64 1 else .int .i64 (S.f j)) (.grow 1) 0) = h2
  have k1 : h2[b]? = some (.cells (hc S q) .fix 0) := by rw [← hh2, set_other (by omega)]; exact H.c
  have k2 : h2[q]? = some (.cells ((List.range S.M).map fun j => .int .i64 (upd S.f i 1 j)) (.grow 1) 0) := by
    rw [← hh2, set_same H.m]
    congr 2
    apply List.map_congr_left
    intro j _
    unfold upd
    by_cases e : j = i
    · rw [if_pos e, if_pos e]
    · rw [if_neg e, if_neg e]
  have H2 : HP h2 b q { S with f := upd S.f i 1 } := ⟨k1, k2, hne⟩
  have r4 : ld1 h2 ⟨b, 0, 0 + 4⟩ = some (.int .i64 S.ha) := ld1_at k1 rfl rfl
  have r5 : ld1 h2 ⟨b, 0, 0 + 5⟩ = some (.int .i64 S.fr) := ld1_at k1 rfl rfl
  have r7 : ld1 h2 ⟨b, 0, 0 + 7⟩ = some (.sl .nil 0) := ld1_at k1 rfl rfl
  rw [e29, atP_of, add_mk, r0, gL_of, chk_of (by intro _; omega), adP_pos, atP_of, add_mk, Int.toNat_natCast, st1_at H.m (by simp) (by simp; omega), Option.bind_some, show 0 + i * 1 = i by omega, range_set, hh2, atP_of, add_mk, r5, gI_of, atP_of, add_mk, r5, gI_of, atP_of, add_mk, r4, gI_of, letK_eq, letK_eq, wrap64 (x := S.fr + S.ha) (by omega) (by omega), wrap64 (by omega) (by omega), in_ok, Option.bind_some, gB_of]
  have hy : ∀ c : Bool, callO c (E 41 [.ptr (some ⟨b, 0, 0⟩), .int .i64 1] h2) (.bool false) h2 = some (.bool false, h2) := by
    intro c
    rw [young1_ok _ h2 H2 rfl]
    cases c <;> rfl
  rw [hy, Option.bind_some, gB_any, letK_eq]
  have e0 : ∀ c : Bool, (if c = true then false else false) = false := by intro c; cases c <;> rfl
  rw [e0]
  have ga : ∀ (K : Ad → Option (AV × Heap)) (a : Ad), atP (some a) false K = K a := fun _ _ => rfl
  rw [ga, ga, ga, add_mk, r7, show ∀ (K : SA → Nat → Option (AV × Heap)), gL (some (AV.sl .nil 0)) false K = K .nil 0 from fun _ => rfl, callO_false, Option.bind_some, gB_any, letK_eq, if_neg (by simp), J29x3xeq]
  refine ⟨h2, rfl, H2, fun k x hk hn => ?_⟩
  rw [← hh2, set_other (fun e => hn e.symm)]
  exact hk

end Go.Proofs.Ytecgpcpgklholaa.K

/- heap: Alloc, Tag, Used. -/
set_option linter.unusedVariables false
set_option linter.unusedSimpArgs false
namespace Go.Proofs.Ytecgpcpgklholaa.K
open Go Go.Proofs.Ytecgpcpgklholaa.Abs Go.Proofs

/-- All but two blocks stand. -/
def But2 (b q : Nat) (h h' : Heap) : Prop := ∀ (k : Nat) (x : Blk), h[k]? = some x → k ≠ q → k ≠ b → h'[k]? = some x
theorem But2.refl (b q : Nat) (h : Heap) : But2 b q h h := fun _ _ h _ _ => h
theorem But2.trans {b q : Nat} {h1 h2 h3 : Heap} (x : But2 b q h1 h2) (y : But2 b q h2 h3) : But2 b q h1 h3 := fun k z hk a c => y k z (x k z hk a c) a c

/-- Cells from i on, filled with an object of n words, as far as k. -/
def fillTo (f : Nat → Int) (i n k : Nat) : Nat → Int := fun j => if j = i then hdr n else if i < j ∧ j < i + k then 1 else f j

theorem fill_step (f : Nat → Int) (i n k : Nat) (hk : 1 ≤ k) : upd (fillTo f i n k) (i + k) 1 = fillTo f i n (k + 1) := by
  funext j
  unfold upd fillTo
  by_cases e : j = i + k
  · rw [if_pos e, if_neg (by omega), if_pos (by omega)]
  · rw [if_neg e]
    by_cases e1 : j = i
    · rw [if_pos e1, if_pos e1]
    · rw [if_neg e1, if_neg e1]
      by_cases e2 : i < j ∧ j < i + k
      · rw [if_pos e2, if_pos (by omega)]
      · rw [if_neg e2, if_neg (by omega)]

theorem fill_loop {b q i n : Nat} {S : HS} (B : HB S) (hin : i + n < S.M) (hn : n ≤ 4000) : ∀ (j k : Nat), k + j = n + 1 → 1 ≤ k → ∀ (h : Heap), HP h b q { S with f := fillTo S.f i n k } →
    ∃ h', L14x26 mk0 E (some ⟨b, 0, 0⟩) ((n : Nat) : Int) 1 ((i : Nat) : Int) ((k : Nat) : Int) h (Q14x26 mk0 E) = some (.tup [.int .i64 (2 * (i : Int)), .int .i64 0], h') ∧ HP h' b q { S with f := fillTo S.f i n (n + 1) } ∧ But2 b q h h' := by
  have bm := B.m
  intro j
  induction j with
  | zero =>
    intro k hk h1 h H
    obtain rfl : k = n + 1 := by omega
    refine ⟨h, ?_, H, But2.refl _ _ _⟩
    rw [L14x26xeq, letK_eq, if_neg (by simp <;> omega), X14x26xe1, letK_eq, wrap64 (by omega) (by omega)]
  | succ j ih =>
    intro k hk h1 h H
    have B' : HB { S with f := fillTo S.f i n k } := ⟨B.m, B.nu, B.fr, B.ha, B.st, B.y0, B.y1, B.o0, B.o1⟩
    obtain ⟨h2, e2, H2, o2⟩ := put1_ok (i := i + k) H B' (by show i + k < S.M; omega)
    have e3 : ({ ({ S with f := fillTo S.f i n k } : HS) with f := upd (fillTo S.f i n k) (i + k) 1 } : HS) = { S with f := fillTo S.f i n (k + 1) } := by rw [fill_step S.f i n k h1]
    rw [L14x26xeq, letK_eq, if_pos (by simp <;> omega), letK_eq, wrap64 (by omega) (by omega), show ((i : Int) + (k : Int)) = ((i + k : Nat) : Int) by omega, e2, Option.bind_some, gT0_of, letK_eq, wrap64 (by omega) (by omega), show ((k : Int) + 1) = ((k + 1 : Nat) : Int) by omega]
    have H3 : HP h2 b q { S with f := fillTo S.f i n (k + 1) } := by rw [← e3]; exact H2
    obtain ⟨h', r1, r2, r3⟩ := ih (k + 1) (by omega) (by omega) h2 H3
    exact ⟨h', r1, r2, But2.trans (fun z x hz a c => o2 z x hz a) r3⟩

/-- The memory with another object. -/
def alc (S : HS) (n : Nat) : HS := if S.nu - 1 < (n : Int) + 1 then { S with ol := S.ol + n + 1, f := fillTo S.f S.ol.toNat n (n + 1) } else { S with yo := S.yo + n + 1, f := fillTo S.f S.yo.toNat n (n + 1) }
def atI (S : HS) (n : Nat) : Int := if S.nu - 1 < (n : Int) + 1 then S.ol else S.yo

theorem alc_ok {S : HS} (B : HB S) {n : Nat} (hr : room S n = true) : HB (alc S n) := by
  obtain ⟨a1, a2, a3, a4, a5, a6, a7, a8, a9⟩ := B
  unfold alc
  unfold room at hr
  by_cases h : S.nu - 1 < (n : Int) + 1
  · rw [if_pos h] at hr ⊢
    have := of_decide_eq_true hr
    refine ⟨a1, a2, a3, a4, a5, a6, a7, ?_, ?_⟩ <;> dsimp only <;> omega
  · rw [if_neg h] at hr ⊢
    have := of_decide_eq_true hr
    refine ⟨a1, a2, a3, a4, a5, ?_, ?_, a8, a9⟩ <;> dsimp only <;> omega

theorem join_alloc {h : Heap} {b q n i o : Nat} {S S1 : HS} (H : HP h b q S) (B1 : HB S1) (ho : (hc S q)[o]? = some (.int .i64 ((i : Nat) : Int))) (hS : (hc S q).set o (.int .i64 ((i : Int) + ((n : Int) + 1))) = hc S1 q) (hf : S1.f = S.f) (hM : S1.M = S.M) (ho8 : o < 8) (hin : i + n < S.M) (hn : n ≤ 4000) (hbm : S.M ≤ 65536) :
    ∃ h', J14x19 mk0 E (some ⟨b, 0, 0⟩) 1 ((n : Nat) : Int) 1 (some (Ad.add ⟨b, 0, 0⟩ o)) h = some (.tup [.int .i64 (2 * (i : Int)), .int .i64 0], h') ∧ HP h' b q { S1 with f := fillTo S.f i n (n + 1) } ∧ But2 b q h h' := by
  have r1 : ld1 h ⟨b, 0, 0 + o⟩ = some (.int .i64 ((i : Nat) : Int)) := ld1_at H.c (by rw [Nat.zero_add]; exact ho) rfl
  have hne := H.ne
  generalize hh2 : h.set b (.cells (hc S1 q) .fix 0) = h2
  have k1 : h2[b]? = some (.cells (hc S1 q) .fix 0) := by rw [← hh2]; exact set_same H.c
  have k2 : h2[q]? = some (.cells ((List.range S.M).map fun j => .int .i64 (S.f j)) (.grow 1) 0) := by rw [← hh2, set_other (fun e => hne e.symm)]; exact H.m
  have r0 : ld1 h2 ⟨b, 0, 0 + 0⟩ = some (.sl (.pos ⟨q, 0, 0⟩) S1.M) := ld1_at k1 rfl rfl
  rw [J14x19xeq, atP_of, add_mk, r1, gI_of, atP_of, r1, gI_of, letK_eq, wrap64 (x := (n : Int) + 1) (by omega) (by omega), letK_eq, wrap64 (by omega) (by omega), atP_of, st1_at H.c (by simp) (by rw [Nat.zero_add]; exact ho8), Option.bind_some, Nat.zero_add, hS, hh2, atP_of, add_mk, r0, gL_of, header_ok _ _ (by omega) (by omega), Option.bind_some, gI_of, chkC_of (by intro _; rfl), chk_of (by rw [hM]; intro _; omega), adP_pos, atP_of, add_mk, Int.toNat_natCast]
  dsimp only
  rw [st1_at k2 (by simp) (by simp; omega), Option.bind_some, show 0 + i * 1 = i by omega, range_set]
  have H3 : HP (h2.set q (.cells ((List.range S.M).map fun j => if j = i then AV.int .i64 (hdr (n : Int)) else .int .i64 (S.f j)) (.grow 1) 0)) b q { S1 with f := fillTo S1.f i n 1 } := by
    refine ⟨by rw [set_other (by omega)]; exact k1, ?_, hne⟩
    rw [set_same k2]
    show _ = some (Blk.cells ((List.range S1.M).map fun j => .int .i64 (fillTo S1.f i n 1 j)) (.grow 1) 0)
    rw [hM, hf]
    congr 2
    apply List.map_congr_left
    intro j _
    unfold fillTo
    by_cases e : j = i
    · rw [if_pos e, if_pos e]
    · rw [if_neg e, if_neg e, if_neg (by omega)]
  obtain ⟨h', e1, e2, e3⟩ := fill_loop (b := b) (q := q) (i := i) (n := n) B1 (by rw [hM]; exact hin) hn n 1 (by omega) (by omega) _ H3
  rw [show (((1 : Nat) : Int)) = 1 from rfl] at e1
  refine ⟨h', e1, by rw [← hf]; exact e2, fun k x hk a c => e3 k x ?_ a c⟩
  rw [set_other (fun e => a e.symm), ← hh2, set_other (fun e => c e.symm)]
  exact hk

theorem alloc_full {h : Heap} {b q n : Nat} {S : HS} (H : HP h b q S) (B : HB S) (hn : n ≤ 4000) (hr : room S n = false) : E 14 [.ptr (some ⟨b, 0, 0⟩), .int .i64 1, .int .i64 ((n : Nat) : Int), .int .i64 1] h = some (.tup [.int .i64 0, .int .i64 16], h) := by
  have i1 : inB 1 0 258 = true := by decide
  have i2 : inB ((n : Nat) : Int) 0 4095 = true := by simp [inB]; omega
  have i3 : inB 1 (-2147483648) 2147483647 = true := by decide
  rw [e14, in_ok, i1, Option.bind_some, gB_of]
  simp only [Bool.not_true, Bool.not_false]
  rw [callO_true, in_ok, i2, Option.bind_some, gB_of, letK_eq, if_neg (by simp), in_ok, i3, Option.bind_some, gB_of, if_neg (by simp), room_ok H B _ (by omega) (by omega), hr, Option.bind_some, gB_of, if_pos (by simp)]

theorem alloc_ok {h : Heap} {b q n : Nat} {S : HS} (H : HP h b q S) (B : HB S) (hn : n ≤ 4000) (hr : room S n = true) : ∃ h', E 14 [.ptr (some ⟨b, 0, 0⟩), .int .i64 1, .int .i64 ((n : Nat) : Int), .int .i64 1] h = some (.tup [.int .i64 (2 * atI S n), .int .i64 0], h') ∧ HP h' b q (alc S n) ∧ But2 b q h h' := by
  have i1 : inB 1 0 258 = true := by decide
  have i2 : inB ((n : Nat) : Int) 0 4095 = true := by simp [inB]; omega
  have i3 : inB 1 (-2147483648) 2147483647 = true := by decide
  have Ba := alc_ok B hr
  have hr0 := hr
  obtain ⟨a1, a2, a3, a4, a5, a6, a7, a8, a9⟩ := B
  have B := (⟨a1, a2, a3, a4, a5, a6, a7, a8, a9⟩ : HB S)
  have r2 : ld1 h ⟨b, 0, 0 + 2⟩ = some (.int .i64 S.nu) := ld1_at H.c rfl rfl
  rw [e14, in_ok, i1, Option.bind_some, gB_of]
  simp only [Bool.not_true, Bool.not_false]
  rw [callO_true, in_ok, i2, Option.bind_some, gB_of, letK_eq, if_neg (by simp), in_ok, i3, Option.bind_some, gB_of, if_neg (by simp), room_ok H B _ (by omega) (by omega), hr0, Option.bind_some, gB_of, if_neg (by simp), atP_of, letK_eq, wrap64 (x := ((n : Nat) : Int) + 1) (by omega) (by omega), atP_of, add_mk, r2, gI_of, letK_eq, wrap64 (by omega) (by omega), letK_eq]
  unfold room at hr
  by_cases hcx : S.nu - 1 < (n : Int) + 1
  · rw [if_pos hcx] at hr
    have hr := of_decide_eq_true hr
    obtain ⟨i, hi⟩ := Int.eq_ofNat_of_zero_le (show 0 ≤ S.ol by omega)
    obtain ⟨h', e1, e2, e3⟩ := join_alloc (n := n) (i := i) (o := 6) (S1 := { S with ol := S.ol + n + 1 }) H (by
      unfold alc at Ba
      rw [if_pos hcx] at Ba
      exact ⟨Ba.m, Ba.nu, Ba.fr, Ba.ha, Ba.st, Ba.y0, Ba.y1, Ba.o0, Ba.o1⟩) (by rw [← hi]; rfl) (by
        rw [← hi]
        show hc { S with ol := S.ol + ((n : Int) + 1) } q = _
        rw [← Int.add_assoc]) rfl rfl (by omega) (by omega) hn a1
    rw [if_pos (by simpa using hcx), atP_of]
    refine ⟨h', ?_, ?_, e3⟩
    · rw [e1]; unfold atI; rw [if_pos hcx, hi]
    · unfold alc; rw [if_pos hcx, hi, Int.toNat_natCast]; rw [hi] at e2; exact e2
  · rw [if_neg hcx] at hr
    have hr := of_decide_eq_true hr
    obtain ⟨i, hi⟩ := Int.eq_ofNat_of_zero_le (show 0 ≤ S.yo by omega)
    obtain ⟨h', e1, e2, e3⟩ := join_alloc (n := n) (i := i) (o := 3) (S1 := { S with yo := S.yo + n + 1 }) H (by
      unfold alc at Ba
      rw [if_neg hcx] at Ba
      exact ⟨Ba.m, Ba.nu, Ba.fr, Ba.ha, Ba.st, Ba.y0, Ba.y1, Ba.o0, Ba.o1⟩) (by rw [← hi]; rfl) (by
        rw [← hi]
        show hc { S with yo := S.yo + ((n : Int) + 1) } q = _
        rw [← Int.add_assoc]) rfl rfl (by omega) (by omega) hn a1
    rw [if_neg (by simpa using hcx)]
    refine ⟨h', ?_, ?_, e3⟩
    · rw [e1]; unfold atI; rw [if_neg hcx, hi]
    · unfold alc; rw [if_neg hcx, hi, Int.toNat_natCast]; rw [hi] at e2; exact e2

theorem used_ok {h : Heap} {b q : Nat} {S : HS} (H : HP h b q S) (B : HB S) : E 16 [.ptr (some ⟨b, 0, 0⟩)] h = some (.tup [.int .i64 (S.yo - 1), .int .i64 (S.ol - S.fr)], h) := by
  obtain ⟨a1, a2, a3, a4, a5, a6, a7, a8, a9⟩ := B
  have r3 : ld1 h ⟨b, 0, 0 + 3⟩ = some (.int .i64 S.yo) := ld1_at H.c rfl rfl
  have r5 : ld1 h ⟨b, 0, 0 + 5⟩ = some (.int .i64 S.fr) := ld1_at H.c rfl rfl
  have r6 : ld1 h ⟨b, 0, 0 + 6⟩ = some (.int .i64 S.ol) := ld1_at H.c rfl rfl
  rw [e16, atP_of, add_mk, r3, gI_of, letK_eq, wrap64 (by omega) (by omega), atP_of, add_mk, r6, gI_of, atP_of, add_mk, r5, gI_of, letK_eq, wrap64 (by omega) (by omega)]

theorem mem_ld {h : Heap} {b q : Nat} {S : HS} (H : HP h b q S) (i : Nat) (hi : i < S.M) : ld1 h ⟨q, 0, 0 + i * 1⟩ = some (.int .i64 (S.f i)) := ld1_at H.m (by rw [Nat.zero_add, Nat.mul_one, range_get hi]) rfl

/-- The tag of an object that was just made. -/
theorem tag_ok {h : Heap} {b q n : Nat} {S : HS} (H : HP h b q (alc S n)) (B : HB S) (hr : room S n = true) (hn : n ≤ 4000) : E 15 [.ptr (some ⟨b, 0, 0⟩), .int .i64 (2 * atI S n)] h = some (.tup [.int .i64 1, .int .i64 n, .int .i64 0], h) := by
  obtain ⟨a1, a2, a3, a4, a5, a6, a7, a8, a9⟩ := B
  have r0 : ld1 h ⟨b, 0, 0 + 0⟩ = some (.sl (.pos ⟨q, 0, 0⟩) (alc S n).M) := ld1_at H.c rfl rfl
  have r2 : ld1 h ⟨b, 0, 0 + 2⟩ = some (.int .i64 (alc S n).nu) := ld1_at H.c rfl rfl
  have r3 : ld1 h ⟨b, 0, 0 + 3⟩ = some (.int .i64 (alc S n).yo) := ld1_at H.c rfl rfl
  have r5 : ld1 h ⟨b, 0, 0 + 5⟩ = some (.int .i64 (alc S n).fr) := ld1_at H.c rfl rfl
  have r6 : ld1 h ⟨b, 0, 0 + 6⟩ = some (.int .i64 (alc S n).ol) := ld1_at H.c rfl rfl
  obtain ⟨i, hi, hi0, hiM, hf, hend⟩ : ∃ i : Nat, atI S n = i ∧ 0 < i ∧ i + n < (alc S n).M ∧ (alc S n).f i = hdr n ∧ ((S.nu ≤ (i : Int) ∧ (alc S n).nu = S.nu ∧ (alc S n).fr = S.nu ∧ (i : Int) + n < (alc S n).ol) ∨ ((i : Int) < S.nu ∧ (alc S n).nu = S.nu ∧ (i : Int) + n < (alc S n).yo)) := by
    unfold room at hr
    unfold atI alc
    by_cases hc : S.nu - 1 < (n : Int) + 1
    · rw [if_pos hc] at hr ⊢
      have hr := of_decide_eq_true hr
      obtain ⟨i, hi⟩ := Int.eq_ofNat_of_zero_le (show 0 ≤ S.ol by omega)
      rw [if_pos hc]
      refine ⟨i, hi, by omega, by dsimp only; omega, ?_, .inl ⟨by omega, rfl, a3, by dsimp only; omega⟩⟩
      dsimp only
      rw [hi, Int.toNat_natCast]
      unfold fillTo
      rw [if_pos rfl]
    · rw [if_neg hc] at hr ⊢
      have hr := of_decide_eq_true hr
      obtain ⟨i, hi⟩ := Int.eq_ofNat_of_zero_le (show 0 ≤ S.yo by omega)
      rw [if_neg hc]
      refine ⟨i, hi, by omega, by dsimp only; omega, ?_, .inr ⟨by omega, rfl, by dsimp only; omega⟩⟩
      dsimp only
      rw [hi, Int.toNat_natCast]
      unfold fillTo
      rw [if_pos rfl]
  have hm := mem_ld H i (by omega)
  rw [hf] at hm
  have td : Int.tdiv (2 * (i : Int)) 2 = (i : Int) := by
    rw [Int.tdiv_eq_ediv_of_nonneg (by omega)]; omega
  have hmod : (2 * (i : Int)) % 2 = 0 := by omega
  have hMb : (alc S n).M = S.M := by unfold alc; split <;> rfl
  have join : ∀ e : Int, (i : Int) + n < e → J30x15 mk0 E (some ⟨b, 0, 0⟩) ((i : Nat) : Int) e h = some (.int .i64 ((n : Nat) : Int), h) := by
    intro e he
    rw [J30x15xeq, letK_eq, if_neg (by simp <;> omega), atP_of, add_mk, r0, gL_of, chk_of (by intro _; omega), adP_pos, atP_of, add_mk, Int.toNat_natCast, hm, gI_of, split_ok _ _ (by omega) (by omega), Option.bind_some, gT3_of]
    simp only [List.getD_cons_zero, List.getD_cons_succ]
    rw [gI_of, gI_of, gB_of, letK_eq, wrap64 (by omega) (by omega), letK_eq, letK_eq, if_neg (by simp <;> omega)]
  have obj : E 30 [.ptr (some ⟨b, 0, 0⟩), .int .i64 (2 * (i : Int))] h = some (.int .i64 ((n : Nat) : Int), h) := by
    rw [e30, letK_eq, letK_eq, and1, hmod, letK_eq, letK_eq, if_neg (by simp <;> omega), letK_eq, td, wrap64 (by omega) (by omega), atP_of, add_mk, r3, gI_of, atP_of, add_mk, r2, gI_of, letK_eq]
    rcases hend with ⟨c1, c2, c3, c4⟩ | ⟨c1, c2, c3⟩
    · rw [if_pos (by simp <;> omega), atP_of, add_mk, r6, gI_of, atP_of, add_mk, r5, gI_of, letK_eq, if_neg (by simp <;> omega)]
      exact join _ c4
    · rw [if_neg (by simp <;> omega)]
      exact join _ c3
  rw [hi, e15, obj, Option.bind_some, gI_of, letK_eq, if_neg (by simp <;> omega), atP_of, add_mk, r0, gL_of, letK_eq, td, wrap64 (by omega) (by omega), chk_of (by intro _; omega), adP_pos, atP_of, add_mk, Int.toNat_natCast, hm, gI_of, split_ok _ _ (by omega) (by omega), Option.bind_some, gT3_of]
  simp only [List.getD_cons_zero, List.getD_cons_succ]
  rw [gI_of, gI_of, gB_of]

end Go.Proofs.Ytecgpcpgklholaa.K

/- heap: New, Check; HeapRoom. -/
set_option linter.unusedVariables false
set_option linter.unusedSimpArgs false
namespace Go.Proofs.Ytecgpcpgklholaa.K
open Go Go.Proofs.Ytecgpcpgklholaa.Abs Go.Proofs

/-- A stretch of memory that consists of objects of words. -/
def Lay (f : Nat → Int) : Nat → List Nat → Nat → Prop
  | a, [], e => a = e
  | a, z :: zs, e => z ≤ 4000 ∧ f a = hdr z ∧ (∀ k, 1 ≤ k → k ≤ z → f (a + k) = 1) ∧ Lay f (a + z + 1) zs e

theorem lay_le {f : Nat → Int} : ∀ {zs : List Nat} {a e : Nat}, Lay f a zs e → a ≤ e
  | [], a, e, h => by have : a = e := h; omega
  | z :: zs, a, e, h => by have := lay_le h.2.2.2; omega

theorem lay_app {f : Nat → Int} {z : Nat} (hz : z ≤ 4000) : ∀ {zs : List Nat} {a e : Nat}, Lay f a zs e → f e = hdr z → (∀ k, 1 ≤ k → k ≤ z → f (e + k) = 1) → Lay f a (zs ++ [z]) (e + z + 1)
  | [], a, e, h, h1, h2 => by
    have : a = e := h
    subst this
    exact ⟨hz, h1, h2, rfl⟩
  | y :: zs, a, e, h, h1, h2 => ⟨h.1, h.2.1, h.2.2.1, lay_app hz h.2.2.2 h1 h2⟩

theorem lay_congr {f g : Nat → Int} : ∀ {zs : List Nat} {a e : Nat}, Lay f a zs e → (∀ i, a ≤ i → i < e → g i = f i) → Lay g a zs e
  | [], a, e, h, _ => h
  | z :: zs, a, e, h, hg => by
    have hle := lay_le h.2.2.2
    refine ⟨h.1, by rw [hg a (by omega) (by omega)]; exact h.2.1, fun k k1 k2 => by rw [hg (a + k) (by omega) (by omega)]; exact h.2.2.1 k k1 k2, ?_⟩
    exact lay_congr h.2.2.2 fun i i1 i2 => hg i (by omega) i2

def starts : Nat → List Nat → List Nat
  | _, [] => []
  | a, z :: zs => a :: starts (a + z + 1) zs

theorem lay_starts {f : Nat → Int} : ∀ {zs : List Nat} {a e p : Nat}, Lay f a zs e → p ∈ starts a zs → ∃ z : Nat, z ≤ 4000 ∧ f p = hdr z ∧ (∀ k, 1 ≤ k → k ≤ z → f (p + k) = 1) ∧ p + z < e
  | [], a, e, p, _, hp => by cases hp
  | z :: zs, a, e, p, h, hp => by
    have hle := lay_le h.2.2.2
    rcases List.mem_cons.1 hp with rfl | hp
    · exact ⟨z, h.1, h.2.1, h.2.2.1, by omega⟩
    · exact lay_starts h.2.2.2 hp

/-- What holds of a memory while objects of words are made. -/
structure HG (S : HS) : Prop extends HB S where
  y : ∃ zs, Lay S.f 1 zs S.yo.toNat
  o : ∃ zs, Lay S.f S.nu.toNat zs S.ol.toNat

theorem alc_good {S : HS} (G : HG S) {n : Nat} (hn : n ≤ 4000) (hr : room S n = true) : HG (alc S n) := by
  have B := G.toHB
  have Ba := alc_ok B hr
  refine ⟨Ba, ?_, ?_⟩
  · obtain ⟨zs, hz⟩ := G.y
    obtain ⟨a1, a2, a3, a4, a5, a6, a7, a8, a9⟩ := B
    unfold alc
    unfold room at hr
    by_cases h : S.nu - 1 < (n : Int) + 1
    · rw [if_pos h]
      dsimp only
      refine ⟨zs, lay_congr hz fun i i1 i2 => ?_⟩
      unfold fillTo
      rw [if_neg (by omega), if_neg (by omega)]
    · rw [if_neg h]
      dsimp only
      refine ⟨zs ++ [n], ?_⟩
      rw [show (S.yo + n + 1).toNat = S.yo.toNat + n + 1 by omega]
      refine lay_app hn (lay_congr hz fun i i1 i2 => ?_) ?_ fun k k1 k2 => ?_
      · unfold fillTo
        rw [if_neg (by omega), if_neg (by omega)]
      · unfold fillTo
        rw [if_pos rfl]
      · unfold fillTo
        rw [if_neg (by omega), if_pos (by omega)]
  · obtain ⟨zs, hz⟩ := G.o
    obtain ⟨a1, a2, a3, a4, a5, a6, a7, a8, a9⟩ := B
    unfold alc
    unfold room at hr
    by_cases h : S.nu - 1 < (n : Int) + 1
    · rw [if_pos h]
      dsimp only
      refine ⟨zs ++ [n], ?_⟩
      rw [show (S.ol + n + 1).toNat = S.ol.toNat + n + 1 by omega]
      refine lay_app hn (lay_congr hz fun i i1 i2 => ?_) ?_ fun k k1 k2 => ?_
      · unfold fillTo
        rw [if_neg (by omega), if_neg (by omega)]
      · unfold fillTo
        rw [if_pos rfl]
      · unfold fillTo
        rw [if_neg (by omega), if_pos (by omega)]
    · rw [if_neg h] at hr ⊢
      have hr := of_decide_eq_true hr
      dsimp only
      refine ⟨zs, lay_congr hz fun i i1 i2 => ?_⟩
      unfold fillTo
      rw [if_neg (by omega), if_neg (by omega)]

theorem new_ok {m s y : Nat} (h : Heap) (hm : m ≤ 65536) (h32 : 32 ≤ m) (hs : 4 ≤ s) (hs2 : s ≤ m / 2) (hy : 4 ≤ y) (hy2 : y ≤ (m - s) / 2) :
    ∃ (h' : Heap) (S : HS), E 10 [.int .i64 m, .int .i64 s, .int .i64 y] h = some (.tup [.ptr (some ⟨h.length + 1, 0, 0⟩), .int .i64 0], h') ∧ HP h' (h.length + 1) h.length S ∧ HG S ∧ S.yo = 1 ∧ S.ol = S.fr ∧ S.nu = 1 + (y : Int) ∧ Old h h' ∧ h.length + 2 ≤ h'.length := by
  have i1 : inB (m : Int) 32 65536 = true := by simp [inB]; omega
  have t1 : Int.tdiv (m : Int) 2 = ((m / 2 : Nat) : Int) := by rw [Int.tdiv_eq_ediv_of_nonneg (by omega)]; omega
  have i2 : inB (s : Int) 4 ((m / 2 : Nat) : Int) = true := by simp [inB]; omega
  have t2 : Int.tdiv ((m : Int) - s) 2 = (((m - s) / 2 : Nat) : Int) := by rw [Int.tdiv_eq_ediv_of_nonneg (by omega)]; omega
  have i3 : inB (y : Int) 4 (((m - s) / 2 : Nat) : Int) = true := by simp [inB]; omega
  have t3 : Int.tdiv ((m : Int) - s - (1 + y)) 2 = (((m - s - 1 - y) / 2 : Nat) : Int) := by rw [Int.tdiv_eq_ediv_of_nonneg (by omega)]; omega
  rw [e10, in_ok, i1, Option.bind_some, gB_of, chk_of (by intro _; omega), letK_eq, t1, wrap64 (by omega) (by omega)]
  simp only [Bool.not_true, Bool.not_false]
  rw [callO_true, in_ok, i2, Option.bind_some, gB_of, letK_eq]
  simp only [Bool.not_true, Bool.false_eq_true, if_false, Bool.not_false]
  rw [letK_eq, wrap64 (x := (m : Int) - s) (by omega) (by omega), chk_of (by intro _; omega), letK_eq, t2, wrap64 (by omega) (by omega), callO_true, in_ok, i3, Option.bind_some, gB_of, letK_eq, if_neg (by simp), chk_of (by omega), newK_eq, letK_eq, letK_eq, wrap64 (by omega) (by omega), letK_eq, newK_eq]
  dsimp only
  have L1 : (h ++ [Blk.cells (repl (Int.toNat (m : Int)) [AV.int .i64 0]) (.grow 1) 0]).length = h.length + 1 := by simp
  have r0 : repl (Int.toNat (m : Int)) [AV.int .i64 0] = (List.range m).map fun i => .int .i64 0 := by
    rw [Int.toNat_natCast]
    show List.replicate m (AV.int .i64 0) = _
    apply List.ext_getElem
    · simp
    · intro i a b; simp
  rw [L1, Int.toNat_natCast]
  generalize hh : h ++ [Blk.cells (repl m [AV.int .i64 0]) (.grow 1) 0] ++ [Blk.cells [AV.sl (.pos ⟨h.length, 0, 0⟩) m, .int .i64 ((m : Int) - s), .int .i64 (1 + (y : Int)), .int .i64 1, .int .i64 0, .int .i64 (1 + (y : Int)), .int .i64 0, .sl .nil 0] .fix 0] = h3
  have kb : h3[h.length + 1]? = some (.cells [AV.sl (.pos ⟨h.length, 0, 0⟩) m, .int .i64 ((m : Int) - s), .int .i64 (1 + (y : Int)), .int .i64 1, .int .i64 0, .int .i64 (1 + (y : Int)), .int .i64 0, .sl .nil 0] .fix 0) := by
    rw [← hh]
    have : (h ++ [Blk.cells (repl m [AV.int .i64 0]) (.grow 1) 0]).length = h.length + 1 := by simp
    rw [← this]
    exact last_get _ _
  have kq : h3[h.length]? = some (.cells ((List.range m).map fun i => .int .i64 0) (.grow 1) 0) := by
    rw [← hh]
    refine app_old ?_
    rw [last_get, ← r0, Int.toNat_natCast]
  have o3 : Old h h3 := by rw [← hh]; exact (old_app _ _).app _
  have l3 : h3.length = h.length + 2 := by rw [← hh]; simp
  rw [add_mk, ld1_at (x := .int .i64 ((m : Int) - s)) kb rfl rfl, gI_of, add_mk, ld1_at (x := .int .i64 (1 + (y : Int))) kb rfl rfl, gI_of, letK_eq, wrap64 (x := (m : Int) - s - (1 + y)) (by omega) (by omega), letK_eq, t3, wrap64 (by omega) (by omega), add_mk, st1_at kb (by simp) (by simp), Option.bind_some]
  have kb2 := set_same (x := Blk.cells ([AV.sl (.pos ⟨h.length, 0, 0⟩) m, .int .i64 ((m : Int) - s), .int .i64 (1 + (y : Int)), .int .i64 1, .int .i64 0, .int .i64 (1 + (y : Int)), .int .i64 0, .sl .nil 0].set (0 + 4) (.int .i64 (((m - s - 1 - y) / 2 : Nat) : Int))) .fix 0) kb
  rw [add_mk, ld1_at (x := .int .i64 (1 + (y : Int))) kb2 rfl rfl, gI_of, add_mk, st1_at kb2 (by simp) (by simp), Option.bind_some]
  refine ⟨_, ⟨m, (m : Int) - s, 1 + y, 1, (((m - s - 1 - y) / 2 : Nat) : Int), 1 + y, 1 + y, fun _ => 0⟩, rfl, ⟨set_same kb2, ?_, by omega⟩, ⟨⟨?_, ?_, ?_, ?_, ?_, ?_, ?_, ?_, ?_⟩, ⟨[], rfl⟩, ⟨[], rfl⟩⟩, rfl, rfl, rfl, ?_, ?_⟩
  · rw [set_other (by omega), set_other (by omega)]
    exact kq
  all_goals try first | rfl | (dsimp only; omega)
  · intro k x hk
    have := (List.getElem?_eq_some_iff.1 hk).1
    rw [set_other (by omega), set_other (by omega)]
    exact o3 k x hk
  · simp only [List.length_set]; omega

theorem hfact_ok (h : Heap) : ∃ h', E 12 [] h = some (.bool true, h') ∧ Old h h' := by
  obtain ⟨h1, S, n1, n2, n3, n4, n5, n6, n7, n8⟩ := new_ok (m := 64) (s := 8) (y := 16) h (by omega) (by omega) (by omega) (by omega) (by omega) (by omega)
  have n6' : S.nu = 17 := by rw [n6]; rfl
  have hr : room S 1 = true := by
    unfold room
    rw [if_neg (by omega)]
    simp; omega
  obtain ⟨h2, a1, a2, a3⟩ := alloc_ok (n := 1) n2 n3.toHB (by omega) hr
  have hat : atI S 1 = 1 := by
    unfold atI
    rw [if_neg (by omega), n4]
  rw [hat] at a1
  have n1' : E 10 [.int .i64 64, .int .i64 8, .int .i64 16] h = some (.tup [.ptr (some ⟨h.length + 1, 0, 0⟩), .int .i64 0], h1) := n1
  have a1' : E 14 [.ptr (some ⟨h.length + 1, 0, 0⟩), .int .i64 1, .int .i64 1, .int .i64 1] h1 = some (.tup [.int .i64 2, .int .i64 0], h2) := a1
  rw [e12, n1', Option.bind_some, gT2_of]
  simp only [List.getD_cons_zero, List.getD_cons_succ]
  rw [gP_of, gI_of, letK_eq, letK_eq, letK_eq, if_neg (by simp), a1', Option.bind_some, gT2_of]
  simp only [List.getD_cons_zero, List.getD_cons_succ]
  rw [gI_of, gI_of, letK_eq, letK_eq, letK_eq]
  refine ⟨h2, rfl, fun k x hk => ?_⟩
  have := (List.getElem?_eq_some_iff.1 hk).1
  exact a3 k x (n7 k x hk) (by omega) (by omega)

def castN (l : List Nat) : List Int := List.map (fun p : Nat => (p : Int)) l

theorem objects_loop {h0 : Heap} {b q : Nat} {S : HS} (H : HP h0 b q S) (B : HB S) {e : Nat} (he : e ≤ S.M) : ∀ (zs : List Nat) (a : Nat), Lay S.f a zs e → ∀ (h : Heap) (s8 : SA) (done : List Nat), Old h0 h → GS h s8 done.length 1 ((castN done).map (.int .i64)) → (∀ k, inS s8 k → h0.length ≤ k) → done.length ≤ a →
    ∃ h' s' , L32x5 mk0 E (some ⟨b, 0, 0⟩) ((e : Nat) : Int) s8 done.length ((a : Nat) : Int) h (Q32x5 mk0 E) = some (.tup [.sl s' (done ++ starts a zs).length, .bool true], h') ∧ Old h0 h' ∧ GS h' s' (done ++ starts a zs).length 1 ((castN (done ++ starts a zs)).map (.int .i64)) ∧ (∀ k, inS s' k → h0.length ≤ k) := by
  have bm := B.m
  intro zs
  induction zs with
  | nil =>
    intro a L h s8 done ho hg hi hda
    have : a = e := L
    subst this
    refine ⟨h, s8, ?_, ho, by simpa [starts] using hg, hi⟩
    rw [L32x5xeq, letK_eq, if_neg (by simp), X32x5xe0]
    simp [starts]
  | cons z zs ih =>
    intro a L h s8 done ho hg hi hda
    have hle := lay_le L.2.2.2
    have hz := L.1
    have r0 : ld1 h ⟨b, 0, 0 + 0⟩ = some (.sl (.pos ⟨q, 0, 0⟩) S.M) := ld1_at (ho _ _ H.c) rfl rfl
    have hm : ld1 h ⟨q, 0, 0 + a * 1⟩ = some (.int .i64 (S.f a)) := ld1_at (ho _ _ H.m) (by rw [Nat.zero_add, Nat.mul_one, range_get (by omega)]) rfl
    rw [L.2.1] at hm
    rw [L32x5xeq, letK_eq, if_pos (by simp; omega), atP_of, add_mk, r0, gL_of, chk_of (by intro _; omega), adP_pos, atP_of, add_mk, Int.toNat_natCast, hm, gI_of, split_ok _ _ (by omega) (by omega), Option.bind_some, gT3_of]
    simp only [List.getD_cons_zero, List.getD_cons_succ]
    rw [gI_of, gI_of, gB_of, if_neg (by simp), newK_eq, show ldSl (h ++ [Blk.cells [AV.int .i64 ((a : Nat) : Int)] (.grow 1) 0]) (.pos ⟨h.length, 0, 0⟩) (1 * 1) = some [.int .i64 ((a : Nat) : Int)] from ldSl_at (last_get _ _) rfl rfl, Option.bind_some]
    obtain ⟨t, h4, e5, w5, le5, kp5, nw5⟩ := apnd_GS (m := 1) (bytes := 8) (ys := [AV.int .i64 ((a : Nat) : Int)]) (gs_app (l := [Blk.cells [AV.int .i64 ((a : Nat) : Int)] (.grow 1) 0]) hg) (by omega) (by omega) rfl rfl (by have := flat_ints (castN done ++ [(a : Int)]); simpa using this) (by omega)
    rw [e5, Option.bind_some, gL_of, letK_eq, wrap64 (x := (z : Int) + 1) (by omega) (by omega), letK_eq, wrap64 (by omega) (by omega), letK_eq, if_neg (by simp; omega), show ((a : Int) + ((z : Int) + 1)) = ((a + z + 1 : Nat) : Int) by omega]
    dsimp only
    obtain ⟨h', s', r1, r2, r3, r4⟩ := ih (a + z + 1) L.2.2.2 h4 t (done ++ [a]) (by
      intro k y hk
      have hb := (List.getElem?_eq_some_iff.1 hk).1
      exact kp5 _ _ (app_old (ho _ _ hk)) fun hh => by have := hi k hh; omega) (by
      have e1 : castN (done ++ [a]) = castN done ++ [(a : Int)] := by simp [castN]
      rw [e1, List.map_append, List.length_append]
      exact w5) (by
      intro k hk
      have := ho.le
      rcases nw5 k hk with hh | hh
      · exact hi k hh
      · rw [List.length_append] at hh; omega) (by rw [List.length_append, List.length_singleton]; omega)
    have e2 : done ++ [a] ++ starts (a + z + 1) zs = done ++ starts a (z :: zs) := by simp [starts]
    rw [e2] at r1 r3
    rw [List.length_append, List.length_singleton] at r1
    exact ⟨h', s', r1, r2, r3, r4⟩

end Go.Proofs.Ytecgpcpgklholaa.K
