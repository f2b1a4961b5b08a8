/- Lists in memory, each element in so many cells. -/
import Derived.Test.YtnmdadadjneaiaaLibD
import Derived.Test.YtnmdadadjneaiaaDGen
set_option linter.unusedVariables false
set_option linter.unusedSimpArgs false
namespace Go.Proofs.Ytnmdadadjneaiaa.D
open Go Go.Proofs.Ytnmdadadjneaiaa.Abs Go.Proofs
theorem gs_keep {h h' : Heap} {s t : SA} {n es : Nat} {cs : List AV} (H : GS h t n es cs) (hk : ∀ b x, h[b]? = some x → ¬ inS s b → h'[b]? = some x) (hd : ∀ b, inS t b → ¬ inS s b) : GS h' t n es cs := by
 obtain ⟨hl, fc, hh⟩ := H
 refine ⟨hl, fc, ?_⟩
 rcases hh with hh | ⟨b, v, rfl, hb⟩
 · exact .inl hh
 · exact .inr ⟨b, v, rfl, hk b _ hb (hd b ⟨_, rfl, rfl⟩)⟩
theorem gs_app {h l : Heap} {t : SA} {n es : Nat} {cs : List AV} (H : GS h t n es cs) : GS (h ++ l) t n es cs := by
 obtain ⟨hl, fc, hh⟩ := H
 refine ⟨hl, fc, ?_⟩
 rcases hh with hh | ⟨b, v, rfl, hb⟩
 · exact .inl hh
 · exact .inr ⟨b, v, rfl, app_old hb⟩
theorem gs_lt {h : Heap} {t : SA} {n es : Nat} {cs : List AV} (H : GS h t n es cs) {b : Nat} (hb : inS t b) : b < h.length := by
 obtain ⟨_, _, ⟨rfl, _⟩ | ⟨b', v, rfl, h'⟩⟩ := H
 · obtain ⟨a, ha, _⟩ := hb; cases ha
 · obtain ⟨a, ha, rfl⟩ := hb
   cases ha
   exact (List.getElem?_eq_some_iff.1 h').1
theorem flat_ints (l : List Int) : flatL (l.map (AV.int .i64)) = true := by
 induction l with
 | nil => rfl
 | cons x l ih => simpa [flatL, flatA] using ih
theorem ldSl_at {h : Heap} {b v : Nat} {c : List AV} {m : Abs.Mode} {n : Nat} (hb : h[b]? = some (.cells c m v)) (hn : c.length = n) (hf : flatL c = true) : ldSl h (.pos ⟨b, v, 0⟩) n = some c := by
 cases n with
 | zero =>
  have : c = [] := List.length_eq_zero_iff.1 hn
  subst this; rfl
 | succ n =>
  have ht : (c.drop 0).take (n + 1) = c := by rw [List.drop_zero, ← hn, List.take_length]
  simp only [ldSl, ldN, hb]
  rw [if_pos ⟨trivial, by omega, by rw [ht]; exact hf⟩, ht]
def Old (h h' : Heap) : Prop := ∀ (b : Nat) (x : Blk), h[b]? = some x → h'[b]? = some x
theorem Old.refl (h : Heap) : Old h h := fun _ _ hx => hx
theorem Old.trans {a b c : Heap} (h1 : Old a b) (h2 : Old b c) : Old a c := fun i x hx => h2 i x (h1 i x hx)
theorem Old.app {a b : Heap} (h1 : Old a b) (l : Heap) : Old a (b ++ l) := fun i x hx => app_old (h1 i x hx)
theorem old_app (a l : Heap) : Old a (a ++ l) := (Old.refl a).app l
theorem Old.le {a b : Heap} (h : Old a b) : a.length ≤ b.length := by
 cases hl : a.length with
 | zero => omega
 | succ n =>
  have := h n (a[n]'(by omega)) (List.getElem?_eq_getElem (by omega))
  have := (List.getElem?_eq_some_iff.1 this).1
  omega
def VS {α : Type} (f : α → List AV) (es : Nat) (h : Heap) (s : SA) (n : Nat) (l : List α) : Prop :=
 l.length = n ∧ (n = 0 ∨ ∃ b v o c m, s = .pos ⟨b, v, o⟩ ∧ h[b]? = some (.cells c m v) ∧ ∀ i x, l[i]? = some x → o + i * es + es ≤ c.length ∧ (c.drop (o + i * es)).take es = f x)
theorem vs_old {α : Type} {f : α → List AV} {es n : Nat} {h h' : Heap} {s : SA} {l : List α} (H : VS f es h s n l) (hk : Old h h') : VS f es h' s n l := by
 obtain ⟨hl, H | ⟨b, v, o, c, m, rfl, hb, hc⟩⟩ := H
 · exact ⟨hl, .inl H⟩
 · exact ⟨hl, .inr ⟨b, v, o, c, m, rfl, hk _ _ hb, hc⟩⟩
theorem vs_ld {α : Type} {f : α → List AV} {es n : Nat} {h : Heap} {s : SA} {l : List α} (H : VS f es h s n l) (hf : ∀ x, flatL (f x) = true) (i : Nat) (x : α) (hi : l[i]? = some x) :
 ∃ a, adP s = some a ∧ ldN h (Ad.add a (i * es)) es = some (f x) := by
 obtain ⟨hl, H | ⟨b, v, o, c, m, rfl, hb, hc⟩⟩ := H
 · have := (List.getElem?_eq_some_iff.1 hi).1
   omega
 · refine ⟨_, rfl, ?_⟩
   obtain ⟨h1, h2⟩ := hc i x hi
   simp only [ldN, Ad.add, hb]
   rw [if_pos ⟨trivial, h1, by rw [h2]; exact hf x⟩, h2]
theorem take1 {c : List AV} {k : Nat} {x : AV} (h : (c.drop k).take 1 = [x]) : c[k]? = some x := by
 have := congrArg (fun l => l[0]?) h
 simpa using this
theorem vs_ld1 {α : Type} {g : α → AV} {n : Nat} {h : Heap} {s : SA} {l : List α} (H : VS (fun x => [g x]) 1 h s n l) (hf : ∀ x, flatA (g x) = true) (i : Nat) (x : α) (hi : l[i]? = some x) :
 ∃ a, adP s = some a ∧ ld1 h (Ad.add a (i * 1)) = some (g x) := by
 obtain ⟨hl, H | ⟨b, v, o, c, m, rfl, hb, hc⟩⟩ := H
 · have := (List.getElem?_eq_some_iff.1 hi).1
   omega
 · refine ⟨_, rfl, ?_⟩
   obtain ⟨h1, h2⟩ := hc i x hi
   exact ld1_at hb (take1 h2) (hf x)
theorem vs_take {α : Type} {f : α → List AV} {es n : Nat} {h : Heap} {s : SA} {l : List α} (H : VS f es h s n l) (k : Nat) (hk : k ≤ n) : VS f es h s k (l.take k) := by
 obtain ⟨hl, H | ⟨b, v, o, c, m, rfl, hb, hc⟩⟩ := H
 · exact ⟨by rw [List.length_take]; omega, .inl (by omega)⟩
 · refine ⟨by rw [List.length_take]; omega, .inr ⟨b, v, o, c, m, rfl, hb, fun i x hx => hc i x ?_⟩⟩
   rw [List.getElem?_take] at hx
   split at hx
   · exact hx
   · cases hx
theorem rows_at {α : Type} {f : α → List AV} {es : Nat} (hf : ∀ x, (f x).length = es) : ∀ (l : List α) (i : Nat) (x : α), l[i]? = some x → i * es + es ≤ (l.flatMap f).length ∧ ((l.flatMap f).drop (i * es)).take es = f x := by
 intro l
 induction l with
 | nil => intro i e h; simp at h
 | cons y l ih =>
  intro i e h
  rw [List.flatMap_cons]
  have hx := hf y
  cases i with
  | zero =>
   cases h
   rw [List.length_append, hx]
   exact ⟨by omega, by rw [Nat.zero_mul, List.drop_zero]; exact List.take_left' hx⟩
  | succ i =>
   obtain ⟨h1, h2⟩ := ih i e h
   have e1 : (i + 1) * es = es + i * es := by rw [Nat.add_mul]; omega
   rw [List.length_append, hx]
   refine ⟨by omega, ?_⟩
   rw [e1, ← hx, List.drop_append, List.drop_eq_nil_of_le (by omega), List.nil_append, Nat.add_sub_cancel_left, hx, h2]
theorem rows_flat {α : Type} {f : α → List AV} (hf : ∀ x, flatL (f x) = true) (l : List α) : flatL (l.flatMap f) = true := by
 have app : ∀ a b : List AV, flatL a = true → flatL b = true → flatL (a ++ b) = true := by
  intro a
  induction a with
  | nil => intro b _ h; exact h
  | cons x a ih =>
   intro b h1 h2
   rw [List.cons_append]
   unfold flatL at h1 ⊢
   rw [Bool.and_eq_true] at h1 ⊢
   exact ⟨h1.1, ih b h1.2 h2⟩
 induction l with
 | nil => rfl
 | cons y l ih => rw [List.flatMap_cons]; exact app _ _ (hf y) ih
theorem rows_one {α : Type} (g : α → AV) (l : List α) : l.flatMap (fun x => [g x]) = l.map g := by
 induction l with
 | nil => rfl
 | cons y l ih => rw [List.flatMap_cons, ih]; rfl
theorem vs_blk {α : Type} {f : α → List AV} {es : Nat} (hf : ∀ x, (f x).length = es) {h : Heap} {b v : Nat} {m : Abs.Mode} {l : List α} (hb : h[b]? = some (.cells (l.flatMap f) m v)) : VS f es h (.pos ⟨b, v, 0⟩) l.length l := by
 refine ⟨rfl, .inr ⟨b, v, 0, _, m, rfl, hb, fun i x hx => ?_⟩⟩
 obtain ⟨h1, h2⟩ := rows_at hf l i x hx
 exact ⟨by omega, by rw [Nat.zero_add]; exact h2⟩
theorem vs_blk1 {α : Type} {g : α → AV} {h : Heap} {b v : Nat} {m : Abs.Mode} {l : List α} (hb : h[b]? = some (.cells (l.map g) m v)) : VS (fun x => [g x]) 1 h (.pos ⟨b, v, 0⟩) l.length l :=
 vs_blk (f := fun x => [g x]) (es := 1) (m := m) (fun _ => rfl) (by rw [rows_one]; exact hb)
theorem vs_GS {α : Type} {f : α → List AV} {es n : Nat} (hf : ∀ x, (f x).length = es) {h : Heap} {s : SA} {l : List α} (hn : l.length = n) (H : GS h s n es (l.flatMap f)) : VS f es h s n l := by
 obtain ⟨hl, _, ⟨rfl, rfl⟩ | ⟨b, v, rfl, hb⟩⟩ := H
 · exact ⟨hn, .inl rfl⟩
 · subst hn
   exact vs_blk hf hb
def intC (v : Int) : List AV := [.int .i64 v]
theorem set_last (h : Heap) (B B' : Blk) : (h ++ [B]).set h.length B' = h ++ [B'] := by
 rw [List.set_append_right _ _ (Nat.le_refl _), Nat.sub_self]
 rfl
theorem last_get (h : Heap) (B : Blk) : (h ++ [B])[h.length]? = some B := by
 rw [List.getElem?_append_right (Nat.le_refl _), Nat.sub_self]; rfl
theorem gI_any {R : Type} (v : Int) (bc : Bool) (K : Int → Option R) : gI .i64 (some (AV.int .i64 v)) bc K = K v := by cases bc <;> rfl
theorem gB_any {R : Type} (v : Bool) (bc : Bool) (K : Bool → Option R) : gB (some (AV.bool v)) bc K = K v := by cases bc <;> rfl
theorem gL_any {R : Type} (s : SA) (n : Nat) (bc : Bool) (K : SA → Nat → Option R) : gL (some (AV.sl s n)) bc K = K s n := by cases bc <;> rfl
end Go.Proofs.Ytnmdadadjneaiaa.D
/- Functions in virtual code, in memory. -/
set_option linter.unusedVariables false
set_option linter.unusedSimpArgs false
namespace Go.Proofs.Ytnmdadadjneaiaa.D
open Go Go.Proofs.Ytnmdadadjneaiaa.Abs Go.Proofs
theorem drop_at {α : Type} {l : List α} {i : Nat} {x : α} (h : l[i]? = some x) : l.drop i = x :: l.drop (i + 1) := by
 obtain ⟨hlt, he⟩ := List.getElem?_eq_some_iff.1 h
 rw [← he]; exact List.drop_eq_getElem_cons hlt
theorem at_lt {α : Type} {l : List α} {i : Nat} (h : i < l.length) : ∃ x, l[i]? = some x := ⟨_, List.getElem?_eq_getElem h⟩
structure VI where
 op : Int
 d : Int
 a : Int
 b : Int
 n : Int
 s : SA
 args : List Int
def VI.cells (x : VI) : List AV := [.int .i64 x.op, .int .i64 x.d, .int .i64 x.a, .int .i64 x.b, .int .i64 x.n, .sl x.s x.args.length]
def VI.R (h : Heap) (x : VI) : Prop := VS intC 1 h x.s x.args.length x.args
structure VE where
 kind : Int
 op : Int
 a : Int
 b : Int
 n : Int
 s : SA
 to : List Int
def VE.cells (x : VE) : List AV := [.int .i64 x.kind, .int .i64 x.op, .int .i64 x.a, .int .i64 x.b, .int .i64 x.n, .sl x.s x.to.length]
def VE.R (h : Heap) (x : VE) : Prop := VS intC 1 h x.s x.to.length x.to
structure VB where
 s : SA
 ins : List VI
 e : VE
def VB.cells (x : VB) : List AV := .sl x.s x.ins.length :: x.e.cells
structure VB.R (h : Heap) (x : VB) : Prop where
 i : VS VI.cells 6 h x.s x.ins.length x.ins
 r : ∀ y ∈ x.ins, y.R h
 e : x.e.R h
structure VF where
 nm : Int
 sp : SA
 params : List Int
 regs : Int
 sb : SA
 blocks : List VB
def VF.cells (f : VF) : List AV := [.int .i64 f.nm, .sl f.sp f.params.length, .int .i64 f.regs, .sl f.sb f.blocks.length]
structure VF.R (h : Heap) (f : VF) : Prop where
 p : VS intC 1 h f.sp f.params.length f.params
 b : VS VB.cells 7 h f.sb f.blocks.length f.blocks
 r : ∀ y ∈ f.blocks, y.R h
theorem VI.R.old {h h' : Heap} {x : VI} (H : x.R h) (o : Old h h') : x.R h' := vs_old H o
theorem VE.R.old {h h' : Heap} {x : VE} (H : x.R h) (o : Old h h') : x.R h' := vs_old H o
theorem VB.R.old {h h' : Heap} {x : VB} (H : x.R h) (o : Old h h') : x.R h' := ⟨vs_old H.i o, fun y hy => (H.r y hy).old o, H.e.old o⟩
theorem VF.R.old {h h' : Heap} {f : VF} (H : f.R h) (o : Old h h') : f.R h' := ⟨vs_old H.p o, vs_old H.b o, fun y hy => (H.r y hy).old o⟩
theorem vi_flat (x : VI) : flatL x.cells = true := rfl
theorem vb_flat (x : VB) : flatL x.cells = true := rfl
def inB (x lo hi : Int) : Bool := decide (lo ≤ x) && decide (x ≤ hi)
theorem in_ok (x lo hi : Int) (h : Heap) : E 58 [.int .i64 x, .int .i64 lo, .int .i64 hi] h = some (.bool (inB x lo hi), h) := by
 rw [e58]
 simp only [letK_eq, inB]
 by_cases a : lo ≤ x <;> by_cases b : x ≤ hi <;> simp [a, b]
theorem in_call (c : Bool) (x lo hi : Int) (h : Heap) : callO c (E 58 [.int .i64 x, .int .i64 lo, .int .i64 hi] h) (.bool false) h = some (.bool (c && inB x lo hi), h) := by
 rw [in_ok]
 cases c <;> rfl
theorem index_loop {h : Heap} {s : SA} {n : Nat} {l : List Int} (H : VS intC 1 h s n l) (hn : n < 9223372036854775807) (x : Int) : ∀ (k j : Nat), j + k = n → (∀ i, i < j → l[i]? ≠ some x) →
 (∃ i : Nat, i < n ∧ l[i]? = some x ∧ L54x4 mk0 E s n x ((n : Nat) : Int) ((j : Nat) : Int) h (Q54x4 mk0 E) = some (.int .i64 i, h)) ∨
 ((∀ i, i < n → l[i]? ≠ some x) ∧ L54x4 mk0 E s n x ((n : Nat) : Int) ((j : Nat) : Int) h (Q54x4 mk0 E) = some (.int .i64 (-1), h)) := by
 have hl := H.1
 intro k
 induction k with
 | zero =>
  intro j hj hp
  refine .inr ⟨fun i hi => hp i (by omega), ?_⟩
  rw [L54x4xeq, letK_eq, if_neg (by simp; omega), X54x4xe0]
 | succ k ih =>
  intro j hj hp
  obtain ⟨y, hy⟩ := at_lt (l := l) (i := j) (by omega)
  obtain ⟨a, ha, la⟩ := vs_ld1 (g := AV.int .i64) H (fun _ => rfl) j y hy
  rw [L54x4xeq, letK_eq, if_pos (by simp; omega), chk_of (by intro _; omega), ha, atP_of, Int.toNat_natCast, la, gI_of, letK_eq]
  by_cases he : x = y
  · subst he
    rw [if_pos (by simp), X54x4xr]
    exact .inl ⟨j, by omega, hy, rfl⟩
  · rw [if_neg (by simp [he]), letK_eq, wrap64 (by omega) (by omega), show ((j : Int) + 1) = ((j + 1 : Nat) : Int) by omega]
    refine ih (j + 1) (by omega) fun i hi => ?_
    by_cases hij : i = j
    · subst hij
      rw [hy]
      intro h; cases h; exact he rfl
    · exact hp i (by omega)
theorem contains_ok {h : Heap} {s : SA} {n : Nat} {l : List Int} (H : VS intC 1 h s n l) (hn : n < 9223372036854775807) (x : Int) : E 20 [.sl s n, .int .i64 x] h = some (.bool (decide (x ∈ l)), h) := by
 have hl := H.1
 rw [e20, e54]
 rcases index_loop H hn x n 0 (by omega) (fun i hi => by omega) with ⟨i, h1, h2, h3⟩ | ⟨h2, h3⟩
 · rw [show (((0 : Nat) : Int)) = 0 from rfl] at h3
   rw [h3, Option.bind_some, gI_of, letK_eq, decide_eq_true (List.mem_of_getElem? h2), decide_eq_true (by omega)]
 · rw [show (((0 : Nat) : Int)) = 0 from rfl] at h3
   have : x ∉ l := fun hm => by
    obtain ⟨i, hi, he⟩ := List.getElem_of_mem hm
    exact h2 i (by omega) (by rw [List.getElem?_eq_getElem hi, he])
   rw [h3, Option.bind_some, gI_of, letK_eq, decide_eq_false this, decide_eq_false (by omega)]
def defR (op d : Int) : Int := if op = 13 ∨ op = 23 then 0 else d
theorem def_ok (x : VI) (h : Heap) : E 30 [.agg x.cells] h = some (.int .i64 (defR x.op x.d), h) := by
 unfold VI.cells
 rw [e30, letK_eq, gI_any, letK_eq, letK_eq]
 unfold defR
 by_cases h1 : x.op = 13 <;> by_cases h2 : x.op = 23 <;> simp [h1, h2]
end Go.Proofs.Ytnmdadadjneaiaa.D
/- slices.DeleteFunc of the zeros of a list. -/
set_option linter.unusedVariables false
set_option linter.unusedSimpArgs false
namespace Go.Proofs.Ytnmdadadjneaiaa.D
open Go Go.Proofs.Ytnmdadadjneaiaa.Abs Go.Proofs
def But (b : Nat) (h h' : Heap) : Prop := ∀ (q : Nat) (x : Blk), h[q]? = some x → q ≠ b → h'[q]? = some x
theorem But.trans {b : Nat} {h1 h2 h3 : Heap} (x : But b h1 h2) (y : But b h2 h3) : But b h1 h3 := fun q z hq hn => y q z (x q z hq hn) hn
theorem Old.but {h h' : Heap} (x : Old h h') (b : Nat) : But b h h' := fun q z hq _ => x q z hq
theorem but_set (b : Nat) (h : Heap) (x : Blk) : But b h (h.set b x) := fun q z hq hn => by rw [set_other (fun e => hn e.symm)]; exact hq
def nz (x : Int) : Bool := !decide (x = 0)
theorem fn_nil {R : Type} (d : FuncId) (K : FuncId → List AV → List AV → Option R) : fnK (.fn d [] []) K = K d [] [] := rfl
def Zero (d : FuncId) : Prop := ∀ (x : Int) (h : Heap), E d [.int .i64 x] h = some (.bool (decide (x = 0)), h)
theorem zero64 : Zero 64 := fun x h => by rw [e64, letK_eq]
theorem zero65 : Zero 65 := fun x h => by rw [e65, letK_eq]
theorem idx_loop {d : FuncId} (hd : Zero d) {h : Heap} {s : SA} {n : Nat} {l : List Int} (H : VS intC 1 h s n l) (hn : n < 9223372036854775807) : ∀ (k j : Nat), j + k = n → (∀ y ∈ l.take j, nz y = true) →
 (∃ i : Nat, i < n ∧ l[i]? = some 0 ∧ (∀ y ∈ l.take i, nz y = true) ∧ L71x4 mk0 E s n (.fn d [] []) ((n : Nat) : Int) ((j : Nat) : Int) h (Q71x4 mk0 E) = some (.int .i64 i, h)) ∨
 ((∀ y ∈ l, nz y = true) ∧ L71x4 mk0 E s n (.fn d [] []) ((n : Nat) : Int) ((j : Nat) : Int) h (Q71x4 mk0 E) = some (.int .i64 (-1), h)) := by
 have hl := H.1
 intro k
 induction k with
 | zero =>
  intro j hj hp
  refine .inr ⟨by rw [List.take_of_length_le (by omega)] at hp; exact hp, ?_⟩
  rw [L71x4xeq, letK_eq, if_neg (by simp; omega), X71x4xe0]
 | succ k ih =>
  intro j hj hp
  obtain ⟨y, hy⟩ := at_lt (l := l) (i := j) (by omega)
  obtain ⟨a, ha, la⟩ := vs_ld1 (g := AV.int .i64) H (fun _ => rfl) j y hy
  rw [L71x4xeq, letK_eq, if_pos (by simp; omega), chk_of (by intro _; omega), ha, atP_of, Int.toNat_natCast, la, gI_of, fn_nil]
  simp only [List.nil_append, List.append_nil]
  rw [hd, Option.bind_some, gB_of]
  by_cases he : y = 0
  · subst he
    rw [if_pos (by simp), X71x4xr]
    exact .inl ⟨j, by omega, hy, hp, rfl⟩
  · rw [if_neg (by simp [he]), letK_eq, wrap64 (by omega) (by omega), show ((j : Int) + 1) = ((j + 1 : Nat) : Int) by omega]
    refine ih (j + 1) (by omega) fun z hz => ?_
    rw [List.take_add_one, hy] at hz
    simp only [Option.toList, List.mem_append, List.mem_singleton] at hz
    rcases hz with hz | rfl
    · exact hp z hz
    · simp [nz, he]
theorem take_set {α : Type} : ∀ (c : List α) (m : Nat) (x : α), m < c.length → (c.set m x).take (m + 1) = c.take m ++ [x]
 | y :: c, 0, x, _ => by simp
 | y :: c, m + 1, x, h => by simp only [List.set_cons_succ, List.take_succ_cons, List.cons_append]; rw [take_set c m x (by simpa using h)]
theorem drop_set {α : Type} : ∀ (c : List α) (m j : Nat) (x : α), m < j → (c.set m x).drop j = c.drop j
 | [], m, j, x, _ => by simp
 | y :: c, 0, j + 1, x, _ => by simp
 | y :: c, m + 1, j + 1, x, h => by simp only [List.set_cons_succ, List.drop_succ_cons]; exact drop_set c m j x (by omega)
theorem del_loop {d : FuncId} (hd : Zero d) {h0 : Heap} {b v n : Nat} {l : List Int} (hl : l.length = n) (hn : n < 9223372036854775807) : ∀ (k j : Nat), j + k = n →
 ∀ (h : Heap) (c : List Int) (m : Nat), But b h0 h → h.length = h0.length → h[b]? = some (.cells (c.map (.int .i64)) (.grow 1) v) → c.length = n → m < j → c.take m = (l.take j).filter nz → c.drop j = l.drop j →
  ∃ h' c', L63x10 mk0 E (.pos ⟨b, v, 0⟩) n (.fn d [] []) ((m : Nat) : Int) ((j : Nat) : Int) h (Q63x10 mk0 E) = Q63x10 mk0 E (.exit 0) (S63xe0 (.pos ⟨b, v, 0⟩) n (((l.filter nz).length : Nat) : Int) h') ∧
   But b h0 h' ∧ h'.length = h0.length ∧ h'[b]? = some (.cells ((c' : List Int).map (.int .i64)) (.grow 1) v) ∧ c'.length = n ∧ c'.take (l.filter nz).length = l.filter nz := by
 intro k
 induction k with
 | zero =>
  intro j hj h c m hb hlen hc hcl hm h1 h2
  have hlj : l.take j = l := List.take_of_length_le (by omega)
  rw [hlj] at h1
  have hml : m = (l.filter nz).length := by
   rw [← h1, List.length_take]; omega
  rw [L63x10xeq, letK_eq, if_neg (by simp; omega)]
  refine ⟨h, c, by rw [hml], hb, hlen, hc, hcl, ?_⟩
  rw [← hml]; exact h1
 | succ k ih =>
  intro j hj h c m hb hlen hc hcl hm h1 h2
  obtain ⟨y, hy⟩ := at_lt (l := l) (i := j) (by omega)
  have hyc : c[j]? = some y := by
   have := congrArg (fun l => l[0]?) h2
   simp only [List.getElem?_drop, Nat.add_zero] at this
   rw [this]; exact hy
  have rd : ld1 h ⟨b, v, 0 + j * 1⟩ = some (.int .i64 y) := ld1_at hc (by rw [Nat.zero_add, Nat.mul_one, List.getElem?_map, hyc]; rfl) rfl
  have tk : l.take (j + 1) = l.take j ++ [y] := by rw [List.take_add_one, hy]; rfl
  have d1 : c.drop (j + 1) = l.drop (j + 1) := by
   have := congrArg List.tail h2
   rw [List.tail_drop, List.tail_drop] at this
   exact this
  rw [L63x10xeq, letK_eq, if_pos (by simp; omega), chk_of (by intro _; omega), adP_pos, atP_of, Int.toNat_natCast, add_mk, rd, gI_of, fn_nil]
  simp only [List.nil_append, List.append_nil]
  rw [hd, Option.bind_some, gB_of]
  by_cases he : y = 0
  · subst he
    rw [if_neg (by simp), J63x21xeq, letK_eq, wrap64 (by omega) (by omega), show ((j : Int) + 1) = ((j + 1 : Nat) : Int) by omega]
    exact ih (j + 1) (by omega) h c m hb hlen hc hcl (by omega) (by rw [h1, tk, List.filter_append]; simp [nz]) d1
  · rw [if_pos (by simp [he]), chk_of (by intro _; omega), atP_of, add_mk, Int.toNat_natCast, st1_at hc (by simp) (by rw [List.length_map]; omega), Option.bind_some, letK_eq, wrap64 (by omega) (by omega), show ((m : Int) + 1) = ((m + 1 : Nat) : Int) by omega, J63x21xeq, letK_eq, wrap64 (by omega) (by omega), show ((j : Int) + 1) = ((j + 1 : Nat) : Int) by omega]
    refine ih (j + 1) (by omega) _ (c.set m y) (m + 1) (hb.trans (but_set b h _)) (by rw [List.length_set]; exact hlen) ?_ (by rw [List.length_set]; exact hcl) (by omega) ?_ ?_
    · rw [set_same hc, List.map_set, Nat.zero_add, Nat.mul_one]
    · rw [take_set c m y (by omega), h1, tk, List.filter_append]
      simp [nz, he]
    · rw [drop_set c m (j + 1) y (by omega), d1]
theorem splice_end : ∀ (c : List AV) (m : Nat) (z : List AV), m + z.length = c.length → splice m z c = c.take m ++ z
 | c, m, [], h => by
  have : splice m [] c = c := by cases m <;> cases c <;> rfl
  rw [this, List.append_nil, List.take_of_length_le (by simp at h; omega)]
 | [], m, z :: zs, h => by simp at h
 | y :: c, 0, z :: zs, h => by
  have := splice_end c 0 zs (by simp at h; simpa using h)
  simp only [List.take_zero, List.nil_append] at this
  simp [splice, this]
 | y :: c, m + 1, z :: zs, h => by
  have := splice_end c m (z :: zs) (by simp only [List.length_cons] at h ⊢; omega)
  simp [splice, this]
theorem del_ok {d : FuncId} (hd : Zero d) {h : Heap} {b v : Nat} {l : List Int} (hb : h[b]? = some (.cells (l.map (.int .i64)) (.grow 1) v)) (hn : l.length < 9223372036854775807) :
 ∃ h', E 63 [.sl (.pos ⟨b, v, 0⟩) l.length, .fn d [] []] h = some (.sl (.pos ⟨b, v, 0⟩) (l.filter nz).length, h') ∧ But b h h' ∧ h'.length = h.length ∧ VS intC 1 h' (.pos ⟨b, v, 0⟩) (l.filter nz).length (l.filter nz) := by
 have H : VS intC 1 h (.pos ⟨b, v, 0⟩) l.length l := vs_blk1 (g := AV.int .i64) hb
 rw [e63, e71]
 rcases idx_loop hd H hn l.length 0 (by omega) (by simp) with ⟨i, i1, i2, i3, i4⟩ | ⟨i3, i4⟩
 · rw [show (((0 : Nat) : Int)) = 0 from rfl] at i4
   rw [i4, Option.bind_some, gI_of, letK_eq, if_neg (by simp), letK_eq, wrap64 (by omega) (by omega), show ((i : Int) + 1) = ((i + 1 : Nat) : Int) by omega]
   have tk : l.take (i + 1) = l.take i ++ [0] := by rw [List.take_add_one, i2]; rfl
   have f1 : (l.take i).filter nz = l.take i := List.filter_eq_self.2 i3
   obtain ⟨h1, c, e1, e2, e3, e4, e5, e6⟩ := del_loop hd (h0 := h) (b := b) (v := v) rfl hn (l.length - (i + 1)) (i + 1) (by omega) h l i (fun _ _ h _ => h) rfl hb rfl (by omega) (by rw [tk, List.filter_append, f1]; simp [nz]) rfl
   have hle : (l.filter nz).length ≤ l.length := List.length_filter_le _ _
   have es : esOk h1 (.pos ⟨b, v, 0⟩) 1 := fun q hq => by
    cases hq
    exact ⟨_, e4, fun c e v h => by cases h; rfl⟩
   rw [e1, X63x10xe0, chkC_of (fun _ => ⟨by omega, by omega, es⟩), letK_eq, letK_eq, Int.toNat_natCast, Nat.mul_one]
   generalize hm : (l.filter nz).length = m at *
   have clr : ∃ h2, clrM h1 (adS (.pos ⟨b, v, 0⟩) m (l.length - m)) (l.length - m) [.int .i64 0] = some h2 ∧ But b h1 h2 ∧ h2.length = h1.length ∧ h2[b]? = some (.cells ((c.take m ++ List.replicate (l.length - m) 0).map (.int .i64)) (.grow 1) v) := by
    cases hk : l.length - m with
    | zero =>
     refine ⟨h1, rfl, fun _ _ h _ => h, rfl, ?_⟩
     rw [e4, List.replicate_zero, List.append_nil, List.take_of_length_le (by omega)]
    | succ k =>
     have hsp : splice m (repl (k + 1) [AV.int .i64 0]) (c.map (.int .i64)) = (c.take m ++ List.replicate (k + 1) 0).map (.int .i64) := by
      rw [splice_end _ _ _ (by simp [repl]; omega), List.map_append, List.map_take]
      simp [repl]
     refine ⟨h1.set b (.cells ((c.take m ++ List.replicate (k + 1) 0).map (.int .i64)) (.grow 1) v), ?_, but_set b h1 _, by simp, set_same e4⟩
     show stN h1 ⟨b, v, 0 + m⟩ (repl (k + 1) [.int .i64 0]) = _
     unfold stN
     simp only [e4]
     rw [if_pos ⟨trivial, by simp, by simp [repl]; omega⟩, Nat.zero_add, hsp]
   obtain ⟨h2, c1, c2, c3, c4⟩ := clr
   rw [c1, Option.bind_some, chkC_of (fun _ => ⟨by omega, .inl (by omega)⟩)]
   refine ⟨h2, rfl, e2.trans c2, by omega, ?_⟩
   have V := vs_take (vs_blk1 (g := AV.int .i64) c4) m (by rw [List.length_append, List.length_take]; omega)
   rw [List.take_append_of_le_length (by rw [List.length_take]; omega), List.take_take, Nat.min_self, e6] at V
   exact V
 · rw [show (((0 : Nat) : Int)) = 0 from rfl] at i4
   rw [i4, Option.bind_some, gI_of, letK_eq, if_pos (by simp)]
   have : l.filter nz = l := List.filter_eq_self.2 i3
   rw [this]
   exact ⟨h, rfl, fun _ _ h _ => h, rfl, H⟩
end Go.Proofs.Ytnmdadadjneaiaa.D
/- tile: the registers that instructions and ends use. -/
set_option linter.unusedVariables false
set_option linter.unusedSimpArgs false
namespace Go.Proofs.Ytnmdadadjneaiaa.D
open Go Go.Proofs.Ytnmdadadjneaiaa.Abs Go.Proofs
theorem vs_ldSl {α : Type} {f : α → List AV} {es : Nat} (he : 0 < es) (hf : ∀ x, (f x).length = es) (ff : ∀ x, flatL (f x) = true) {h : Heap} {s : SA} {n : Nat} {l : List α} (H : VS f es h s n l) : ldSl h s (n * es) = some (l.flatMap f) := by
 obtain ⟨hl, H | ⟨b, v, o, c, m, rfl, hb, hc⟩⟩ := H
 · subst H
   have : l = [] := List.length_eq_zero_iff.1 hl
   subst this
   rw [Nat.zero_mul]; rfl
 · have key : ∀ (l : List α) (o : Nat), (∀ i x, l[i]? = some x → o + i * es + es ≤ c.length ∧ (c.drop (o + i * es)).take es = f x) → (o ≤ c.length ∨ l ≠ [] → o + l.length * es ≤ c.length) ∧ (c.drop o).take (l.length * es) = l.flatMap f := by
    intro l
    induction l with
    | nil => intro o _; exact ⟨fun h => by rcases h with h | h; simpa using h; exact absurd rfl h, by simp⟩
    | cons x l ih =>
     intro o H
     obtain ⟨h1, h2⟩ := H 0 x rfl
     rw [Nat.zero_mul, Nat.add_zero] at h1 h2
     obtain ⟨i1, i2⟩ := ih (o + es) fun i y hy => by
      have := H (i + 1) y (by simpa using hy)
      rw [Nat.add_mul, Nat.one_mul] at this
      rw [show o + es + i * es = o + (i * es + es) by omega]
      exact this
     have e1 : (x :: l).length * es = es + l.length * es := by rw [List.length_cons, Nat.add_mul]; omega
     refine ⟨fun _ => ?_, ?_⟩
     · have := i1 (.inl h1); omega
     · rw [e1, List.take_add, h2, List.drop_drop, i2, List.flatMap_cons]
   obtain ⟨k1, k2⟩ := key l o hc
   cases n with
   | zero =>
    have : l = [] := List.length_eq_zero_iff.1 hl
    subst this
    rw [Nat.zero_mul]; rfl
   | succ n =>
    have hne : l ≠ [] := by intro e; rw [e] at hl; simp at hl
    have k3 := k1 (.inr hne)
    rw [hl] at k2 k3
    have hpos : 0 < (n + 1) * es := Nat.mul_pos (by omega) he
    obtain ⟨w, hw⟩ : ∃ w, (n + 1) * es = w + 1 := ⟨(n + 1) * es - 1, by omega⟩
    rw [hw] at k2 k3 ⊢
    show ldN h ⟨b, v, o⟩ (w + 1) = _
    unfold ldN
    rw [hb]
    dsimp only
    rw [if_pos ⟨rfl, k3, by rw [k2]; exact rows_flat ff l⟩, k2]
def usesL (x : VI) : List Int := (x.a :: x.b :: x.args).filter nz
def endL (x : VE) : List Int := [x.a, x.b].filter nz
theorem del_new {d : FuncId} (hd : Zero d) {h0 h : Heap} {s : SA} {l : List Int} (ho : Old h0 h) (g : GS h s l.length 1 (l.map (.int .i64))) (hnew : ∀ q, inS s q → h0.length ≤ q) (hl : 0 < l.length) (hn : l.length < 9223372036854775807) :
 ∃ h' s', E 63 [.sl s l.length, .fn d [] []] h = some (.sl s' (l.filter nz).length, h') ∧ Old h0 h' ∧ VS intC 1 h' s' (l.filter nz).length (l.filter nz) ∧ ∀ q, inS s' q → h0.length ≤ q := by
 obtain ⟨_, _, ⟨_, hz⟩ | ⟨b, v, rfl, hb⟩⟩ := g
 · omega
 · obtain ⟨h', e1, e2, e3, e4⟩ := del_ok hd hb hn
   have hbn := hnew b ⟨_, rfl, rfl⟩
   refine ⟨h', _, e1, fun q x hq => e2 q x (ho q x hq) ?_, e4, hnew⟩
   have := (List.getElem?_eq_some_iff.1 hq).1
   omega
theorem endUses_ok (x : VE) (h : Heap) : ∃ h' s, E 31 [.agg x.cells] h = some (.sl s (endL x).length, h') ∧ Old h h' ∧ VS intC 1 h' s (endL x).length (endL x) ∧ ∀ q, inS s q → h.length ≤ q := by
 unfold VE.cells
 rw [e31, newK_eq]
 obtain ⟨h', s', e1, e2, e3, e4⟩ := del_new zero65 (h0 := h) (h := h ++ [.cells [.int .i64 x.a, .int .i64 x.b] (.grow 1) 0]) (s := .pos ⟨h.length, 0, 0⟩) (l := [x.a, x.b]) (old_app _ _) ⟨rfl, rfl, .inr ⟨_, _, rfl, last_get _ _⟩⟩ (by rintro q ⟨a, ha, hb⟩; cases ha; exact Nat.le_of_eq hb) (by simp) (by simp)
 have e1' : E 63 [.sl (.pos ⟨h.length, 0, 0⟩) 2, .fn 65 [] []] (h ++ [.cells [.int .i64 x.a, .int .i64 x.b] (.grow 1) 0]) = some (.sl s' (endL x).length, h') := e1
 rw [e1', Option.bind_some, gL_of]
 exact ⟨h', s', rfl, e2, e3, e4⟩
theorem uses_ok {x : VI} {h : Heap} (H : x.R h) (hn : x.args.length ≤ 1000) : ∃ h' s, E 29 [.agg x.cells] h = some (.sl s (usesL x).length, h') ∧ Old h h' ∧ VS intC 1 h' s (usesL x).length (usesL x) ∧ ∀ q, inS s q → h.length ≤ q := by
 unfold VI.cells
 have A : VS intC 1 (h ++ [.cells [.int .i64 x.a, .int .i64 x.b] (.grow 1) 0]) x.s x.args.length x.args := vs_old H (old_app _ _)
 have ld := vs_ldSl (f := intC) (es := 1) (by omega) (fun _ => rfl) (fun _ => rfl) A
 have lm : x.args.flatMap intC = x.args.map (.int .i64) := rows_one _ _
 have ap : ∃ s2 h2, apnd (h ++ [.cells [.int .i64 x.a, .int .i64 x.b] (.grow 1) 0]) (.sl (.pos ⟨h.length, 0, 0⟩) 2) 1 8 (x.args.map (.int .i64)) x.args.length = some (.sl s2 (x.a :: x.b :: x.args).length, h2) ∧ Old h h2 ∧
  GS h2 s2 (x.a :: x.b :: x.args).length 1 ((x.a :: x.b :: x.args).map (.int .i64)) ∧ ∀ q, inS s2 q → h.length ≤ q := by
  have g : GS (h ++ [.cells [.int .i64 x.a, .int .i64 x.b] (.grow 1) 0]) (.pos ⟨h.length, 0, 0⟩) 2 1 [.int .i64 x.a, .int .i64 x.b] := ⟨rfl, rfl, .inr ⟨_, _, rfl, last_get _ _⟩⟩
  by_cases hz : x.args.length = 0
  · have : x.args = [] := List.length_eq_zero_iff.1 hz
    rw [this]
    exact ⟨_, _, rfl, old_app _ _, g, by rintro q ⟨a, ha, hb⟩; cases ha; exact Nat.le_of_eq hb⟩
  · obtain ⟨s2, h2, a1, a2, a3, a4, a5⟩ := apnd_GS (m := x.args.length) (bytes := 8) (ys := x.args.map (.int .i64)) g (by omega) (by omega) (by simp) (flat_ints _) (flat_ints (x.a :: x.b :: x.args)) (by omega)
    refine ⟨s2, h2, by rw [a1, show 2 + x.args.length = (x.a :: x.b :: x.args).length by simp; omega], fun q y hq => a4 q y (app_old hq) ?_, ?_, fun q hq => ?_⟩
    · rintro ⟨a, ha, hb⟩
      cases ha
      have h1 := (List.getElem?_eq_some_iff.1 hq).1
      have h2 : h.length = q := hb
      omega
    · have e : (x.a :: x.b :: x.args).length = 2 + x.args.length := by simp; omega
      rw [e]; exact a2
    · rcases a5 q hq with h5 | h5
      · obtain ⟨a, ha, hb⟩ := h5
        cases ha; exact Nat.le_of_eq hb
      · rw [List.length_append] at h5; omega
 obtain ⟨s2, h2, a1, a2, a3, a4⟩ := ap
 obtain ⟨h', s', e1, e2, e3, e4⟩ := del_new zero64 a2 a3 a4 (by simp) (by simp; omega)
 rw [e29, newK_eq, ld, Option.bind_some, lm, a1, Option.bind_some, gL_of, e1, Option.bind_some, gL_of]
 exact ⟨h', s', rfl, e2, e3, e4⟩
end Go.Proofs.Ytnmdadadjneaiaa.D
/- tile: which members of an instruction are used. -/
set_option linter.unusedVariables false
set_option linter.unusedSimpArgs false
namespace Go.Proofs.Ytnmdadadjneaiaa.D
open Go Go.Proofs.Ytnmdadadjneaiaa.Abs Go.Proofs
def opsK : List Int := [1, 2, 3, 4, 5, 6, 7, 15, 8, 9, 10, 12, 11, 103, 13, 14, 23, 100, 101, 102]
def shK (op : Int) : Bool := decide (op ∈ opsK)
def shD (op : Int) : Bool := decide (op ∈ [(1 : Int), 2, 3, 4, 5, 6, 7, 15, 8, 9, 10, 12, 11, 103, 14, 100, 101, 102])
def shA (op : Int) : Bool := decide (op ∈ [(1 : Int), 2, 3, 4, 5, 6, 7, 15, 8, 9, 10, 12, 13, 23, 100, 102])
def shB (op : Int) : Bool := decide (op ∈ [(1 : Int), 2, 3, 4, 5, 6, 7, 15, 13, 14])
def shN (op : Int) : Bool := decide (op ∈ [(8 : Int), 9, 10, 12, 11, 103, 13, 14, 101])
def shR (op : Int) : Bool := decide (op ∈ [(101 : Int), 102])
theorem shape_ok (op : Int) (h : Heap) : E 89 [.int .i64 op] h = some (.tup [.agg [.bool (shD op), .bool (shA op), .bool (shB op), .bool (shN op), .bool (shR op)], .bool (shK op)], h) := by
 rw [e89]
 by_cases k : op ∈ opsK
 · simp only [opsK, List.mem_cons, List.not_mem_nil, or_false] at k
   rcases k with rfl | rfl | rfl | rfl | rfl | rfl | rfl | rfl | rfl | rfl | rfl | rfl | rfl | rfl | rfl | rfl | rfl | rfl | rfl | rfl
   all_goals
    simp [J89x25xeq, J89x24xeq, J89x23xeq, J89x22xeq, J89x21xeq, J89x20xeq, J89x19xeq, J89x38xeq, J89x37xeq, J89x36xeq, J89x45xeq, shD, shA, shB, shN, shR, shK, opsK]
 · have hk : shK op = false := decide_eq_false k
   simp only [opsK, List.mem_cons, List.not_mem_nil, or_false, not_or] at k
   obtain ⟨k1, k2, k3, k4, k5, k6, k7, k8, k9, k10, k11, k12, k13, k14, k15, k16, k17, k18, k19, k20⟩ := k
   simp [J89x25xeq, J89x24xeq, J89x23xeq, J89x22xeq, J89x21xeq, J89x20xeq, J89x19xeq, J89x38xeq, J89x37xeq, J89x36xeq, J89x45xeq, hk, k1, k2, k3, k4, k5, k6, k7, k8, k9, k10, k11, k12, k13, k14, k15, k16, k17, k18, k19, k20, shD, shA, shB, shN, shR]
end Go.Proofs.Ytnmdadadjneaiaa.D
/- tile: the errors of instructions. -/
set_option linter.unusedVariables false
set_option linter.unusedSimpArgs false
namespace Go.Proofs.Ytnmdadadjneaiaa.D
open Go Go.Proofs.Ytnmdadadjneaiaa.Abs Go.Proofs
def insL (x : VI) : List Int := x.d :: x.a :: x.b :: x.args
def bad1 (x : VI) : Bool := (!shD x.op && !decide (x.d = 0)) || (!shA x.op && !decide (x.a = 0)) || (!shB x.op && !decide (x.b = 0)) || (!shN x.op && !decide (x.n = 0)) || (!shR x.op && decide (0 < x.args.length))
def bad2 (x : VI) : Bool := decide (6 < x.args.length) || !inB x.n (-2147483648) 2147483647 || ((decide (x.op = 101) || decide (x.op = 103)) && !inB x.n 0 255) || ((decide (x.op = 9) || decide (x.op = 10)) && !inB x.n 0 31) || (decide (x.op = 14) && !inB x.n 0 4095)
def badV (x : VI) (regs : Int) : Int :=
 if shK x.op = false then 1
 else if bad1 x = true then 3
 else if bad2 x = true then 4
 else if (insL x).all (fun r => inB r 0 (regs - 1)) = true then 0 else 6
theorem app_new {h : Heap} {s : SA} {l hd : List Int} (H : VS intC 1 h s l.length l) (hn : hd.length + l.length ≤ 1000) :
 ldSl (h ++ [.cells (hd.map (.int .i64)) (.grow 1) 0]) s (l.length * 1) = some (l.map (.int .i64)) ∧
 ∃ s2 h2, apnd (h ++ [.cells (hd.map (.int .i64)) (.grow 1) 0]) (.sl (.pos ⟨h.length, 0, 0⟩) hd.length) 1 8 (l.map (.int .i64)) l.length = some (.sl s2 (hd ++ l).length, h2) ∧ Old h h2 ∧
  GS h2 s2 (hd ++ l).length 1 ((hd ++ l).map (.int .i64)) ∧ ∀ q, inS s2 q → h.length ≤ q := by
 have A : VS intC 1 (h ++ [.cells (hd.map (.int .i64)) (.grow 1) 0]) s l.length l := vs_old H (old_app _ _)
 have ld := vs_ldSl (f := intC) (es := 1) (by omega) (fun _ => rfl) (fun _ => rfl) A
 have lm : l.flatMap intC = l.map (.int .i64) := rows_one _ _
 refine ⟨by rw [ld, lm], ?_⟩
 have g : GS (h ++ [.cells (hd.map (.int .i64)) (.grow 1) 0]) (.pos ⟨h.length, 0, 0⟩) hd.length 1 (hd.map (.int .i64)) := ⟨by simp, flat_ints _, .inr ⟨_, _, rfl, last_get _ _⟩⟩
 by_cases hz : l.length = 0
 · have : l = [] := List.length_eq_zero_iff.1 hz
   subst this
   refine ⟨.pos ⟨h.length, 0, 0⟩, h ++ [.cells (hd.map (.int .i64)) (.grow 1) 0], by simp [apnd], old_app _ _, ?_, by rintro q ⟨a, ha, hb⟩; cases ha; exact Nat.le_of_eq hb⟩
   rw [List.append_nil]; exact g
 · obtain ⟨s2, h2, a1, a2, a3, a4, a5⟩ := apnd_GS (m := l.length) (bytes := 8) (ys := l.map (.int .i64)) g (by omega) (by omega) (by simp) (flat_ints _) (by rw [← List.map_append]; exact flat_ints _) (by omega)
   refine ⟨s2, h2, by rw [a1, List.length_append], fun q y hq => a4 q y (app_old hq) ?_, ?_, fun q hq => ?_⟩
   · rintro ⟨a, ha, hb⟩
     cases ha
     have h1 := (List.getElem?_eq_some_iff.1 hq).1
     have h2 : h.length = q := hb
     omega
   · rw [List.length_append, List.map_append]; exact a2
   · rcases a5 q hq with h5 | h5
     · obtain ⟨a, ha, hb⟩ := h5
       cases ha; exact Nat.le_of_eq hb
     · rw [List.length_append] at h5; omega
theorem names_loop {h : Heap} {s : SA} {n : Nat} {l : List Int} (H : VS intC 1 h s n l) (hn : n < 9223372036854775807) {regs : Int} (h0 : 0 ≤ regs) (h1 : regs ≤ 8192) : ∀ (k j : Nat), j + k = n →
 L59x20 mk0 E regs s n ((n : Nat) : Int) ((j : Nat) : Int) h (Q59x20 mk0 E) = some (.int .i64 (if (l.drop j).all (fun r => inB r 0 (regs - 1)) = true then 0 else 6), h) := by
 have hl := H.1
 intro k
 induction k with
 | zero =>
  intro j hj
  rw [L59x20xeq, letK_eq, if_neg (by simp; omega), X59x20xe0, List.drop_eq_nil_of_le (by omega)]
  rfl
 | succ k ih =>
  intro j hj
  obtain ⟨y, hy⟩ := at_lt (l := l) (i := j) (by omega)
  obtain ⟨a, ha, la⟩ := vs_ld1 (g := AV.int .i64) H (fun _ => rfl) j y hy
  rw [L59x20xeq, letK_eq, if_pos (by simp; omega), chk_of (by intro _; omega), ha, atP_of, Int.toNat_natCast, la, gI_of, letK_eq, wrap64 (by omega) (by omega), in_ok, Option.bind_some, gB_of, drop_at hy, List.all_cons]
  cases hb : inB y 0 (regs - 1) with
  | true =>
   rw [if_neg (by simp), letK_eq, wrap64 (by omega) (by omega), show ((j : Int) + 1) = ((j + 1 : Nat) : Int) by omega, ih (j + 1) (by omega), Bool.true_and]
  | false =>
   rw [if_pos (by simp), X59x20xr]
   rfl
theorem badIns_ok {x : VI} {h : Heap} (H : x.R h) {regs : Int} (h0 : 0 ≤ regs) (h1 : regs ≤ 8192) : ∃ h', E 59 [.agg x.cells, .int .i64 regs] h = some (.int .i64 (badV x regs), h') ∧ Old h h' := by
 unfold VI.cells
 rw [e59, shape_ok, Option.bind_some, gT2_of]
 simp only [List.getD_cons_zero, List.getD_cons_succ]
 rw [gA_of, chk_of (by intro _; rfl)]
 simp only [List.getElem?_cons_zero, List.getElem?_cons_succ]
 rw [gB_of, gB_of, gB_of, gB_of, gB_of, gB_of]
 unfold badV
 cases hk : shK x.op with
 | false =>
  rw [if_pos (by simp), if_pos rfl]
  exact ⟨h, rfl, Old.refl _⟩
 | true =>
  rw [if_neg (by simp), if_neg (by simp)]
  simp only [gI_any, gB_any, gL_any, letK_eq, in_call, Option.bind_some]
  have e1 : (if (if (if (if (if (!shD x.op) = true then !decide (x.d = 0) else false) = true then true else if (!shA x.op) = true then !decide (x.a = 0) else false) = true then true else if (!shB x.op) = true then !decide (x.b = 0) else false) = true then true else if (!shN x.op) = true then !decide (x.n = 0) else false) = true then true else if (!shR x.op) = true then decide ((0 : Int) < ((x.args.length : Nat) : Int)) else false) = bad1 x := by
   unfold bad1
   have : decide ((0 : Int) < ((x.args.length : Nat) : Int)) = decide (0 < x.args.length) := decide_eq_decide.2 (by omega)
   rw [this]
   cases shD x.op <;> cases shA x.op <;> cases shB x.op <;> cases shN x.op <;> cases shR x.op <;> cases decide (x.d = 0) <;> cases decide (x.a = 0) <;> cases decide (x.b = 0) <;> cases decide (x.n = 0) <;> cases decide (0 < x.args.length) <;> rfl
  rw [e1]
  cases hb1 : bad1 x with
  | true =>
   rw [if_pos rfl, if_pos rfl]
   exact ⟨h, rfl, Old.refl _⟩
  | false =>
   rw [if_neg (show ¬ (false = true) by simp), if_neg (show ¬ (false = true) by simp)]
   have h6 : decide ((6 : Int) < ((x.args.length : Nat) : Int)) = decide (6 < x.args.length) := decide_eq_decide.2 (by omega)
   rw [h6]
   have e2 : ∀ (A B : Res), (∃ h', A = some (.int .i64 4, h') ∧ Old h h') → (bad2 x = false → ∃ h', B = some (.int .i64 (if (insL x).all (fun r => inB r 0 (regs - 1)) = true then 0 else 6), h') ∧ Old h h') →
    ∀ c, c = bad2 x → ∃ h', (if c = true then A else B) = some (.int .i64 (if bad2 x = true then 4 else if (insL x).all (fun r => inB r 0 (regs - 1)) = true then 0 else 6), h') ∧ Old h h' := by
    intro A B hA hB c hc
    subst hc
    cases hb : bad2 x with
    | true => exact hA
    | false => exact hB hb
   refine e2 _ _ ⟨h, rfl, Old.refl _⟩ (fun hb2 => ?_) _ ?_
   · have h7 : x.args.length ≤ 6 := by
      unfold bad2 at hb2
      simp only [Bool.or_eq_false_iff, decide_eq_false_iff_not] at hb2
      omega
     obtain ⟨a1, s2, h2, a2, a3, a4, a5⟩ := app_new (hd := [x.d, x.a, x.b]) H (by simp; omega)
     have V : VS intC 1 h2 s2 (insL x).length (insL x) := vs_GS (f := intC) (es := 1) (fun _ => rfl) rfl (by rw [show (insL x).flatMap intC = (insL x).map (.int .i64) from rows_one _ _]; exact a4)
     have nl := names_loop V (by simp [insL]; omega) h0 h1 (insL x).length 0 (by omega)
     simp only [List.map_cons, List.map_nil] at a1 a2
     rw [newK_eq, a1, Option.bind_some]
     have a2' : apnd (h ++ [.cells [.int .i64 x.d, .int .i64 x.a, .int .i64 x.b] (.grow 1) 0]) (.sl (.pos ⟨h.length, 0, 0⟩) 3) 1 8 (x.args.map (.int .i64)) x.args.length = some (.sl s2 (insL x).length, h2) := a2
     rw [a2', Option.bind_some, gL_of]
     exact ⟨h2, nl, a3⟩
   · unfold bad2
     generalize decide (6 < x.args.length) = p
     generalize inB x.n (-2147483648) 2147483647 = q
     generalize inB x.n 0 255 = c1
     generalize inB x.n 0 31 = c2
     generalize inB x.n 0 4095 = c3
     generalize decide (x.op = 101) = r1
     generalize decide (x.op = 103) = r2
     generalize decide (x.op = 9) = r3
     generalize decide (x.op = 10) = r4
     generalize decide (x.op = 14) = r5
     cases p <;> cases q <;> simp <;> (cases r1 <;> cases r2 <;> cases c1 <;> simp <;> (cases r3 <;> cases r4 <;> cases c2 <;> simp <;> (cases r5 <;> cases c3 <;> simp)))
end Go.Proofs.Ytnmdadadjneaiaa.D
/- tile: the errors of blocks' ends. -/
set_option linter.unusedVariables false
set_option linter.unusedSimpArgs false
namespace Go.Proofs.Ytnmdadadjneaiaa.D
open Go Go.Proofs.Ytnmdadadjneaiaa.Abs Go.Proofs
def manyE (k : Int) : Int := if k = 1 then 1 else if k = 2 then 2 else 0
def okE (x : VE) : Bool :=
 if x.kind = 0 then decide (x.op = 0) && decide (x.b = 0) && decide (x.n = 0)
 else if x.kind = 1 then decide (x.op = 0) && decide (x.a = 0) && decide (x.b = 0) && decide (x.n = 0)
 else if x.kind = 2 then (decide (x.op = 16) || decide (x.op = 17) || decide (x.op = 18)) && decide (x.n = 0)
 else decide (x.op = 0) && decide (x.a = 0) && decide (x.b = 0) && inB x.n 1 6
def restE (x : VE) (regs blocks many : Int) (ok : Bool) : Int :=
 if (!ok || !decide (((x.to.length : Nat) : Int) = many)) = true then 3
 else if (inB x.a 0 (regs - 1) && inB x.b 0 (regs - 1)) = false then 6
 else if x.to.all (fun t => inB t 1 (blocks - 1)) = true then 0 else 4
def endV (x : VE) (regs blocks : Int) : Int :=
 if x.kind = 0 ∨ x.kind = 1 ∨ x.kind = 2 ∨ x.kind = 3 then restE x regs blocks (manyE x.kind) (okE x) else 1
theorem to_loop {h : Heap} {s : SA} {n : Nat} {l : List Int} (H : VS intC 1 h s n l) (hn : n < 9223372036854775807) {bs : Int} (h0 : 0 ≤ bs) (h1 : bs ≤ 8192) : ∀ (k j : Nat), j + k = n →
 L60x31 mk0 E bs s n ((n : Nat) : Int) ((j : Nat) : Int) h (Q60x31 mk0 E) = some (.int .i64 (if (l.drop j).all (fun r => inB r 1 (bs - 1)) = true then 0 else 4), h) := by
 have hl := H.1
 intro k
 induction k with
 | zero =>
  intro j hj
  rw [L60x31xeq, letK_eq, if_neg (by simp; omega), X60x31xe1, List.drop_eq_nil_of_le (by omega)]
  rfl
 | succ k ih =>
  intro j hj
  obtain ⟨y, hy⟩ := at_lt (l := l) (i := j) (by omega)
  obtain ⟨a, ha, la⟩ := vs_ld1 (g := AV.int .i64) H (fun _ => rfl) j y hy
  rw [L60x31xeq, letK_eq, if_pos (by simp; omega), chk_of (by intro _; omega), ha, atP_of, Int.toNat_natCast, la, gI_of, letK_eq, wrap64 (by omega) (by omega), in_ok, Option.bind_some, gB_of, drop_at hy, List.all_cons]
  cases hb : inB y 1 (bs - 1) with
  | true =>
   rw [if_neg (by simp), letK_eq, wrap64 (by omega) (by omega), show ((j : Int) + 1) = ((j + 1 : Nat) : Int) by omega, ih (j + 1) (by omega), Bool.true_and]
  | false =>
   rw [if_pos (by simp), X60x31xr]
   rfl
theorem rest_end {x : VE} {h : Heap} (H : x.R h) (hn : x.to.length < 9223372036854775807) {regs bs : Int} (h0 : 0 ≤ regs) (h1 : regs ≤ 8192) (g0 : 0 ≤ bs) (g1 : bs ≤ 8192) (many : Int) (ok : Bool) :
 J60x17 mk0 E regs bs x.kind x.op x.a x.b x.n x.s x.to.length many ok h = some (.int .i64 (restE x regs bs many ok), h) := by
 have tl := to_loop H hn g0 g1 x.to.length 0 (by omega)
 rw [show (((0 : Nat) : Int)) = 0 from rfl, List.drop_zero] at tl
 rw [J60x17xeq, gL_any, letK_eq, letK_eq]
 unfold restE
 cases ok with
 | false => rw [if_pos (by simp), if_pos (by simp)]
 | true =>
  simp only [Bool.not_true, Bool.false_eq_true, if_false, Bool.false_or]
  cases hm : decide (((x.to.length : Nat) : Int) = many) with
  | false => rw [if_pos (by simp), if_pos (by simp)]
  | true =>
   rw [if_neg (by simp), if_neg (by simp), letK_eq, wrap64 (by omega) (by omega), in_ok, Option.bind_some, gB_of, gI_any, letK_eq, in_call, Option.bind_some, gB_any, letK_eq]
   cases inB x.a 0 (regs - 1) with
   | false => rw [if_pos (by simp), if_pos (by simp)]
   | true =>
    cases inB x.b 0 (regs - 1) with
    | false => rw [if_pos (by simp), if_pos (by simp)]
    | true => rw [if_neg (by simp), if_neg (by simp), tl]
theorem ite_and (a b : Bool) : (if a = true then b else false) = (a && b) := by cases a <;> rfl
theorem ite_or (a b : Bool) : (if a = true then true else b) = (a || b) := by cases a <;> rfl
theorem and_dup (a b : Bool) : (a && (a && b)) = (a && b) := by cases a <;> rfl
theorem badEnd_ok {x : VE} {h : Heap} (H : x.R h) (hn : x.to.length < 9223372036854775807) {regs bs : Int} (h0 : 0 ≤ regs) (h1 : regs ≤ 8192) (g0 : 0 ≤ bs) (g1 : bs ≤ 8192) :
 E 60 [.agg x.cells, .int .i64 regs, .int .i64 bs] h = some (.int .i64 (endV x regs bs), h) := by
 have J := rest_end H hn h0 h1 g0 g1
 unfold VE.cells
 rw [e60]
 simp only [letK_eq, gI_any, ite_and, ite_or, in_call, Option.bind_some, gB_any, decide_eq_true_eq]
 unfold endV
 by_cases k0 : x.kind = 0
 · have ok : okE x = (decide (x.op = 0) && decide (x.b = 0) && decide (x.n = 0)) := by unfold okE; rw [if_pos k0]
   rw [if_pos k0, if_pos (.inl k0), ok, show manyE x.kind = 0 by unfold manyE; rw [k0]; rfl]
   exact J 0 _
 · rw [if_neg k0]
   by_cases k1 : x.kind = 1
   · have ok : okE x = (decide (x.op = 0) && decide (x.a = 0) && decide (x.b = 0) && decide (x.n = 0)) := by unfold okE; rw [if_neg k0, if_pos k1]
     rw [if_pos k1, if_pos (.inr (.inl k1)), ok, J60x16xeq, show manyE x.kind = 1 by unfold manyE; rw [k1]; rfl]
     exact J 1 _
   · rw [if_neg k1]
     by_cases k2 : x.kind = 2
     · have ok : okE x = ((decide (x.op = 16) || decide (x.op = 17) || decide (x.op = 18)) && decide (x.n = 0)) := by unfold okE; rw [if_neg k0, if_neg k1, if_pos k2]
       rw [if_pos k2, if_pos (.inr (.inr (.inl k2))), ok, J60x15xeq, J60x16xeq, show manyE x.kind = 2 by unfold manyE; rw [k2]; rfl]
       exact J 2 _
     · rw [if_neg k2]
       by_cases k3 : x.kind = 3
       · have ok : okE x = (decide (x.op = 0) && decide (x.a = 0) && decide (x.b = 0) && inB x.n 1 6) := by unfold okE; rw [if_neg k0, if_neg k1, if_neg k2]
         rw [if_pos k3, if_pos (.inr (.inr (.inr k3))), ok]
         rw [show manyE x.kind = 0 by unfold manyE; rw [k3]; rfl]
         rw [J60x15xeq, J60x16xeq, and_dup]
         exact J 0 _
       · rw [if_neg k3, if_neg (by simp [k0, k1, k2, k3])]
end Go.Proofs.Ytnmdadadjneaiaa.D
