/- Live ranges in memory; lists under swaps; sorted parts. -/
import Derived.Test.YtnmdadadjneaiaaDRs
import Derived.Test.YtnmdadadjneaiaaDGen7
set_option linter.unusedVariables false
set_option linter.unusedSimpArgs false
namespace Go.Proofs.Ytnmdadadjneaiaa.D
open Go Go.Proofs.Ytnmdadadjneaiaa.Abs Go.Proofs
structure Rg where
 r : Int
 b : Int
 e : Int
 s : Bool
deriving DecidableEq
def rgC (x : Rg) : List AV := [.int .i64 x.r, .int .i64 x.b, .int .i64 x.e, .bool x.s]
theorem rg_len (x : Rg) : (rgC x).length = 4 := rfl
theorem rg_flat (x : Rg) : flatL (rgC x) = true := rfl
theorem splice_zero : ∀ (ys m b : List AV), ys.length = m.length → splice 0 ys (m ++ b) = ys ++ b
 | [], [], b, _ => by simp [splice]
 | y :: ys, z :: m, b, h => by
  have := splice_zero ys m b (by simpa using h)
  show splice 0 (y :: ys) (z :: (m ++ b)) = _
  rw [splice, this]; rfl
theorem splice_mid : ∀ (a m b ys : List AV), ys.length = m.length → splice a.length ys (a ++ (m ++ b)) = a ++ (ys ++ b)
 | [], m, b, ys, h => splice_zero ys m b h
 | z :: a, m, b, [], h => by
  have : m = [] := List.length_eq_zero_iff.1 h.symm
  subst this
  simp [splice]
 | z :: a, m, b, y :: ys, h => by
  have := splice_mid a m b (y :: ys) h
  show splice (a.length + 1) (y :: ys) (z :: (a ++ (m ++ b))) = _
  rw [splice, this]; rfl
theorem rs_set {α : Type} {f : α → List AV} {es : Nat} (hf : ∀ x, (f x).length = es) (ff : ∀ x, flatL (f x) = true) {h : Heap} {b v n : Nat} {l : List α} (H : RS h (.pos ⟨b, v, 0⟩) n es (l.flatMap f)) (hn : l.length = n) {i : Nat} (hi : i < n) (y : α) :
 ∃ h', stN h ⟨b, v, 0 + i * es⟩ (f y) = some h' ∧ RS h' (.pos ⟨b, v, 0⟩) n es ((l.set i y).flatMap f) ∧ Kp (· = b) h h' ∧ h'.length = h.length := by
 obtain ⟨h1, h2, ⟨h3, _⟩ | ⟨b', v', c, e, hb, h4, h5⟩⟩ := H
 · cases h3
 cases e
 obtain ⟨x, hx⟩ := at_lt (l := l) (i := i) (by omega)
 have hl : l = l.take i ++ x :: l.drop (i + 1) := by rw [← drop_at hx, List.take_append_drop]
 have len : ∀ l : List α, (l.flatMap f).length = l.length * es := fun l => by
  induction l with
  | nil => simp
  | cons z l ih => rw [List.flatMap_cons, List.length_append, hf, ih, List.length_cons, Nat.succ_mul]; omega
 have tl : ((l.take i).flatMap f).length = i * es := by rw [len, List.length_take, Nat.min_eq_left (by omega)]
 have hc : c = (l.take i).flatMap f ++ (f x ++ ((l.drop (i + 1)).flatMap f ++ c.drop (n * es))) := by
  have e : l.flatMap f = (l.take i).flatMap f ++ (f x ++ (l.drop (i + 1)).flatMap f) := by
   conv => lhs; rw [hl]
   simp only [List.flatMap_append, List.flatMap_cons]
  have e2 := List.take_append_drop (n * es) c
  rw [h5, e] at e2
  rw [← e2]
  simp only [List.append_assoc]
  congr 3
  have : ((l.take i).flatMap f ++ (f x ++ (l.drop (i + 1)).flatMap f)).length = n * es := by rw [← e]; exact h1
  rw [← List.append_assoc, ← List.append_assoc, List.drop_left']
  simp only [List.append_assoc]
  exact this
 have hs : l.set i y = l.take i ++ y :: l.drop (i + 1) := by
  rw [List.set_eq_take_append_cons_drop, if_pos (by omega)]
 have sp : splice (0 + i * es) (f y) c = (l.set i y).flatMap f ++ c.drop (n * es) := by
  rw [Nat.zero_add, ← tl]
  conv => lhs; rw [hc]
  rw [splice_mid _ _ _ _ (by rw [hf, hf]), hs]
  simp [List.flatMap_append, List.flatMap_cons]
 have len2 : ((l.set i y).flatMap f).length = n * es := by rw [len, List.length_set, hn]
 have hie : i * es + es ≤ n * es := by rw [← Nat.succ_mul]; exact Nat.mul_le_mul_right _ (by omega)
 refine ⟨h.set b (.cells (splice (0 + i * es) (f y) c) (.grow es) v), ?_, ⟨len2, rows_flat ff _, .inr ⟨b, v, _, rfl, set_same hb, ?_, ?_⟩⟩, kp_set _ _ _ _ rfl, by simp⟩
 · simp only [stN, hb]
   rw [if_pos ⟨trivial, by simp, by rw [hf]; omega⟩]
 · rw [sp, List.length_append]; omega
 · rw [sp, List.take_left' len2]
def kb (o : Option Rg) : Int := match o with
 | some x => x.b
 | none => 0
def ky (l : List Rg) (p : Nat) : Int := kb l[p]?
def Srt (l : List Rg) (a b : Nat) : Prop := ∀ p q, a ≤ p → p < q → q < b → ky l p ≤ ky l q
def swp {α : Type} (i j : Nat) (K : Nat → α) (p : Nat) : α := if p = i then K j else if p = j then K i else K p
theorem swap_get {l : List Rg} {i j : Nat} {x y : Rg} (hi : l[i]? = some x) (hj : l[j]? = some y) (p : Nat) : ((l.set i y).set j x)[p]? = swp i j (fun p => l[p]?) p := by
 have li := (List.getElem?_eq_some_iff.1 hi).1
 have lj := (List.getElem?_eq_some_iff.1 hj).1
 unfold swp
 by_cases e2 : p = j
 · rw [e2, List.getElem?_set_self (by rw [List.length_set]; exact lj)]
   by_cases e1 : j = i
   · rw [if_pos e1, ← hi, e1]
   · rw [if_neg e1, if_pos rfl]; exact hi.symm
 · rw [List.getElem?_set_ne (Ne.symm e2)]
   by_cases e1 : p = i
   · rw [e1, List.getElem?_set_self li, if_pos rfl]; exact hj.symm
   · rw [List.getElem?_set_ne (Ne.symm e1), if_neg e1, if_neg e2]
structure Rear (a b : Nat) (l l' : List Rg) : Prop where
 len : l'.length = l.length
 out : ∀ p : Nat, p < a ∨ b ≤ p → l'[p]? = l[p]?
 mem : ∀ p : Nat, a ≤ p → p < b → ∃ q, a ≤ q ∧ q < b ∧ l'[p]? = l[q]?
 perm : l'.Perm l
theorem Rear.refl (a b : Nat) (l : List Rg) : Rear a b l l := ⟨rfl, fun _ _ => rfl, fun p h1 h2 => ⟨p, h1, h2, rfl⟩, .refl _⟩
theorem Rear.trans {a b : Nat} {l l' l'' : List Rg} (h1 : Rear a b l l') (h2 : Rear a b l' l'') : Rear a b l l'' :=
 ⟨h2.len.trans h1.len, fun p hp => (h2.out p hp).trans (h1.out p hp), fun p hp hq => by
  obtain ⟨q, q1, q2, q3⟩ := h2.mem p hp hq
  obtain ⟨t, t1, t2, t3⟩ := h1.mem q q1 q2
  exact ⟨t, t1, t2, q3.trans t3⟩, h2.perm.trans h1.perm⟩
theorem Rear.wide {a b a' b' : Nat} {l l' : List Rg} (h : Rear a b l l') (h1 : a' ≤ a) (h2 : b ≤ b') : Rear a' b' l l' :=
 ⟨h.len, fun p hp => h.out p (by omega), fun p hp hq => by
  by_cases hc : a ≤ p ∧ p < b
  · obtain ⟨q, q1, q2, q3⟩ := h.mem p hc.1 hc.2
    exact ⟨q, by omega, by omega, q3⟩
  · exact ⟨p, hp, hq, h.out p (by omega)⟩, h.perm⟩
theorem Rear.swap {l : List Rg} {a b i j : Nat} {x y : Rg} (hi : l[i]? = some x) (hj : l[j]? = some y) (i1 : a ≤ i ∧ i < b) (j1 : a ≤ j ∧ j < b) : Rear a b l ((l.set i y).set j x) := by
 have gt := swap_get hi hj
 refine ⟨by rw [List.length_set, List.length_set], fun p hp => ?_, fun p hp hq => ?_, ?_⟩
 · rw [gt]
   unfold swp
   rw [if_neg (by omega), if_neg (by omega)]
 · rw [gt]
   unfold swp
   split
   · exact ⟨j, j1.1, j1.2, rfl⟩
   · split
     · exact ⟨i, i1.1, i1.2, rfl⟩
     · exact ⟨p, hp, hq, rfl⟩
 · have li := (List.getElem?_eq_some_iff.1 hi)
   have lj := (List.getElem?_eq_some_iff.1 hj)
   obtain ⟨li, ei⟩ := li
   obtain ⟨lj, ej⟩ := lj
   rw [List.perm_iff_count]
   intro z
   by_cases hij : i = j
   · subst hij
     have : (l.set i y).set i x = l := by
      apply List.ext_getElem?
      intro p
      rw [gt]
      unfold swp
      by_cases e : p = i
      · rw [if_pos e, e]
      · rw [if_neg e, if_neg e]
     rw [this]
   · have lj' : j < (l.set i y).length := by rw [List.length_set]; exact lj
     rw [List.count_set (h := lj'), List.count_set (h := li)]
     have e1 : (l.set i y)[j] = y := by rw [List.getElem_set_ne hij, ej]
     have cx : 0 < l.count x := List.count_pos_iff.2 (List.mem_of_getElem? hi)
     have cy : 0 < l.count y := List.count_pos_iff.2 (List.mem_of_getElem? hj)
     rw [e1, ei]
     by_cases zx : x = z
     · by_cases zy : y = z
       · subst zx; subst zy; simp; omega
       · subst zx; simp [zy]; omega
     · by_cases zy : y = z
       · subst zy; simp [zx]
       · simp [zx, zy]
theorem Rear.ky_out {a b : Nat} {l l' : List Rg} (h : Rear a b l l') {p : Nat} (hp : p < a ∨ b ≤ p) : ky l' p = ky l p := by unfold ky; rw [h.out p hp]
theorem Rear.ky_mem {a b : Nat} {l l' : List Rg} (h : Rear a b l l') {p : Nat} (h1 : a ≤ p) (h2 : p < b) : ∃ q, a ≤ q ∧ q < b ∧ ky l' p = ky l q := by
 obtain ⟨q, q1, q2, q3⟩ := h.mem p h1 h2
 exact ⟨q, q1, q2, by unfold ky; rw [q3]⟩
theorem comp_ok (a b : Int) (h : Heap) : ∃ c : Int, E 69 [.int .i64 a, .int .i64 b] h = some (.int .i64 c, h) ∧ (c < 0 ↔ a < b) := by
 have n1 : ∀ x : Int, E 93 [.int .i64 x] h = some (.bool false, h) := fun x => by rw [e93, letK_eq]; simp
 rw [e69, n1, Option.bind_some, gB_of, n1, Option.bind_some, gB_of]
 simp only [Bool.false_eq_true, if_false, letK_eq, decide_eq_true_eq]
 by_cases h1 : a < b
 · rw [if_pos h1]; exact ⟨-1, rfl, by omega⟩
 · rw [if_neg h1]
   by_cases h2 : b < a
   · rw [if_pos h2]; exact ⟨1, rfl, by omega⟩
   · rw [if_neg h2]; exact ⟨0, rfl, by omega⟩
theorem cmp_ok (x y : Rg) (h : Heap) : ∃ c : Int, E 68 [.agg (rgC x), .agg (rgC y)] h = some (.int .i64 c, h) ∧ (c < 0 ↔ x.b < y.b) := by
 obtain ⟨c, h1, h2⟩ := comp_ok x.b y.b h
 refine ⟨c, ?_, h2⟩
 unfold rgC
 rw [e68, h1, Option.bind_some, gI_of]
structure SL (h : Heap) (b v n : Nat) (l : List Rg) : Prop where
 m : RS h (.pos ⟨b, v, 0⟩) n 4 (l.flatMap rgC)
 ll : l.length = n
theorem SL.get {h : Heap} {b v n : Nat} {l : List Rg} (H : SL h b v n l) {i : Nat} {x : Rg} (hi : l[i]? = some x) : ldN h ⟨b, v, 0 + i * 4⟩ 4 = some (rgC x) := by
 obtain ⟨a, ha, la⟩ := vs_ld (rs_vs rg_len H.ll H.m) rg_flat i x hi
 cases ha
 exact la
theorem SL.set {h : Heap} {b v n : Nat} {l : List Rg} (H : SL h b v n l) {i : Nat} (hi : i < n) (y : Rg) : ∃ h', stN h ⟨b, v, 0 + i * 4⟩ (rgC y) = some h' ∧ SL h' b v n (l.set i y) ∧ Kp (· = b) h h' ∧ h'.length = h.length := by
 obtain ⟨h', s1, s2, s3, s4⟩ := rs_set rg_len rg_flat H.m H.ll hi y
 exact ⟨h', s1, ⟨s2, by rw [List.length_set]; exact H.ll⟩, s3, s4⟩
theorem SL.swap {h : Heap} {b v n : Nat} {l : List Rg} (H : SL h b v n l) {i j : Nat} {x y : Rg} (hi : l[i]? = some x) (hj : l[j]? = some y) :
 ∃ h1 h2, stN h ⟨b, v, 0 + i * 4⟩ (rgC y) = some h1 ∧ stN h1 ⟨b, v, 0 + j * 4⟩ (rgC x) = some h2 ∧ SL h2 b v n ((l.set i y).set j x) ∧ Kp (· = b) h h2 ∧ h2.length = h.length := by
 have li := (List.getElem?_eq_some_iff.1 hi).1
 have lj := (List.getElem?_eq_some_iff.1 hj).1
 have := H.ll
 obtain ⟨h1, s1, s2, s3, s4⟩ := H.set (i := i) (by omega) y
 obtain ⟨h2, t1, t2, t3, t4⟩ := s2.set (i := j) (by omega) x
 exact ⟨h1, h2, s1, t1, t2, s3.trans t3, by omega⟩
end Go.Proofs.Ytnmdadadjneaiaa.D
/- slices: insertion sort, swapped stretches, rotation. -/
set_option linter.unusedVariables false
set_option linter.unusedSimpArgs false
namespace Go.Proofs.Ytnmdadadjneaiaa.D
open Go Go.Proofs.Ytnmdadadjneaiaa.Abs Go.Proofs
theorem ky_swap {l : List Rg} {i j : Nat} {x y : Rg} (hi : l[i]? = some x) (hj : l[j]? = some y) (p : Nat) : ky ((l.set i y).set j x) p = swp i j (ky l) p := by
 unfold ky
 rw [swap_get hi hj]
 unfold swp
 split
 · rfl
 · split <;> rfl
theorem ky_at {l : List Rg} {i : Nat} {x : Rg} (h : l[i]? = some x) : ky l i = x.b := by unfold ky kb; rw [h]
theorem ins_in {h0 : Heap} {b v n a i : Nat} (hn : n ≤ 1000000) (hin : i < n) (i2 : Int) (Q : Kont (AV × Heap)) :
 ∀ (j : Nat), a ≤ j → j ≤ i → ∀ (h : Heap) (l : List Rg), SL h b v n l → (∀ p q, a ≤ p → p < q → q ≤ i → p ≠ j → q ≠ j → ky l p ≤ ky l q) → (∀ q, j < q → q ≤ i → ky l j ≤ ky l q) →
  ∃ h' l', L97x11 mk0 E (.pos ⟨b, v, 0⟩) n ((a : Nat) : Int) i2 (.fn 68 [] []) ((i : Nat) : Int) ((j : Nat) : Int) h Q = Q (.exit 2) (S97xe2 (.pos ⟨b, v, 0⟩) n ((a : Nat) : Int) i2 (.fn 68 [] []) ((i : Nat) : Int) h') ∧ SL h' b v n l' ∧ Kp (· = b) h h' ∧ h'.length = h.length ∧ Rear a (i + 1) l l' ∧ Srt l' a (i + 1) := by
 intro j
 induction j with
 | zero =>
  intro haj hji h l H A B
  obtain ⟨x, hx⟩ := at_lt (l := l) (i := 0) (by have := H.ll; omega)
  obtain ⟨c, cm, cc⟩ := cmp_ok x x h
  have g1 := H.get hx
  unfold rgC at g1 cm
  rw [L97x11xeq, letK_eq, chk_of (by intro hh; simp at hh; omega), adP_pos, atP_of, atP_of, show Int.toNat ((0 : Nat) : Int) = 0 from rfl, add_mk, g1, gCells_of]
  simp only [List.getElem?_cons_zero, List.getElem?_cons_succ]
  rw [gI_of, gI_of, gI_of, gB_of, letK_eq, wrap64 (by omega) (by omega), chk_of (by intro hh; simp at hh; omega), atP_of, atP_of, show Int.toNat (((0 : Nat) : Int) - 1) = 0 from rfl, add_mk, g1, gCells_of]
  simp only [List.getElem?_cons_zero, List.getElem?_cons_succ]
  rw [gI_of, gI_of, gI_of, gB_of, fn_nil, decide_eq_false (show ¬ ((a : Nat) : Int) < ((0 : Nat) : Int) by omega), callO_false, Option.bind_some, gI_of, letK_eq, letK_eq, if_neg (by simp)]
  refine ⟨h, l, rfl, H, Kp.refl _ _, rfl, .refl _ _ _, fun p q h1 h2 h3 => ?_⟩
  by_cases hp : p = 0
  · rw [hp]; exact B q (by omega) (by omega)
  · exact A p q h1 h2 (by omega) hp (by omega)
 | succ j ih =>
  intro haj hji h l H A B
  obtain ⟨x, hx⟩ := at_lt (l := l) (i := j + 1) (by have := H.ll; omega)
  obtain ⟨y, hy⟩ := at_lt (l := l) (i := j) (by have := H.ll; omega)
  obtain ⟨c, cm, cc⟩ := cmp_ok x y h
  have g1 := H.get hx
  have g2 := H.get hy
  have kx := ky_at hx
  have ky' := ky_at hy
  unfold rgC at g1 g2 cm
  have ej : Int.toNat (((j + 1 : Nat) : Int) - 1) = j := by omega
  have w1 : IntKind.wrap .i64 (((j + 1 : Nat) : Int) - 1) = ((j : Nat) : Int) := by rw [wrap64 (by omega) (by omega)]; omega
  rw [L97x11xeq, letK_eq, chk_of (by intro _; omega), adP_pos, atP_of, atP_of, Int.toNat_natCast, add_mk, g1, gCells_of]
  simp only [List.getElem?_cons_zero, List.getElem?_cons_succ]
  rw [gI_of, gI_of, gI_of, gB_of, letK_eq, w1, chk_of (by intro _; omega), atP_of, atP_of, Int.toNat_natCast, add_mk, g2, gCells_of]
  simp only [List.getElem?_cons_zero, List.getElem?_cons_succ]
  rw [gI_of, gI_of, gI_of, gB_of, fn_nil]
  by_cases hlt : a < j + 1
  · have cm' : E 68 ([] ++ [.agg [.int .i64 x.r, .int .i64 x.b, .int .i64 x.e, .bool x.s], .agg [.int .i64 y.r, .int .i64 y.b, .int .i64 y.e, .bool y.s]] ++ []) h = some (.int .i64 c, h) := cm
    rw [decide_eq_true (show ((a : Nat) : Int) < ((j + 1 : Nat) : Int) by omega), callO_true, cm', Option.bind_some, gI_of, letK_eq, letK_eq, if_pos (show true = true from rfl)]
    by_cases hc : c < 0
    · have lt := cc.1 hc
      obtain ⟨h1, h2, s1, s2, s3, s4, s5⟩ := H.swap hx hy
      unfold rgC at s1 s2
      have kk := ky_swap hx hy
      obtain ⟨h3, l3, r1, r2, r3, r4, r5, r6⟩ := ih (by omega) (by omega) h2 _ s3 (fun p q p1 p2 p3 p4 p5 => by
       rw [kk, kk]
       unfold swp
       by_cases e1 : p = j + 1
       · rw [if_pos e1, if_neg (by omega), if_neg p5]
         exact A j q (by omega) (by omega) p3 (by omega) (by omega)
       · rw [if_neg e1, if_neg p4]
         by_cases e2 : q = j + 1
         · rw [if_pos e2]
           exact A p j p1 (by omega) (by omega) (by omega) (by omega)
         · rw [if_neg e2, if_neg p5]
           exact A p q p1 p2 p3 e1 e2) (fun q q1 q2 => by
       rw [kk, kk]
       unfold swp
       rw [if_neg (by omega), if_pos rfl]
       by_cases e : q = j + 1
       · rw [if_pos e]; omega
       · rw [if_neg e, if_neg (by omega)]
         exact B q (by omega) q2)
      rw [if_pos (decide_eq_true hc), letK_eq, letK_eq, chk_of (by intro _; omega), atP_of, Int.toNat_natCast, add_mk, g2, gCells_of]
      simp only [List.getElem?_cons_zero, List.getElem?_cons_succ]
      rw [gI_of, gI_of, gI_of, gB_of, chk_of (by intro _; omega), atP_of, add_mk, g1, gCells_of]
      simp only [List.getElem?_cons_zero, List.getElem?_cons_succ]
      rw [gI_of, gI_of, gI_of, gB_of, chk_of (by intro _; omega), atP_of, add_mk, s1, Option.bind_some, chk_of (by intro _; omega), atP_of, add_mk, s2, Option.bind_some, letK_eq, r1]
      exact ⟨h3, l3, rfl, r2, s4.trans r3, by omega, (Rear.swap hx hy (by omega) (by omega)).trans r5, r6⟩
    · have ge : ¬ x.b < y.b := fun h => hc (cc.2 h)
      rw [if_neg (by simpa using hc)]
      refine ⟨h, l, rfl, H, Kp.refl _ _, rfl, .refl _ _ _, fun p q h1 h2 h3 => ?_⟩
      by_cases hp : p = j + 1
      · rw [hp]; exact B q (by omega) (by omega)
      · by_cases hq : q = j + 1
        · rw [hq]
          by_cases hpj : p = j
          · rw [hpj]; omega
          · have := A p j h1 (by omega) (by omega) hp (by omega)
            omega
        · exact A p q h1 h2 (by omega) hp hq
  · have : a = j + 1 := by omega
    rw [decide_eq_false (show ¬ ((a : Nat) : Int) < ((j + 1 : Nat) : Int) by omega), callO_false, Option.bind_some, gI_of, letK_eq, letK_eq, if_neg (by simp)]
    refine ⟨h, l, rfl, H, Kp.refl _ _, rfl, .refl _ _ _, fun p q h1 h2 h3 => ?_⟩
    by_cases hp : p = j + 1
    · rw [hp]; exact B q (by omega) (by omega)
    · exact A p q h1 h2 (by omega) hp (by omega)
theorem ins_out {b v n a m : Nat} (hn : n ≤ 1000000) (hmn : m ≤ n) (Q : Kont (AV × Heap)) :
 ∀ (k i : Nat), m ≤ i + k → a < i → ∀ (h : Heap) (l : List Rg), SL h b v n l → Srt l a (min i m) →
  ∃ h' l', L97x2 mk0 E (.pos ⟨b, v, 0⟩) n ((a : Nat) : Int) ((m : Nat) : Int) (.fn 68 [] []) ((i : Nat) : Int) h Q = Q (.exit 0) (S97xe0 h') ∧ SL h' b v n l' ∧ Kp (· = b) h h' ∧ h'.length = h.length ∧ Rear a m l l' ∧ Srt l' a m := by
 have out : ∀ i : Nat, m ≤ i → ∀ (h : Heap) (l : List Rg), SL h b v n l → Srt l a (min i m) →
  ∃ h' l', L97x2 mk0 E (.pos ⟨b, v, 0⟩) n ((a : Nat) : Int) ((m : Nat) : Int) (.fn 68 [] []) ((i : Nat) : Int) h Q = Q (.exit 0) (S97xe0 h') ∧ SL h' b v n l' ∧ Kp (· = b) h h' ∧ h'.length = h.length ∧ Rear a m l l' ∧ Srt l' a m := fun i hi h l H A => by
  rw [L97x2xeq, letK_eq, if_neg (by simp; omega)]
  rw [Nat.min_eq_right hi] at A
  exact ⟨h, l, rfl, H, Kp.refl _ _, rfl, .refl _ _ _, A⟩
 intro k
 induction k with
 | zero => intro i hk hai h l H A; exact out i (by omega) h l H A
 | succ k ih =>
  intro i hk hai h l H A
  by_cases hi : m ≤ i
  · exact out i hi h l H A
  · rw [Nat.min_eq_left (by omega)] at A
    obtain ⟨h1, l1, r1, r2, r3, r4, r5, r6⟩ := ins_in (h0 := h) hn (show i < n by omega) ((m : Nat) : Int) (Q97x11 mk0 E Q) i (by omega) (Nat.le_refl _) h l H (fun p q h1 h2 h3 h4 h5 => A p q h1 h2 (by omega)) (fun q h1 h2 => by omega)
    obtain ⟨h2, l2, u1, u2, u3, u4, u5, u6⟩ := ih (i + 1) (by omega) (by omega) h1 l1 r2 (by rw [Nat.min_eq_left (by omega)]; exact r6)
    rw [L97x2xeq, letK_eq, if_pos (by simp; omega), r1, X97x11xe2, letK_eq, wrap64 (by omega) (by omega), show ((i : Int) + 1) = ((i + 1 : Nat) : Int) by omega, u1]
    exact ⟨h2, l2, rfl, u2, r3.trans u3, by omega, (r5.wide (Nat.le_refl _) (by omega)).trans u5, u6⟩
theorem insort_ok {h : Heap} {b v n a m : Nat} {l : List Rg} (H : SL h b v n l) (hn : n ≤ 1000000) (ham : a ≤ m) (hmn : m ≤ n) :
 ∃ h' l', E 97 [.sl (.pos ⟨b, v, 0⟩) n, .int .i64 a, .int .i64 m, .fn 68 [] []] h = some (.tup [], h') ∧ SL h' b v n l' ∧ Kp (· = b) h h' ∧ h'.length = h.length ∧ Rear a m l l' ∧ Srt l' a m := by
 obtain ⟨h1, l1, r1, r2⟩ := ins_out (a := a) hn hmn (Q97x2 mk0 E) m (a + 1) (by omega) (by omega) h l H (fun p q h1 h2 h3 => by omega)
 refine ⟨h1, l1, ?_, r2⟩
 rw [e97, letK_eq, wrap64 (by omega) (by omega), show ((a : Int) + 1) = ((a + 1 : Nat) : Int) by omega, r1, X97x2xe0]
theorem swr_loop {b v n a m c : Nat} (hn : n ≤ 1000000) (ham : a + c ≤ m) (hmn : m + c ≤ n) (Q : Kont (AV × Heap)) :
 ∀ (k i : Nat), i + k = c → ∀ (h : Heap) (l : List Rg), SL h b v n l →
  ∃ h' l', L102x2 mk0 E (.pos ⟨b, v, 0⟩) n ((a : Nat) : Int) ((m : Nat) : Int) ((c : Nat) : Int) ((i : Nat) : Int) h Q = Q (.exit 0) (S102xe0 h') ∧ SL h' b v n l' ∧ Kp (· = b) h h' ∧ h'.length = h.length ∧ Rear a (m + c) l l' ∧
   ∀ p, ky l' p = if a + i ≤ p ∧ p < a + c then ky l (p + (m - a)) else if m + i ≤ p ∧ p < m + c then ky l (p - (m - a)) else ky l p := by
 intro k
 induction k with
 | zero =>
  intro i hi h l H
  rw [L102x2xeq, letK_eq, if_neg (by simp; omega)]
  exact ⟨h, l, rfl, H, Kp.refl _ _, rfl, .refl _ _ _, fun p => by rw [if_neg (by omega), if_neg (by omega)]⟩
 | succ k ih =>
  intro i hi h l H
  obtain ⟨x, hx⟩ := at_lt (l := l) (i := a + i) (by have := H.ll; omega)
  obtain ⟨y, hy⟩ := at_lt (l := l) (i := m + i) (by have := H.ll; omega)
  have g1 := H.get hx
  have g2 := H.get hy
  obtain ⟨h1, h2, s1, s2, s3, s4, s5⟩ := H.swap hx hy
  have kk := ky_swap hx hy
  obtain ⟨h3, l3, r1, r2, r3, r4, r5, r6⟩ := ih (i + 1) (by omega) h2 _ s3
  unfold rgC at g1 g2 s1 s2
  rw [L102x2xeq, letK_eq, if_pos (by simp; omega), letK_eq, wrap64 (x := (a : Int) + (i : Int)) (by omega) (by omega), letK_eq, wrap64 (x := (m : Int) + (i : Int)) (by omega) (by omega), letK_eq, show ((a : Int) + (i : Int)) = ((a + i : Nat) : Int) by omega, show ((m : Int) + (i : Int)) = ((m + i : Nat) : Int) by omega, chk_of (by intro _; omega), adP_pos, atP_of, Int.toNat_natCast, add_mk, g2, gCells_of]
  simp only [List.getElem?_cons_zero, List.getElem?_cons_succ]
  rw [gI_of, gI_of, gI_of, gB_of, letK_eq, chk_of (by intro _; omega), atP_of, Int.toNat_natCast, add_mk, g1, gCells_of]
  simp only [List.getElem?_cons_zero, List.getElem?_cons_succ]
  rw [gI_of, gI_of, gI_of, gB_of, chk_of (by intro _; omega), atP_of, add_mk, s1, Option.bind_some, chk_of (by intro _; omega), atP_of, add_mk, s2, Option.bind_some, letK_eq, wrap64 (x := (i : Int) + 1) (by omega) (by omega), show ((i : Int) + 1) = ((i + 1 : Nat) : Int) by omega, r1]
  refine ⟨h3, l3, rfl, r2, s4.trans r3, by omega, (Rear.swap hx hy (by omega) (by omega)).trans r5, fun p => ?_⟩
  rw [r6]
  simp only [kk]
  unfold swp
  by_cases c1 : a + i ≤ p ∧ p < a + c
  · rw [if_pos c1]
    by_cases e : p = a + i
    · rw [if_neg (by omega), if_neg (by omega), if_pos e, e, show a + i + (m - a) = m + i by omega]
    · rw [if_pos (by omega), if_neg (by omega), if_neg (by omega)]
  · rw [if_neg c1, if_neg (by omega)]
    by_cases c2 : m + i ≤ p ∧ p < m + c
    · rw [if_pos c2]
      by_cases e : p = m + i
      · rw [if_neg (by omega), if_neg (by omega), if_pos e, e, show m + i - (m - a) = a + i by omega]
      · rw [if_pos (by omega), if_neg (by omega), if_neg (by omega)]
    · rw [if_neg c2, if_neg (by omega), if_neg (by omega), if_neg (by omega)]
theorem swr_ok {h : Heap} {b v n a m c : Nat} {l : List Rg} (H : SL h b v n l) (hn : n ≤ 1000000) (ham : a + c ≤ m) (hmn : m + c ≤ n) :
 ∃ h' l', E 102 [.sl (.pos ⟨b, v, 0⟩) n, .int .i64 a, .int .i64 m, .int .i64 c, .fn 68 [] []] h = some (.tup [], h') ∧ SL h' b v n l' ∧ Kp (· = b) h h' ∧ h'.length = h.length ∧ Rear a (m + c) l l' ∧
  ∀ p, ky l' p = if a ≤ p ∧ p < a + c then ky l (p + (m - a)) else if m ≤ p ∧ p < m + c then ky l (p - (m - a)) else ky l p := by
 obtain ⟨h1, l1, r1, r2⟩ := swr_loop hn ham hmn (Q102x2 mk0 E) c 0 (by omega) h l H
 rw [show (((0 : Nat) : Int)) = 0 from rfl] at r1
 exact ⟨h1, l1, by rw [e102, r1, X102x2xe0], r2⟩
def Rot (F : Nat → Int) (l : List Rg) (m i j : Nat) : Prop :=
 (∀ p, p < m - i ∨ m + j ≤ p → F p = ky l p) ∧ ∀ p, m - i ≤ p → p < m + j → F p = if p < m - i + j then ky l (p + i) else ky l (p - j)
theorem rot_loop {b v n m : Nat} (hn : n ≤ 1000000) (F : Nat → Int) {a0 b0 : Nat} (Q : Kont (AV × Heap)) :
 ∀ (N i j : Nat), i + j ≤ N → 0 < i → 0 < j → i ≤ m → a0 ≤ m - i → m + j ≤ b0 → b0 ≤ n → ∀ (h : Heap) (l : List Rg), SL h b v n l → Rot F l m i j →
  ∃ h' l', ∃ k : Nat, L100x4 mk0 E (.pos ⟨b, v, 0⟩) n ((m : Nat) : Int) (.fn 68 [] []) ((i : Nat) : Int) ((j : Nat) : Int) h Q = Q (.exit 0) (S100xe0 (.pos ⟨b, v, 0⟩) n ((m : Nat) : Int) (.fn 68 [] []) ((k : Nat) : Int) h') ∧ SL h' b v n l' ∧ Kp (· = b) h h' ∧ h'.length = h.length ∧ Rear a0 b0 l l' ∧ Rot F l' m k k ∧ 0 < k ∧ k ≤ m ∧ a0 ≤ m - k ∧ m + k ≤ b0 := by
 intro N
 induction N with
 | zero => intro i j hN hi; omega
 | succ N ih =>
  intro i j hN hi hj him ha hb hbn h l H R
  by_cases he : i = j
  · subst he
    rw [L100x4xeq, letK_eq, if_neg (by simp)]
    exact ⟨h, l, i, rfl, H, Kp.refl _ _, rfl, .refl _ _ _, R, hi, him, ha, hb⟩
  · rw [L100x4xeq, letK_eq, if_pos (by simp; omega), letK_eq]
    by_cases hlt : j < i
    · obtain ⟨h1, l1, r1, r2, r3, r4, r5, r6⟩ := swr_ok (a := m - i) (m := m) (c := j) H hn (by omega) (by omega)
      obtain ⟨h2, l2, k, u1, u2, u3, u4, u5, u6⟩ := ih (i - j) j (by omega) (by omega) hj (by omega) (by omega) hb hbn h1 l1 r2 (by
       obtain ⟨R1, R2⟩ := R
       refine ⟨fun p hp => ?_, fun p p1 p2 => ?_⟩
       · rw [r6]
         by_cases c1 : m - i ≤ p ∧ p < m - i + j
         · rw [if_pos c1, R2 p c1.1 (by omega), if_pos c1.2, show p + (m - (m - i)) = p + i by omega]
         · rw [if_neg c1, if_neg (by omega)]
           exact R1 p (by omega)
       · rw [R2 p (by omega) (by omega), if_neg (by omega), r6, r6]
         by_cases c1 : p < m - (i - j) + j
         · rw [if_pos c1, if_neg (by omega), if_pos (by omega), show p + (i - j) - (m - (m - i)) = p - j by omega]
         · rw [if_neg c1, if_neg (by omega), if_neg (by omega)])
      rw [if_pos (decide_eq_true (by omega)), letK_eq, wrap64 (x := (m : Int) - (i : Int)) (by omega) (by omega), show ((m : Int) - (i : Int)) = ((m - i : Nat) : Int) by omega, r1, Option.bind_some, gT0_of, letK_eq, wrap64 (x := (i : Int) - (j : Int)) (by omega) (by omega), J100x14xeq, show ((i : Int) - (j : Int)) = ((i - j : Nat) : Int) by omega, u1]
      exact ⟨h2, l2, k, rfl, u2, r3.trans u3, by omega, (r5.wide (by omega) (by omega)).trans u5, u6⟩
    · obtain ⟨h1, l1, r1, r2, r3, r4, r5, r6⟩ := swr_ok (a := m - i) (m := m + j - i) (c := i) H hn (by omega) (by omega)
      obtain ⟨h2, l2, k, u1, u2, u3, u4, u5, u6⟩ := ih i (j - i) (by omega) hi (by omega) him ha (by omega) hbn h1 l1 r2 (by
       obtain ⟨R1, R2⟩ := R
       refine ⟨fun p hp => ?_, fun p p1 p2 => ?_⟩
       · rw [r6]
         by_cases c1 : m + j - i ≤ p ∧ p < m + j
         · rw [if_neg (by omega), if_pos (by omega), R2 p (by omega) (by omega), if_neg (by omega), show p - (m + j - i - (m - i)) = p - j by omega]
         · rw [if_neg (by omega), if_neg (by omega)]
           exact R1 p (by omega)
       · rw [R2 p (by omega) (by omega), if_pos (by omega), r6, r6]
         by_cases c1 : p < m - i + (j - i)
         · rw [if_pos c1, if_neg (by omega), if_neg (by omega)]
         · rw [if_neg c1, if_pos (by omega), show p - (j - i) + (m + j - i - (m - i)) = p + i by omega])
      rw [if_neg (by simp; omega), letK_eq, wrap64 (x := (m : Int) - (i : Int)) (by omega) (by omega), letK_eq, wrap64 (x := (m : Int) + (j : Int)) (by omega) (by omega), letK_eq, wrap64 (x := (m : Int) + (j : Int) - (i : Int)) (by omega) (by omega), show ((m : Int) - (i : Int)) = ((m - i : Nat) : Int) by omega, show ((m : Int) + (j : Int) - (i : Int)) = ((m + j - i : Nat) : Int) by omega, r1, Option.bind_some, gT0_of, letK_eq, wrap64 (x := (j : Int) - (i : Int)) (by omega) (by omega), J100x14xeq, show ((j : Int) - (i : Int)) = ((j - i : Nat) : Int) by omega, u1]
      exact ⟨h2, l2, k, rfl, u2, r3.trans u3, by omega, (r5.wide (by omega) (by omega)).trans u5, u6⟩
theorem rot_ok {h : Heap} {b v n a m c : Nat} {l : List Rg} (H : SL h b v n l) (hn : n ≤ 1000000) (ham : a < m) (hmc : m < c) (hcn : c ≤ n) :
 ∃ h' l', E 100 [.sl (.pos ⟨b, v, 0⟩) n, .int .i64 a, .int .i64 m, .int .i64 c, .fn 68 [] []] h = some (.tup [], h') ∧ SL h' b v n l' ∧ Kp (· = b) h h' ∧ h'.length = h.length ∧ Rear a c l l' ∧
  ∀ p, a ≤ p → p < c → ky l' p = if p < a + (c - m) then ky l (p + (m - a)) else ky l (p - (c - m)) := by
 obtain ⟨F, eF⟩ : ∃ F : Nat → Int, F = fun p => if a ≤ p ∧ p < c then (if p < a + (c - m) then ky l (p + (m - a)) else ky l (p - (c - m))) else ky l p := ⟨_, rfl⟩
 obtain ⟨h1, l1, k, r1, r2, r3, r4, r5, r6, r7, r8, r9, r10⟩ := rot_loop (m := m) (a0 := a) (b0 := c) hn F (Q100x4 mk0 E) (m - a + (c - m)) (m - a) (c - m) (Nat.le_refl _) (by omega) (by omega) (by omega) (by omega) (by omega) hcn h l H (by
  rw [eF]
  refine ⟨fun p hp => ?_, fun p p1 p2 => ?_⟩
  · show (if _ then _ else _) = _
    rw [if_neg (by omega)]
  · show (if _ then _ else _) = _
    rw [if_pos (by omega), show m - (m - a) + (c - m) = a + (c - m) by omega])
 obtain ⟨h2, l2, s1, s2, s3, s4, s5, s6⟩ := swr_ok (a := m - k) (m := m) (c := k) r2 hn (by omega) (by omega)
 refine ⟨h2, l2, ?_, s2, r3.trans s3, by omega, r5.trans (s5.wide (by omega) (by omega)), fun p p1 p2 => ?_⟩
 · rw [e100, letK_eq, wrap64 (by omega) (by omega), letK_eq, wrap64 (by omega) (by omega), show ((m : Int) - (a : Int)) = ((m - a : Nat) : Int) by omega, show ((c : Int) - (m : Int)) = ((c - m : Nat) : Int) by omega, r1, X100x4xe0, letK_eq, wrap64 (by omega) (by omega), show ((m : Int) - (k : Int)) = ((m - k : Nat) : Int) by omega, s1, Option.bind_some, gT0_of]
 · have fp : F p = if p < a + (c - m) then ky l (p + (m - a)) else ky l (p - (c - m)) := by
    rw [eF]
    show (if _ then _ else _) = _
    rw [if_pos ⟨p1, p2⟩]
   rw [← fp, s6]
   obtain ⟨R1, R2⟩ := r6
   by_cases c1 : m - k ≤ p ∧ p < m + k
   · rw [R2 p c1.1 c1.2]
     by_cases c2 : p < m - k + k
     · rw [if_pos c2, if_pos (by omega), show p + (m - (m - k)) = p + k by omega]
     · rw [if_neg c2, if_neg (by omega), if_pos (by omega), show p - (m - (m - k)) = p - k by omega]
   · rw [R1 p (by omega), if_neg (by omega), if_neg (by omega)]
end Go.Proofs.Ytnmdadadjneaiaa.D
/- slices: symMerge, the stable sort of ranges. -/
set_option linter.unusedVariables false
set_option linter.unusedSimpArgs false
namespace Go.Proofs.Ytnmdadadjneaiaa.D
open Go Go.Proofs.Ytnmdadadjneaiaa.Abs Go.Proofs
theorem half_u (s : Nat) (h : s ≤ 4000000) : IntKind.wrap .u64 ((s : Nat) : Int) = ((s : Nat) : Int) := by
 unfold IntKind.wrap
 simp only [IntKind.bits, IntKind.signed]
 simp
 omega
theorem half_d (s : Nat) : Int.fdiv ((s : Nat) : Int) (2 ^ 1) = ((s / 2 : Nat) : Int) := by
 rw [Int.fdiv_eq_ediv_of_nonneg _ (by omega)]; omega
theorem bin1 {h : Heap} {b v n a m c : Nat} {l : List Rg} (H : SL h b v n l) (hn : n ≤ 1000000) (han : a < n) (hcn : c ≤ n) (S : Srt l m c) (Q : Kont (AV × Heap)) :
 ∀ (N i j : Nat), j - i ≤ N → m ≤ i → i ≤ j → j ≤ c → (∀ p, m ≤ p → p < i → ky l p < ky l a) → (∀ p, j ≤ p → p < c → ky l a ≤ ky l p) →
  ∃ k, m ≤ k ∧ k ≤ c ∧ (∀ p, m ≤ p → p < k → ky l p < ky l a) ∧ (∀ p, k ≤ p → p < c → ky l a ≤ ky l p) ∧ L98x7 mk0 E (.pos ⟨b, v, 0⟩) n ((a : Nat) : Int) (.fn 68 [] []) ((i : Nat) : Int) ((j : Nat) : Int) h Q = Q (.exit 0) (S98xe0 (.pos ⟨b, v, 0⟩) n ((a : Nat) : Int) ((k : Nat) : Int) h) := by
 intro N
 induction N with
 | zero =>
  intro i j hN hi hij hj A B
  have : i = j := by omega
  subst this
  rw [L98x7xeq, letK_eq, if_neg (by simp)]
  exact ⟨i, hi, hj, A, B, rfl⟩
 | succ N ih =>
  intro i j hN hi hij hj A B
  by_cases he : i = j
  · subst he
    rw [L98x7xeq, letK_eq, if_neg (by simp)]
    exact ⟨i, hi, hj, A, B, rfl⟩
  · obtain ⟨t, et⟩ : ∃ t, t = (i + j) / 2 := ⟨_, rfl⟩
    have t1 : i ≤ t := by omega
    have t2 : t < j := by omega
    obtain ⟨x, hx⟩ := at_lt (l := l) (i := t) (by have := H.ll; omega)
    obtain ⟨y, hy⟩ := at_lt (l := l) (i := a) (by have := H.ll; omega)
    have g1 := H.get hx
    have g2 := H.get hy
    obtain ⟨e, cm, cc⟩ := cmp_ok x y h
    rw [← ky_at hx, ← ky_at hy] at cc
    unfold rgC at g1 g2 cm
    have cm' : E 68 ([] ++ [.agg [.int .i64 x.r, .int .i64 x.b, .int .i64 x.e, .bool x.s], .agg [.int .i64 y.r, .int .i64 y.b, .int .i64 y.e, .bool y.s]] ++ []) h = some (.int .i64 e, h) := cm
    rw [L98x7xeq, letK_eq, if_pos (by simp; omega), letK_eq, wrap64 (by omega) (by omega), show ((i : Int) + (j : Int)) = ((i + j : Nat) : Int) by omega, letK_eq, half_u _ (by omega), letK_eq, half_d, ← et, letK_eq, wrap64 (by omega) (by omega), chk_of (by intro _; omega), adP_pos, atP_of, Int.toNat_natCast, add_mk, g1, gCells_of]
    simp only [List.getElem?_cons_zero, List.getElem?_cons_succ]
    rw [gI_of, gI_of, gI_of, gB_of, chk_of (by intro _; omega), atP_of, Int.toNat_natCast, add_mk, g2, gCells_of]
    simp only [List.getElem?_cons_zero, List.getElem?_cons_succ]
    rw [gI_of, gI_of, gI_of, gB_of, fn_nil, cm', Option.bind_some, gI_of, letK_eq]
    by_cases hc : e < 0
    · have lt := cc.1 hc
      rw [if_pos (decide_eq_true hc), letK_eq, wrap64 (by omega) (by omega), J98x16xeq, show ((t : Int) + 1) = ((t + 1 : Nat) : Int) by omega]
      refine ih (t + 1) j (by omega) (by omega) (by omega) hj (fun p h1 h2 => ?_) B
      by_cases e : p = t
      · rw [e]; exact lt
      · have := S p t h1 (by omega) (by omega); omega
    · have ge : ¬ ky l t < ky l a := fun h => hc (cc.2 h)
      rw [if_neg (by simpa using hc), J98x16xeq]
      refine ih i t (by omega) hi t1 (by omega) A (fun p h1 h2 => ?_)
      by_cases e : p = t
      · rw [e]; omega
      · have := S t p (by omega) (by omega) h2; omega
theorem bin2 {h : Heap} {b v n a m : Nat} {l : List Rg} (H : SL h b v n l) (hn : n ≤ 1000000) (hmn : m < n) (S : Srt l a m) (Q : Kont (AV × Heap)) :
 ∀ (N i j : Nat), j - i ≤ N → a ≤ i → i ≤ j → j ≤ m → (∀ p, a ≤ p → p < i → ky l p ≤ ky l m) → (∀ p, j ≤ p → p < m → ky l m < ky l p) →
  ∃ k, a ≤ k ∧ k ≤ m ∧ (∀ p, a ≤ p → p < k → ky l p ≤ ky l m) ∧ (∀ p, k ≤ p → p < m → ky l m < ky l p) ∧ L98x35 mk0 E (.pos ⟨b, v, 0⟩) n ((m : Nat) : Int) (.fn 68 [] []) ((i : Nat) : Int) ((j : Nat) : Int) h Q = Q (.exit 4) (S98xe4 (.pos ⟨b, v, 0⟩) n ((m : Nat) : Int) ((k : Nat) : Int) h) := by
 intro N
 induction N with
 | zero =>
  intro i j hN hi hij hj A B
  have : i = j := by omega
  subst this
  rw [L98x35xeq, letK_eq, if_neg (by simp)]
  exact ⟨i, hi, hj, A, B, rfl⟩
 | succ N ih =>
  intro i j hN hi hij hj A B
  by_cases he : i = j
  · subst he
    rw [L98x35xeq, letK_eq, if_neg (by simp)]
    exact ⟨i, hi, hj, A, B, rfl⟩
  · obtain ⟨t, et⟩ : ∃ t, t = (i + j) / 2 := ⟨_, rfl⟩
    have t1 : i ≤ t := by omega
    have t2 : t < j := by omega
    obtain ⟨x, hx⟩ := at_lt (l := l) (i := m) (by have := H.ll; omega)
    obtain ⟨y, hy⟩ := at_lt (l := l) (i := t) (by have := H.ll; omega)
    have g1 := H.get hx
    have g2 := H.get hy
    obtain ⟨e, cm, cc⟩ := cmp_ok x y h
    rw [← ky_at hx, ← ky_at hy] at cc
    unfold rgC at g1 g2 cm
    have cm' : E 68 ([] ++ [.agg [.int .i64 x.r, .int .i64 x.b, .int .i64 x.e, .bool x.s], .agg [.int .i64 y.r, .int .i64 y.b, .int .i64 y.e, .bool y.s]] ++ []) h = some (.int .i64 e, h) := cm
    rw [L98x35xeq, letK_eq, if_pos (by simp; omega), letK_eq, wrap64 (by omega) (by omega), show ((i : Int) + (j : Int)) = ((i + j : Nat) : Int) by omega, letK_eq, half_u _ (by omega), letK_eq, half_d, ← et, letK_eq, wrap64 (by omega) (by omega), chk_of (by intro _; omega), adP_pos, atP_of, Int.toNat_natCast, add_mk, g1, gCells_of]
    simp only [List.getElem?_cons_zero, List.getElem?_cons_succ]
    rw [gI_of, gI_of, gI_of, gB_of, chk_of (by intro _; omega), atP_of, Int.toNat_natCast, add_mk, g2, gCells_of]
    simp only [List.getElem?_cons_zero, List.getElem?_cons_succ]
    rw [gI_of, gI_of, gI_of, gB_of, fn_nil, cm', Option.bind_some, gI_of, letK_eq]
    by_cases hc : e < 0
    · have lt := cc.1 hc
      rw [if_neg (by simp [hc]), J98x44xeq]
      refine ih i t (by omega) hi t1 (by omega) A (fun p h1 h2 => ?_)
      by_cases e : p = t
      · rw [e]; exact lt
      · have := S t p (by omega) (by omega) h2; omega
    · have ge : ¬ ky l m < ky l t := fun h => hc (cc.2 h)
      rw [if_pos (by simp [hc]), letK_eq, wrap64 (by omega) (by omega), J98x44xeq, show ((t : Int) + 1) = ((t + 1 : Nat) : Int) by omega]
      refine ih (t + 1) j (by omega) (by omega) (by omega) hj (fun p h1 h2 => ?_) B
      by_cases e : p = t
      · rw [e]; omega
      · have := S p t h1 (by omega) (by omega); omega
theorem bin3 {h : Heap} {b v n a m c P lo hi : Nat} {l : List Rg} (H : SL h b v n l) (hn : n ≤ 1000000) (hcn : c ≤ n) (S1 : Srt l a m) (S2 : Srt l m c) (rg : ∀ t, lo ≤ t → t < hi → a ≤ t ∧ t < m ∧ t ≤ P ∧ m ≤ P - t ∧ P - t < c) (i18 i19 : Int) (Q : Kont (AV × Heap)) :
 ∀ (N i j : Nat), j - i ≤ N → lo ≤ i → i ≤ j → j ≤ hi → (∀ p, lo ≤ p → p < i → ky l p ≤ ky l (P - p)) → (∀ p, j ≤ p → p < hi → ky l (P - p) < ky l p) → hi ≤ 2000000 → P ≤ 2000000 →
  ∃ k, lo ≤ k ∧ k ≤ hi ∧ (∀ p, lo ≤ p → p < k → ky l p ≤ ky l (P - p)) ∧ (∀ p, k ≤ p → p < hi → ky l (P - p) < ky l p) ∧ L98x68 mk0 E (.pos ⟨b, v, 0⟩) n ((a : Nat) : Int) ((m : Nat) : Int) ((c : Nat) : Int) (.fn 68 [] []) i18 i19 ((i : Nat) : Int) ((j : Nat) : Int) ((P : Nat) : Int) h Q = Q (.exit 8) (S98xe8 (.pos ⟨b, v, 0⟩) n ((a : Nat) : Int) ((m : Nat) : Int) ((c : Nat) : Int) (.fn 68 [] []) i18 i19 ((k : Nat) : Int) h) := by
 intro N
 induction N with
 | zero =>
  intro i j hN hi' hij hj A B _ _
  have : i = j := by omega
  subst this
  rw [L98x68xeq, letK_eq, if_neg (by simp)]
  exact ⟨i, hi', hj, A, B, rfl⟩
 | succ N ih =>
  intro i j hN hi' hij hj A B hb1 hb2
  by_cases he : i = j
  · subst he
    rw [L98x68xeq, letK_eq, if_neg (by simp)]
    exact ⟨i, hi', hj, A, B, rfl⟩
  · obtain ⟨t, et⟩ : ∃ t, t = (i + j) / 2 := ⟨_, rfl⟩
    have t1 : i ≤ t := by omega
    have t2 : t < j := by omega
    obtain ⟨g3, g4, g5, g6, g7⟩ := rg t (by omega) (by omega)
    obtain ⟨x, hx⟩ := at_lt (l := l) (i := P - t) (by have := H.ll; omega)
    obtain ⟨y, hy⟩ := at_lt (l := l) (i := t) (by have := H.ll; omega)
    have g1 := H.get hx
    have g2 := H.get hy
    obtain ⟨e, cm, cc⟩ := cmp_ok x y h
    rw [← ky_at hx, ← ky_at hy] at cc
    unfold rgC at g1 g2 cm
    have cm' : E 68 ([] ++ [.agg [.int .i64 x.r, .int .i64 x.b, .int .i64 x.e, .bool x.s], .agg [.int .i64 y.r, .int .i64 y.b, .int .i64 y.e, .bool y.s]] ++ []) h = some (.int .i64 e, h) := cm
    rw [L98x68xeq, letK_eq, if_pos (by simp; omega), letK_eq, wrap64 (by omega) (by omega), show ((i : Int) + (j : Int)) = ((i + j : Nat) : Int) by omega, letK_eq, half_u _ (by omega), letK_eq, half_d, ← et, letK_eq, wrap64 (x := ((t : Nat) : Int)) (by omega) (by omega), letK_eq, wrap64 (x := (P : Int) - (t : Int)) (by omega) (by omega), show ((P : Int) - (t : Int)) = ((P - t : Nat) : Int) by omega, chk_of (by intro _; omega), adP_pos, atP_of, Int.toNat_natCast, add_mk, g1, gCells_of]
    simp only [List.getElem?_cons_zero, List.getElem?_cons_succ]
    rw [gI_of, gI_of, gI_of, gB_of, chk_of (by intro _; omega), atP_of, Int.toNat_natCast, add_mk, g2, gCells_of]
    simp only [List.getElem?_cons_zero, List.getElem?_cons_succ]
    rw [gI_of, gI_of, gI_of, gB_of, fn_nil, cm', Option.bind_some, gI_of, letK_eq]
    by_cases hc : e < 0
    · have lt := cc.1 hc
      rw [if_neg (by simp [hc]), J98x77xeq]
      refine ih i t (by omega) hi' t1 (by omega) A (fun p h1 h2 => ?_) hb1 hb2
      by_cases e : p = t
      · rw [e]; exact lt
      · obtain ⟨q1, q2, q3, q4, q5⟩ := rg p (by omega) h2
        have u1 := S1 t p g3 (by omega) q2
        have u2 := S2 (P - p) (P - t) q4 (by omega) g7
        omega
    · have ge : ¬ ky l (P - t) < ky l t := fun h => hc (cc.2 h)
      rw [if_pos (by simp [hc]), letK_eq, wrap64 (by omega) (by omega), J98x77xeq, show ((t : Int) + 1) = ((t + 1 : Nat) : Int) by omega]
      refine ih (t + 1) j (by omega) (by omega) (by omega) hj (fun p h1 h2 => ?_) B hb1 hb2
      by_cases e : p = t
      · rw [e]; omega
      · obtain ⟨q1, q2, q3, q4, q5⟩ := rg p h1 (by omega)
        have u1 := S1 p t q1 (by omega) g4
        have u2 := S2 (P - t) (P - p) g6 (by omega) q5
        omega
theorem up_loop {b v n a k : Nat} (hn : n ≤ 1000000) (hkn : k ≤ n) (K : Nat → Int) (Q : Kont (AV × Heap)) :
 ∀ (N i : Nat), i + 1 + N = k → a ≤ i → ∀ (h : Heap) (l : List Rg), SL h b v n l → (∀ p, ky l p = if a ≤ p ∧ p < i then K (p + 1) else if p = i then K a else K p) →
  ∃ h' l', L98x20 mk0 E (.pos ⟨b, v, 0⟩) n ((k : Nat) : Int) ((i : Nat) : Int) h Q = Q (.exit 2) (S98xe2 h') ∧ SL h' b v n l' ∧ Kp (· = b) h h' ∧ h'.length = h.length ∧ Rear a k l l' ∧ ∀ p, ky l' p = if a ≤ p ∧ p + 1 < k then K (p + 1) else if p + 1 = k then K a else K p := by
 intro N
 induction N with
 | zero =>
  intro i hi hai h l H A
  rw [L98x20xeq, letK_eq, wrap64 (by omega) (by omega), letK_eq, if_neg (by simp; omega)]
  refine ⟨h, l, rfl, H, Kp.refl _ _, rfl, .refl _ _ _, fun p => ?_⟩
  rw [A]
  by_cases c1 : a ≤ p ∧ p < i
  · rw [if_pos c1, if_pos (by omega)]
  · rw [if_neg c1]
    by_cases c2 : p = i
    · rw [if_pos c2, if_neg (by omega), if_pos (by omega)]
    · rw [if_neg c2, if_neg (by omega), if_neg (by omega)]
 | succ N ih =>
  intro i hi hai h l H A
  obtain ⟨x, hx⟩ := at_lt (l := l) (i := i) (by have := H.ll; omega)
  obtain ⟨y, hy⟩ := at_lt (l := l) (i := i + 1) (by have := H.ll; omega)
  have g1 := H.get hx
  have g2 := H.get hy
  obtain ⟨h1, h2, s1, s2, s3, s4, s5⟩ := H.swap hx hy
  have kk := ky_swap hx hy
  obtain ⟨h3, l3, r1, r2, r3, r4, r5, r6⟩ := ih (i + 1) (by omega) (by omega) h2 _ s3 (fun p => by
   rw [kk]
   unfold swp
   by_cases e1 : p = i
   · rw [if_pos e1, A, if_neg (by omega), if_neg (by omega), if_pos (by omega), e1]
   · rw [if_neg e1]
     by_cases e2 : p = i + 1
     · rw [if_pos e2, A, if_neg (by omega), if_pos rfl, if_neg (by omega), if_pos e2]
     · rw [if_neg e2, A]
       by_cases c1 : a ≤ p ∧ p < i
       · rw [if_pos c1, if_pos (by omega)]
       · rw [if_neg c1, if_neg e1, if_neg (by omega), if_neg e2])
  unfold rgC at g1 g2 s1 s2
  rw [L98x20xeq, letK_eq, wrap64 (x := (k : Int) - 1) (by omega) (by omega), letK_eq, if_pos (by simp; omega), letK_eq, wrap64 (x := (i : Int) + 1) (by omega) (by omega), letK_eq, show ((i : Int) + 1) = ((i + 1 : Nat) : Int) by omega, chk_of (by intro _; omega), adP_pos, atP_of, Int.toNat_natCast, add_mk, g2, gCells_of]
  simp only [List.getElem?_cons_zero, List.getElem?_cons_succ]
  rw [gI_of, gI_of, gI_of, gB_of, chk_of (by intro _; omega), atP_of, Int.toNat_natCast, add_mk, g1, gCells_of]
  simp only [List.getElem?_cons_zero, List.getElem?_cons_succ]
  rw [gI_of, gI_of, gI_of, gB_of, chk_of (by intro _; omega), atP_of, add_mk, s1, Option.bind_some, chk_of (by intro _; omega), atP_of, add_mk, s2, Option.bind_some, letK_eq, r1]
  exact ⟨h3, l3, rfl, r2, s4.trans r3, by omega, (Rear.swap hx hy (by omega) (by omega)).trans r5, r6⟩
theorem down_loop {b v n m k : Nat} (hn : n ≤ 1000000) (hmn : m < n) (K : Nat → Int) (Q : Kont (AV × Heap)) :
 ∀ (N i : Nat), k + N = i → i ≤ m → ∀ (h : Heap) (l : List Rg), SL h b v n l → (∀ p, ky l p = if i < p ∧ p ≤ m then K (p - 1) else if p = i then K m else K p) →
  ∃ h' l', L98x48 mk0 E (.pos ⟨b, v, 0⟩) n ((k : Nat) : Int) ((i : Nat) : Int) h Q = Q (.exit 6) (S98xe6 h') ∧ SL h' b v n l' ∧ Kp (· = b) h h' ∧ h'.length = h.length ∧ Rear k (m + 1) l l' ∧ ∀ p, ky l' p = if k < p ∧ p ≤ m then K (p - 1) else if p = k then K m else K p := by
 intro N
 induction N with
 | zero =>
  intro i hi him h l H A
  rw [L98x48xeq, letK_eq, if_neg (by simp; omega)]
  have : i = k := by omega
  subst this
  exact ⟨h, l, rfl, H, Kp.refl _ _, rfl, .refl _ _ _, A⟩
 | succ N ih =>
  intro i hi him h l H A
  obtain ⟨i, rfl⟩ : ∃ t, i = t + 1 := ⟨i - 1, by omega⟩
  obtain ⟨x, hx⟩ := at_lt (l := l) (i := i + 1) (by have := H.ll; omega)
  obtain ⟨y, hy⟩ := at_lt (l := l) (i := i) (by have := H.ll; omega)
  have g1 := H.get hx
  have g2 := H.get hy
  obtain ⟨h1, h2, s1, s2, s3, s4, s5⟩ := H.swap hx hy
  have kk := ky_swap hx hy
  obtain ⟨h3, l3, r1, r2, r3, r4, r5, r6⟩ := ih i (by omega) (by omega) h2 _ s3 (fun p => by
   rw [kk]
   unfold swp
   by_cases e1 : p = i + 1
   · rw [if_pos e1, A, if_neg (by omega), if_neg (by omega), if_pos (by omega), e1, Nat.add_sub_cancel]
   · rw [if_neg e1]
     by_cases e2 : p = i
     · rw [if_pos e2, A, if_neg (by omega), if_pos rfl, if_neg (by omega), if_pos e2]
     · rw [if_neg e2, A]
       by_cases c1 : i + 1 < p ∧ p ≤ m
       · rw [if_pos c1, if_pos (by omega)]
       · rw [if_neg c1, if_neg e1, if_neg (by omega), if_neg e2])
  unfold rgC at g1 g2 s1 s2
  have w1 : IntKind.wrap .i64 (((i + 1 : Nat) : Int) - 1) = ((i : Nat) : Int) := by rw [wrap64 (by omega) (by omega)]; omega
  rw [L98x48xeq, letK_eq, if_pos (by simp; omega), letK_eq, w1, letK_eq, chk_of (by intro _; omega), adP_pos, atP_of, Int.toNat_natCast, add_mk, g2, gCells_of]
  simp only [List.getElem?_cons_zero, List.getElem?_cons_succ]
  rw [gI_of, gI_of, gI_of, gB_of, chk_of (by intro _; omega), atP_of, Int.toNat_natCast, add_mk, g1, gCells_of]
  simp only [List.getElem?_cons_zero, List.getElem?_cons_succ]
  rw [gI_of, gI_of, gI_of, gB_of, chk_of (by intro _; omega), atP_of, add_mk, s1, Option.bind_some, chk_of (by intro _; omega), atP_of, add_mk, s2, Option.bind_some, letK_eq, r1]
  exact ⟨h3, l3, rfl, r2, s4.trans r3, by omega, (Rear.swap hx hy (by omega) (by omega)).trans r5, r6⟩
end Go.Proofs.Ytnmdadadjneaiaa.D
/- slices: symMerge, the stable sort, whole. -/
set_option linter.unusedVariables false
set_option linter.unusedSimpArgs false
namespace Go.Proofs.Ytnmdadadjneaiaa.D
open Go Go.Proofs.Ytnmdadadjneaiaa.Abs Go.Proofs
theorem sm_ok {b v n : Nat} (hn : n ≤ 1000000) : ∀ (N a m c : Nat), c - a ≤ N → a < m → m < c → c ≤ n → ∀ (h : Heap) (l : List Rg), SL h b v n l → Srt l a m → Srt l m c →
 ∃ h' l', E 98 [.sl (.pos ⟨b, v, 0⟩) n, .int .i64 a, .int .i64 m, .int .i64 c, .fn 68 [] []] h = some (.tup [], h') ∧ SL h' b v n l' ∧ Kp (· = b) h h' ∧ h'.length = h.length ∧ Rear a c l l' ∧ Srt l' a c := by
 intro N
 induction N with
 | zero => intro a m c hN; omega
 | succ N ih =>
  intro a m c hN ham hmc hcn h l H S1 S2
  rw [e98, letK_eq, wrap64 (x := (m : Int) - (a : Int)) (by omega) (by omega), letK_eq]
  by_cases h1 : m = a + 1
  · -- one element ahead
    obtain ⟨k, k1, k2, k3, k4, k5⟩ := bin1 (a := a) H hn (by omega) hcn S2 (Q98x7 mk0 E) (c - m) m c (Nat.le_refl _) (Nat.le_refl _) (by omega) (Nat.le_refl _) (fun p h1 h2 => by omega) (fun p h1 h2 => by omega)
    obtain ⟨h2, l2, r1, r2, r3, r4, r5, r6⟩ := up_loop (a := a) (k := k) hn (by omega) (ky l) (Q98x20 mk0 E) (k - a - 1) a (by omega) (Nat.le_refl _) h l H (fun p => by
     rw [if_neg (by omega)]
     by_cases e : p = a
     · rw [if_pos e, e]
     · rw [if_neg e])
    refine ⟨h2, l2, ?_, r2, r3, r4, r5.wide (Nat.le_refl _) k2, fun p q p1 p2 p3 => ?_⟩
    · rw [if_pos (decide_eq_true (by omega)), k5, X98x7xe0, r1, X98x20xe2]
    · rw [r6, r6]
      by_cases c1 : a ≤ p ∧ p + 1 < k
      · rw [if_pos c1]
        have A := k3 (p + 1) (by omega) c1.2
        by_cases c2 : a ≤ q ∧ q + 1 < k
        · rw [if_pos c2]; exact S2 _ _ (by omega) (by omega) (by omega)
        · rw [if_neg c2]
          by_cases c3 : q + 1 = k
          · rw [if_pos c3]; omega
          · rw [if_neg c3]
            have := k4 q (by omega) p3; omega
      · rw [if_neg c1]
        by_cases c2 : p + 1 = k
        · rw [if_pos c2, if_neg (by omega), if_neg (by omega)]
          exact k4 q (by omega) p3
        · rw [if_neg c2, if_neg (by omega), if_neg (by omega)]
          exact S2 p q (by omega) p2 p3
  · rw [if_neg (by simp; omega), letK_eq, wrap64 (x := (c : Int) - (m : Int)) (by omega) (by omega), letK_eq]
    by_cases h2 : c = m + 1
    · -- one element behind
      obtain ⟨k, k1, k2, k3, k4, k5⟩ := bin2 (m := m) H hn (by omega) S1 (Q98x35 mk0 E) (m - a) a m (Nat.le_refl _) (Nat.le_refl _) (by omega) (Nat.le_refl _) (fun p h1 h2 => by omega) (fun p h1 h2 => by omega)
      obtain ⟨h2, l2, r1, r2, r3, r4, r5, r6⟩ := down_loop (m := m) (k := k) hn (by omega) (ky l) (Q98x48 mk0 E) (m - k) m (by omega) (Nat.le_refl _) h l H (fun p => by
       rw [if_neg (by omega)]
       by_cases e : p = m
       · rw [if_pos e, e]
       · rw [if_neg e])
      refine ⟨h2, l2, ?_, r2, r3, r4, r5.wide k1 (by omega), fun p q p1 p2 p3 => ?_⟩
      · rw [if_pos (decide_eq_true (by omega)), k5, X98x35xe4, r1, X98x48xe6]
      · rw [r6, r6]
        by_cases c1 : k < p ∧ p ≤ m
        · rw [if_pos c1, if_pos (by omega)]
          exact S1 _ _ (by omega) (by omega) (by omega)
        · rw [if_neg c1]
          by_cases c2 : p = k
          · rw [if_pos c2, if_pos (by omega)]
            have := k4 (q - 1) (by omega) (by omega); omega
          · rw [if_neg c2]
            have A := k3 p p1 (by omega)
            by_cases c3 : k < q ∧ q ≤ m
            · rw [if_pos c3]; 
              by_cases c4 : p = q - 1
              · omega
              · exact S1 p (q - 1) p1 (by omega) (by omega)
            · rw [if_neg c3]
              by_cases c4 : q = k
              · rw [if_pos c4]; exact A
              · rw [if_neg c4]; exact S1 p q p1 p2 (by omega)
    · -- the middle
      obtain ⟨md, emd⟩ : ∃ md, md = (a + c) / 2 := ⟨_, rfl⟩
      have hg : ∃ lo hi, lo ≤ hi ∧ ((md < m ∧ lo = md + m - c ∧ hi = md) ∨ (m ≤ md ∧ lo = a ∧ hi = m)) ∧ (∀ t, lo ≤ t → t < hi → a ≤ t ∧ t < m ∧ t ≤ md + m - 1 ∧ m ≤ md + m - 1 - t ∧ md + m - 1 - t < c) ∧ a ≤ lo ∧ hi ≤ m ∧ hi ≤ md := by
       by_cases hm : md < m
       · exact ⟨md + m - c, md, by omega, .inl ⟨hm, rfl, rfl⟩, fun t t1 t2 => by omega, by omega, by omega, by omega⟩
       · exact ⟨a, m, by omega, .inr ⟨by omega, rfl, rfl⟩, fun t t1 t2 => by omega, by omega, by omega, by omega⟩
      obtain ⟨lo, hi, g1, g2, g3, g4, g5, g6⟩ := hg
      obtain ⟨st, k1, k2, k3, k4, k5⟩ := bin3 (P := md + m - 1) (lo := lo) (hi := hi) H hn hcn S1 S2 g3 ((md : Nat) : Int) ((md + m : Nat) : Int) (Q98x68 mk0 E) (hi - lo) lo hi (Nat.le_refl _) (Nat.le_refl _) g1 (Nat.le_refl _) (fun p h1 h2 => by omega) (fun p h1 h2 => by omega) (by omega) (by omega)
      have toB : (if decide (((md : Nat) : Int) < ((m : Nat) : Int)) = true then
       letK (IntKind.wrap .i64 (((md + m : Nat) : Int) - ((c : Nat) : Int))) fun i143 => J98x64 mk0 E (.pos ⟨b, v, 0⟩) n ((a : Nat) : Int) ((m : Nat) : Int) ((c : Nat) : Int) (.fn 68 [] []) ((md : Nat) : Int) ((md + m : Nat) : Int) i143 ((md : Nat) : Int) h
       else J98x64 mk0 E (.pos ⟨b, v, 0⟩) n ((a : Nat) : Int) ((m : Nat) : Int) ((c : Nat) : Int) (.fn 68 [] []) ((md : Nat) : Int) ((md + m : Nat) : Int) ((a : Nat) : Int) ((m : Nat) : Int) h) = Q98x68 mk0 E (.exit 8) (S98xe8 (.pos ⟨b, v, 0⟩) n ((a : Nat) : Int) ((m : Nat) : Int) ((c : Nat) : Int) (.fn 68 [] []) ((md : Nat) : Int) ((md + m : Nat) : Int) ((st : Nat) : Int) h) := by
       rcases g2 with ⟨q1, q2, q3⟩ | ⟨q1, q2, q3⟩
       · rw [if_pos (decide_eq_true (by omega)), letK_eq, wrap64 (by omega) (by omega), J98x64xeq, letK_eq, wrap64 (by omega) (by omega), show (((md + m : Nat) : Int) - ((c : Nat) : Int)) = ((lo : Nat) : Int) by omega, show (((md + m : Nat) : Int) - 1) = ((md + m - 1 : Nat) : Int) by omega]
         rw [q3] at k5
         exact k5
       · rw [if_neg (by simp; omega), J98x64xeq, letK_eq, wrap64 (by omega) (by omega), show (((md + m : Nat) : Int) - 1) = ((md + m - 1 : Nat) : Int) by omega]
         rw [q2, q3] at k5
         exact k5
      obtain ⟨en, een⟩ : ∃ en, en = md + m - st := ⟨_, rfl⟩
      have e1 : st ≤ m := by omega
      have e2 : m ≤ en := by omega
      have e3 : en ≤ c := by omega
      have e4 : st + (en - m) = md := by omega
      have e5 : st ≤ md := by omega
      have e6 : md ≤ en := by omega
      have e7 : a ≤ st := by omega
      have rt : ∃ h2 l2, (∀ K : Heap → Res, (if (if decide (((st : Nat) : Int) < ((m : Nat) : Int)) = true then decide (((m : Nat) : Int) < ((en : Nat) : Int)) else false) = true then
            (E 100 [.sl (.pos ⟨b, v, 0⟩) n, .int .i64 st, .int .i64 m, .int .i64 en, .fn 68 [] []] h).bind fun r191 => gT 0 r191.1 true fun u191 => K r191.2
            else K h) = K h2) ∧ SL h2 b v n l2 ∧ Kp (· = b) h h2 ∧ h2.length = h.length ∧ Rear a c l l2 ∧ ∀ p, a ≤ p → p < c → ky l2 p = if p < st then ky l p else if p < md then ky l (p + (m - st)) else if p < en then ky l (p - (en - m)) else ky l p := by
       by_cases hr : st < m ∧ m < en
       · obtain ⟨h2, l2, r1, r2, r3, r4, r5, r6⟩ := rot_ok (a := st) (m := m) (c := en) H hn hr.1 hr.2 (by omega)
         refine ⟨h2, l2, fun K => ?_, r2, r3, r4, r5.wide (by omega) (by omega), fun p p1 p2 => ?_⟩
         · rw [if_pos (by rw [decide_eq_true (show ((st : Nat) : Int) < ((m : Nat) : Int) by omega), if_pos rfl, decide_eq_true (show ((m : Nat) : Int) < ((en : Nat) : Int) by omega)]), r1, Option.bind_some, gT0_of]
         · by_cases c1 : p < st
           · rw [if_pos c1, r5.ky_out (.inl c1)]
           · rw [if_neg c1]
             by_cases c2 : p < en
             · rw [r6 p (by omega) c2]
               by_cases c3 : p < md
               · rw [if_pos (by omega), if_pos c3]
               · rw [if_neg (by omega), if_neg c3, if_pos c2]
             · rw [r5.ky_out (.inr (by omega)), if_neg (by omega), if_neg c2]
       · refine ⟨h, l, fun K => ?_, H, Kp.refl _ _, rfl, .refl _ _ _, fun p p1 p2 => ?_⟩
         · rw [if_neg (by
            intro hh
            by_cases h3 : st < m
            · rw [decide_eq_true (show ((st : Nat) : Int) < ((m : Nat) : Int) by omega), if_pos rfl] at hh
              have := of_decide_eq_true hh
              omega
            · rw [decide_eq_false (show ¬ ((st : Nat) : Int) < ((m : Nat) : Int) by omega), if_neg (by simp)] at hh
              cases hh)]
         · by_cases c1 : p < st
           · rw [if_pos c1]
           · rw [if_neg c1]
             by_cases c2 : p < md
             · rw [if_pos c2, show m - st = 0 by omega, Nat.add_zero]
             · rw [if_neg c2]
               by_cases c3 : p < en
               · rw [if_pos c3, show en - m = 0 by omega, Nat.sub_zero]
               · rw [if_neg c3]
      obtain ⟨h2, l2, rt1, rt2, rt3, rt4, rt5, rt6⟩ := rt
      have sA : Srt l2 a st := fun p q p1 p2 p3 => by rw [rt6 p p1 (by omega), rt6 q (by omega) (by omega), if_pos (by omega), if_pos p3]; exact S1 p q p1 p2 (by omega)
      have sB : Srt l2 st md := fun p q p1 p2 p3 => by rw [rt6 p (by omega) (by omega), rt6 q (by omega) (by omega), if_neg (by omega), if_pos (by omega), if_neg (by omega), if_pos (by omega)]; exact S2 _ _ (by omega) (by omega) (by omega)
      have sC : Srt l2 md en := fun p q p1 p2 p3 => by rw [rt6 p (by omega) (by omega), rt6 q (by omega) (by omega), if_neg (by omega), if_neg (by omega), if_pos (by omega), if_neg (by omega), if_neg (by omega), if_pos (by omega)]; exact S1 _ _ (by omega) (by omega) (by omega)
      have sD : Srt l2 en c := fun p q p1 p2 p3 => by rw [rt6 p (by omega) (by omega), rt6 q (by omega) (by omega), if_neg (by omega), if_neg (by omega), if_neg (by omega), if_neg (by omega), if_neg (by omega), if_neg (by omega)]; exact S2 _ _ (by omega) (by omega) (by omega)
      have cross : ∀ p q, a ≤ p → p < md → md ≤ q → q < c → ky l2 p ≤ ky l2 q := fun p q p1 p2 q1 q2 => by
       rw [rt6 p p1 (by omega), rt6 q (by omega) q2]
       rw [if_neg (show ¬ q < st by omega), if_neg (show ¬ q < md by omega)]
       by_cases c1 : p < st
       · rw [if_pos c1]
         by_cases c2 : q < en
         · rw [if_pos c2]
           exact S1 _ _ p1 (by omega) (by omega)
         · rw [if_neg c2]
           have lt : lo < st := by omega
           have u1 := k3 (st - 1) (by omega) (by omega)
           rw [show md + m - 1 - (st - 1) = en by omega] at u1
           have u2 : ky l p ≤ ky l (st - 1) := by
            by_cases e : p = st - 1
            · rw [e]; omega
            · exact S1 _ _ p1 (by omega) (by omega)
           have u3 : ky l en ≤ ky l q := by
            by_cases e : q = en
            · rw [e]; omega
            · exact S2 _ _ (by omega) (by omega) q2
           omega
       · rw [if_neg c1, if_pos p2]
         by_cases c2 : q < en
         · rw [if_pos c2]
           have lt : st < hi := by omega
           have u1 := k4 st (Nat.le_refl _) lt
           rw [show md + m - 1 - st = en - 1 by omega] at u1
           have u2 : ky l (p + (m - st)) ≤ ky l (en - 1) := by
            by_cases e : p + (m - st) = en - 1
            · rw [e]; omega
            · exact S2 _ _ (by omega) (by omega) (by omega)
           have u3 : ky l st ≤ ky l (q - (en - m)) := by
            by_cases e : q - (en - m) = st
            · rw [e]; omega
            · exact S1 _ _ (by omega) (by omega) (by omega)
           omega
         · rw [if_neg c2]
           exact S2 _ _ (by omega) (by omega) q2
      have half : ∀ (x y z : Nat) (h : Heap) (l : List Rg), x ≤ y → y ≤ z → z - x ≤ N → z ≤ n → SL h b v n l → Srt l x y → Srt l y z → ∃ h' l', (∀ K : Heap → Res, (if (if decide (((x : Nat) : Int) < ((y : Nat) : Int)) = true then decide (((y : Nat) : Int) < ((z : Nat) : Int)) else false) = true then
            (E 98 [.sl (.pos ⟨b, v, 0⟩) n, .int .i64 x, .int .i64 y, .int .i64 z, .fn 68 [] []] h).bind fun r191 => gT 0 r191.1 true fun u191 => K r191.2
            else K h) = K h') ∧ SL h' b v n l' ∧ Kp (· = b) h h' ∧ h'.length = h.length ∧ Rear x z l l' ∧ Srt l' x z := fun x y z h l x1 x2 x3 x4 H' T1 T2 => by
       by_cases hr : x < y ∧ y < z
       · obtain ⟨h', l', u1, u2, u3, u4, u5, u6⟩ := ih x y z x3 hr.1 hr.2 x4 h l H' T1 T2
         exact ⟨h', l', fun K => by rw [if_pos (by rw [decide_eq_true (show ((x : Nat) : Int) < ((y : Nat) : Int) by omega), if_pos rfl, decide_eq_true (show ((y : Nat) : Int) < ((z : Nat) : Int) by omega)]), u1, Option.bind_some, gT0_of], u2, u3, u4, u5, u6⟩
       · refine ⟨h, l, fun K => ?_, H', Kp.refl _ _, rfl, .refl _ _ _, ?_⟩
         · rw [if_neg (by
            intro hh
            by_cases h3 : x < y
            · rw [decide_eq_true (show ((x : Nat) : Int) < ((y : Nat) : Int) by omega), if_pos rfl] at hh
              have := of_decide_eq_true hh
              omega
            · rw [decide_eq_false (show ¬ ((x : Nat) : Int) < ((y : Nat) : Int) by omega), if_neg (by simp)] at hh
              cases hh)]
         · by_cases e : x = y
           · rw [e]; exact T2
           · have : y = z := by omega
             rw [← this]; exact T1
      obtain ⟨h3, l3, u1, u2, u3, u4, u5, u6⟩ := half a st md h2 l2 e7 e5 (by omega) (by omega) rt2 sA sB
      have sC' : Srt l3 md en := fun p q p1 p2 p3 => by rw [u5.ky_out (.inr p1), u5.ky_out (.inr (by omega))]; exact sC p q p1 p2 p3
      have sD' : Srt l3 en c := fun p q p1 p2 p3 => by rw [u5.ky_out (.inr (by omega)), u5.ky_out (.inr (by omega))]; exact sD p q p1 p2 p3
      obtain ⟨h4, l4, w1, w2, w3, w4, w5, w6⟩ := half md en c h3 l3 e6 e3 (by omega) hcn u2 sC' sD'
      refine ⟨h4, l4, ?_, w2, (rt3.trans u3).trans w3, by omega, (rt5.trans (u5.wide (Nat.le_refl _) (by omega))).trans (w5.wide (by omega) (Nat.le_refl _)), fun p q p1 p2 p3 => ?_⟩
      · rw [if_neg (by simp; omega), letK_eq, wrap64 (x := (a : Int) + (c : Int)) (by omega) (by omega), show ((a : Int) + (c : Int)) = ((a + c : Nat) : Int) by omega, letK_eq, half_u _ (by omega), letK_eq, half_d, ← emd, letK_eq, wrap64 (x := ((md : Nat) : Int)) (by omega) (by omega), letK_eq, wrap64 (x := ((md : Nat) : Int) + (m : Int)) (by omega) (by omega), show (((md : Nat) : Int) + (m : Int)) = ((md + m : Nat) : Int) by omega, letK_eq, toB, X98x68xe8, letK_eq, wrap64 (by omega) (by omega), show (((md + m : Nat) : Int) - ((st : Nat) : Int)) = ((en : Nat) : Int) by omega, letK_eq, letK_eq, letK_eq, rt1 (fun h => J98x82 mk0 E (.pos ⟨b, v, 0⟩) n ((a : Nat) : Int) ((c : Nat) : Int) (.fn 68 [] []) ((md : Nat) : Int) ((st : Nat) : Int) ((en : Nat) : Int) h), J98x82xeq, letK_eq, letK_eq, letK_eq, u1 (fun h => J98x86 mk0 E (.pos ⟨b, v, 0⟩) n ((c : Nat) : Int) (.fn 68 [] []) ((md : Nat) : Int) ((en : Nat) : Int) h), J98x86xeq, letK_eq, letK_eq, letK_eq, w1 (fun h => J98x89 mk0 E h), J98x89xeq]
      · by_cases c1 : q < md
        · rw [w5.ky_out (.inl (by omega)), w5.ky_out (.inl c1)]
          exact u6 p q p1 p2 c1
        · by_cases c2 : p < md
          · rw [w5.ky_out (.inl c2)]
            obtain ⟨t, t1, t2, t3⟩ := w5.ky_mem (p := q) (by omega) p3
            rw [t3, u5.ky_out (.inr t1)]
            obtain ⟨z, z1, z2, z3⟩ := u5.ky_mem p1 c2
            rw [z3]
            exact cross z t z1 z2 t1 t2
          · exact w6 p q (by omega) p2 p3
end Go.Proofs.Ytnmdadadjneaiaa.D
/- slices.SortStableFunc of ranges, by their beginnings. -/
set_option linter.unusedVariables false
set_option linter.unusedSimpArgs false
namespace Go.Proofs.Ytnmdadadjneaiaa.D
open Go Go.Proofs.Ytnmdadadjneaiaa.Abs Go.Proofs
theorem mul_gap {d x a : Nat} (hx : d ∣ x) (ha : d ∣ a) (h : x < a) : x + d ≤ a := by
 obtain ⟨u, rfl⟩ := hx
 obtain ⟨w, rfl⟩ := ha
 have lt : u < w := Nat.lt_of_mul_lt_mul_left h
 have := Nat.mul_le_mul_left d (Nat.succ_le_of_lt lt)
 rw [Nat.mul_succ] at this
 exact this
def BSrt (l : List Rg) (n d : Nat) : Prop := ∀ x, d ∣ x → Srt l x (min (x + d) n)
theorem Srt.keep {l l' : List Rg} {a c x y : Nat} (R : Rear a c l l') (h : y ≤ a ∨ c ≤ x) (S : Srt l x y) : Srt l' x y := fun p q h1 h2 h3 => by
 rw [R.ky_out (by omega), R.ky_out (by omega)]
 exact S p q h1 h2 h3
theorem blk_loop {b v n : Nat} (hn : n ≤ 1000000) (Q : Kont (AV × Heap)) :
 ∀ (N a : Nat), n ≤ a + N → a ≤ n → 20 ∣ a → ∀ (h : Heap) (l : List Rg), SL h b v n l → (∀ x, 20 ∣ x → x < a → Srt l x (x + 20)) →
  ∃ h' l' a', L92x4 mk0 E (.pos ⟨b, v, 0⟩) n ((n : Nat) : Int) (.fn 68 [] []) 20 ((a : Nat) : Int) ((a + 20 : Nat) : Int) h Q = Q (.exit 0) (S92xe0 (.pos ⟨b, v, 0⟩) n ((n : Nat) : Int) (.fn 68 [] []) 20 ((a' : Nat) : Int) h') ∧ SL h' b v n l' ∧ Kp (· = b) h h' ∧ h'.length = h.length ∧ Rear 0 n l l' ∧ 20 ∣ a' ∧ a' ≤ n ∧ n < a' + 20 ∧ ∀ x, 20 ∣ x → x < a' → Srt l' x (x + 20) := by
 intro N
 induction N with
 | zero =>
  intro a hN han hd h l H A
  rw [L92x4xeq, letK_eq, if_neg (by simp; omega)]
  exact ⟨h, l, a, rfl, H, Kp.refl _ _, rfl, .refl _ _ _, hd, han, by omega, A⟩
 | succ N ih =>
  intro a hN han hd h l H A
  by_cases hc : a + 20 ≤ n
  · obtain ⟨h1, l1, r1, r2, r3, r4, r5, r6⟩ := insort_ok (a := a) (m := a + 20) H hn (by omega) hc
    obtain ⟨h2, l2, a', u1, u2, u3, u4, u5, u6⟩ := ih (a + 20) (by omega) hc (by omega) h1 l1 r2 (fun x hx hlt => by
     by_cases e : x = a
     · rw [e]; exact r6
     · have := mul_gap hx hd (show x < a by omega)
       exact (A x hx (by omega)).keep r5 (.inl this))
    rw [L92x4xeq, letK_eq, if_pos (by simp; omega), r1, Option.bind_some, gT0_of, letK_eq, wrap64 (by omega) (by omega), show (((a + 20 : Nat) : Int) + 20) = ((a + 20 + 20 : Nat) : Int) by omega, u1]
    exact ⟨h2, l2, a', rfl, u2, r3.trans u3, by omega, (r5.wide (Nat.zero_le _) hc).trans u5, u6⟩
  · rw [L92x4xeq, letK_eq, if_neg (by simp; omega)]
    exact ⟨h, l, a, rfl, H, Kp.refl _ _, rfl, .refl _ _ _, hd, han, by omega, A⟩
theorem merge_in {b v n d : Nat} (hn : n ≤ 1000000) (hd0 : 0 < d) (hdn : d < n) (Q : Kont (AV × Heap)) :
 ∀ (N a : Nat), n ≤ a + N → a ≤ n → 2 * d ∣ a → ∀ (h : Heap) (l : List Rg), SL h b v n l → (∀ x, 2 * d ∣ x → x < a → Srt l x (x + 2 * d)) → (∀ x, d ∣ x → a ≤ x → Srt l x (min (x + d) n)) →
  ∃ h' l' a', L92x23 mk0 E (.pos ⟨b, v, 0⟩) n ((n : Nat) : Int) (.fn 68 [] []) ((d : Nat) : Int) ((a : Nat) : Int) ((a + 2 * d : Nat) : Int) h Q = Q (.exit 4) (S92xe4 (.pos ⟨b, v, 0⟩) n ((n : Nat) : Int) (.fn 68 [] []) ((d : Nat) : Int) ((a' : Nat) : Int) h') ∧ SL h' b v n l' ∧ Kp (· = b) h h' ∧ h'.length = h.length ∧ Rear 0 n l l' ∧ 2 * d ∣ a' ∧ a' ≤ n ∧ n < a' + 2 * d ∧ (∀ x, 2 * d ∣ x → x < a' → Srt l' x (x + 2 * d)) ∧ ∀ x, d ∣ x → a' ≤ x → Srt l' x (min (x + d) n) := by
 have dd : d ∣ 2 * d := ⟨2, by omega⟩
 intro N
 induction N with
 | zero =>
  intro a hN han hd h l H A B
  rw [L92x23xeq, letK_eq, if_neg (by simp; omega)]
  exact ⟨h, l, a, rfl, H, Kp.refl _ _, rfl, .refl _ _ _, hd, han, by omega, A, B⟩
 | succ N ih =>
  intro a hN han hd h l H A B
  by_cases hc : a + 2 * d ≤ n
  · have da : d ∣ a := Nat.dvd_trans dd hd
    have T1 := B a da (Nat.le_refl _)
    rw [Nat.min_eq_left (by omega)] at T1
    have T2 := B (a + d) (Nat.dvd_add da (Nat.dvd_refl d)) (by omega)
    rw [Nat.min_eq_left (by omega), show a + d + d = a + 2 * d by omega] at T2
    obtain ⟨h1, l1, r1, r2, r3, r4, r5, r6⟩ := sm_ok hn (2 * d) a (a + d) (a + 2 * d) (by omega) (by omega) (by omega) hc h l H T1 T2
    obtain ⟨h2, l2, a', u1, u2, u3, u4, u5, u6⟩ := ih (a + 2 * d) (by omega) hc (Nat.dvd_add hd (Nat.dvd_refl _)) h1 l1 r2 (fun x hx hlt => by
     by_cases e : x = a
     · rw [e]; exact r6
     · by_cases hxa : x < a
       · have := mul_gap hx hd hxa
         exact (A x hx hxa).keep r5 (.inl this)
       · have := mul_gap hd hx (show a < x by omega)
         omega) (fun x hx hle => (B x hx (by omega)).keep r5 (.inr hle))
    rw [L92x23xeq, letK_eq, if_pos (by simp; omega), letK_eq, wrap64 (x := (a : Int) + (d : Int)) (by omega) (by omega), show ((a : Int) + (d : Int)) = ((a + d : Nat) : Int) by omega, r1, Option.bind_some, gT0_of, letK_eq, wrap64 (x := 2 * (d : Int)) (by omega) (by omega), letK_eq, wrap64 (by omega) (by omega), show (((a + 2 * d : Nat) : Int) + 2 * (d : Int)) = ((a + 2 * d + 2 * d : Nat) : Int) by omega, u1]
    exact ⟨h2, l2, a', rfl, u2, r3.trans u3, by omega, (r5.wide (Nat.zero_le _) hc).trans u5, u6⟩
  · rw [L92x23xeq, letK_eq, if_neg (by simp; omega)]
    exact ⟨h, l, a, rfl, H, Kp.refl _ _, rfl, .refl _ _ _, hd, han, by omega, A, B⟩
theorem merge_out {b v n : Nat} (hn : n ≤ 1000000) (Q : Kont (AV × Heap)) :
 ∀ (N d : Nat), n ≤ d + N → 0 < d → d ≤ 2000000 → ∀ (h : Heap) (l : List Rg), SL h b v n l → BSrt l n d →
  ∃ h' l', L92x14 mk0 E (.pos ⟨b, v, 0⟩) n ((n : Nat) : Int) (.fn 68 [] []) ((d : Nat) : Int) h Q = Q (.exit 2) (S92xe2 h') ∧ SL h' b v n l' ∧ Kp (· = b) h h' ∧ h'.length = h.length ∧ Rear 0 n l l' ∧ Srt l' 0 n := by
 have out : ∀ d, n ≤ d → ∀ (h : Heap) (l : List Rg), SL h b v n l → BSrt l n d →
  ∃ h' l', L92x14 mk0 E (.pos ⟨b, v, 0⟩) n ((n : Nat) : Int) (.fn 68 [] []) ((d : Nat) : Int) h Q = Q (.exit 2) (S92xe2 h') ∧ SL h' b v n l' ∧ Kp (· = b) h h' ∧ h'.length = h.length ∧ Rear 0 n l l' ∧ Srt l' 0 n := fun d hd h l H B => by
  rw [L92x14xeq, letK_eq, if_neg (by simp; omega)]
  have := B 0 (Nat.dvd_zero d)
  rw [Nat.zero_add, Nat.min_eq_right hd] at this
  exact ⟨h, l, rfl, H, Kp.refl _ _, rfl, .refl _ _ _, this⟩
 intro N
 induction N with
 | zero => intro d hN hd hb h l H B; exact out d (by omega) h l H B
 | succ N ih =>
  intro d hN hd hb h l H B
  by_cases hc : n ≤ d
  · exact out d hc h l H B
  · have dd : d ∣ 2 * d := ⟨2, by omega⟩
    obtain ⟨h1, l1, a', r1, r2, r3, r4, r5, r6, r7, r8, r9, r10⟩ := merge_in hn hd (by omega) (Q92x23 mk0 E Q) n 0 (by omega) (Nat.zero_le _) (Nat.dvd_zero _) h l H (fun x hx hlt => by omega) (fun x hx _ => B x hx)
    rw [show (((0 : Nat) : Int)) = 0 from rfl, Nat.zero_add] at r1
    have da : d ∣ a' := Nat.dvd_trans dd r6
    have fin : ∃ h2 l2, (∀ K : Heap → Res, (if decide (((a' + d : Nat) : Int) < ((n : Nat) : Int)) = true then
            (E 98 [.sl (.pos ⟨b, v, 0⟩) n, .int .i64 a', .int .i64 ((a' + d : Nat) : Int), .int .i64 n, .fn 68 [] []] h1).bind fun r191 => gT 0 r191.1 true fun u191 => K r191.2
            else K h1) = K h2) ∧ SL h2 b v n l2 ∧ Kp (· = b) h1 h2 ∧ h2.length = h1.length ∧ Rear a' n l1 l2 ∧ Srt l2 a' n := by
     have T1 := r10 a' da (Nat.le_refl _)
     by_cases hm : a' + d < n
     · rw [Nat.min_eq_left (by omega)] at T1
       have T2 := r10 (a' + d) (Nat.dvd_add da (Nat.dvd_refl d)) (by omega)
       rw [Nat.min_eq_right (by omega)] at T2
       obtain ⟨h2, l2, u1, u2, u3, u4, u5, u6⟩ := sm_ok hn n a' (a' + d) n (by omega) (by omega) hm (Nat.le_refl _) h1 l1 r2 T1 T2
       exact ⟨h2, l2, fun K => by rw [if_pos (decide_eq_true (by omega)), u1, Option.bind_some, gT0_of], u2, u3, u4, u5, u6⟩
     · rw [Nat.min_eq_right (by omega)] at T1
       exact ⟨h1, l1, fun K => by rw [if_neg (by simp; omega)], r2, Kp.refl _ _, rfl, .refl _ _ _, T1⟩
    obtain ⟨h2, l2, u1, u2, u3, u4, u5, u6⟩ := fin
    obtain ⟨h3, l3, w1, w2, w3, w4, w5, w6⟩ := ih (2 * d) (by omega) (by omega) (by omega) h2 l2 u2 (fun x hx => by
     by_cases hxa : x < a'
     · have := mul_gap hx r6 hxa
       rw [Nat.min_eq_left (by omega)]
       exact (r9 x hx hxa).keep u5 (.inl this)
     · by_cases e : x = a'
       · rw [e, Nat.min_eq_right (by omega)]; exact u6
       · have := mul_gap r6 hx (show a' < x by omega)
         exact fun p q h1 h2 h3 => by omega)
    have key := u1 (fun h => J92x35 mk0 E (.pos ⟨b, v, 0⟩) n ((n : Nat) : Int) (.fn 68 [] []) ((d : Nat) : Int) h Q)
    rw [L92x14xeq, letK_eq, if_pos (by simp; omega), letK_eq, wrap64 (x := 2 * (d : Int)) (by omega) (by omega), show 2 * (d : Int) = ((2 * d : Nat) : Int) by omega, r1, X92x23xe4, letK_eq, wrap64 (x := (a' : Int) + (d : Int)) (by omega) (by omega), show ((a' : Int) + (d : Int)) = ((a' + d : Nat) : Int) by omega, letK_eq, key, J92x35xeq, letK_eq, wrap64 (by omega) (by omega), show ((d : Int) * 2) = ((2 * d : Nat) : Int) by omega, w1]
    exact ⟨h3, l3, rfl, w2, (r3.trans u3).trans w3, by omega, (r5.trans (u5.wide (Nat.zero_le _) (Nat.le_refl _))).trans w5, w6⟩
theorem sort_ok {h : Heap} {b v n : Nat} {l : List Rg} (H : SL h b v n l) (hn : n ≤ 1000000) :
 ∃ h' l', E 67 [.sl (.pos ⟨b, v, 0⟩) n, .fn 68 [] []] h = some (.tup [], h') ∧ SL h' b v n l' ∧ Kp (· = b) h h' ∧ h'.length = h.length ∧ l'.Perm l ∧ Srt l' 0 n := by
 obtain ⟨h1, l1, a', r1, r2, r3, r4, r5, r6, r7, r8, r9⟩ := blk_loop hn (Q92x4 mk0 E) n 0 (by omega) (Nat.zero_le _) (Nat.dvd_zero _) h l H (fun x hx hlt => by omega)
 rw [show (((0 : Nat) : Int)) = 0 from rfl, Nat.zero_add, show (((20 : Nat) : Int)) = 20 from rfl] at r1
 obtain ⟨h2, l2, u1, u2, u3, u4, u5, u6⟩ := insort_ok (a := a') (m := n) r2 hn r7 (Nat.le_refl _)
 obtain ⟨h3, l3, w1, w2, w3, w4, w5, w6⟩ := merge_out hn (Q92x14 mk0 E) n 20 (by omega) (by omega) (by omega) h2 l2 u2 (fun x hx => by
  by_cases hxa : x < a'
  · have := mul_gap hx r6 hxa
    rw [Nat.min_eq_left (by omega)]
    exact (r9 x hx hxa).keep u5 (.inl this)
  · by_cases e : x = a'
    · rw [e, Nat.min_eq_right (by omega)]; exact u6
    · have := mul_gap r6 hx (show a' < x by omega)
      exact fun p q h1 h2 h3 => by omega)
 rw [show (((20 : Nat) : Int)) = 20 from rfl] at w1
 refine ⟨h3, l3, ?_, w2, (r3.trans u3).trans w3, by omega, ((r5.trans (u5.wide (Nat.zero_le _) (Nat.le_refl _))).trans w5).perm, w6⟩
 rw [e67, e92, r1, X92x4xe0, u1, Option.bind_some, gT0_of, w1, X92x14xe2, Option.bind_some, gT0_of]
end Go.Proofs.Ytnmdadadjneaiaa.D
/- slices: IndexFunc, ContainsFunc, DeleteFunc of ranges; IndexFunc of ends. -/
set_option linter.unusedVariables false
set_option linter.unusedSimpArgs false
namespace Go.Proofs.Ytnmdadadjneaiaa.D
open Go Go.Proofs.Ytnmdadadjneaiaa.Abs Go.Proofs
theorem fn_cap {R : Type} (d : FuncId) (cs : List AV) (K : FuncId → List AV → List AV → Option R) : fnK (.fn d [] cs) K = K d [] cs := rfl
def FnP (f : FuncId) (cs : List AV) (P : Rg → Bool) (h : Heap) (l : List Rg) : Prop := ∀ x ∈ l, E f ([] ++ [.agg (rgC x)] ++ cs) h = some (.bool (P x), h)
theorem rgidx_loop {f : FuncId} {cs : List AV} {P : Rg → Bool} {h : Heap} {l : List Rg} (hf : FnP f cs P h l) {s : SA} {n : Nat} (V : VS rgC 4 h s n l) (hn : n ≤ 1000000) :
 ∀ (k j : Nat), j + k = n → (∀ y ∈ l.take j, P y = false) →
  (∃ (i : Nat) (x : Rg), i < n ∧ l[i]? = some x ∧ P x = true ∧ (∀ y ∈ l.take i, P y = false) ∧ L70x4 mk0 E s n (.fn f [] cs) ((n : Nat) : Int) ((j : Nat) : Int) h (Q70x4 mk0 E) = some (.int .i64 i, h)) ∨
  ((∀ y ∈ l, P y = false) ∧ L70x4 mk0 E s n (.fn f [] cs) ((n : Nat) : Int) ((j : Nat) : Int) h (Q70x4 mk0 E) = some (.int .i64 (-1), h)) := by
 have hl := V.1
 intro k
 induction k with
 | zero =>
  intro j hj hp
  rw [L70x4xeq, letK_eq, if_neg (by simp; omega), X70x4xe0]
  rw [List.take_of_length_le (by omega)] at hp
  exact .inr ⟨hp, rfl⟩
 | succ k ih =>
  intro j hj hp
  obtain ⟨x, hx⟩ := at_lt (l := l) (i := j) (by omega)
  obtain ⟨a, ha, la⟩ := vs_ld V rg_flat j x hx
  have cm := hf x (List.mem_of_getElem? hx)
  unfold rgC at la cm
  rw [L70x4xeq, letK_eq, if_pos (by simp; omega), chk_of (by intro _; omega), ha, atP_of, Int.toNat_natCast, la, gCells_of]
  simp only [List.getElem?_cons_zero, List.getElem?_cons_succ]
  rw [gI_of, gI_of, gI_of, gB_of, fn_cap, cm, Option.bind_some, gB_of]
  cases hP : P x with
  | true =>
   rw [if_pos rfl, X70x4xr]
   exact .inl ⟨j, x, by omega, hx, hP, hp, rfl⟩
  | false =>
   rw [if_neg (by simp), letK_eq, wrap64 (by omega) (by omega), show ((j : Int) + 1) = ((j + 1 : Nat) : Int) by omega]
   refine ih (j + 1) (by omega) fun y hy => ?_
   rw [List.take_add_one, hx] at hy
   rcases List.mem_append.1 hy with hy | hy
   · exact hp y hy
   · have : y = x := by simpa using hy
     rw [this]; exact hP
theorem rgidx_ok {f : FuncId} {cs : List AV} {P : Rg → Bool} {h : Heap} {l : List Rg} (hf : FnP f cs P h l) {s : SA} {n : Nat} (V : VS rgC 4 h s n l) (hn : n ≤ 1000000) :
 (∃ (i : Nat) (x : Rg), i < n ∧ l[i]? = some x ∧ P x = true ∧ (∀ y ∈ l.take i, P y = false) ∧ E 70 [.sl s n, .fn f [] cs] h = some (.int .i64 i, h)) ∨
 ((∀ y ∈ l, P y = false) ∧ E 70 [.sl s n, .fn f [] cs] h = some (.int .i64 (-1), h)) := by
 have := rgidx_loop hf V hn n 0 (by omega) (by simp)
 rw [show (((0 : Nat) : Int)) = 0 from rfl] at this
 rw [e70]
 exact this
theorem rghas_ok {f : FuncId} {cs : List AV} {P : Rg → Bool} {h : Heap} {l : List Rg} (hf : FnP f cs P h l) {s : SA} {n : Nat} (V : VS rgC 4 h s n l) (hn : n ≤ 1000000) : E 73 [.sl s n, .fn f [] cs] h = some (.bool (l.any P), h) := by
 rw [e73]
 rcases rgidx_ok hf V hn with ⟨i, x, h1, h2, h3, h4, h5⟩ | ⟨h1, h2⟩
 · have : l.any P = true := List.any_eq_true.2 ⟨x, List.mem_of_getElem? h2, h3⟩
   rw [h5, Option.bind_some, gI_of, letK_eq, this, decide_eq_true (by omega)]
 · have : l.any P = false := List.any_eq_false.2 fun x hx => by rw [h1 x hx]; simp
   rw [h2, Option.bind_some, gI_of, letK_eq, this, decide_eq_false (by omega)]
theorem rgdel_loop {f : FuncId} {cs : List AV} {P : Rg → Bool} {h0 : Heap} {b v n : Nat} {l : List Rg} (hf : ∀ h, Kp (· = b) h0 h → FnP f cs P h l) (hl : l.length = n) (hn : n ≤ 1000000) :
 ∀ (k j : Nat), j + k = n → ∀ (h : Heap) (c : List Rg) (m : Nat), Kp (· = b) h0 h → SL h b v n c → m < j → c.take m = (l.take j).filter (fun x => !P x) → c.drop j = l.drop j →
  ∃ h' c', L34x10 mk0 E (.pos ⟨b, v, 0⟩) n (.fn f [] cs) ((m : Nat) : Int) ((j : Nat) : Int) h (Q34x10 mk0 E) = Q34x10 mk0 E (.exit 0) (S34xe0 (.pos ⟨b, v, 0⟩) n (((l.filter fun x => !P x).length : Nat) : Int) h') ∧ Kp (· = b) h0 h' ∧ h'.length = h.length ∧ SL h' b v n c' ∧ c'.take (l.filter fun x => !P x).length = l.filter fun x => !P x := by
 intro k
 induction k with
 | zero =>
  intro j hj h c m kp H hm h1 h2
  have hlj : l.take j = l := List.take_of_length_le (by omega)
  rw [hlj] at h1
  have hcl := H.ll
  have hml : m = (l.filter fun x => !P x).length := by
   rw [← h1, List.length_take]; omega
  rw [L34x10xeq, letK_eq, if_neg (by simp; omega)]
  exact ⟨h, c, by rw [hml], kp, rfl, H, by rw [← hml]; exact h1⟩
 | succ k ih =>
  intro j hj h c m kp H hm h1 h2
  have hcl := H.ll
  obtain ⟨y, hy⟩ := at_lt (l := l) (i := j) (by omega)
  have hyc : c[j]? = some y := by
   have := congrArg (fun l => l[0]?) h2
   simp only [List.getElem?_drop, Nat.add_zero] at this
   rw [this]; exact hy
  have rd := H.get hyc
  have tk : l.take (j + 1) = l.take j ++ [y] := by rw [List.take_add_one, hy]; rfl
  have d1 : c.drop (j + 1) = l.drop (j + 1) := by
   have := congrArg List.tail h2
   rw [List.tail_drop, List.tail_drop] at this
   exact this
  have cm := hf h kp y (List.mem_of_getElem? hy)
  obtain ⟨h', s1, s2, s3, s4⟩ := H.set (i := m) (by omega) y
  unfold rgC at rd cm s1
  rw [L34x10xeq, letK_eq, if_pos (by simp; omega), chk_of (by intro _; omega), adP_pos, atP_of, Int.toNat_natCast, add_mk, rd, gCells_of]
  simp only [List.getElem?_cons_zero, List.getElem?_cons_succ]
  rw [gI_of, gI_of, gI_of, gB_of, fn_cap, cm, Option.bind_some, gB_of]
  cases hP : P y with
  | true =>
   rw [if_neg (by simp), J34x21xeq, letK_eq, wrap64 (by omega) (by omega), show ((j : Int) + 1) = ((j + 1 : Nat) : Int) by omega]
   exact ih (j + 1) (by omega) h c m kp H (by omega) (by rw [h1, tk, List.filter_append]; simp [hP]) d1
  | false =>
   rw [if_pos (show (!false) = true from rfl), chk_of (by intro _; omega), atP_of, add_mk, Int.toNat_natCast, s1, Option.bind_some, letK_eq, wrap64 (by omega) (by omega), show ((m : Int) + 1) = ((m + 1 : Nat) : Int) by omega, J34x21xeq, letK_eq, wrap64 (by omega) (by omega), show ((j : Int) + 1) = ((j + 1 : Nat) : Int) by omega]
   obtain ⟨h2', c', r1, r2, r3, r4⟩ := ih (j + 1) (by omega) h' (c.set m y) (m + 1) (kp.trans s3) s2 (by omega) (by
    rw [take_set c m y (by omega), h1, tk, List.filter_append]
    simp [hP]) (by rw [drop_set c m (j + 1) y (by omega), d1])
   exact ⟨h2', c', r1, r2, by omega, r4⟩
theorem splice_take (o : Nat) (ys c : List AV) (h : o + ys.length ≤ c.length) : (splice o ys c).take o = c.take o := by
 apply List.ext_getElem?
 intro i
 rw [List.getElem?_take, List.getElem?_take, splice_get o ys c h]
 by_cases hi : i < o
 · rw [if_pos hi, if_pos hi, if_neg (by omega)]
 · rw [if_neg hi, if_neg hi]
theorem rgdel_ok {f : FuncId} {cs : List AV} {P : Rg → Bool} {h : Heap} {b v n : Nat} {l : List Rg} (H : SL h b v n l) (hf : ∀ h', Kp (· = b) h h' → FnP f cs P h' l) (hn : n ≤ 1000000) :
 ∃ h', E 34 [.sl (.pos ⟨b, v, 0⟩) n, .fn f [] cs] h = some (.sl (.pos ⟨b, v, 0⟩) (l.filter fun x => !P x).length, h') ∧ Kp (· = b) h h' ∧ h'.length = h.length ∧ SL h' b v (l.filter fun x => !P x).length (l.filter fun x => !P x) := by
 have V := rs_vs rg_len H.ll H.m
 have hl := H.ll
 rw [e34]
 rcases rgidx_ok (hf h (Kp.refl _ _)) V hn with ⟨i, x, i1, i2, i3, i4, i5⟩ | ⟨i1, i2⟩
 · have tk : l.take (i + 1) = l.take i ++ [x] := by rw [List.take_add_one, i2]; rfl
   have f1 : (l.take i).filter (fun x => !P x) = l.take i := List.filter_eq_self.2 fun y hy => by rw [i4 y hy]; rfl
   obtain ⟨h1, c, e1, e2, e3, e4, e5⟩ := rgdel_loop (f := f) (cs := cs) (v := v) hf hl hn (n - (i + 1)) (i + 1) (by omega) h l i (Kp.refl _ _) H (by omega) (by rw [tk, List.filter_append, f1]; simp [i3]) rfl
   have hle : (l.filter fun x => !P x).length ≤ l.length := List.length_filter_le _ _
   generalize hm : (l.filter fun x => !P x).length = m at *
   obtain ⟨m1, m2, ⟨m3, _⟩ | ⟨b', v', cc, m3, m4, m5, m6⟩⟩ := e4.m
   · cases m3
   cases m3
   have es : esOk h1 (.pos ⟨b, v, 0⟩) 4 := fun q hq => by
    cases hq
    exact ⟨_, m4, fun c e v h => by cases h; rfl⟩
   have mn : m * 4 ≤ n * 4 := Nat.mul_le_mul_right _ (by omega)
   have pre : cc.take (m * 4) = (l.filter fun x => !P x).flatMap rgC := by
    have : cc.take (m * 4) = (c.flatMap rgC).take (m * 4) := by rw [← m6, List.take_take, Nat.min_eq_left mn]
    rw [this, ← e5]
    have len : ∀ l : List Rg, (l.flatMap rgC).length = l.length * 4 := fun l => by
     induction l with
     | nil => rfl
     | cons z l ih => rw [List.flatMap_cons, List.length_append, rg_len, ih, List.length_cons, Nat.succ_mul]; omega
    conv => lhs; rw [← List.take_append_drop m c]
    rw [List.flatMap_append]
    exact List.take_left' (by rw [len, List.length_take, Nat.min_eq_left (by have := e4.ll; omega)])
   have clr : ∃ h2, clrM h1 (adS (.pos ⟨b, v, 0⟩) (m * 4) (n - m)) (n - m) [.int .i64 0, .int .i64 0, .int .i64 0, .bool false] = some h2 ∧ Kp (· = b) h1 h2 ∧ h2.length = h1.length ∧ ∃ c2, h2[b]? = some (.cells c2 (.grow 4) v) ∧ m * 4 ≤ c2.length ∧ c2.take (m * 4) = cc.take (m * 4) := by
    cases hk : n - m with
    | zero => exact ⟨h1, rfl, Kp.refl _ _, rfl, cc, m4, by omega, rfl⟩
    | succ k =>
     have zl : (repl (k + 1) [AV.int .i64 0, .int .i64 0, .int .i64 0, .bool false]).length = (k + 1) * 4 := by
      have : ∀ k, (repl k [AV.int .i64 0, .int .i64 0, .int .i64 0, .bool false]).length = k * 4 := fun k => by
       unfold repl
       simp
      exact this _
     have fit : m * 4 + (repl (k + 1) [AV.int .i64 0, .int .i64 0, .int .i64 0, .bool false]).length ≤ cc.length := by rw [zl]; omega
     refine ⟨h1.set b (.cells (splice (0 + m * 4) (repl (k + 1) [AV.int .i64 0, .int .i64 0, .int .i64 0, .bool false]) cc) (.grow 4) v), ?_, kp_set _ _ _ _ rfl, by simp, _, set_same m4, ?_, ?_⟩
     · show stN h1 ⟨b, v, 0 + m * 4⟩ (repl (k + 1) [AV.int .i64 0, .int .i64 0, .int .i64 0, .bool false]) = _
       unfold stN
       simp only [m4]
       rw [if_pos ⟨trivial, by simp, by omega⟩]
     · rw [Nat.zero_add, splice_length _ _ _ fit]; omega
     · rw [Nat.zero_add, splice_take _ _ _ fit]
   obtain ⟨h2, c1, c2, c3, cc2, c4, c5, c6⟩ := clr
   rw [i5, Option.bind_some, gI_of, letK_eq, if_neg (by simp), letK_eq, wrap64 (by omega) (by omega), show ((i : Int) + 1) = ((i + 1 : Nat) : Int) by omega, e1, X34x10xe0, chkC_of (fun _ => ⟨by omega, by omega, es⟩), letK_eq, letK_eq, Int.toNat_natCast, c1, Option.bind_some, chkC_of (fun _ => ⟨by omega, .inl (by omega)⟩)]
   refine ⟨h2, rfl, e2.trans c2, by omega, ⟨⟨?_, rows_flat rg_flat _, .inr ⟨b, v, cc2, rfl, c4, c5, by rw [c6, pre]⟩⟩, hm⟩⟩
   rw [← pre, List.length_take]; omega
 · have : l.filter (fun x => !P x) = l := List.filter_eq_self.2 fun y hy => by rw [i1 y hy]; rfl
   rw [i2, Option.bind_some, gI_of, letK_eq, if_pos (by simp), this, hl]
   exact ⟨h, rfl, Kp.refl _ _, rfl, H⟩
theorem eidx_ok {f : FuncId} {cs : List AV} {P : Int → Bool} {h : Heap} (hf : ∀ x, E f ([] ++ [.int .i64 x] ++ cs) h = some (.bool (P x), h)) {s : SA} {n : Nat} {l : List Int} (V : VS intC 1 h s n l) (hn : n ≤ 1000000) :
 (∃ (i : Nat) (x : Int), i < n ∧ l[i]? = some x ∧ P x = true ∧ E 71 [.sl s n, .fn f [] cs] h = some (.int .i64 i, h)) ∨
 ((∀ y ∈ l, P y = false) ∧ E 71 [.sl s n, .fn f [] cs] h = some (.int .i64 (-1), h)) := by
 have hl := V.1
 have lp : ∀ (k j : Nat), j + k = n → (∀ y ∈ l.take j, P y = false) →
  (∃ (i : Nat) (x : Int), i < n ∧ l[i]? = some x ∧ P x = true ∧ L71x4 mk0 E s n (.fn f [] cs) ((n : Nat) : Int) ((j : Nat) : Int) h (Q71x4 mk0 E) = some (.int .i64 i, h)) ∨
  ((∀ y ∈ l, P y = false) ∧ L71x4 mk0 E s n (.fn f [] cs) ((n : Nat) : Int) ((j : Nat) : Int) h (Q71x4 mk0 E) = some (.int .i64 (-1), h)) := by
  intro k
  induction k with
  | zero =>
   intro j hj hp
   rw [L71x4xeq, letK_eq, if_neg (by simp; omega), X71x4xe0]
   rw [List.take_of_length_le (by omega)] at hp
   exact .inr ⟨hp, rfl⟩
  | succ k ih =>
   intro j hj hp
   obtain ⟨x, hx⟩ := at_lt (l := l) (i := j) (by omega)
   obtain ⟨a, ha, la⟩ := vs_ld1 (g := AV.int .i64) V (fun _ => rfl) j x hx
   rw [L71x4xeq, letK_eq, if_pos (by simp; omega), chk_of (by intro _; omega), ha, atP_of, Int.toNat_natCast, la, gI_of, fn_cap, hf, Option.bind_some, gB_of]
   cases hP : P x with
   | true =>
    rw [if_pos rfl, X71x4xr]
    exact .inl ⟨j, x, by omega, hx, hP, rfl⟩
   | false =>
    rw [if_neg (by simp), letK_eq, wrap64 (by omega) (by omega), show ((j : Int) + 1) = ((j + 1 : Nat) : Int) by omega]
    refine ih (j + 1) (by omega) fun y hy => ?_
    rw [List.take_add_one, hx] at hy
    rcases List.mem_append.1 hy with hy | hy
    · exact hp y hy
    · have : y = x := by simpa using hy
      rw [this]; exact hP
 have := lp n 0 (by omega) (by simp)
 rw [show (((0 : Nat) : Int)) = 0 from rfl] at this
 rw [e71]
 exact this
end Go.Proofs.Ytnmdadadjneaiaa.D
