/- color.order: who is left, and how many neighbours are. -/
import Derived.Test.YtnmdadadjneaiaaConDi
set_option linter.unusedVariables false
set_option linter.unusedSimpArgs false
namespace Go.Proofs.Ytnmdadadjneaiaa.D
open Go Go.Proofs.Ytnmdadadjneaiaa.Abs Go.Proofs
def andL (a b : List Bool) : List Bool := List.zipWith (· && ·) a b
theorem andL_len {a b : List Bool} (h : a.length = b.length) : (andL a b).length = b.length := by
 unfold andL; rw [List.length_zipWith]; omega
theorem andL_get {a b : List Bool} {i : Nat} {x y : Bool} (h1 : a[i]? = some x) (h2 : b[i]? = some y) : (andL a b)[i]? = some (x && y) := by
 unfold andL; rw [List.getElem?_zipWith, h1, h2]
theorem cntB_app (a b : List Bool) : cntB (a ++ b) = cntB a + cntB b := by
 induction a with
 | nil => simp [cntB]
 | cons x a ih =>
  show (if x = true then 1 else 0) + cntB (a ++ b) = (if x = true then 1 else 0) + cntB a + cntB b
  rw [ih]; omega
theorem cntB_take {l : List Bool} {j : Nat} {x : Bool} (h : l[j]? = some x) : cntB (l.take (j + 1)) = cntB (l.take j) + (if x = true then 1 else 0) := by
 rw [List.take_add_one, h, cntB_app]
 show _ + ((if x = true then 1 else 0) + 0) = _
 omega
theorem cntB_off : ∀ {l : List Bool} {b : Nat}, l[b]? = some true → cntB (l.set b false) + 1 = cntB l := by
 intro l
 induction l with
 | nil => intro b h; cases h
 | cons x l ih =>
  intro b h
  cases b with
  | zero =>
   rw [List.getElem?_cons_zero] at h
   cases h
   show (if false = true then 1 else 0) + cntB l + 1 = (if true = true then 1 else 0) + cntB l
   rw [if_neg (by simp), if_pos rfl]; omega
  | succ b =>
   rw [List.getElem?_cons_succ] at h
   have := ih h
   show (if x = true then 1 else 0) + cntB (l.set b false) + 1 = (if x = true then 1 else 0) + cntB l
   omega
theorem cnt_and_off : ∀ {M l : List Bool} {b : Nat} {y : Bool}, l[b]? = some true → M[b]? = some y → cntB (andL M (l.set b false)) + (if y = true then 1 else 0) = cntB (andL M l) := by
 intro M
 induction M with
 | nil => intro l b y _ h; cases h
 | cons x M ih =>
  intro l b y h h2
  cases l with
  | nil => cases h
  | cons z l =>
   cases b with
   | zero =>
    rw [List.getElem?_cons_zero] at h h2
    cases h; cases h2
    show (if (x && false) = true then 1 else 0) + cntB (andL M l) + _ = (if (x && true) = true then 1 else 0) + cntB (andL M l)
    cases x <;> simp <;> omega
   | succ b =>
    rw [List.getElem?_cons_succ] at h h2
    have := ih h h2
    show (if (x && z) = true then 1 else 0) + cntB (andL M (l.set b false)) + _ = (if (x && z) = true then 1 else 0) + cntB (andL M l)
    omega
theorem cnt_zero {l : List Bool} (h : cntB l = 0) : ∀ i : Nat, l[i]? ≠ some true := fun i hi => by
 have := cntB_off hi
 omega
theorem cnt_pos {l : List Bool} (h : 0 < cntB l) : ∃ i : Nat, l[i]? = some true := by
 apply Classical.byContradiction
 intro hc
 have : (idxB 0 l) = [] := List.eq_nil_iff_forall_not_mem.2 fun t ht => hc ⟨t - 0, ((idxB_mem l 0 t).1 ht).2⟩
 have h2 := idxB_len l 0
 rw [this] at h2
 simp at h2
 omega
def wantB (sl th : List Bool) (r : Nat) : Bool := th.getD r false && !(sl.getD r false)
def leftL (n : Nat) (sl th : List Bool) : List Bool := (List.range n).map (wantB sl th)
theorem leftL_len (n : Nat) (sl th : List Bool) : (leftL n sl th).length = n := by unfold leftL; rw [List.length_map, List.length_range]
theorem leftL_get {n r : Nat} (sl th : List Bool) (hr : r < n) : (leftL n sl th)[r]? = some (wantB sl th r) := by
 unfold leftL; rw [List.getElem?_map, List.getElem?_range hr]; rfl
theorem want_iff {n r : Nat} {sl th : List Bool} (hs : sl.length = n) (ht : th.length = n) : (leftL n sl th)[r]? = some true ↔ want sl th r := by
 by_cases hr : r < n
 · obtain ⟨x, hx⟩ := at_lt (l := th) (i := r) (by omega)
   obtain ⟨y, hy⟩ := at_lt (l := sl) (i := r) (by omega)
   rw [leftL_get sl th hr]
   unfold wantB want
   simp only [List.getD, hx, hy, Option.getD_some]
   cases x <;> cases y <;> simp
 · constructor
   · intro h
     have := (List.getElem?_eq_some_iff.1 h).1
     rw [leftL_len] at this; omega
   · intro h
     have := (List.getElem?_eq_some_iff.1 h.1).1
     omega
def dgN (L : List (List Bool)) (l : List Bool) (r : Nat) : Nat := cntB (andL (L.getD r []) l)
theorem take_set_same {α : Type} {l F : List α} {j : Nat} {w : α} (h : l.take j = F.take j) (hw : F[j]? = some w) (hl : j < l.length) : (l.set j w).take (j + 1) = F.take (j + 1) := by
 rw [List.take_add_one, List.take_add_one, List.getElem?_set_self hl, hw, List.take_set_of_le (Nat.le_refl _), h]
theorem left_loop {n hl hd : Nat} (hn : n ≤ 8192) {h0 : Heap} {g : Gr} (M : GM h0 g n) (nl : ¬ g.owns hl) (i1 : Int) (s6 : SA) (n6 : Nat) (Q : Kont (AV × Heap)) :
 ∀ (k j : Nat), j + k = n → ∀ (h : Heap) (l : List Bool), Kp (· = hl) h0 h → h[hl]? = some (bits l) → l.length = n → l.take j = (leftL n g.sl g.th).take j →
  ∃ h', L42x7 mk0 E (some ⟨g.G, 0, 0⟩) i1 (.pos ⟨hl, 0, 0⟩) n s6 n6 ((cntB ((leftL n g.sl g.th).take j) : Nat) : Int) ((n : Nat) : Int) ((j : Nat) : Int) h Q = Q (.exit 0) (S42xe0 (some ⟨g.G, 0, 0⟩) i1 (.pos ⟨hl, 0, 0⟩) n s6 n6 ((cntB (leftL n g.sl g.th) : Nat) : Int) h') ∧ Kp (· = hl) h0 h' ∧ h'.length = h.length ∧ h'[hl]? = some (bits (leftL n g.sl g.th)) := by
 have Fl := leftL_len n g.sl g.th
 intro k
 induction k with
 | zero =>
  intro j hj h l kp hq ll ht
  rw [List.take_of_length_le (by omega), List.take_of_length_le (by omega)] at ht
  rw [L42x7xeq, letK_eq, if_neg (by simp; omega), List.take_of_length_le (by omega), ← ht]
  exact ⟨h, rfl, kp, rfl, hq⟩
 | succ k ih =>
  intro j hj h l kp hq ll ht
  have Mh := M.kp kp fun b hb e => nl (by rw [← e]; exact hb)
  have rt := Mh.ld 2 (.sl (.pos ⟨g.T, 0, 0⟩) n) rfl rfl
  have rs := Mh.ld 1 (.sl (.pos ⟨g.S, 0, 0⟩) n) rfl rfl
  obtain ⟨x, hx⟩ := at_lt (l := g.th) (i := j) (by have := Mh.t.2; omega)
  obtain ⟨y, hy⟩ := at_lt (l := g.sl) (i := j) (by have := Mh.s.2; omega)
  have ew : (if x = true then (!y) else false) = wantB g.sl g.th j := by
   unfold wantB
   simp only [List.getD, hx, hy, Option.getD_some]
   cases x <;> rfl
  have fw := leftL_get g.sl g.th (n := n) (r := j) (by omega)
  have t := bits_set hq j (by omega) (wantB g.sl g.th j)
  obtain ⟨h', r1, r2, r3, r4⟩ := ih (j + 1) (by omega) (h.set hl (bits (l.set j (wantB g.sl g.th j)))) _ (kp.trans (kp_set (· = hl) hl h _ rfl)) (set_same hq) (by rw [List.length_set]; exact ll) (take_set_same ht fw (by omega))
  have g2 := bits_get (set_same (x := bits (l.set j (wantB g.sl g.th j))) hq) (i := j) (x := wantB g.sl g.th j) (List.getElem?_set_self (by omega))
  have ct := cntB_take fw
  have cl := cntB_le ((leftL n g.sl g.th).take j)
  rw [List.length_take] at cl
  rw [L42x7xeq, letK_eq, if_pos (by simp; omega), atP_of, add_mk, rt, gL_of, chk_of (by intro _; omega), adP_pos, atP_of, Int.toNat_natCast, add_mk, bits_get Mh.t.1 hx, gB_of, atP_of, atP_of, atP_of, add_mk, rs, gL_any, chk_of (by intro _; omega), adP_pos, atP_of, atP_of, add_mk, bits_get Mh.s.1 hy, gB_any, letK_eq, ew, chk_of (by intro _; omega), adP_pos, atP_of, add_mk, t, Option.bind_some, chk_of (by intro _; omega), atP_of, add_mk, g2, gB_of]
  cases hw : wantB g.sl g.th j with
  | true =>
   rw [hw, if_pos rfl] at ct
   rw [hw] at r1 r3
   rw [if_pos rfl, letK_eq, wrap64 (by omega) (by omega), J42x18xeq, letK_eq, wrap64 (x := (j : Int) + 1) (by omega) (by omega), show ((j : Int) + 1) = ((j + 1 : Nat) : Int) by omega, show ((cntB ((leftL n g.sl g.th).take j) : Nat) : Int) + 1 = ((cntB ((leftL n g.sl g.th).take (j + 1)) : Nat) : Int) by omega, r1]
   exact ⟨h', rfl, r2, by rw [r3, List.length_set], r4⟩
  | false =>
   rw [hw, if_neg (by simp)] at ct
   rw [hw] at r1 r3
   rw [if_neg (by simp), J42x18xeq, letK_eq, wrap64 (x := (j : Int) + 1) (by omega) (by omega), show ((j : Int) + 1) = ((j + 1 : Nat) : Int) by omega, show ((cntB ((leftL n g.sl g.th).take j) : Nat) : Int) = ((cntB ((leftL n g.sl g.th).take (j + 1)) : Nat) : Int) by omega, r1]
   exact ⟨h', rfl, r2, by rw [r3, List.length_set], r4⟩
theorem deg_in {n hl hd q r : Nat} (hn : n ≤ 8192) {h0 : Heap} {M F : List Bool} (hq : h0[q]? = some (bits M)) (hM : M.length = n) (hF : F.length = n) (hlb : h0[hl]? = some (bits F)) (ne1 : q ≠ hd) (ne2 : hl ≠ hd) (hr : r < n) (p0 : Option Ad) (i1 i7 : Int) (s69 : SA) (n69 : Nat) (i70 : Int) (Q : Kont (AV × Heap)) :
 ∀ (k j : Nat), j + k = n → ∀ (h : Heap) (d : List Int) (x : Int), Kp (· = hd) h0 h → h[hd]? = some (intB d) → d.length = n → d[r]? = some x → 0 ≤ x ∧ x ≤ j →
  ∃ h', L42x32 mk0 E p0 i1 (.pos ⟨hl, 0, 0⟩) n (.pos ⟨hd, 0, 0⟩) n i7 ((r : Nat) : Int) s69 n69 i70 ((r : Nat) : Int) (.pos ⟨q, 0, 0⟩) n ((n : Nat) : Int) ((j : Nat) : Int) h Q = Q (.exit 4) (S42xe4 p0 i1 (.pos ⟨hl, 0, 0⟩) n (.pos ⟨hd, 0, 0⟩) n i7 s69 n69 i70 ((r : Nat) : Int) h') ∧ Kp (· = hd) h0 h' ∧ h'.length = h.length ∧ h'[hd]? = some (intB (d.set r (x + ((cntB ((andL M F).drop j) : Nat) : Int)))) := by
 have al := andL_len (a := M) (b := F) (by omega)
 intro k
 induction k with
 | zero =>
  intro j hj h d x kp hdq dl dx hx
  rw [L42x32xeq, letK_eq, if_neg (by simp; omega), List.drop_eq_nil_of_le (by omega)]
  refine ⟨h, rfl, kp, rfl, ?_⟩
  have : d.set r (x + ((cntB [] : Nat) : Int)) = d := by
   apply List.ext_getElem?
   intro i
   by_cases e : i = r
   · rw [e, List.getElem?_set_self (by omega), dx]; simp [cntB]
   · rw [List.getElem?_set_ne (Ne.symm e)]
  rw [this]; exact hdq
 | succ k ih =>
  intro j hj h d x kp hdq dl dx hx
  obtain ⟨a, ha⟩ := at_lt (l := M) (i := j) (by omega)
  obtain ⟨b, hb⟩ := at_lt (l := F) (i := j) (by omega)
  have g1 := bits_get (kp _ _ hq ne1) ha
  have g2 := bits_get (kp _ _ hlb ne2) hb
  have ab := andL_get ha hb
  have VD := intB_vs hdq dl
  obtain ⟨ad, had, lad⟩ := vs_ld1 (g := AV.int .i64) VD (fun _ => rfl) r x dx
  cases had
  rw [L42x32xeq, letK_eq, if_pos (by simp; omega), chk_of (by intro _; omega), adP_pos, atP_of, Int.toNat_natCast, add_mk, g1, gB_of, chk_of (by intro _; omega), adP_pos, atP_of, atP_of, add_mk, g2, gB_any, letK_eq]
  rw [drop_at ab]
  by_cases hc : a = true ∧ b = true
  · obtain ⟨rfl, rfl⟩ := hc
    have t := intB_set hdq (i := r) (by omega) (x + 1)
    obtain ⟨h', r1, r2, r3, r4⟩ := ih (j + 1) (by omega) (h.set hd (intB (d.set r (x + 1)))) _ (x + 1) (kp.trans (kp_set (· = hd) hd h _ rfl)) (set_same hdq) (by rw [List.length_set]; exact dl) (List.getElem?_set_self (by omega)) (by omega)
    rw [if_pos (show (if true = true then true else false) = true from rfl), chk_of (by intro _; omega), adP_pos, atP_of, Int.toNat_natCast, lad, gI_of, letK_eq, wrap64 (x := x + 1) (by omega) (by omega), chk_of (by intro _; omega), atP_of, add_mk, t, Option.bind_some, J42x42xeq, letK_eq, wrap64 (x := (j : Int) + 1) (by omega) (by omega), show ((j : Int) + 1) = ((j + 1 : Nat) : Int) by omega, r1]
    refine ⟨h', rfl, r2, by rw [r3, List.length_set], ?_⟩
    rw [r4, List.set_set]
    congr 3
    show x + 1 + _ = x + (((1 + cntB ((andL M F).drop (j + 1)) : Nat)) : Int)
    omega
  · obtain ⟨h', r1, r2, r3, r4⟩ := ih (j + 1) (by omega) h d x kp hdq dl dx (by omega)
    have ab0 : (a && b) = false := by cases a <;> cases b <;> simp at hc ⊢
    rw [if_neg (by cases a <;> cases b <;> simp at hc ⊢), J42x42xeq, letK_eq, wrap64 (x := (j : Int) + 1) (by omega) (by omega), show ((j : Int) + 1) = ((j + 1 : Nat) : Int) by omega, r1]
    refine ⟨h', rfl, r2, r3, ?_⟩
    rw [r4, ab0]
    congr 4
    show _ = (((if false = true then 1 else 0) + cntB ((andL M F).drop (j + 1)) : Nat) : Int)
    rw [if_neg (by simp)]; omega
theorem deg_out {n hl hd : Nat} (hn : n ≤ 8192) {h0 : Heap} {g : Gr} (M : GM h0 g n) (nd : ¬ g.owns hd) {F : List Bool} (hF : F.length = n) (hlb : h0[hl]? = some (bits F)) (ne2 : hl ≠ hd) (i1 i7 : Int) (Q : Kont (AV × Heap)) :
 ∀ (k j : Nat), j + k = n → ∀ (h : Heap) (d : List Int), Kp (· = hd) h0 h → h[hd]? = some (intB d) → d.length = n → (∀ i : Nat, i < n → d[i]? = some (if i < j then ((dgN g.L F i : Nat) : Int) else 0)) →
  ∃ h' d', L42x22 mk0 E (some ⟨g.G, 0, 0⟩) i1 (.pos ⟨hl, 0, 0⟩) n (.pos ⟨hd, 0, 0⟩) n i7 (.pos ⟨g.B, g.v, 0⟩) n ((n : Nat) : Int) ((j : Nat) : Int) h Q = Q (.exit 2) (S42xe2 (some ⟨g.G, 0, 0⟩) i1 (.pos ⟨hl, 0, 0⟩) n (.pos ⟨hd, 0, 0⟩) n i7 h') ∧ Kp (· = hd) h0 h' ∧ h'.length = h.length ∧ h'[hd]? = some (intB d') ∧ d'.length = n ∧ ∀ i : Nat, i < n → d'[i]? = some ((dgN g.L F i : Nat) : Int) := by
 intro k
 induction k with
 | zero =>
  intro j hj h d kp hdq dl hd'
  rw [L42x22xeq, letK_eq, if_neg (by simp; omega)]
  exact ⟨h, d, rfl, kp, rfl, hdq, dl, fun i hi => by rw [hd' i hi, if_pos (by omega)]⟩
 | succ k ih =>
  intro j hj h d kp hdq dl hd'
  have Mh := M.kp kp fun b hb e => nd (by rw [← e]; exact hb)
  obtain ⟨q, R, s1, s2, s3, s4, s5, s6⟩ := M.row (j := j) (by omega)
  obtain ⟨q', R', t1, t2, t3, t4, t5, t6⟩ := Mh.row (j := j) (by omega)
  rw [s1] at t1; cases t1
  rw [s2] at t2; cases t2
  have gR : g.L.getD j [] = R := by simp [List.getD, s2]
  obtain ⟨h', r1, r2, r3, r4⟩ := deg_in (r := j) hn s3 s4 hF hlb (fun e => nd (by rw [← e]; exact .inl s6)) ne2 (by omega) (some ⟨g.G, 0, 0⟩) i1 i7 (.pos ⟨g.B, g.v, 0⟩) n ((n : Nat) : Int) (Q42x32 mk0 E Q) n 0 (by omega) h d 0 kp hdq dl (by rw [hd' j (by omega), if_neg (by omega)]) (by omega)
  rw [show (((0 : Nat) : Int)) = 0 from rfl] at r1
  rw [List.drop_zero, Int.zero_add] at r4
  obtain ⟨h2, d2, u1, u2, u3, u4, u5, u6⟩ := ih (j + 1) (by omega) h' _ r2 r4 (by rw [List.length_set]; exact dl) (fun i hi => by
   by_cases e : i = j
   · rw [e, List.getElem?_set_self (by omega), if_pos (by omega)]
     unfold dgN
     rw [gR]
   · rw [List.getElem?_set_ne (Ne.symm e), hd' i hi]
     by_cases e2 : i < j
     · rw [if_pos e2, if_pos (by omega)]
     · rw [if_neg e2, if_neg (by omega)])
  rw [L42x22xeq, letK_eq, if_pos (by simp; omega), chk_of (by intro _; omega), adP_pos, atP_of, Int.toNat_natCast, add_mk, t5, gL_of, r1, X42x32xe4, letK_eq, wrap64 (x := (j : Int) + 1) (by omega) (by omega), show ((j : Int) + 1) = ((j + 1 : Nat) : Int) by omega, u1]
  exact ⟨h2, d2, rfl, u2, by omega, u4, u5, u6⟩
end Go.Proofs.Ytnmdadadjneaiaa.D
/- color.order: one after the other. -/
set_option linter.unusedVariables false
set_option linter.unusedSimpArgs false
namespace Go.Proofs.Ytnmdadadjneaiaa.D
open Go Go.Proofs.Ytnmdadadjneaiaa.Abs Go.Proofs
structure PO (K : Nat) (E : Nat → Nat → Prop) (W : Nat → Prop) (o : List Nat) (l : List Bool) : Prop where
 lw : ∀ r : Nat, l[r]? = some true ↔ W r ∧ r ∉ o
 nd : o.Nodup
 ow : ∀ r ∈ o, W r
 pl : Thin K E W → ∀ A r B, o = A ++ r :: B → Few K E (fun q => W q ∧ q ∉ A) r
theorem PO.go {n K : Nat} {W : Nat → Prop} {o : List Nat} {l : List Bool} {L : List (List Bool)} (H : PO K (fun p q => gg L p q = true) W o l) (rl : ∀ r : Nat, r < n → (L.getD r []).length = n) (ll : l.length = n) {b : Nat} (hb : l[b]? = some true) (hd : dgN L l b < K ∨ ∀ i : Nat, l[i]? = some true → K ≤ dgN L l i) : PO K (fun p q => gg L p q = true) W (o ++ [b]) (l.set b false) := by
 obtain ⟨wb, nb⟩ := (H.lw b).1 hb
 have bl := (List.getElem?_eq_some_iff.1 hb).1
 have cell : ∀ p q, gg L p q = true → (L.getD p [])[q]? = some true := fun p q hh => by
  unfold gg at hh
  rw [List.getD, Option.getD_eq_iff] at hh
  rcases hh with h | ⟨_, h⟩
  · exact h
  · cases h
 have sub : ∀ (r : Nat) (T : List Nat), T.Nodup → (∀ t ∈ T, (W t ∧ t ∉ o) ∧ gg L r t = true) → T.length ≤ dgN L l r := fun r T hT h => cnt_sub hT fun t ht => by
  have := andL_get (cell r t (h t ht).2) ((H.lw t).2 (h t ht).1)
  exact this
 refine ⟨fun r => ?_, ?_, ?_, ?_⟩
 · by_cases e : r = b
   · subst e
     rw [List.getElem?_set_self bl]
     constructor
     · intro h; cases h
     · rintro ⟨_, h⟩; simp at h
   · rw [List.getElem?_set_ne (Ne.symm e), H.lw, List.mem_append, List.mem_singleton]
     exact ⟨fun h => ⟨h.1, fun hh => hh.elim h.2 e⟩, fun h => ⟨h.1, fun hh => h.2 (.inl hh)⟩⟩
 · refine List.nodup_append.2 ⟨H.nd, by simp, fun a ha c hc => ?_⟩
   rw [List.mem_singleton] at hc
   exact fun e => nb (by rw [← hc, ← e]; exact ha)
 · intro r hr
   rcases List.mem_append.1 hr with h | h
   · exact H.ow r h
   · rw [List.mem_singleton] at h; rw [h]; exact wb
 · intro th A r B e
   rcases List.eq_nil_or_concat B with rfl | ⟨B', z, rfl⟩
   · obtain ⟨rfl, e2⟩ := List.append_inj' e rfl
     cases e2
     intro T hT hh
     rcases hd with hd | hd
     · have := sub b T hT hh
       omega
     · obtain ⟨r, hr, hf⟩ := th (idxB 0 l) (fun hh => by
        have : b ∈ idxB 0 l := (idxB_mem l 0 b).2 ⟨Nat.zero_le _, hb⟩
        rw [hh] at this; cases this) (fun r hr => ((H.lw r).1 ((idxB_mem l 0 r).1 hr).2).1)
       have lr := ((idxB_mem l 0 r).1 hr).2
       rw [Nat.sub_zero] at lr
       have rn := (List.getElem?_eq_some_iff.1 lr).1
       have h3 := hf (idxB 0 (andL (L.getD r []) l)) (idxB_nodup _ _) (fun t ht => by
        have h4 := ((idxB_mem _ 0 t).1 ht).2
        rw [Nat.sub_zero] at h4
        have tl := (List.getElem?_eq_some_iff.1 h4).1
        rw [andL_len (by rw [rl r (by omega), ll])] at tl
        obtain ⟨y, hy⟩ := at_lt (l := l) (i := t) (by omega)
        obtain ⟨x, hx⟩ := at_lt (l := L.getD r []) (i := t) (by rw [rl r (by omega)]; omega)
        rw [andL_get hx hy] at h4
        have hxy : x = true ∧ y = true := by
         injection h4 with h4
         rwa [Bool.and_eq_true] at h4
        obtain ⟨rfl, rfl⟩ := hxy
        refine ⟨(idxB_mem l 0 t).2 ⟨Nat.zero_le _, hy⟩, ?_⟩
        show gg L r t = true
        unfold gg
        rw [List.getD_eq_getElem?_getD (l := L.getD r []), hx]
        rfl)
       rw [idxB_len] at h3
       have h5 := hd r lr
       unfold dgN at h5
       omega
   · rw [List.concat_eq_append, ← List.cons_append, ← List.append_assoc] at e
     have := List.append_inj' e rfl
     exact H.pl th A r B' this.1
structure OS (h0 h : Heap) (n hl hd : Nat) (s : SA) (o : List Nat) (l : List Bool) (L : List (List Bool)) : Prop where
 old : Old h0 h
 lb : h[hl]? = some (bits l)
 ll : l.length = n
 dg : ∃ d, h[hd]? = some (intB d) ∧ d.length = n ∧ ∀ i : Nat, i < n → d[i]? = some ((dgN L l i : Nat) : Int)
 os : GS h s o.length 1 (o.map fun r => .int .i64 ((r : Nat) : Int))
 lo : h0.length ≤ hl ∧ h0.length ≤ hd ∧ hl ≠ hd ∧ ¬ inS s hl ∧ ¬ inS s hd
 so : ∀ b, inS s b → h0.length ≤ b
theorem pick_loop {n K hl hd : Nat} (hn : n ≤ 8192) {h : Heap} {l : List Bool} {d : List Int} (hlb : h[hl]? = some (bits l)) (ll : l.length = n) (hdb : h[hd]? = some (intB d)) (dl : d.length = n) {D : Nat → Int} (hD : ∀ i : Nat, i < n → d[i]? = some (D i)) (p0 : Option Ad) (s13 : SA) (n13 : Nat) (i98 i99 : Int) (Q : Kont (AV × Heap)) :
 ∀ (k j : Nat), j + k = n → ∀ (i14 : Int), (i14 = -1 ∧ (∀ i : Nat, i < j → l[i]? ≠ some true) ∨ ∃ b : Nat, i14 = b ∧ l[b]? = some true) → (∀ i : Nat, i < j → l[i]? = some true → (K : Int) ≤ D i) →
  ∃ c : Int, L42x58 mk0 E p0 K (.pos ⟨hl, 0, 0⟩) n (.pos ⟨hd, 0, 0⟩) n s13 n13 i14 i98 i99 (.pos ⟨hl, 0, 0⟩) n ((n : Nat) : Int) ((j : Nat) : Int) h Q = Q (.exit 8) (S42xe8 p0 K (.pos ⟨hl, 0, 0⟩) n (.pos ⟨hd, 0, 0⟩) n s13 n13 c i98 i99 h) ∧ (c = -1 ∧ (∀ i : Nat, i < n → l[i]? ≠ some true) ∨ ∃ b : Nat, c = b ∧ l[b]? = some true ∧ (D b < (K : Int) ∨ ∀ i : Nat, l[i]? = some true → (K : Int) ≤ D i)) := by
 have VD := intB_vs hdb dl
 intro k
 induction k with
 | zero =>
  intro j hj c hc hk
  rw [L42x58xeq, letK_eq, if_neg (by simp; omega)]
  refine ⟨c, rfl, hc.imp (fun h => ⟨h.1, fun i hi => h.2 i (by omega)⟩) fun ⟨b, h1, h2⟩ => ⟨b, h1, h2, .inr fun i hi => hk i ?_ hi⟩⟩
  have := (List.getElem?_eq_some_iff.1 hi).1
  omega
 | succ k ih =>
  intro j hj c hc hk
  obtain ⟨x, hx⟩ := at_lt (l := l) (i := j) (by omega)
  rw [L42x58xeq, letK_eq, if_pos (by simp; omega), chk_of (by intro _; omega), adP_pos, atP_of, Int.toNat_natCast, add_mk, bits_get hlb hx, gB_of]
  cases x with
  | false =>
   rw [if_pos (show (!false) = true from rfl), J42x78xeq, letK_eq, wrap64 (x := (j : Int) + 1) (by omega) (by omega), show ((j : Int) + 1) = ((j + 1 : Nat) : Int) by omega]
   refine ih (j + 1) (by omega) c (hc.imp (fun h => ⟨h.1, fun i hi => ?_⟩) id) fun i hi hh => ?_
   · by_cases e : i = j
     · rw [e, hx]; simp
     · exact h.2 i (by omega)
   · by_cases e : i = j
     · rw [e, hx] at hh; cases hh
     · exact hk i (by omega) hh
  | true =>
   obtain ⟨a1, ha1, la1⟩ := vs_ld1 (g := AV.int .i64) VD (fun _ => rfl) j (D j) (hD j (by omega))
   cases ha1
   rw [if_neg (show ¬ (!true) = true from fun h => by cases h), chk_of (by intro _; omega), adP_pos, atP_of, la1, gI_of, letK_eq]
   by_cases hlt : D j < (K : Int)
   · rw [if_pos (decide_eq_true hlt)]
     exact ⟨(j : Int), rfl, .inr ⟨j, rfl, hx, .inl hlt⟩⟩
   · have cn : c.toNat < n := by
      rcases hc with ⟨h, _⟩ | ⟨b, h, h2⟩
      · omega
      · have := (List.getElem?_eq_some_iff.1 h2).1; omega
     have cb : ¬ c < 0 → ∃ b : Nat, c = b ∧ l[b]? = some true := fun h => by
      rcases hc with h2 | h2
      · omega
      · exact h2
     obtain ⟨a2, ha2, la2⟩ := vs_ld1 (g := AV.int .i64) VD (fun _ => rfl) c.toNat (D c.toNat) (hD _ cn)
     cases ha2
     have hk' : ∀ i : Nat, i < j + 1 → l[i]? = some true → (K : Int) ≤ D i := fun i hi hh => by
      by_cases e : i = j
      · rw [e]; omega
      · exact hk i (by omega) hh
     rw [if_neg (by simpa using hlt), letK_eq, chk_of (by intro _; omega), atP_of, atP_of, la1, gI_any, chk_of (by
      intro hh
      simp at hh
      omega), atP_of, atP_of, la2, gI_any, letK_eq, letK_eq]
     rcases Bool.eq_false_or_eq_true (if decide (c < 0) = true then true else decide (D c.toNat < D j)) with hs | hs
     · rw [if_pos hs, J42x77xeq, J42x78xeq, letK_eq, wrap64 (x := (j : Int) + 1) (by omega) (by omega), show ((j : Int) + 1) = ((j + 1 : Nat) : Int) by omega]
       exact ih (j + 1) (by omega) j (.inr ⟨j, rfl, hx⟩) hk'
     · have c0 : ¬ c < 0 := fun h => by
        rw [decide_eq_true h, if_pos rfl] at hs
        cases hs
       rw [if_neg (by rw [hs]; simp), J42x77xeq, J42x78xeq, letK_eq, wrap64 (x := (j : Int) + 1) (by omega) (by omega), show ((j : Int) + 1) = ((j + 1 : Nat) : Int) by omega]
       exact ih (j + 1) (by omega) c (.inr (cb c0)) hk'
theorem dec_loop {n hd q : Nat} (hn : n ≤ 8192) {h0 : Heap} {M : List Bool} (hq : h0[q]? = some (bits M)) (hM : M.length = n) (ne : q ≠ hd) {D : Nat → Int} (hD : ∀ i : Nat, i < n → 0 ≤ D i ∧ D i ≤ 10000) (p0 : Option Ad) (i1 : Int) (s5 : SA) (n5 : Nat) (s13 : SA) (n13 : Nat) (i98 i99 : Int) (Q : Kont (AV × Heap)) :
 ∀ (k j : Nat), j + k = n → ∀ (h : Heap) (d : List Int), Kp (· = hd) h0 h → h[hd]? = some (intB d) → d.length = n → (∀ i : Nat, i < n → d[i]? = some (if i < j ∧ M[i]? = some true then D i - 1 else D i)) →
  ∃ h' d', L42x84 mk0 E p0 i1 s5 n5 (.pos ⟨hd, 0, 0⟩) n s13 n13 i98 i99 (.pos ⟨q, 0, 0⟩) n ((n : Nat) : Int) ((j : Nat) : Int) h Q = Q (.exit 10) (S42xe10 p0 i1 s5 n5 (.pos ⟨hd, 0, 0⟩) n s13 n13 i98 i99 h') ∧ Kp (· = hd) h0 h' ∧ h'.length = h.length ∧ h'[hd]? = some (intB d') ∧ d'.length = n ∧ ∀ i : Nat, i < n → d'[i]? = some (if M[i]? = some true then D i - 1 else D i) := by
 intro k
 induction k with
 | zero =>
  intro j hj h d kp hdb dl hd'
  rw [L42x84xeq, letK_eq, if_neg (by simp; omega)]
  refine ⟨h, d, rfl, kp, rfl, hdb, dl, fun i hi => ?_⟩
  rw [hd' i hi]
  simp only [show i < j by omega, true_and]
 | succ k ih =>
  intro j hj h d kp hdb dl hd'
  obtain ⟨x, hx⟩ := at_lt (l := M) (i := j) (by omega)
  have VD := intB_vs hdb dl
  have dj : d[j]? = some (D j) := by rw [hd' j (by omega), if_neg (by omega)]
  obtain ⟨a1, ha1, la1⟩ := vs_ld1 (g := AV.int .i64) VD (fun _ => rfl) j _ dj
  cases ha1
  have dd := hD j (by omega)
  rw [L42x84xeq, letK_eq, if_pos (by simp; omega), chk_of (by intro _; omega), adP_pos, atP_of, Int.toNat_natCast, add_mk, bits_get (kp _ _ hq ne) hx, gB_of]
  cases x with
  | true =>
   have t := intB_set hdb (i := j) (by omega) (D j - 1)
   rw [if_pos rfl, chk_of (by intro _; omega), adP_pos, atP_of, la1, gI_of, letK_eq, wrap64 (by omega) (by omega), chk_of (by intro _; omega), atP_of, add_mk, t, Option.bind_some, J42x94xeq, letK_eq, wrap64 (x := (j : Int) + 1) (by omega) (by omega), show ((j : Int) + 1) = ((j + 1 : Nat) : Int) by omega]
   obtain ⟨h', d', r1, r2, r3, r4, r5, r6⟩ := ih (j + 1) (by omega) (h.set hd (intB (d.set j (D j - 1)))) _ (kp.trans (kp_set (· = hd) hd h _ rfl)) (set_same hdb) (by rw [List.length_set]; exact dl) (fun i hi => by
    by_cases e : i = j
    · rw [e, List.getElem?_set_self (by omega), if_pos ⟨by omega, hx⟩]
    · rw [List.getElem?_set_ne (Ne.symm e), hd' i hi]
      simp only [show i < j + 1 ↔ i < j by omega])
   rw [r1]
   exact ⟨h', d', rfl, r2, by rw [r3, List.length_set], r4, r5, r6⟩
  | false =>
   rw [if_neg (show ¬ (false = true) from fun h => by cases h), J42x94xeq, letK_eq, wrap64 (x := (j : Int) + 1) (by omega) (by omega), show ((j : Int) + 1) = ((j + 1 : Nat) : Int) by omega]
   exact ih (j + 1) (by omega) h d kp hdb dl (fun i hi => by
    by_cases e : i = j
    · rw [e, dj, hx, if_neg (fun h => by cases h.2)]
    · rw [hd' i hi]
      simp only [show i < j + 1 ↔ i < j by omega])
theorem order_loop {n K hl hd : Nat} (hn : n ≤ 8192) {h0 : Heap} {g : Gr} (M : GM h0 g n) (sym : ∀ p q, gg g.L p q = true → gg g.L q p = true) (irr : ∀ p, gg g.L p p = false) {W : Nat → Prop} (m : Nat) (hm : m ≤ n) (Q : Kont (AV × Heap)) :
 ∀ (k j : Nat), j + k = m → ∀ (h : Heap) (s : SA) (o : List Nat) (l : List Bool), OS h0 h n hl hd s o l g.L → PO K (fun p q => gg g.L p q = true) W o l → o.length = j → cntB l = k →
  ∃ h' s' o', L42x47 mk0 E (some ⟨g.G, 0, 0⟩) K (.pos ⟨hl, 0, 0⟩) n (.pos ⟨hd, 0, 0⟩) n s o.length ((m : Nat) : Int) ((j : Nat) : Int) h Q = Q (.exit 6) (S42xe6 s' o'.length h') ∧ Old h0 h' ∧ GS h' s' o'.length 1 (o'.map fun r => .int .i64 ((r : Nat) : Int)) ∧ (∀ b, inS s' b → h0.length ≤ b) ∧ o'.length ≤ n ∧ (∃ l', PO K (fun p q => gg g.L p q = true) W o' l' ∧ cntB l' = 0) := by
 have rowl : ∀ r : Nat, r < n → (g.L.getD r []).length = n := fun r hr => by
  obtain ⟨q, R, s1, s2, s3, s4, s5, s6⟩ := M.row hr
  simp only [List.getD, s2, Option.getD_some]; exact s4
 intro k
 induction k with
 | zero =>
  intro j hj h s o l H P ho hl'
  rw [L42x47xeq, letK_eq, if_neg (by simp; omega)]
  exact ⟨h, s, o, rfl, H.old, H.os, H.so, by omega, l, P, hl'⟩
 | succ k ih =>
  intro j hj h s o l H P ho hl'
  obtain ⟨d, d1, d2, d3⟩ := H.dg
  obtain ⟨l1, l2, l3, l4, l5⟩ := H.lo
  have hll := H.ll
  obtain ⟨c, r1, r2⟩ := pick_loop (K := K) hn H.lb H.ll d1 d2 (D := fun i => ((dgN g.L l i : Nat) : Int)) d3 (some ⟨g.G, 0, 0⟩) s o.length ((m : Nat) : Int) ((j : Nat) : Int) (Q42x58 mk0 E Q) n 0 (by omega) (-1) (.inl ⟨rfl, fun i hi => by omega⟩) (fun i hi => by omega)
  rw [show (((0 : Nat) : Int)) = 0 from rfl] at r1
  have hb : ∃ b : Nat, c = b ∧ l[b]? = some true ∧ (dgN g.L l b < K ∨ ∀ i : Nat, l[i]? = some true → K ≤ dgN g.L l i) := by
   rcases r2 with ⟨_, h2⟩ | ⟨b, h1, h2, h3⟩
   · obtain ⟨i, hi⟩ := cnt_pos (l := l) (by omega)
     exact absurd hi (h2 i (by have := (List.getElem?_eq_some_iff.1 hi).1; omega))
   · exact ⟨b, h1, h2, h3.imp (fun h => by omega) fun h i hi => by have := h i hi; omega⟩
  obtain ⟨b, rfl, hb1, hb2⟩ := hb
  have bl := (List.getElem?_eq_some_iff.1 hb1).1
  have t1 := bits_set H.lb b bl false
  have k1 := kp_set (· = hl) hl h (bits (l.set b false)) rfl
  have g1 : GS (h.set hl (bits (l.set b false))) s o.length 1 (o.map fun r => .int .i64 ((r : Nat) : Int)) := gs_keep (s := .pos ⟨hl, 0, 0⟩) H.os (fun b' x hx hnb => k1 b' x hx fun e => hnb ⟨_, rfl, e.symm⟩) (fun b' hb' hh => by
   obtain ⟨a, ha, hab⟩ := hh
   cases ha
   simp only at hab
   exact l4 (by rw [hab]; exact hb'))
  have cat : (o ++ [b]).map (fun r => AV.int .i64 ((r : Nat) : Int)) = o.map (fun r => AV.int .i64 ((r : Nat) : Int)) ++ [.int .i64 ((b : Nat) : Int)] := by simp
  have fl : ∀ o : List Nat, flatL (o.map fun r => AV.int .i64 ((r : Nat) : Int)) = true := fun o => by
   have := flat_ints (o.map fun r => ((r : Nat) : Int))
   rw [List.map_map] at this
   exact this
  have on : o.length < n := by have := cntB_le l; omega
  obtain ⟨s', h', a1, a2, a3, a4, a5, a6⟩ := gs_add (bytes := 8) g1 [.int .i64 ((b : Nat) : Int)] (by omega) rfl rfl (by rw [← cat]; exact fl _) (by omega)
  rw [← cat] at a3
  rw [List.length_set] at a5 a6
  have o1 : Old h0 (h.set hl (bits (l.set b false))) := fun z x hz => k1 z x (H.old z x hz) fun e => by have := (List.getElem?_eq_some_iff.1 hz).1; omega
  have o2 : Old h0 h' := fun z x hz => a4 z x (o1 z x hz) fun hi => by have := H.so z hi; have := (List.getElem?_eq_some_iff.1 hz).1; omega
  have M2 := M.old o2
  have rd := M2.ld 0 (.sl (.pos ⟨g.B, g.v, 0⟩) n) rfl rfl
  obtain ⟨q, R, s1, s2, s3, s4, s5, s6⟩ := M2.row (j := b) (by omega)
  have qlt : q < h0.length := M.lt q (.inl s6)
  have hd1 : h'[hd]? = some (intB d) := a4 _ _ (k1 _ _ d1 (Ne.symm l3)) l5
  obtain ⟨h2, d', u1, u2, u3, u4, u5, u6⟩ := dec_loop (D := fun i => ((dgN g.L l i : Nat) : Int)) hn s3 s4 (by omega) (fun i hi => by
   have := cntB_le (andL (g.L.getD i []) l)
   rw [andL_len (by rw [rowl i hi, hll])] at this
   show 0 ≤ ((dgN g.L l i : Nat) : Int) ∧ ((dgN g.L l i : Nat) : Int) ≤ 10000
   unfold dgN
   omega) (some ⟨g.G, 0, 0⟩) K (.pos ⟨hl, 0, 0⟩) n s' (o.length + 1) ((m : Nat) : Int) ((j : Nat) : Int) (Q42x84 mk0 E Q) n 0 (by omega) h' d (Kp.refl _ _) hd1 d2 (fun i hi => by rw [d3 i hi, if_neg (by omega)])
  rw [show (((0 : Nat) : Int)) = 0 from rfl] at u1
  have P2 := P.go rowl hll hb1 hb2
  have lenb : (l.set b false).length = n := by rw [List.length_set]; exact hll
  have ns : ∀ z, z < h.length → ¬ inS s z → ¬ inS s' z := fun z hz hn hi => by
   rcases a5 z hi with h5 | h5
   · exact hn h5
   · omega
  have hlt := (List.getElem?_eq_some_iff.1 H.lb).1
  have hdt := (List.getElem?_eq_some_iff.1 d1).1
  have H2 : OS h0 h2 n hl hd s' (o ++ [b]) (l.set b false) g.L := by
   refine ⟨u2.old o2 fun z hz e => by omega, u2 _ _ (a4 _ _ (set_same H.lb) l4) l3, lenb, ⟨d', u4, u5, fun i hi => ?_⟩, ?_, ⟨l1, l2, l3, ns _ hlt l4, ns _ hdt l5⟩, fun z hz => ?_⟩
   · obtain ⟨y, hy⟩ := at_lt (l := R) (i := i) (by omega)
     obtain ⟨z, hz⟩ := at_lt (l := g.L.getD i []) (i := b) (by rw [rowl i hi]; omega)
     have ezy : z = y := by
      have h1 : gg g.L b i = y := gg_cell s2 hy
      have h2 : gg g.L i b = z := by
       unfold gg
       rw [List.getD_eq_getElem?_getD (l := g.L.getD i []), hz]
       rfl
      rw [← h1, ← h2]
      exact Bool.eq_iff_iff.2 ⟨sym _ _, sym _ _⟩
     have := cnt_and_off hb1 hz
     rw [u6 i hi, hy]
     show some (if _ then ((dgN g.L l i : Nat) : Int) - 1 else ((dgN g.L l i : Nat) : Int)) = some ((dgN g.L (l.set b false) i : Nat) : Int)
     unfold dgN
     subst ezy
     cases z with
     | true => rw [if_pos rfl] at this ⊢; congr 1; omega
     | false => rw [if_neg (by simp)] at this ⊢; congr 1; omega
   · rw [List.length_append]
     exact gs_keep (s := .pos ⟨hd, 0, 0⟩) a3 (fun z x hx hnb => u2 z x hx fun e => hnb ⟨_, rfl, e.symm⟩) (fun z hz hh => by
      obtain ⟨a, ha, hab⟩ := hh
      cases ha
      simp only at hab
      exact ns _ hdt l5 (by rw [hab]; exact hz))
   · rcases a5 z hz with h5 | h5
     · exact H.so z h5
     · have := H.old.le; omega
  obtain ⟨h3, s3', o3, v1, v2⟩ := ih (j + 1) (by omega) h2 s' (o ++ [b]) (l.set b false) H2 P2 (by simp [ho]) (by have := cntB_off hb1; omega)
  rw [show (o ++ [b]).length = o.length + 1 by simp] at v1
  rw [L42x47xeq, letK_eq, if_pos (by simp; omega), r1, X42x58xe8, J42x79xeq, chk_of (by intro _; omega), adP_pos, atP_of, Int.toNat_natCast, add_mk, t1, Option.bind_some, newK_eq, a1, Option.bind_some, a2, Option.bind_some, gL_of, atP_of, add_mk, rd, gL_of, chk_of (by intro _; omega), adP_pos, atP_of, add_mk, s5, gL_of, u1, X42x84xe10, letK_eq, wrap64 (x := (j : Int) + 1) (by omega) (by omega), show ((j : Int) + 1) = ((j + 1 : Nat) : Int) by omega, v1]
  exact ⟨h3, s3', o3, rfl, v2⟩
end Go.Proofs.Ytnmdadadjneaiaa.D
/- color.order, whole. -/
set_option linter.unusedVariables false
set_option linter.unusedSimpArgs false
namespace Go.Proofs.Ytnmdadadjneaiaa.D
open Go Go.Proofs.Ytnmdadadjneaiaa.Abs Go.Proofs
theorem rev_nil (h : Heap) : E 82 [.sl .nil 0] h = some (.tup [], h) := by
 rw [e82, letK_eq, wrap64 (by omega) (by omega), L82x2xeq, letK_eq, if_neg (by simp), X82x2xe0]
structure OrdOk (K : Nat) (E : Nat → Nat → Prop) (W : Nat → Prop) (o : List Nat) : Prop where
 nd : o.Nodup
 w : ∀ r, r ∈ o ↔ W r
 pl : Thin K E W → ∀ A r B, o = A ++ r :: B → Few K E (· ∈ A) r
theorem PO.fin {K : Nat} {E : Nat → Nat → Prop} {W : Nat → Prop} {o : List Nat} {l : List Bool} (H : PO K E W o l) (z : cntB l = 0) : OrdOk K E W o.reverse := by
 have zz := cnt_zero z
 refine ⟨?_, fun r => ?_, fun th A r B e => ?_⟩
 · exact List.pairwise_reverse.2 (H.nd.imp fun h => Ne.symm h)
 · rw [List.mem_reverse]
   refine ⟨H.ow r, fun w => ?_⟩
   apply Classical.byContradiction
   intro hn
   exact zz r ((H.lw r).2 ⟨w, hn⟩)
 · have e2 : o = B.reverse ++ r :: A.reverse := by
    have := congrArg List.reverse e
    rw [List.reverse_reverse] at this
    rw [this]; simp
   intro T hT hh
   refine H.pl th B.reverse r A.reverse e2 T hT fun t ht => ⟨⟨H.ow t ?_, fun hb => ?_⟩, (hh t ht).2⟩
   · have hA : t ∈ A := (hh t ht).1
     rw [e2]
     exact List.mem_append.2 (.inr (.tail _ (List.mem_reverse.2 hA)))
   · have nd := H.nd
     rw [e2] at nd
     have hA : t ∈ A := (hh t ht).1
     exact (List.nodup_append.1 nd).2.2 t hb t (.tail _ (List.mem_reverse.2 hA)) rfl
def natI (r : Nat) : Int := (r : Int)
theorem order_ok {n K : Nat} (hn : n ≤ 8192) {h : Heap} {g : Gr} (M : GM h g n) (sym : ∀ p q, gg g.L p q = true → gg g.L q p = true) (irr : ∀ p, gg g.L p p = false) :
 ∃ h' s o, E 42 [.ptr (some ⟨g.G, 0, 0⟩), .int .i64 K] h = some (.sl s o.length, h') ∧ Old h h' ∧ VS intC 1 h' s o.length (o.map natI) ∧ o.length ≤ n ∧ OrdOk K (fun p q => gg g.L p q = true) (want g.sl g.th) o ∧ ∀ b, inS s b → h.length ≤ b := by
 have rd := M.ld 0 (.sl (.pos ⟨g.B, g.v, 0⟩) n) rfl rfl
 have e1 : Blk.cells (repl n [AV.bool false]) (.grow 1) 0 = bits (List.replicate n false) := by simp [repl, bits]
 have e2 : Blk.cells (repl n [AV.int .i64 0]) (.grow 1) 0 = intB (List.replicate n 0) := by simp [repl, intB]
 obtain ⟨h1, eh1⟩ : ∃ h1, h1 = h ++ [bits (List.replicate n false)] := ⟨_, rfl⟩
 obtain ⟨h2, eh2⟩ : ∃ h2, h2 = h1 ++ [intB (List.replicate n 0)] := ⟨_, rfl⟩
 have o1 : Old h h1 := by rw [eh1]; exact old_app _ _
 have o2 : Old h h2 := by rw [eh2]; exact o1.trans (old_app _ _)
 have l1 : h1.length = h.length + 1 := by rw [eh1]; simp
 have l2 : h2.length = h.length + 2 := by rw [eh2]; simp [l1]
 have lf : h2[h.length]? = some (bits (List.replicate n false)) := by rw [eh2]; exact app_old (by rw [eh1]; exact last_get _ _)
 have dgb : h2[h1.length]? = some (intB (List.replicate n 0)) := by rw [eh2]; exact last_get _ _
 have M1 := M.old o1
 have M2 := M.old o2
 have rd1 := M1.ld 0 (.sl (.pos ⟨g.B, g.v, 0⟩) n) rfl rfl
 have rd2 := M2.ld 0 (.sl (.pos ⟨g.B, g.v, 0⟩) n) rfl rfl
 have nl : ¬ g.owns h.length := fun hh => by have := M.lt _ hh; omega
 have nd : ¬ g.owns h1.length := fun hh => by have := M.lt _ hh; omega
 obtain ⟨h3, a1, a2, a3, a4⟩ := left_loop (hd := 0) hn M2 nl (K : Int) (.pos ⟨h1.length, 0, 0⟩) n (Q42x7 mk0 E) n 0 (by omega) h2 _ (Kp.refl _ _) lf (List.length_replicate ..) (by simp)
 rw [show (((0 : Nat) : Int)) = 0 from rfl, List.take_zero, show ((cntB [] : Nat) : Int) = 0 from rfl] at a1
 have M3 := M2.kp a2 fun b hb e => nl (by rw [← e]; exact hb)
 have rd3 := M3.ld 0 (.sl (.pos ⟨g.B, g.v, 0⟩) n) rfl rfl
 have Fl := leftL_len n g.sl g.th
 obtain ⟨h4, d4, b1, b2, b3, b4, b5, b6⟩ := deg_out hn M3 nd Fl a4 (by omega) (K : Int) ((cntB (leftL n g.sl g.th) : Nat) : Int) (Q42x22 mk0 E) n 0 (by omega) h3 _ (Kp.refl _ _) (a2 _ _ dgb (by omega)) (List.length_replicate ..) (fun i hi => by rw [if_neg (by omega), List.getElem?_replicate, if_pos hi])
 rw [show (((0 : Nat) : Int)) = 0 from rfl] at b1
 have o3 : Old h h3 := a2.old o2 fun q hq e => by omega
 have o4 : Old h h4 := b2.old o3 fun q hq e => by omega
 have H4 : OS h h4 n h.length h1.length .nil [] (leftL n g.sl g.th) g.L := ⟨o4, b2 _ _ a4 (by omega), Fl, ⟨d4, b4, b5, b6⟩, ⟨rfl, rfl, .inl ⟨rfl, rfl⟩⟩, ⟨Nat.le_refl _, by omega, by omega, fun ⟨_, hh, _⟩ => (by cases hh), fun ⟨_, hh, _⟩ => (by cases hh)⟩, fun b ⟨_, hh, _⟩ => (by cases hh)⟩
 have P4 : PO K (fun p q => gg g.L p q = true) (want g.sl g.th) [] (leftL n g.sl g.th) := ⟨fun r => by rw [want_iff M.s.2 M.t.2]; simp, List.nodup_nil, fun r hr => (by cases hr), fun _ A r B e => (by cases A <;> cases e)⟩
 have cm := cntB_le (leftL n g.sl g.th)
 obtain ⟨h5, s5, o5, c1, c2, c3, c4, c5, l', c6, c7⟩ := order_loop hn M sym irr (cntB (leftL n g.sl g.th)) (by omega) (Q42x47 mk0 E) (cntB (leftL n g.sl g.th)) 0 (by omega) h4 .nil [] _ H4 P4 rfl rfl
 rw [show (((0 : Nat) : Int)) = 0 from rfl, show ([] : List Nat).length = 0 from rfl] at c1
 have pre : ∀ r : Option (AV × Heap), (E 82 [.sl s5 o5.length] h5).bind (fun r162 => gT 0 r162.1 true fun u162 => some (AV.sl s5 o5.length, r162.2)) = r → E 42 [.ptr (some ⟨g.G, 0, 0⟩), .int .i64 K] h = r := fun r hr => by
  rw [e42, atP_of, add_mk, rd, gL_of, chk_of (by omega), newK_eq, letK_eq, Int.toNat_natCast, e1, ← eh1, atP_of, add_mk, rd1, gL_of, chk_of (by omega), newK_eq, letK_eq, Int.toNat_natCast, e2, ← eh2, atP_of, add_mk, rd2, gL_of, a1, X42x7xe0, atP_of, add_mk, rd3, gL_of, b1, X42x22xe2, c1, X42x47xe6, hr]
 have rl : o5.reverse.length = o5.length := List.length_reverse ..
 rcases c3 with ⟨g1, g2, ⟨rfl, g4⟩ | ⟨b, v, rfl, g5⟩⟩
 · have : o5 = [] := List.length_eq_zero_iff.1 g4
   subst this
   refine ⟨h5, .nil, [], pre _ ?_, c2, ⟨rfl, .inl rfl⟩, Nat.zero_le _, c6.fin c7, fun b ⟨_, hh, _⟩ => (by cases hh)⟩
   rw [show ([] : List Nat).length = 0 from rfl, rev_nil, Option.bind_some, gT0_of]
 · have bn := c4 b ⟨_, rfl, rfl⟩
   have g6 : h5[b]? = some (intV v (o5.map natI)) := by
    rw [g5]; unfold intV natI; rw [List.map_map]; rfl
   obtain ⟨h6, d1, d2, d3, d4⟩ := rev_ok g6 (by rw [List.length_map]) (n := o5.length) (by omega)
   refine ⟨h6, .pos ⟨b, v, 0⟩, o5.reverse, pre _ ?_, d2.old c2 fun q hq e => by omega, ?_, by omega, c6.fin c7, fun z ⟨_, hh, hz⟩ => by cases hh; simp only at hz; omega⟩
   · rw [d1, Option.bind_some, gT0_of, rl]
   · rw [rl, List.map_reverse]
     refine vs_GS (f := intC) (es := 1) (fun _ => rfl) (by simp) ?_
     rw [show (List.map natI o5).reverse.flatMap intC = (List.map natI o5).reverse.map (.int .i64) from rows_one _ _]
     refine ⟨by simp, flat_ints _, .inr ⟨_, _, rfl, d4⟩⟩
end Go.Proofs.Ytnmdadadjneaiaa.D
/- color.Allocate: the registers, the slots, the classes. -/
set_option linter.unusedVariables false
set_option linter.unusedSimpArgs false
namespace Go.Proofs.Ytnmdadadjneaiaa.D
open Go Go.Proofs.Ytnmdadadjneaiaa.Abs Go.Proofs
theorem took_list {M : List Bool} {out : List Int} {st c : Int} (h : ∀ d, st ≤ d → d < c → took M out d) :
 ∃ T : List Nat, T.Nodup ∧ T.length = (c - st).toNat ∧ ∀ t ∈ T, M[t]? = some true ∧ ∃ d, st ≤ d ∧ d < c ∧ out[t]? = some d := by
 have key : ∀ i : Nat, ∃ q : Nat, i < (c - st).toNat → M[q]? = some true ∧ out[q]? = some (st + (i : Int)) := fun i => by
  by_cases hi : i < (c - st).toNat
  · obtain ⟨q, h1, h2⟩ := h (st + (i : Int)) (by omega) (by omega)
    exact ⟨q, fun _ => ⟨h1, h2⟩⟩
  · exact ⟨0, fun h => absurd h hi⟩
 obtain ⟨f, hf⟩ := Classical.axiomOfChoice key
 refine ⟨(List.range (c - st).toNat).map f, ?_, by simp, fun t ht => ?_⟩
 · refine List.pairwise_map.2 (List.Pairwise.imp_of_mem (R := fun a b => a ≠ b) (fun {a b} ha hb hne e => ?_) List.nodup_range)
   have h1 := (hf a (List.mem_range.1 ha)).2
   have h2 := (hf b (List.mem_range.1 hb)).2
   rw [e, h2] at h1
   injection h1 with h1
   exact hne (by omega)
 · obtain ⟨i, hi, rfl⟩ := List.mem_map.1 ht
   have hi := List.mem_range.1 hi
   exact ⟨(hf i hi).1, _, by omega, by omega, (hf i hi).2⟩
structure RC (n K : Nat) (L : List (List Bool)) (W : Nat → Prop) (A : List Nat) (R : List Int) : Prop where
 rl : R.length = n
 out : ∀ r : Nat, r < n → r ∉ A → R[r]? = some (-1)
 rg : ∀ (r : Nat) (a : Int), R[r]? = some a → a = -1 ∨ (1 ≤ a ∧ a ≤ K)
 ne : ∀ (p q : Nat) (a : Int), gg L p q = true → R[p]? = some a → R[q]? = some a → a = -1
 th : Thin K (fun p q => gg L p q = true) W → ∀ r ∈ A, R[r]? ≠ some (-1)
theorem RC.go {n K : Nat} {L : List (List Bool)} {W : Nat → Prop} {A : List Nat} {R : List Int} (H : RC n K L W A R) {r : Nat} {M : List Bool} (hr : r < n) (nA : r ∉ A) (hM : L[r]? = some M) (sym : ∀ p q, gg L p q = true → gg L q p = true) (irr : ∀ p, gg L p p = false) (few : Thin K (fun p q => gg L p q = true) W → Few K (fun p q => gg L p q = true) (· ∈ A) r) {c : Int} (c1 : 1 ≤ c) (tk : ∀ d, 1 ≤ d → d < c → took M R d) (fr : ∀ i : Nat, M[i]? = some true → R[i]? ≠ some c) :
 RC n K L W (A ++ [r]) (if c ≤ (K : Int) then R.set r c else R) := by
 have row : ∀ q, gg L r q = true → M[q]? = some true := fun q hq => by
  unfold gg at hq
  simp only [List.getD, hM, Option.getD_some] at hq
  cases hz : M[q]? with
  | none => rw [hz] at hq; cases hq
  | some z => rw [hz] at hq; simp at hq; rw [hq]
 have rl := H.rl
 have le : Thin K (fun p q => gg L p q = true) W → c ≤ (K : Int) := fun t => by
  obtain ⟨T, t1, t2, t3⟩ := took_list tk
  have := few t T t1 fun u hu => by
   obtain ⟨h1, d, h2, h3, h4⟩ := t3 u hu
   refine ⟨?_, gg_cell hM h1⟩
   apply Classical.byContradiction
   intro hn
   have hl := (List.getElem?_eq_some_iff.1 h4).1
   rw [H.out u (by omega) hn] at h4
   injection h4 with h4
   omega
  omega
 by_cases hc : c ≤ (K : Int)
 · rw [if_pos hc]
   refine ⟨by rw [List.length_set]; exact rl, fun q hq hn => ?_, fun q a ha => ?_, fun p q a e hp hq => ?_, fun t q hq => ?_⟩
   · have : q ≠ r := fun e => hn (by rw [e]; simp)
     rw [List.getElem?_set_ne (Ne.symm this)]
     exact H.out q hq fun hh => hn (List.mem_append.2 (.inl hh))
   · by_cases e : q = r
     · rw [e, List.getElem?_set_self (by omega)] at ha
       cases ha
       exact .inr ⟨c1, hc⟩
     · rw [List.getElem?_set_ne (Ne.symm e)] at ha
       exact H.rg q a ha
   · by_cases e1 : p = r
     · by_cases e2 : q = r
       · rw [e1, e2, irr] at e; cases e
       · rw [e1, List.getElem?_set_self (by omega)] at hp
         rw [List.getElem?_set_ne (Ne.symm e2)] at hq
         cases hp
         rw [e1] at e
         exact absurd hq (fr q (row q e))
     · rw [List.getElem?_set_ne (Ne.symm e1)] at hp
       by_cases e2 : q = r
       · rw [e2, List.getElem?_set_self (by omega)] at hq
         cases hq
         rw [e2] at e
         exact absurd hp (fr p (row p (sym _ _ e)))
       · rw [List.getElem?_set_ne (Ne.symm e2)] at hq
         exact H.ne p q a e hp hq
   · by_cases e : q = r
     · rw [e, List.getElem?_set_self (by omega)]
       intro h; injection h with h; omega
     · rw [List.getElem?_set_ne (Ne.symm e)]
       rcases List.mem_append.1 hq with h | h
       · exact H.th t q h
       · rw [List.mem_singleton] at h; exact absurd h e
 · rw [if_neg hc]
   exact ⟨rl, fun q hq hn => H.out q hq fun hh => hn (List.mem_append.2 (.inl hh)), H.rg, H.ne, fun t => absurd (le t) hc⟩
theorem reg_loop {n K hr : Nat} (hn : n ≤ 8192) (hK : K ≤ 100) {h0 : Heap} {g : Gr} (M : GM h0 g n) (sym : ∀ p q, gg g.L p q = true → gg g.L q p = true) (irr : ∀ p, gg g.L p p = false) (nr : ¬ g.owns hr) {so : SA} {o : List Nat} (V : VS intC 1 h0 so o.length (o.map natI)) (nso : ∀ b, inS so b → b ≠ hr) (on : o.length ≤ n) {W : Nat → Prop} (O : OrdOk K (fun p q => gg g.L p q = true) W o) (Wn : ∀ r, W r → r < n) (s4x0 : SA) (n4x0 : Nat) (s4x1 : SA) (n4x1 : Nat) (i4x2 : Int) (s8 : SA) (n8 : Nat) (s9x1 : SA) (n9x1 : Nat) (i9x2 : Int) (Q : Kont (AV × Heap)) :
 ∀ (k j : Nat), j + k = o.length → ∀ (h : Heap) (R : List Int), Kp (· = hr) h0 h → h[hr]? = some (intB R) → RC n K g.L W (o.take j) R →
  ∃ h' R', L14x29 mk0 E K s4x0 n4x0 s4x1 n4x1 i4x2 (some ⟨g.G, 0, 0⟩) s8 n8 (.pos ⟨hr, 0, 0⟩) n s9x1 n9x1 i9x2 so o.length ((o.length : Nat) : Int) ((j : Nat) : Int) h Q = Q (.exit 2) (S14xe2 s4x0 n4x0 s4x1 n4x1 i4x2 (some ⟨g.G, 0, 0⟩) s8 n8 (.pos ⟨hr, 0, 0⟩) n s9x1 n9x1 i9x2 h') ∧ Kp (· = hr) h0 h' ∧ h'.length = h.length ∧ h'[hr]? = some (intB R') ∧ RC n K g.L W o R' := by
 intro k
 induction k with
 | zero =>
  intro j hj h R kp hq C
  rw [L14x29xeq, letK_eq, if_neg (by simp; omega)]
  rw [List.take_of_length_le (by omega)] at C
  exact ⟨h, R, rfl, kp, rfl, hq, C⟩
 | succ k ih =>
  intro j hj h R kp hq C
  obtain ⟨r, hor⟩ := at_lt (l := o) (i := j) (by omega)
  have rw' := (O.w r).1 (List.mem_of_getElem? hor)
  have rn := Wn r rw'
  have Mh := M.kp kp fun b hb e => nr (by rw [← e]; exact hb)
  have Vh : VS intC 1 h so o.length (o.map natI) := by
   refine ⟨V.1, V.2.imp id fun ⟨b, v, of, c, m, e1, e2, e3⟩ => ⟨b, v, of, c, m, e1, kp _ _ e2 (nso b ⟨_, e1, rfl⟩), e3⟩⟩
  obtain ⟨a, ha, la⟩ := vs_ld1 (g := AV.int .i64) Vh (fun _ => rfl) j (natI r) (by rw [List.getElem?_map, hor]; rfl)
  obtain ⟨q, Mr, s1, s2, s3, s4, s5, s6⟩ := Mh.row rn
  obtain ⟨c, l1, l2, l3, l4⟩ := least_ok Mh rn s2 (intB_vs hq C.rl) (by omega) 1 (by omega)
  have spl : o = o.take j ++ r :: o.drop (j + 1) := by rw [← drop_at hor, List.take_append_drop]
  have nA : r ∉ o.take j := fun hh => by
   have nd := O.nd
   rw [spl] at nd
   exact (List.nodup_append.1 nd).2.2 r hh r (.head _) rfl
  have C2 := C.go rn nA s2 sym irr (fun t => O.pl t _ _ _ spl) l2 l3 l4
  have tk : o.take (j + 1) = o.take j ++ [r] := by rw [List.take_add_one, hor]; rfl
  have e0 : natI r = ((r : Nat) : Int) := rfl
  rw [L14x29xeq, letK_eq, if_pos (by simp; omega), chk_of (by intro _; omega), ha, atP_of, Int.toNat_natCast, la, gI_of, e0, l1, Option.bind_some, gI_of, letK_eq]
  rw [← tk] at C2
  by_cases hc : c ≤ (K : Int)
  · rw [if_pos hc] at C2
    have t := intB_set hq (i := r) (by rw [C.rl]; exact rn) c
    obtain ⟨h', R', r1, r2, r3, r4, r5⟩ := ih (j + 1) (by omega) (h.set hr (intB (R.set r c))) _ (kp.trans (kp_set (· = hr) hr h _ rfl)) (set_same hq) C2
    rw [if_pos (decide_eq_true hc), chk_of (by intro _; omega), adP_pos, atP_of, Int.toNat_natCast, add_mk, t, Option.bind_some, J14x40xeq, letK_eq, wrap64 (x := (j : Int) + 1) (by omega) (by omega), show ((j : Int) + 1) = ((j + 1 : Nat) : Int) by omega, r1]
    exact ⟨h', R', rfl, r2, by rw [r3, List.length_set], r4, r5⟩
  · rw [if_neg hc] at C2
    rw [if_neg (by simpa using hc), J14x40xeq, letK_eq, wrap64 (x := (j : Int) + 1) (by omega) (by omega), show ((j : Int) + 1) = ((j + 1 : Nat) : Int) by omega]
    exact ih (j + 1) (by omega) h R kp hq C2
structure SC (n : Nat) (L : List (List Bool)) (N : Nat → Prop) (j : Nat) (T : List Int) (S : Int) : Prop where
 tl : T.length = n
 out : ∀ r : Nat, r < n → (j ≤ r ∨ ¬ N r) → T[r]? = some (-1)
 inn : ∀ r : Nat, r < j → N r → ∃ b, T[r]? = some b ∧ 0 ≤ b
 rg : ∀ (r : Nat) (b : Int), T[r]? = some b → b = -1 ∨ (0 ≤ b ∧ b < S)
 ne : ∀ (p q : Nat) (b : Int), gg L p q = true → T[p]? = some b → T[q]? = some b → b = -1
 s : 0 ≤ S ∧ S ≤ n
theorem SC.go {n : Nat} {L : List (List Bool)} {N : Nat → Prop} {j : Nat} {T : List Int} {S : Int} (H : SC n L N j T S) {M : List Bool} (hj : j < n) (hN : N j) (hM : L[j]? = some M) (Ml : M.length = n) (sym : ∀ p q, gg L p q = true → gg L q p = true) (irr : ∀ p, gg L p p = false) {c : Int} (c1 : 0 ≤ c) (tk : ∀ d, 0 ≤ d → d < c → took M T d) (fr : ∀ i : Nat, M[i]? = some true → T[i]? ≠ some c) :
 SC n L N (j + 1) (T.set j c) (if S < c + 1 then c + 1 else S) ∧ c + 1 ≤ n := by
 have row : ∀ q, gg L j q = true → M[q]? = some true := fun q hq => by
  unfold gg at hq
  simp only [List.getD, hM, Option.getD_some] at hq
  cases hz : M[q]? with
  | none => rw [hz] at hq; cases hq
  | some z => rw [hz] at hq; simp at hq; rw [hq]
 have tl := H.tl
 have cn : c + 1 ≤ n := by
  obtain ⟨U, t1, t2, t3⟩ := took_list tk
  have jU : j ∉ U := fun hh => by
   have := gg_cell hM (t3 j hh).1
   rw [irr] at this; cases this
  have := pig (j :: U) (List.range n) (List.nodup_cons.2 ⟨jU, t1⟩) fun x hx => by
   rcases List.mem_cons.1 hx with rfl | hx
   · exact List.mem_range.2 hj
   · have := (List.getElem?_eq_some_iff.1 (t3 x hx).1).1
     exact List.mem_range.2 (by omega)
  rw [List.length_cons, List.length_range] at this
  omega
 refine ⟨⟨by rw [List.length_set]; exact tl, fun r hr hh => ?_, fun r hr hh => ?_, fun r b hb => ?_, fun p q b e hp hq => ?_, ?_⟩, cn⟩
 · have e : r ≠ j := by
    rintro rfl
    rcases hh with h | h
    · omega
    · exact h hN
   rw [List.getElem?_set_ne (Ne.symm e)]
   exact H.out r hr (hh.imp (fun h => by omega) id)
 · by_cases e : r = j
   · exact ⟨c, by rw [e, List.getElem?_set_self (by omega)], c1⟩
   · rw [List.getElem?_set_ne (Ne.symm e)]
     exact H.inn r (by omega) hh
 · by_cases e : r = j
   · rw [e, List.getElem?_set_self (by omega)] at hb
     cases hb
     right
     split <;> omega
   · rw [List.getElem?_set_ne (Ne.symm e)] at hb
     rcases H.rg r b hb with h | h
     · exact .inl h
     · right
       split <;> omega
 · by_cases e1 : p = j
   · by_cases e2 : q = j
     · rw [e1, e2, irr] at e; cases e
     · rw [e1, List.getElem?_set_self (by omega)] at hp
       rw [List.getElem?_set_ne (Ne.symm e2)] at hq
       cases hp
       rw [e1] at e
       exact absurd hq (fr q (row q e))
   · rw [List.getElem?_set_ne (Ne.symm e1)] at hp
     by_cases e2 : q = j
     · rw [e2, List.getElem?_set_self (by omega)] at hq
       cases hq
       rw [e2] at e
       exact absurd hp (fr p (row p (sym _ _ e)))
     · rw [List.getElem?_set_ne (Ne.symm e2)] at hq
       exact H.ne p q b e hp hq
 · have := H.s
   split <;> omega
theorem slots_loop {n hr ht : Nat} (hn : n ≤ 8192) {h0 : Heap} {g : Gr} (M : GM h0 g n) (sym : ∀ p q, gg g.L p q = true → gg g.L q p = true) (irr : ∀ p, gg g.L p p = false) (nt : ¬ g.owns ht) (ne : hr ≠ ht) {R : List Int} (hR : h0[hr]? = some (intB R)) (Rl : R.length = n) (s4x0 : SA) (n4x0 : Nat) (s4x1 : SA) (n4x1 : Nat) (i4x2 : Int) (s8 : SA) (n8 : Nat) (Q : Kont (AV × Heap)) :
 ∀ (k j : Nat), j + k = n → ∀ (h : Heap) (T : List Int) (S : Int), Kp (· = ht) h0 h → h[ht]? = some (intB T) → SC n g.L (fun r => g.th[r]? = some true ∧ ∃ a, R[r]? = some a ∧ a < 0) j T S →
  ∃ h' T' S', L14x44 mk0 E s4x0 n4x0 s4x1 n4x1 i4x2 (some ⟨g.G, 0, 0⟩) s8 n8 (.pos ⟨hr, 0, 0⟩) n (.pos ⟨ht, 0, 0⟩) n S ((n : Nat) : Int) ((j : Nat) : Int) h Q = Q (.exit 4) (S14xe4 s4x0 n4x0 s4x1 n4x1 i4x2 s8 n8 (.pos ⟨hr, 0, 0⟩) n (.pos ⟨ht, 0, 0⟩) n S' h') ∧ Kp (· = ht) h0 h' ∧ h'.length = h.length ∧ h'[ht]? = some (intB T') ∧ SC n g.L (fun r => g.th[r]? = some true ∧ ∃ a, R[r]? = some a ∧ a < 0) n T' S' := by
 intro k
 induction k with
 | zero =>
  intro j hj h T S kp hq C
  rw [L14x44xeq, letK_eq, if_neg (by simp; omega)]
  rw [show j = n by omega] at C
  exact ⟨h, T, S, rfl, kp, rfl, hq, C⟩
 | succ k ih =>
  intro j hj h T S kp hq C
  have Mh := M.kp kp fun b hb e => nt (by rw [← e]; exact hb)
  have rt := Mh.ld 2 (.sl (.pos ⟨g.T, 0, 0⟩) n) rfl rfl
  obtain ⟨x, hx⟩ := at_lt (l := g.th) (i := j) (by have := Mh.t.2; omega)
  obtain ⟨y, hy⟩ := at_lt (l := R) (i := j) (by omega)
  obtain ⟨a, ha, la⟩ := vs_ld1 (g := AV.int .i64) (intB_vs (kp _ _ hR ne) Rl) (fun _ => rfl) j y hy
  cases ha
  have Cs := C.s
  rw [L14x44xeq, letK_eq, if_pos (by simp; omega), atP_of, add_mk, rt, gL_of, chk_of (by intro _; omega), adP_pos, atP_of, Int.toNat_natCast, add_mk, bits_get Mh.t.1 hx, gB_of, gL_any, chk_of (by intro _; omega), adP_pos, atP_of, atP_of, la, gI_any, letK_eq, letK_eq]
  by_cases hc : x = true ∧ y < 0
  · obtain ⟨rfl, hy0⟩ := hc
    obtain ⟨q, Mr, s1, s2, s3, s4, s5, s6⟩ := Mh.row (j := j) (by omega)
    obtain ⟨c, l1, l2, l3, l4⟩ := least_ok Mh (r := j) (by omega) s2 (intB_vs hq C.tl) (by omega) 0 (by omega)
    obtain ⟨C2, cn⟩ := C.go (by omega) ⟨hx, y, hy, hy0⟩ s2 s4 sym irr l2 l3 l4
    have t := intB_set hq (i := j) (by have := C.tl; omega) c
    have hq2 := set_same (x := intB (T.set j c)) hq
    obtain ⟨a2, ha2, la2⟩ := vs_ld1 (g := AV.int .i64) (intB_vs hq2 C2.tl) (fun _ => rfl) j c (List.getElem?_set_self (by have := C.tl; omega))
    cases ha2
    have fm : foldMM true S [c + 1] = if S < c + 1 then c + 1 else S := by
     simp only [foldMM]
    obtain ⟨h', T', S', r1, r2, r3, r4, r5⟩ := ih (j + 1) (by omega) (h.set ht (intB (T.set j c))) _ _ (kp.trans (kp_set (· = ht) ht h _ rfl)) hq2 C2
    rw [if_pos (by rw [decide_eq_true hy0]; rfl), l1, Option.bind_some, gI_of, chk_of (by intro _; omega), adP_pos, atP_of, add_mk, t, Option.bind_some, chk_of (by intro _; omega), atP_of, la2, gI_of, letK_eq, wrap64 (x := c + 1) (by omega) (by omega), letK_eq, fm, J14x55xeq, letK_eq, wrap64 (x := (j : Int) + 1) (by omega) (by omega), show ((j : Int) + 1) = ((j + 1 : Nat) : Int) by omega, r1]
    exact ⟨h', T', S', rfl, r2, by rw [r3, List.length_set], r4, r5⟩
  · have nN : ¬ (g.th[j]? = some true ∧ ∃ a, R[j]? = some a ∧ a < 0) := fun ⟨h1, a, h2, h3⟩ => by
     rw [hx] at h1; cases h1
     rw [hy] at h2; cases h2
     exact hc ⟨rfl, h3⟩
    have C2 : SC n g.L (fun r => g.th[r]? = some true ∧ ∃ a, R[r]? = some a ∧ a < 0) (j + 1) T S := ⟨C.tl, fun r hr hh => C.out r hr (by
     by_cases e : r = j
     · left; omega
     · exact hh.imp (fun h => by omega) id), fun r hr hh => C.inn r (by
     have : r ≠ j := fun e => nN (by rw [e] at hh; exact hh)
     omega) hh, C.rg, C.ne, C.s⟩
    rw [if_neg (by
     intro hh
     apply hc
     cases x with
     | true => exact ⟨rfl, by simpa using hh⟩
     | false => simp at hh), J14x55xeq, letK_eq, wrap64 (x := (j : Int) + 1) (by omega) (by omega), show ((j : Int) + 1) = ((j + 1 : Nat) : Int) by omega]
    exact ih (j + 1) (by omega) h T S kp hq C2
theorem class_loop {n ob hr ht : Nat} (hn : n ≤ 8192) {h0 : Heap} {l : List Int} (hl : h0[ob]? = some (intB l)) (ll : l.length = n) (bd : ∀ x ∈ l, 0 ≤ x ∧ x < (n : Int)) (rt : ∀ r : Nat, r < n → ∃ x : Nat, Root l r x) (n1 : ob ≠ hr) (n2 : ob ≠ ht) (n3 : hr ≠ ht) {R T : List Int} (Rl : R.length = n) (Tl : T.length = n) (s4x0 : SA) (n4x0 : Nat) (s4x1 : SA) (n4x1 : Nat) (i4x2 i9x2 : Int) (Q : Kont (AV × Heap)) :
 ∀ (k j : Nat), j + k = n → ∀ (h : Heap) (R' T' : List Int), Kp (fun b => b = hr ∨ b = ht) h0 h → h[hr]? = some (intB R') → h[ht]? = some (intB T') → R'.length = n → T'.length = n → (∀ r x : Nat, r < n → Root l r x → R'[r]? = (if r < j then R[x]? else R[r]?) ∧ T'[r]? = (if r < j then T[x]? else T[r]?)) →
  ∃ h' R2 T2, L14x59 mk0 E s4x0 n4x0 s4x1 n4x1 i4x2 (.pos ⟨ob, 0, 0⟩) n (.pos ⟨hr, 0, 0⟩) n (.pos ⟨ht, 0, 0⟩) n i9x2 ((n : Nat) : Int) ((j : Nat) : Int) h Q = Q (.exit 6) (S14xe6 s4x0 n4x0 s4x1 n4x1 i4x2 (.pos ⟨hr, 0, 0⟩) n (.pos ⟨ht, 0, 0⟩) n i9x2 h') ∧ Kp (fun b => b = hr ∨ b = ht) h0 h' ∧ h'[hr]? = some (intB R2) ∧ h'[ht]? = some (intB T2) ∧ R2.length = n ∧ T2.length = n ∧ ∀ r x : Nat, r < n → Root l r x → R2[r]? = R[x]? ∧ T2[r]? = T[x]? := by
 intro k
 induction k with
 | zero =>
  intro j hj h R' T' kp q1 q2 l1 l2 hh
  rw [L14x59xeq, letK_eq, if_neg (by simp; omega)]
  refine ⟨h, R', T', rfl, kp, q1, q2, l1, l2, fun r x hr hx => ?_⟩
  have := hh r x hr hx
  rwa [if_pos (by omega), if_pos (by omega)] at this
 | succ k ih =>
  intro j hj h R' T' kp q1 q2 l1 l2 hh
  obtain ⟨x, rx⟩ := rt j (by omega)
  have xb := rx.bd bd
  have hlh : h[ob]? = some (intB l) := kp _ _ hl fun e => e.elim n1 n2
  have of1 := of_ok (intB_vs hlh ll) bd rx (by omega)
  obtain ⟨u, hu⟩ := at_lt (l := R) (i := x) (by omega)
  obtain ⟨v, hv⟩ := at_lt (l := T) (i := x) (by omega)
  have sx : Root l x x := .here rx.self
  have hx := hh x x (by omega) sx
  rw [ite_self, ite_self, hu, hv] at hx
  obtain ⟨a, ha, la⟩ := vs_ld1 (g := AV.int .i64) (intB_vs q1 l1) (fun _ => rfl) x u hx.1
  cases ha
  obtain ⟨a, ha, la2⟩ := vs_ld1 (g := AV.int .i64) (intB_vs q2 l2) (fun _ => rfl) x v hx.2
  cases ha
  have t1 := intB_set q1 (i := j) (by omega) u
  have q2' : (h.set hr (intB (R'.set j u)))[ht]? = some (intB T') := by rw [set_other n3]; exact q2
  have t2 := intB_set q2' (i := j) (by omega) v
  have q1' : ((h.set hr (intB (R'.set j u))).set ht (intB (T'.set j v)))[hr]? = some (intB (R'.set j u)) := by rw [set_other (Ne.symm n3)]; exact set_same q1
  obtain ⟨h', R2, T2, r1, r2⟩ := ih (j + 1) (by omega) _ _ _ ((kp.trans (kp_set (fun b => b = hr ∨ b = ht) hr h _ (.inl rfl))).trans (kp_set (fun b => b = hr ∨ b = ht) ht _ _ (.inr rfl))) q1' (set_same q2') (by rw [List.length_set]; exact l1) (by rw [List.length_set]; exact l2) (fun r y hr hy => by
   by_cases e : r = j
   · subst e
     have := rx.det hy
     have : x = y := by omega
     subst this
     rw [List.getElem?_set_self (by omega), List.getElem?_set_self (by omega), if_pos (by omega), if_pos (by omega), hu, hv]
     exact ⟨rfl, rfl⟩
   · rw [List.getElem?_set_ne (Ne.symm e), List.getElem?_set_ne (Ne.symm e)]
     have := hh r y hr hy
     simp only [show r < j + 1 ↔ r < j by omega]
     exact this)
  rw [L14x59xeq, letK_eq, if_pos (by simp; omega), of1, Option.bind_some, gI_of, chk_of (by intro _; omega), adP_pos, atP_of, Int.toNat_natCast, la, gI_of, of1, Option.bind_some, gI_of, chkC_of (fun _ => rfl), chk_of (by intro _; omega), adP_pos, atP_of, Int.toNat_natCast, la2, gI_of, chk_of (by intro _; omega), atP_of, Int.toNat_natCast, add_mk, t1, Option.bind_some, chk_of (by intro _; omega), atP_of, add_mk, t2, Option.bind_some, letK_eq, wrap64 (x := (j : Int) + 1) (by omega) (by omega), show ((j : Int) + 1) = ((j + 1 : Nat) : Int) by omega, r1]
  exact ⟨h', R2, T2, rfl, r2⟩
end Go.Proofs.Ytnmdadadjneaiaa.D
/- color.Allocate, whole. -/
set_option linter.unusedVariables false
set_option linter.unusedSimpArgs false
namespace Go.Proofs.Ytnmdadadjneaiaa.D
open Go Go.Proofs.Ytnmdadadjneaiaa.Abs Go.Proofs
theorem mark_keep (rs : List Int) : ∀ (l : List Bool) (i : Nat), l[i]? = some true → (mark l rs)[i]? = some true := by
 induction rs with
 | nil => intro l i h; exact h
 | cons r rs ih =>
  intro l i h
  refine ih (l.set r.toNat true) i ?_
  by_cases e : i = r.toNat
  · rw [e, List.getElem?_set_self (by have := (List.getElem?_eq_some_iff.1 h).1; omega)]
  · rw [List.getElem?_set_ne (Ne.symm e)]; exact h
theorem mark_hit (rs : List Int) : ∀ (l : List Bool) (r : Int), r ∈ rs → r.toNat < l.length → (mark l rs)[r.toNat]? = some true := by
 induction rs with
 | nil => intro l r h; cases h
 | cons x rs ih =>
  intro l r h hl
  rcases List.mem_cons.1 h with rfl | h
  · exact mark_keep rs _ _ (List.getElem?_set_self hl)
  · exact ih _ r h (by rw [List.length_set]; exact hl)
structure PM (n : Nat) (s : Pbs) : Prop where
 tl : s.th.length = n
 mv : ∀ m ∈ s.mv, MvOk n s.th m
theorem MvOk.keep {n : Nat} {th th' : List Bool} {m : Int × Int} (H : MvOk n th m) (hk : ∀ i : Nat, i ≠ 0 → th[i]? = some true → th'[i]? = some true) : MvOk n th' m :=
 ⟨⟨H.1.1, H.1.2.1, hk _ (by have := H.1.1; omega) H.1.2.2⟩, ⟨H.2.1, H.2.2.1, hk _ (by have := H.2.1; omega) H.2.2.2⟩⟩
theorem PM.ins {n : Nat} {s : Pbs} (H : PM n s) {x : VI} (ok : x.okR n) : PM n (pI s x) ∧ (pI s x).mv.length ≤ s.mv.length + 1 := by
 have d := ok.def
 have keep : ∀ i : Nat, i ≠ 0 → s.th[i]? = some true → (mark (s.th.set (defR x.op x.d).toNat true) (usesL x))[i]? = some true := fun i _ hi => by
  refine mark_keep _ _ _ ?_
  by_cases e : i = (defR x.op x.d).toNat
  · rw [e, List.getElem?_set_self (by rw [H.tl]; omega)]
  · rw [List.getElem?_set_ne (Ne.symm e)]; exact hi
 refine ⟨⟨by show (mark _ _).length = n; rw [mark_len, List.length_set]; exact H.tl, ?_⟩, ?_⟩
 · intro m hm
   show MvOk n (mark (s.th.set (defR x.op x.d).toNat true) (usesL x)) m
   have hm : m ∈ (if x.op = 100 ∧ x.a ≠ 0 ∧ defR x.op x.d ≠ 0 ∧ x.a ≠ defR x.op x.d then s.mv ++ [(defR x.op x.d, x.a)] else s.mv) := hm
   split at hm
   · rename_i hc
     rcases List.mem_append.1 hm with hm | hm
     · exact (H.mv m hm).keep keep
     · rw [List.mem_singleton] at hm
       subst hm
       have au : x.a ∈ usesL x := by
        unfold usesL
        refine List.mem_filter.2 ⟨by simp, ?_⟩
        unfold nz
        simpa using hc.2.1
       have ab := ok.uses _ au
       have := hc.2.1
       have := hc.2.2.1
       refine ⟨⟨?_, d.2, ?_⟩, ⟨?_, ab.2, mark_hit _ _ _ au (by rw [List.length_set, H.tl]; omega)⟩⟩
       · show 0 < defR x.op x.d
         omega
       · exact mark_keep _ _ _ (List.getElem?_set_self (by rw [H.tl]; omega))
       · show 0 < x.a
         omega
   · exact (H.mv m hm).keep keep
 · show (if x.op = 100 ∧ x.a ≠ 0 ∧ defR x.op x.d ≠ 0 ∧ x.a ≠ defR x.op x.d then s.mv ++ [(defR x.op x.d, x.a)] else s.mv).length ≤ _
   split
   · rw [List.length_append]; exact Nat.le_refl _
   · omega
theorem PM.fold {n : Nat} {l : List VI} : ∀ {s : Pbs}, PM n s → (∀ x ∈ l, x.okR n) → PM n (l.foldl pI s) ∧ (l.foldl pI s).mv.length ≤ s.mv.length + l.length := by
 induction l with
 | nil => intro s H _; exact ⟨H, by simp⟩
 | cons x l ih =>
  intro s H ok
  obtain ⟨h1, h2⟩ := H.ins (ok x (by simp))
  obtain ⟨h3, h4⟩ := ih h1 fun y hy => ok y (by simp [hy])
  refine ⟨h3, ?_⟩
  rw [List.length_cons]
  show (List.foldl pI (pI s x) l).mv.length ≤ _
  omega
theorem PM.blks {L : List (List Bool)} {n N : Nat} {l : List VB} : ∀ {s : Pbs}, PM n s → (∀ x ∈ l, x.okB n N) → PM n (l.foldl (pBlk L n) s) ∧ (l.foldl (pBlk L n) s).mv.length ≤ s.mv.length + sumI l := by
 induction l with
 | nil => intro s H _; exact ⟨H, by simp⟩
 | cons x l ih =>
  intro s H ok
  have okx := ok x (by simp)
  have h0 : PM n (pStart L n s x) := ⟨by show (mark _ _).length = n; rw [mark_len]; exact H.tl, fun m hm => (H.mv m hm).keep fun i _ hi => mark_keep _ _ _ hi⟩
  obtain ⟨h1, h2⟩ := h0.fold (l := x.ins.reverse) fun y hy => okx.ins y (List.mem_reverse.1 hy)
  obtain ⟨h3, h4⟩ := ih (s := pBlk L n s x) h1 fun y hy => ok y (by simp [hy])
  refine ⟨h3, ?_⟩
  rw [List.length_reverse] at h2
  have h2' : (pBlk L n s x).mv.length ≤ s.mv.length + x.ins.length := h2
  have e : sumI (x :: l) = x.ins.length + sumI l := rfl
  rw [e]
  show (List.foldl (pBlk L n) (pBlk L n s x) l).mv.length ≤ _
  omega
theorem pm_build {f : VF} (fo : f.ok) (L : List (List Bool)) : PM f.regs.toNat (pBuild f L) ∧ (pBuild f L).mv.length ≤ 4096 ∧ (pBuild f L).th[0]? ≠ some true := by
 have fr := fo.regs
 have okB := okB_of fr.1 fo.blk fo.sum
 have h0 : PM f.regs.toNat (pZero f.regs.toNat) := ⟨List.length_replicate .., fun m hm => by cases hm⟩
 obtain ⟨h1, h2⟩ := h0.blks (L := L) okB
 have fs := fo.sum
 have h3 : PM f.regs.toNat (pPar f.params (L.getD 0 []) 0 (f.blocks.foldl (pBlk L f.regs.toNat) (pZero f.regs.toNat))) := ⟨by show (mark _ _).length = _; rw [mark_len]; exact h1.tl, fun m hm => (h1.mv m hm).keep fun i _ hi => mark_keep _ _ _ hi⟩
 refine ⟨⟨by show (List.set _ _ _).length = _; rw [List.length_set]; exact h3.tl, fun m hm => (h3.mv m hm).keep fun i hi hh => ?_⟩, ?_, ?_⟩
 · show (List.set _ _ _)[i]? = _
   rw [List.getElem?_set_ne (Ne.symm hi)]; exact hh
 · have : (pZero f.regs.toNat).mv.length = 0 := rfl
   show (f.blocks.foldl (pBlk L f.regs.toNat) (pZero f.regs.toNat)).mv.length ≤ _
   omega
 · show (List.set _ 0 false)[0]? ≠ _
   rw [List.getElem?_set_self (by rw [h3.tl]; omega)]
   simp
structure ColA (n K : Nat) (s : Pbs) (R T : List Int) (S : Int) : Prop where
 rl : R.length = n
 tl : T.length = n
 pl : ∀ r : Nat, s.th[r]? = some true → ∃ a b, R[r]? = some a ∧ T[r]? = some b ∧ ((1 ≤ a ∧ a ≤ (K : Int) ∧ b = -1) ∨ (a = -1 ∧ 0 ≤ b ∧ b < S))
 rg : ∀ (r : Nat) a b, R[r]? = some a → T[r]? = some b → (a = -1 ∨ (1 ≤ a ∧ a ≤ (K : Int))) ∧ (b = -1 ∨ (0 ≤ b ∧ b < S)) ∧ (a = -1 ∨ b = -1)
 sl : ∀ r : Nat, s.sl[r]? = some true → R[r]? = some (-1)
 ne : ∀ (p q : Nat) a, s.E p q → R[p]? = some a → R[q]? = some a → a = -1
 ns : ∀ (p q : Nat) b, s.E p q → T[p]? = some b → T[q]? = some b → b = -1
 br : Thin K s.E (want s.sl s.th) → ∀ (r : Nat) b, T[r]? = some b → 0 ≤ b → s.sl[r]? = some true
 s : 0 ≤ S ∧ S ≤ n
theorem fill_loop {n hr ht : Nat} (hn : n ≤ 8192) {h0 : Heap} (n3 : hr ≠ ht) (i1 : Int) (s4x0 : SA) (n4x0 : Nat) (s4x1 : SA) (n4x1 : Nat) (i4x2 : Int) (p7 : Option Ad) (s8 : SA) (n8 : Nat) (i9x2 : Int) (Q : Kont (AV × Heap)) :
 ∀ (k j : Nat), j + k = n → ∀ (h : Heap) (R T : List Int), Kp (fun b => b = hr ∨ b = ht) h0 h → h[hr]? = some (intB R) → h[ht]? = some (intB T) → R.length = n → T.length = n → (∀ i : Nat, i < j → R[i]? = some (-1) ∧ T[i]? = some (-1)) →
  ∃ h', L14x18 mk0 E i1 s4x0 n4x0 s4x1 n4x1 i4x2 p7 s8 n8 (.pos ⟨hr, 0, 0⟩) n (.pos ⟨ht, 0, 0⟩) n i9x2 ((n : Nat) : Int) ((j : Nat) : Int) h Q = Q (.exit 0) (S14xe0 i1 s4x0 n4x0 s4x1 n4x1 i4x2 p7 s8 n8 (.pos ⟨hr, 0, 0⟩) n (.pos ⟨ht, 0, 0⟩) n i9x2 h') ∧ Kp (fun b => b = hr ∨ b = ht) h0 h' ∧ h'.length = h.length ∧ h'[hr]? = some (intB (List.replicate n (-1))) ∧ h'[ht]? = some (intB (List.replicate n (-1))) := by
 intro k
 induction k with
 | zero =>
  intro j hj h R T kp q1 q2 l1 l2 hh
  have eq : ∀ U : List Int, U.length = n → (∀ i : Nat, i < j → U[i]? = some (-1)) → U = List.replicate n (-1) := fun U hl hu => by
   apply List.ext_getElem?
   intro i
   by_cases hi : i < n
   · rw [hu i (by omega), List.getElem?_replicate, if_pos hi]
   · rw [List.getElem?_eq_none (by omega), List.getElem?_eq_none (by rw [List.length_replicate]; omega)]
  rw [L14x18xeq, letK_eq, if_neg (by simp; omega)]
  exact ⟨h, rfl, kp, rfl, by rw [← eq R l1 fun i hi => (hh i hi).1]; exact q1, by rw [← eq T l2 fun i hi => (hh i hi).2]; exact q2⟩
 | succ k ih =>
  intro j hj h R T kp q1 q2 l1 l2 hh
  have t1 := intB_set q1 (i := j) (by omega) (-1)
  have q2' : (h.set hr (intB (R.set j (-1))))[ht]? = some (intB T) := by rw [set_other n3]; exact q2
  have t2 := intB_set q2' (i := j) (by omega) (-1)
  have q1' : ((h.set hr (intB (R.set j (-1)))).set ht (intB (T.set j (-1))))[hr]? = some (intB (R.set j (-1))) := by rw [set_other (Ne.symm n3)]; exact set_same q1
  obtain ⟨h', r1, r2, r3, r4⟩ := ih (j + 1) (by omega) _ _ _ ((kp.trans (kp_set (fun b => b = hr ∨ b = ht) hr h _ (.inl rfl))).trans (kp_set (fun b => b = hr ∨ b = ht) ht _ _ (.inr rfl))) q1' (set_same q2') (by rw [List.length_set]; exact l1) (by rw [List.length_set]; exact l2) (fun i hi => by
   by_cases e : i = j
   · rw [e, List.getElem?_set_self (by omega), List.getElem?_set_self (by omega)]; exact ⟨rfl, rfl⟩
   · rw [List.getElem?_set_ne (Ne.symm e), List.getElem?_set_ne (Ne.symm e)]; exact hh i (by omega))
  rw [L14x18xeq, letK_eq, if_pos (by simp; omega), chk_of (by intro _; omega), adP_pos, atP_of, Int.toNat_natCast, add_mk, t1, Option.bind_some, chk_of (by intro _; omega), adP_pos, atP_of, add_mk, t2, Option.bind_some, letK_eq, wrap64 (x := (j : Int) + 1) (by omega) (by omega), show ((j : Int) + 1) = ((j + 1 : Nat) : Int) by omega, r1]
  exact ⟨h', rfl, r2, by rw [r3, List.length_set, List.length_set], r4⟩
theorem alloc_ok {h : Heap} {f : VF} {K : Nat} (R : f.R h) (B : f.B) (fo : f.ok) (hK : 1 ≤ K ∧ K ≤ 10) :
 ∃ h' s1 s2 Rl Tl S L, E 14 [.agg f.cells, .int .i64 K] h = some (.tup [.agg [.sl s1 f.regs.toNat, .sl s2 f.regs.toNat, .int .i64 S], .int .i64 0], h') ∧ Old h h' ∧ VS intC 1 h' s1 f.regs.toNat Rl ∧ VS intC 1 h' s2 f.regs.toNat Tl ∧ f.lfp L ∧ ColA f.regs.toNat K (pBuild f L) Rl Tl S := by
 have fr := fo.regs
 obtain ⟨n, hn⟩ : ∃ n, n = f.regs.toNat := ⟨_, rfl⟩
 obtain ⟨h1, e1, c1, c2, c3⟩ := check_ok R B
 have e10 := c3.2 fo
 subst e10
 obtain ⟨h2, g, L, b1, b2, b3, b4, b5⟩ := build_ok (R.old c2) B fo
 obtain ⟨P1, P2, P3⟩ := pm_build fo L
 rw [← hn] at b4 P1 ⊢
 have sy := sy_build f L
 obtain ⟨h3, L3, c, d1, C, d3, I, d5, d6⟩ := coalesce_ok (K := K) b4 (by omega) (by omega) sy (by omega) P1.mv P3
 obtain ⟨s, es⟩ : ∃ s, s = pBuild f L := ⟨_, rfl⟩
 rw [← es] at b4 P1 P2 P3 sy C d3 I
 have bd0 : ∀ p q, s.E p q → p < n ∧ q < n := fun p q hh => gg_lt b4.m ((b4.e p q).2 hh)
 obtain ⟨g', eg⟩ : ∃ g' : Gr, g' = { g with L := L3, th := c.th } := ⟨_, rfl⟩
 rw [← eg] at C
 have gG : g'.G = g.G := by rw [eg]
 have gown : ∀ b, g'.owns b ↔ g.owns b := fun b => by rw [eg]; exact Iff.rfl
 have gth : g'.th = c.th := by rw [eg]
 have gE : ∀ p q, gg g'.L p q = true ↔ c.E p q := C.e
 have gsym : ∀ p q, gg g'.L p q = true → gg g'.L q p = true := fun p q hh => (gE _ _).2 (I.sy.s _ _ ((gE _ _).1 hh))
 have girr : ∀ p, gg g'.L p p = false := fun p => by
  cases hz : gg g'.L p p with
  | false => rfl
  | true => exact absurd ((gE _ _).1 hz) (I.sy.i _)
 obtain ⟨h4, e4⟩ : ∃ h4, h4 = h3 ++ [intB (List.replicate n 0)] := ⟨_, rfl⟩
 obtain ⟨h5, e5⟩ : ∃ h5, h5 = h4 ++ [intB (List.replicate n 0)] := ⟨_, rfl⟩
 have l4 : h4.length = h3.length + 1 := by rw [e4]; simp
 have l5 : h5.length = h3.length + 2 := by rw [e5]; simp [l4]
 have o5 : Old h3 h5 := by rw [e5, e4]; exact (old_app _ _).trans (old_app _ _)
 have q1 : h5[h3.length]? = some (intB (List.replicate n 0)) := by rw [e5]; exact app_old (by rw [e4]; exact last_get _ _)
 have q2 : h5[h4.length]? = some (intB (List.replicate n 0)) := by rw [e5]; exact last_get _ _
 have zz : Blk.cells (repl n [AV.int .i64 0]) (.grow 1) 0 = intB (List.replicate n 0) := by simp [repl, intB]
 obtain ⟨h6, f1, f2, f3, f4, f5⟩ := fill_loop (n := n) (by omega) (hr := h3.length) (ht := h4.length) (by omega) (K : Int) .nil 0 .nil 0 0 (some ⟨g.G, 0, 0⟩) (.pos ⟨h2.length, 0, 0⟩) n 0 (Q14x18 mk0 E) n 0 (by omega) h5 _ _ (Kp.refl _ _) q1 q2 (List.length_replicate ..) (List.length_replicate ..) (fun i hi => by omega)
 rw [show (((0 : Nat) : Int)) = 0 from rfl] at f1
 have o6 : Old h3 h6 := f2.old o5 fun q hq e => by omega
 have M6 := C.m.old o6
 have lt3 := C.m.lt
 have nown : ∀ b, h3.length ≤ b → ¬ g'.owns b := fun b hb hh => by have := lt3 b hh; omega
 obtain ⟨h7, so, o, u1, u2, u3, u4, u5, u6⟩ := order_ok (K := K) (by omega) M6 gsym girr
 rw [gG] at u1
 have M7 := M6.old u2
 have r7 : h7[h3.length]? = some (intB (List.replicate n (-1))) := u2 _ _ f4
 have t7 : h7[h4.length]? = some (intB (List.replicate n (-1))) := u2 _ _ f5
 have RC0 : RC n K g'.L (want g'.sl g'.th) (o.take 0) (List.replicate n (-1)) := by
  refine ⟨List.length_replicate .., fun r hr _ => by rw [List.getElem?_replicate, if_pos hr], fun r a ha => .inl (List.eq_of_mem_replicate (List.mem_of_getElem? ha)), fun p q a _ ha _ => List.eq_of_mem_replicate (List.mem_of_getElem? ha), fun _ r hr => by rw [List.take_zero] at hr; cases hr⟩
 have g6 : g'.sl = s.sl := C.sl
 have Wn : ∀ r, want g'.sl g'.th r → r < n := fun r hr => by
  have h1 := (List.getElem?_eq_some_iff.1 hr.1).1
  have h2 := M6.t.2
  omega
 obtain ⟨h8, R8, v1, v2, v3, v4, v5⟩ := reg_loop (hr := h3.length) (by omega) (by omega) M7 gsym girr (nown _ (Nat.le_refl _)) u3 (fun b hb e => by have := u6 b hb; omega) u4 u5 Wn .nil 0 .nil 0 0 (.pos ⟨h2.length, 0, 0⟩) n (.pos ⟨h4.length, 0, 0⟩) n 0 (Q14x29 mk0 E) o.length 0 (by omega) h7 _ (Kp.refl _ _) r7 RC0
 rw [show (((0 : Nat) : Int)) = 0 from rfl, gG] at v1
 have M8 := M7.kp v2 fun b hb e => nown b (by omega) hb
 have SC0 : SC n g'.L (fun r => g'.th[r]? = some true ∧ ∃ a, R8[r]? = some a ∧ a < 0) 0 (List.replicate n (-1)) 0 := ⟨List.length_replicate .., fun r hr _ => by rw [List.getElem?_replicate, if_pos hr], fun r hr => by omega, fun r a ha => .inl (List.eq_of_mem_replicate (List.mem_of_getElem? ha)), fun p q a _ ha _ => List.eq_of_mem_replicate (List.mem_of_getElem? ha), by omega⟩
 obtain ⟨h9, T9, S9, w1, w2, w3, w4, w5⟩ := slots_loop (hr := h3.length) (ht := h4.length) (by omega) M8 gsym girr (nown _ (by omega)) (by omega) v4 v5.rl .nil 0 .nil 0 0 (.pos ⟨h2.length, 0, 0⟩) n (Q14x44 mk0 E) n 0 (by omega) h8 _ _ (Kp.refl _ _) (v2 _ _ t7 (by omega)) SC0
 rw [show (((0 : Nat) : Int)) = 0 from rfl, gG] at w1
 have c9 : h9[h2.length]? = some (intB c.l) := w2 _ _ (v2 _ _ (u2 _ _ (o6 _ _ C.l)) (by omega)) (by omega)
 have r9 := w2 _ _ v4 (show h3.length ≠ h4.length by omega)
 obtain ⟨h10, R10, T10, x1, x2, x3, x4, x5, x6, x7⟩ := class_loop (ob := h2.length) (hr := h3.length) (ht := h4.length) (by omega) c9 I.ll I.bd I.rt (by omega) (by omega) (by omega) v5.rl w5.tl .nil 0 .nil 0 0 S9 (Q14x59 mk0 E) n 0 (by omega) h9 R8 T9 (Kp.refl _ _) r9 w4 v5.rl w5.tl (fun r x hr hx => by rw [if_neg (by omega), if_neg (by omega)]; exact ⟨rfl, rfl⟩)
 rw [show (((0 : Nat) : Int)) = 0 from rfl] at x1
 have o3 : Old h h3 := d5.old (c2.trans b2) fun q hq hh => by have := b5 q (.inl hh); have := c2.le; omega
 have le2 : h.length ≤ h2.length := (c2.trans b2).le
 have o8 : Old h h8 := v2.old (o3.trans (o6.trans u2)) fun q hq e => by omega
 have o9 : Old h h9 := w2.old o8 fun q hq e => by omega
 have o10 : Old h h10 := x2.old o9 fun q hq e => by omega
 refine ⟨h10, .pos ⟨h3.length, 0, 0⟩, .pos ⟨h4.length, 0, 0⟩, R10, T10, S9, L, ?_, o10, intB_vs x3 x5, intB_vs x4 x6, b3, ?_⟩
 · unfold VF.cells at *
   rw [e14, c1, Option.bind_some, gI_of, letK_eq, if_neg (by simp), letK_eq, letK_eq, letK_eq, if_neg (by
    rw [decide_eq_false (show ¬ (K : Int) < 1 by omega), decide_eq_false (show ¬ (10 : Int) < (K : Int) by omega)]; simp), b1, Option.bind_some, gP_of, d1, Option.bind_some, gL_of, chk_of (by omega), newK_eq, letK_eq, chk_of (by omega), newK_eq, letK_eq, ← hn, zz, ← e4, ← e5, f1, X14x18xe0, u1, Option.bind_some, gL_of, v1, X14x29xe2, w1, X14x44xe4, x1, X14x59xe6]
 · rw [← es]
   have root : ∀ r : Nat, r < n → ∃ x : Nat, Root c.l r x ∧ x < n ∧ R10[r]? = R8[x]? ∧ T10[r]? = T9[x]? := fun r hr => by
    obtain ⟨x, hx⟩ := I.rt r hr
    have xb := hx.bd I.bd
    exact ⟨x, hx, by omega, x7 r x hr hx⟩
   have lt : ∀ {α : Type} {l : List α} {r : Nat} {a : α}, l.length = n → l[r]? = some a → r < n := fun hl ha => by
    have := (List.getElem?_eq_some_iff.1 ha).1; omega
   have rg : ∀ (x : Nat) (a b : Int), x < n → R8[x]? = some a → T9[x]? = some b → (a = -1 ∨ (1 ≤ a ∧ a ≤ (K : Int))) ∧ (b = -1 ∨ (0 ≤ b ∧ b < S9)) ∧ (a = -1 ∨ b = -1) := fun x a b hx ha hb => by
    refine ⟨v5.rg x a ha, w5.rg x b hb, ?_⟩
    rcases v5.rg x a ha with h | h
    · exact .inl h
    · right
      have := w5.out x hx (.inr fun ⟨_, a', h1, h2⟩ => by
       rw [ha] at h1; cases h1; omega)
      rw [hb] at this
      injection this
   refine ⟨x5, x6, fun r hr => ?_, fun r a b ha hb => ?_, fun r hr => ?_, fun p q a e hp hq => ?_, fun p q b e hp hq => ?_, fun th r b hb b0 => ?_, w5.s⟩
   · have rn := lt P1.tl hr
     obtain ⟨x, rx, xn, ex, ey⟩ := root r rn
     have tx := I.th r x hr rx
     obtain ⟨a, ha⟩ := at_lt (l := R8) (i := x) (by rw [v5.rl]; exact xn)
     obtain ⟨b, hb⟩ := at_lt (l := T9) (i := x) (by rw [w5.tl]; exact xn)
     obtain ⟨g1, g2, g3⟩ := rg x a b xn ha hb
     refine ⟨a, b, by rw [ex, ha], by rw [ey, hb], ?_⟩
     by_cases e : a = -1
     · obtain ⟨b', hb', h0⟩ := w5.inn x xn ⟨by rw [gth]; exact tx, a, ha, by omega⟩
       rw [hb] at hb'
       cases hb'
       right; omega
     · left; omega
   · obtain ⟨x, rx, xn, ex, ey⟩ := root r (lt x5 ha)
     rw [ex] at ha
     rw [ey] at hb
     exact rg x a b xn ha hb
   · have rn : r < n := lt (by rw [← g6]; exact M6.s.2) hr
     obtain ⟨x, rx, xn, ex, ey⟩ := root r rn
     have sx := I.sl r x rx
     rw [hr] at sx
     rw [ex]
     refine v5.out x xn fun hh => ?_
     have := ((u5.w x).1 hh).2
     rw [g6, ← sx] at this
     cases this
   · obtain ⟨x, rx, xn, ex, _⟩ := root p (lt x5 hp)
     obtain ⟨y, ry, yn, ey, _⟩ := root q (lt x5 hq)
     exact v5.ne x y a ((gE _ _).2 (I.ed p q x y e rx ry)) (by rw [← ex]; exact hp) (by rw [← ey]; exact hq)
   · obtain ⟨x, rx, xn, _, ex⟩ := root p (lt x6 hp)
     obtain ⟨y, ry, yn, _, ey⟩ := root q (lt x6 hq)
     exact w5.ne x y b ((gE _ _).2 (I.ed p q x y e rx ry)) (by rw [← ex]; exact hp) (by rw [← ey]; exact hq)
   · have rn := lt x6 hb
     obtain ⟨x, rx, xn, ex, ey⟩ := root r rn
     rw [ey] at hb
     have I0 : CI n s.sl K s.E s.th ⟨s.E, ofs0 n, s.th⟩ := ci_zero sy P1.tl P3
     have th2 : Thin K c.E (want s.sl c.th) := d3.thin bd0 I0 th
     have th3 : Thin K (fun p q => gg g'.L p q = true) (want g'.sl g'.th) := fun S hS hA => by
      obtain ⟨r, hr, hf⟩ := th2 S hS (by rw [g6, gth] at hA; exact hA)
      exact ⟨r, hr, fun T hT hh => hf T hT fun t ht => ⟨(hh t ht).1, (gE _ _).1 (hh t ht).2⟩⟩
     have nN : ¬ (¬ (g'.th[x]? = some true ∧ ∃ a, R8[x]? = some a ∧ a < 0)) := fun hh => by
      have := w5.out x xn (.inr hh)
      rw [hb] at this
      injection this with this
      omega
     obtain ⟨tx, a, ha, a0⟩ := Classical.not_not.1 nN
     have am : a = -1 := by
      rcases v5.rg x a ha with h | h
      · exact h
      · omega
     have nx : x ∉ o := fun hh => v5.th th3 x hh (by rw [ha, am])
     have nw : ¬ want g'.sl g'.th x := fun hh => nx ((u5.w x).2 hh)
     obtain ⟨z, hz⟩ := at_lt (l := g'.sl) (i := x) (by rw [M6.s.2]; exact xn)
     have zt : z = true := by
      cases z with
      | true => rfl
      | false => exact absurd ⟨tx, hz⟩ nw
     rw [I.sl r x rx, ← g6, hz, zt]
end Go.Proofs.Ytnmdadadjneaiaa.D
