/- linear.Ranges: the ranges in memory; one point more. -/
import Derived.Test.YtnmdadadjneaiaaConDo
import Derived.Test.YtnmdadadjneaiaaConDn
import Derived.Test.YtnmdadadjneaiaaConDc
set_option linter.unusedVariables false
set_option linter.unusedSimpArgs false
namespace Go.Proofs.Ytnmdadadjneaiaa.D
open Go Go.Proofs.Ytnmdadadjneaiaa.Abs Go.Proofs
theorem rg_cset : ∀ {l : List Rg} {r k : Nat} {x y : Rg} {v : AV}, l[r]? = some x → k < 4 → rgC y = (rgC x).set k v → (l.flatMap rgC).set (r * 4 + k) v = (l.set r y).flatMap rgC
 | [], r, k, x, y, v, h, _, _ => by cases h
 | z :: l, 0, k, x, y, v, h, hk, hy => by
  cases h
  rw [Nat.zero_mul, Nat.zero_add, List.set_cons_zero, List.flatMap_cons, List.flatMap_cons, List.set_append_left _ _ (by rw [rg_len]; exact hk), hy]
 | z :: l, r + 1, k, x, y, v, h, hk, hy => by
  rw [List.set_cons_succ, List.flatMap_cons, List.flatMap_cons, List.set_append_right _ _ (by rw [rg_len]; omega), rg_len, show (r + 1) * 4 + k - 4 = r * 4 + k by omega, rg_cset (l := l) h hk hy]
theorem rg_cget : ∀ {l : List Rg} {r k : Nat} {x : Rg} {v : AV}, l[r]? = some x → (rgC x)[k]? = some v → (l.flatMap rgC)[r * 4 + k]? = some v
 | [], r, k, x, v, h, _ => by cases h
 | z :: l, 0, k, x, v, h, hv => by
  cases h
  have := (List.getElem?_eq_some_iff.1 hv).1
  rw [Nat.zero_mul, Nat.zero_add, List.flatMap_cons, List.getElem?_append_left this, hv]
 | z :: l, r + 1, k, x, v, h, hv => by
  rw [List.flatMap_cons, List.getElem?_append_right (by rw [rg_len]; omega), rg_len, show (r + 1) * 4 + k - 4 = r * 4 + k by omega]
  exact rg_cget (l := l) h hv
theorem rg_spl : ∀ {l : List Rg} {i : Nat} {x : Rg} (y : Rg), l[i]? = some x → splice (i * 4) (rgC y) (l.flatMap rgC) = (l.set i y).flatMap rgC := by
 intro l i x y hx
 have hl : l = l.take i ++ x :: l.drop (i + 1) := by rw [← drop_at hx, List.take_append_drop]
 have hi := (List.getElem?_eq_some_iff.1 hx).1
 have tl : ((l.take i).flatMap rgC).length = i * 4 := by rw [rgs_len, List.length_take, Nat.min_eq_left (by omega)]
 have e : l.flatMap rgC = (l.take i).flatMap rgC ++ (rgC x ++ (l.drop (i + 1)).flatMap rgC) := by
  conv => lhs; rw [hl]
  simp only [List.flatMap_append, List.flatMap_cons]
 rw [e, ← tl, splice_mid ((l.take i).flatMap rgC) (rgC x) _ (rgC y) rfl, List.set_eq_take_append_cons_drop, if_pos (by omega)]
 simp only [List.flatMap_append, List.flatMap_cons]
structure RG (h : Heap) (B P n : Nat) (l : List Rg) : Prop where
 c : h[B]? = some (.cells (l.flatMap rgC) (.grow 4) 0)
 p : h[P]? = some (.cells [.sl (.pos ⟨B, 0, 0⟩) n] .fix 0)
 n : l.length = n
 d : B ≠ P
theorem RG.old {h h' : Heap} {B P n : Nat} {l : List Rg} (H : RG h B P n l) (o : Old h h') : RG h' B P n l := ⟨o _ _ H.c, o _ _ H.p, H.n, H.d⟩
theorem RG.hd {h : Heap} {B P n : Nat} {l : List Rg} (H : RG h B P n l) : ld1 h ⟨P, 0, 0⟩ = some (.sl (.pos ⟨B, 0, 0⟩) n) := ld1_at H.p rfl rfl
theorem RG.rd {h : Heap} {B P n : Nat} {l : List Rg} (H : RG h B P n l) {r : Nat} {x : Rg} (hx : l[r]? = some x) (k : Nat) {v : AV} (hv : (rgC x)[k]? = some v) (fv : flatA v = true) : ld1 h ⟨B, 0, 0 + r * 4 + k⟩ = some v :=
 ld1_at H.c (by rw [show 0 + r * 4 + k = r * 4 + k by omega]; exact rg_cget hx hv) fv
theorem RG.w {h : Heap} {B P n : Nat} {l : List Rg} (H : RG h B P n l) {r : Nat} {x : Rg} (hx : l[r]? = some x) {k : Nat} (hk : k < 4) {v : AV} {y : Rg} (hy : rgC y = (rgC x).set k v) (ok : ∀ hh : Heap, True) :
 ∃ h', (∀ (hf : flatA v = true), st1 h ⟨B, 0, 0 + r * 4 + k⟩ v = some h') ∧ Kp (· = B) h h' ∧ h'.length = h.length ∧ RG h' B P n (l.set r y) := by
 have hr := (List.getElem?_eq_some_iff.1 hx).1
 have kp := kp_set (· = B) B h (.cells ((l.flatMap rgC).set (r * 4 + k) v) (.grow 4) 0) rfl
 refine ⟨h.set B (.cells ((l.flatMap rgC).set (r * 4 + k) v) (.grow 4) 0), fun hf => ?_, kp, by simp, ⟨?_, kp _ _ H.p (Ne.symm H.d), by rw [List.length_set]; exact H.n, H.d⟩⟩
 · rw [st1_at H.c (by simp) (by rw [rgs_len]; show 0 + r * 4 + k < _; omega)]
   show some (h.set B (.cells ((l.flatMap rgC).set (0 + r * 4 + k) v) (.grow 4) 0)) = _
   rw [show 0 + r * 4 + k = r * 4 + k by omega]
 · rw [set_same H.c, rg_cset hx hk hy]
def exX (x : Rg) (t : Int) : Rg :=
 if x.b < 0 then { x with b := foldMM false t [t], e := foldMM true t [t] } else { x with b := foldMM false x.b [t], e := foldMM true x.e [t] }
def exL (l : List Rg) (r : Nat) (t : Int) : List Rg := l.set r (exX (l.getD r ⟨0, 0, 0, false⟩) t)
def exs (l : List Rg) (rs : List Int) (t : Int) : List Rg := rs.foldl (fun l r => exL l r.toNat t) l
theorem ext_tail {h : Heap} {B P n : Nat} {l : List Rg} (H : RG h B P n l) {r : Nat} {x : Rg} (hx : l[r]? = some x) (t : Int) :
 ∃ h', J27x4 mk0 E t (some ⟨B, 0, 0 + r * 4⟩) h = some (.tup [], h') ∧ Kp (· = B) h h' ∧ h'.length = h.length ∧ RG h' B P n (l.set r { x with b := foldMM false x.b [t], e := foldMM true x.e [t] }) := by
 have hr := (List.getElem?_eq_some_iff.1 hx).1
 obtain ⟨h1, a1, a2, a3, a4⟩ := H.w hx (k := 1) (by omega) (v := .int .i64 (foldMM false x.b [t])) (y := { x with b := foldMM false x.b [t] }) rfl fun _ => trivial
 have hx1 : (l.set r { x with b := foldMM false x.b [t] })[r]? = some { x with b := foldMM false x.b [t] } := List.getElem?_set_self hr
 obtain ⟨h2, b1, b2, b3, b4⟩ := a4.w hx1 (k := 2) (by omega) (v := .int .i64 (foldMM true x.e [t])) (y := { x with b := foldMM false x.b [t], e := foldMM true x.e [t] }) rfl fun _ => trivial
 rw [List.set_set] at b4
 refine ⟨h2, ?_, a2.trans b2, by omega, b4⟩
 rw [J27x4xeq, atP_of, add_mk, H.rd hx 1 rfl rfl, gI_of, letK_eq, atP_of, add_mk, H.rd hx 2 rfl rfl, gI_of, letK_eq, atP_of, add_mk, a1 rfl, Option.bind_some, atP_of, add_mk, b1 rfl, Option.bind_some]
theorem ext_ok {h : Heap} {B P n : Nat} {l : List Rg} (H : RG h B P n l) {r : Int} (hr : 0 ≤ r ∧ r < (n : Int)) (t : Int) :
 ∃ h', E 27 [.int .i64 r, .int .i64 t, .ptr (some ⟨P, 0, 0⟩)] h = some (.tup [], h') ∧ Kp (· = B) h h' ∧ h'.length = h.length ∧ RG h' B P n (exL l r.toNat t) := by
 have hn := H.n
 obtain ⟨x, hx⟩ := at_lt (l := l) (i := r.toNat) (by omega)
 have hd : l.getD r.toNat ⟨0, 0, 0, false⟩ = x := by rw [List.getD, hx]; rfl
 have hrl := (List.getElem?_eq_some_iff.1 hx).1
 unfold exL exX
 rw [hd]
 by_cases hb : x.b < 0
 · obtain ⟨h1, a1, a2, a3, a4⟩ := H.w hx (k := 1) (by omega) (v := .int .i64 t) (y := { x with b := t }) rfl fun _ => trivial
   have hx1 : (l.set r.toNat { x with b := t })[r.toNat]? = some { x with b := t } := List.getElem?_set_self hrl
   obtain ⟨h2, b1, b2, b3, b4⟩ := a4.w hx1 (k := 2) (by omega) (v := .int .i64 t) (y := { x with b := t, e := t }) rfl fun _ => trivial
   rw [List.set_set] at b4
   have hx2 : (l.set r.toNat { x with b := t, e := t })[r.toNat]? = some { x with b := t, e := t } := List.getElem?_set_self hrl
   obtain ⟨h3, c1, c2, c3, c4⟩ := ext_tail b4 hx2 t
   rw [List.set_set] at c4
   rw [if_pos hb]
   refine ⟨h3, ?_, (a2.trans b2).trans c2, by omega, c4⟩
   rw [e27, atP_of, H.hd, gL_of, chk_of (by intro _; omega), adP_pos, atP_of, add_mk, add_mk, H.rd hx 1 rfl rfl, gI_of, letK_eq, if_pos (decide_eq_true hb), a1 rfl, Option.bind_some, add_mk, b1 rfl, Option.bind_some, c1]
 · obtain ⟨h3, c1, c2, c3, c4⟩ := ext_tail H hx t
   rw [if_neg hb]
   refine ⟨h3, ?_, c2, c3, c4⟩
   rw [e27, atP_of, H.hd, gL_of, chk_of (by intro _; omega), adP_pos, atP_of, add_mk, add_mk, H.rd hx 1 rfl rfl, gI_of, letK_eq, if_neg (by simpa using hb), c1]
def ones : Nat → List Bool → List Int
 | _, [] => []
 | j, true :: l => (j : Int) :: ones (j + 1) l
 | j, false :: l => ones (j + 1) l
section loops
variable {hb : Heap} {B P n : Nat} (hn : n ≤ 8192)
include hn
theorem rbeg_loop {q : Nat} {M : List Bool} (hq : hb[q]? = some (bits M)) (hM : M.length = n) (nq : q ≠ B) (t : Int)
 (i1x0 : Int) (s1x1 : SA) (n1x1 : Nat) (i1x2 : Int) (s1x3 : SA) (n1x3 : Nat) (p5 : Option Ad) (s8 : SA) (n8 : Nat) (s9 : SA) (n9 : Nat) (i12 : Int) (s13x0 : SA) (n13x0 : Nat) (i13x1 i13x2 : Int) (i13x3 i13x4 i13x5 : Int) (s13x6 : SA) (n13x6 : Nat) (s53 : SA) (n53 : Nat) (i54 i55 : Int) (Q : Kont (AV × Heap)) :
 ∀ (k j : Nat), j + k = n → ∀ (h : Heap) (l : List Rg), Kp (· = B) hb h → h.length = hb.length → RG h B P n l →
  ∃ h', L9x36 mk0 E i1x0 s1x1 n1x1 i1x2 s1x3 n1x3 p5 (some ⟨P, 0, 0⟩) s8 n8 s9 n9 t i12 s13x0 n13x0 i13x1 i13x2 i13x3 i13x4 i13x5 s13x6 n13x6 s53 n53 i54 i55 (.pos ⟨q, 0, 0⟩) n ((n : Nat) : Int) ((j : Nat) : Int) h Q = Q (.exit 4) (S9xe4 i1x0 s1x1 n1x1 i1x2 s1x3 n1x3 p5 (some ⟨P, 0, 0⟩) s8 n8 s9 n9 t i12 s13x0 n13x0 i13x1 i13x2 i13x3 i13x4 i13x5 s13x6 n13x6 s53 n53 i54 i55 h') ∧ Kp (· = B) hb h' ∧ h'.length = hb.length ∧ RG h' B P n (exs l (ones j (M.drop j)) t) := by
 intro k
 induction k with
 | zero =>
  intro j hj h l kp le H
  rw [L9x36xeq, letK_eq, if_neg (by simp; omega), List.drop_eq_nil_of_le (by omega)]
  exact ⟨h, rfl, kp, le, H⟩
 | succ k ih =>
  intro j hj h l kp le H
  obtain ⟨b, hb'⟩ := at_lt (l := M) (i := j) (by omega)
  rw [L9x36xeq, letK_eq, if_pos (by simp; omega), chk_of (by intro _; omega), adP_pos, atP_of, Int.toNat_natCast, add_mk, bits_get (kp _ _ hq nq) hb', gB_of, drop_at hb']
  cases b with
  | true =>
   obtain ⟨h1, a1, a2, a3, a4⟩ := ext_ok H (r := ((j : Nat) : Int)) (by omega) t
   obtain ⟨h2, b1, b2, b3, b4⟩ := ih (j + 1) (by omega) h1 _ (kp.trans a2) (by omega) a4
   rw [if_pos rfl, a1, Option.bind_some, gT0_of, J9x46xeq, letK_eq, wrap64 (x := (j : Int) + 1) (by omega) (by omega), show ((j : Int) + 1) = ((j + 1 : Nat) : Int) by omega, b1]
   exact ⟨h2, rfl, b2, b3, b4⟩
  | false =>
   rw [if_neg (show ¬ (false = true) from fun h => by cases h), J9x46xeq, letK_eq, wrap64 (x := (j : Int) + 1) (by omega) (by omega), show ((j : Int) + 1) = ((j + 1 : Nat) : Int) by omega]
   exact ih (j + 1) (by omega) h l kp le H
theorem rend_loop {q : Nat} {M : List Bool} (hq : hb[q]? = some (bits M)) (hM : M.length = n) (nq : q ≠ B) {t : Int} (ht : 0 ≤ t ∧ t ≤ 1000000)
 (i1x0 : Int) (s1x1 : SA) (n1x1 : Nat) (i1x2 : Int) (s1x3 : SA) (n1x3 : Nat) (p5 : Option Ad) (s8 : SA) (n8 : Nat) (s9 : SA) (n9 : Nat) (s53 : SA) (n53 : Nat) (i54 i55 : Int) (Q : Kont (AV × Heap)) :
 ∀ (k j : Nat), j + k = n → ∀ (h : Heap) (l : List Rg), Kp (· = B) hb h → h.length = hb.length → RG h B P n l →
  ∃ h', L9x84 mk0 E i1x0 s1x1 n1x1 i1x2 s1x3 n1x3 p5 (some ⟨P, 0, 0⟩) s8 n8 s9 n9 t s53 n53 i54 i55 (.pos ⟨q, 0, 0⟩) n ((n : Nat) : Int) ((j : Nat) : Int) h Q = Q (.exit 12) (S9xe12 i1x0 s1x1 n1x1 i1x2 s1x3 n1x3 p5 (some ⟨P, 0, 0⟩) s8 n8 s9 n9 t s53 n53 i54 i55 h') ∧ Kp (· = B) hb h' ∧ h'.length = hb.length ∧ RG h' B P n (exs l (ones j (M.drop j)) (t + 1)) := by
 intro k
 induction k with
 | zero =>
  intro j hj h l kp le H
  rw [L9x84xeq, letK_eq, if_neg (by simp; omega), List.drop_eq_nil_of_le (by omega)]
  exact ⟨h, rfl, kp, le, H⟩
 | succ k ih =>
  intro j hj h l kp le H
  obtain ⟨b, hb'⟩ := at_lt (l := M) (i := j) (by omega)
  rw [L9x84xeq, letK_eq, if_pos (by simp; omega), chk_of (by intro _; omega), adP_pos, atP_of, Int.toNat_natCast, add_mk, bits_get (kp _ _ hq nq) hb', gB_of, drop_at hb']
  cases b with
  | true =>
   obtain ⟨h1, a1, a2, a3, a4⟩ := ext_ok H (r := ((j : Nat) : Int)) (by omega) (t + 1)
   obtain ⟨h2, b1, b2, b3, b4⟩ := ih (j + 1) (by omega) h1 _ (kp.trans a2) (by omega) a4
   rw [if_pos rfl, letK_eq, wrap64 (x := t + 1) (by omega) (by omega), a1, Option.bind_some, gT0_of, J9x94xeq, letK_eq, wrap64 (x := (j : Int) + 1) (by omega) (by omega), show ((j : Int) + 1) = ((j + 1 : Nat) : Int) by omega, b1]
   exact ⟨h2, rfl, b2, b3, b4⟩
  | false =>
   rw [if_neg (show ¬ (false = true) from fun h => by cases h), J9x94xeq, letK_eq, wrap64 (x := (j : Int) + 1) (by omega) (by omega), show ((j : Int) + 1) = ((j + 1 : Nat) : Int) by omega]
   exact ih (j + 1) (by omega) h l kp le H
omit hn in
theorem ruse_loop {s84 : SA} {rs : List Int} (V : VS intC 1 hb s84 rs.length rs) (hr : ∀ r ∈ rs, 0 ≤ r ∧ r < (n : Int)) (nS : ¬ inS s84 B) (hl : rs.length ≤ 100000) (t : Int)
 (i1x0 : Int) (s1x1 : SA) (n1x1 : Nat) (i1x2 : Int) (s1x3 : SA) (n1x3 : Nat) (p5 : Option Ad) (s8 : SA) (n8 : Nat) (s9 : SA) (n9 : Nat) (i12 : Int) (s13x0 : SA) (n13x0 : Nat) (i13x1 i13x2 : Int) (i13x3 i13x4 i13x5 : Int) (s13x6 : SA) (n13x6 : Nat) (i17x0 i17x1 : Int) (i17x2 i17x3 i17x4 : Int) (s17x5 : SA) (n17x5 : Nat) (s53 : SA) (n53 : Nat) (i54 i55 : Int) (s77 : SA) (n77 : Nat) (i78 i79 : Int) (Q : Kont (AV × Heap)) :
 ∀ (k j : Nat), j + k = rs.length → ∀ (h : Heap) (l : List Rg), Kp (· = B) hb h → h.length = hb.length → RG h B P n l →
  ∃ h', L9x61 mk0 E i1x0 s1x1 n1x1 i1x2 s1x3 n1x3 p5 (some ⟨P, 0, 0⟩) s8 n8 s9 n9 t i12 s13x0 n13x0 i13x1 i13x2 i13x3 i13x4 i13x5 s13x6 n13x6 i17x0 i17x1 i17x2 i17x3 i17x4 s17x5 n17x5 s53 n53 i54 i55 s77 n77 i78 i79 s84 rs.length ((rs.length : Nat) : Int) ((j : Nat) : Int) h Q = Q (.exit 8) (S9xe8 i1x0 s1x1 n1x1 i1x2 s1x3 n1x3 p5 (some ⟨P, 0, 0⟩) s8 n8 s9 n9 t i12 s13x0 n13x0 i13x1 i13x2 i13x3 i13x4 i13x5 s13x6 n13x6 i17x0 i17x1 i17x2 i17x3 i17x4 s17x5 n17x5 s53 n53 i54 i55 s77 n77 i78 i79 h') ∧ Kp (· = B) hb h' ∧ h'.length = hb.length ∧ RG h' B P n (exs l (rs.drop j) t) := by
 intro k
 induction k with
 | zero =>
  intro j hj h l kp le H
  rw [L9x61xeq, letK_eq, if_neg (by simp; omega), List.drop_eq_nil_of_le (by omega)]
  exact ⟨h, rfl, kp, le, H⟩
 | succ k ih =>
  intro j hj h l kp le H
  obtain ⟨r, hr'⟩ := at_lt (l := rs) (i := j) (by omega)
  obtain ⟨a, ha, la⟩ := vs_ld1 (g := AV.int .i64) (vs_kp V kp fun b hb e => nS (e ▸ hb)) (fun _ => rfl) j r hr'
  obtain ⟨h1, a1, a2, a3, a4⟩ := ext_ok H (hr r (List.mem_of_getElem? hr')) t
  obtain ⟨h2, b1, b2, b3, b4⟩ := ih (j + 1) (by omega) h1 _ (kp.trans a2) (by omega) a4
  rw [L9x61xeq, letK_eq, if_pos (by simp; omega), chk_of (by intro _; omega), ha, atP_of, Int.toNat_natCast, la, gI_of, a1, Option.bind_some, gT0_of, letK_eq, wrap64 (x := (j : Int) + 1) (by omega) (by omega), show ((j : Int) + 1) = ((j + 1 : Nat) : Int) by omega, b1, drop_at hr']
  exact ⟨h2, rfl, b2, b3, b4⟩
omit hn in
theorem reuse_loop {s84 : SA} {rs : List Int} (V : VS intC 1 hb s84 rs.length rs) (hr : ∀ r ∈ rs, 0 ≤ r ∧ r < (n : Int)) (nS : ¬ inS s84 B) (hl : rs.length ≤ 100000) (t : Int)
 (i1x0 : Int) (s1x1 : SA) (n1x1 : Nat) (i1x2 : Int) (s1x3 : SA) (n1x3 : Nat) (p5 : Option Ad) (s8 : SA) (n8 : Nat) (s9 : SA) (n9 : Nat) (i12 : Int) (s53 : SA) (n53 : Nat) (i54 i55 : Int) (Q : Kont (AV × Heap)) :
 ∀ (k j : Nat), j + k = rs.length → ∀ (h : Heap) (l : List Rg), Kp (· = B) hb h → h.length = hb.length → RG h B P n l →
  ∃ h', L9x73 mk0 E i1x0 s1x1 n1x1 i1x2 s1x3 n1x3 p5 (some ⟨P, 0, 0⟩) s8 n8 s9 n9 t i12 s53 n53 i54 i55 s84 rs.length ((rs.length : Nat) : Int) ((j : Nat) : Int) h Q = Q (.exit 10) (S9xe10 i1x0 s1x1 n1x1 i1x2 s1x3 n1x3 p5 (some ⟨P, 0, 0⟩) s8 n8 s9 n9 t i12 s53 n53 i54 i55 h') ∧ Kp (· = B) hb h' ∧ h'.length = hb.length ∧ RG h' B P n (exs l (rs.drop j) t) := by
 intro k
 induction k with
 | zero =>
  intro j hj h l kp le H
  rw [L9x73xeq, letK_eq, if_neg (by simp; omega), List.drop_eq_nil_of_le (by omega)]
  exact ⟨h, rfl, kp, le, H⟩
 | succ k ih =>
  intro j hj h l kp le H
  obtain ⟨r, hr'⟩ := at_lt (l := rs) (i := j) (by omega)
  obtain ⟨a, ha, la⟩ := vs_ld1 (g := AV.int .i64) (vs_kp V kp fun b hb e => nS (e ▸ hb)) (fun _ => rfl) j r hr'
  obtain ⟨h1, a1, a2, a3, a4⟩ := ext_ok H (hr r (List.mem_of_getElem? hr')) t
  obtain ⟨h2, b1, b2, b3, b4⟩ := ih (j + 1) (by omega) h1 _ (kp.trans a2) (by omega) a4
  rw [L9x73xeq, letK_eq, if_pos (by simp; omega), chk_of (by intro _; omega), ha, atP_of, Int.toNat_natCast, la, gI_of, a1, Option.bind_some, gT0_of, letK_eq, wrap64 (x := (j : Int) + 1) (by omega) (by omega), show ((j : Int) + 1) = ((j + 1 : Nat) : Int) by omega, b1, drop_at hr']
  exact ⟨h2, rfl, b2, b3, b4⟩
omit hn in
theorem rpar_loop {s84 : SA} {rs : List Int} (V : VS intC 1 hb s84 rs.length rs) (hr : ∀ r ∈ rs, 0 ≤ r ∧ r < (n : Int)) (nS : 0 < rs.length → ¬ inS s84 B) (hl : rs.length ≤ 100000)
 (i1x0 : Int) (s1x1 : SA) (n1x1 : Nat) (i1x2 : Int) (s1x3 : SA) (n1x3 : Nat) (p5 : Option Ad) (Q : Kont (AV × Heap)) :
 ∀ (k j : Nat), j + k = rs.length → ∀ (h : Heap) (l : List Rg), Kp (· = B) hb h → h.length = hb.length → RG h B P n l →
  ∃ h', L9x98 mk0 E i1x0 s1x1 n1x1 i1x2 s1x3 n1x3 p5 (some ⟨P, 0, 0⟩) s84 rs.length ((rs.length : Nat) : Int) ((j : Nat) : Int) h Q = Q (.exit 14) (S9xe14 i1x0 s1x1 n1x1 i1x2 s1x3 n1x3 p5 h') ∧ Kp (· = B) hb h' ∧ h'.length = hb.length ∧ RG h' B P n (exs l (rs.drop j) 0) := by
 intro k
 induction k with
 | zero =>
  intro j hj h l kp le H
  rw [L9x98xeq, letK_eq, if_neg (by simp; omega), List.drop_eq_nil_of_le (by omega)]
  exact ⟨h, rfl, kp, le, H⟩
 | succ k ih =>
  intro j hj h l kp le H
  obtain ⟨r, hr'⟩ := at_lt (l := rs) (i := j) (by omega)
  obtain ⟨a, ha, la⟩ := vs_ld1 (g := AV.int .i64) (vs_kp V kp fun b hb e => nS (by omega) (e ▸ hb)) (fun _ => rfl) j r hr'
  obtain ⟨h1, a1, a2, a3, a4⟩ := ext_ok H (hr r (List.mem_of_getElem? hr')) 0
  obtain ⟨h2, b1, b2, b3, b4⟩ := ih (j + 1) (by omega) h1 _ (kp.trans a2) (by omega) a4
  rw [L9x98xeq, letK_eq, if_pos (by simp; omega), chk_of (by intro _; omega), ha, atP_of, Int.toNat_natCast, la, gI_of, a1, Option.bind_some, gT0_of, letK_eq, wrap64 (x := (j : Int) + 1) (by omega) (by omega), show ((j : Int) + 1) = ((j + 1 : Nat) : Int) by omega, b1, drop_at hr']
  exact ⟨h2, rfl, b2, b3, b4⟩
theorem rini_loop (i1x0 : Int) (s1x1 : SA) (n1x1 : Nat) (i1x2 : Int) (s1x3 : SA) (n1x3 : Nat) (Q : Kont (AV × Heap)) :
 ∀ (k j : Nat), j + k = n → ∀ (h : Heap) (l : List Rg), Kp (· = B) hb h → h.length = hb.length → RG h B P n l → (∀ i : Nat, i < j → l[i]? = some ⟨i, -1, 0, false⟩) →
  ∃ h' l', L9x11 mk0 E i1x0 s1x1 n1x1 i1x2 s1x3 n1x3 (some ⟨P, 0, 0⟩) ((n : Nat) : Int) ((j : Nat) : Int) h Q = Q (.exit 0) (S9xe0 i1x0 s1x1 n1x1 i1x2 s1x3 n1x3 (some ⟨P, 0, 0⟩) h') ∧ Kp (· = B) hb h' ∧ h'.length = hb.length ∧ RG h' B P n l' ∧ (∀ i : Nat, i < n → l'[i]? = some ⟨i, -1, 0, false⟩) := by
 intro k
 induction k with
 | zero =>
  intro j hj h l kp le H hh
  rw [L9x11xeq, letK_eq, if_neg (by simp; omega)]
  exact ⟨h, l, rfl, kp, le, H, fun i hi => hh i (by omega)⟩
 | succ k ih =>
  intro j hj h l kp le H hh
  have hn' := H.n
  obtain ⟨x, hx⟩ := at_lt (l := l) (i := j) (by omega)
  have k2 := kp_set (· = B) B h (.cells ((l.set j ⟨j, -1, 0, false⟩).flatMap rgC) (.grow 4) 0) rfl
  have st : stN h ⟨B, 0, 0 + j * 4⟩ (rgC ⟨j, -1, 0, false⟩) = some (h.set B (.cells ((l.set j ⟨j, -1, 0, false⟩).flatMap rgC) (.grow 4) 0)) := by
   simp only [stN, H.c]
   rw [if_pos ⟨trivial, by simp, by rw [rgs_len, rg_len]; show 0 + j * 4 + 4 ≤ _; omega⟩]
   show some (h.set B (.cells (splice (0 + j * 4) _ _) (.grow 4) 0)) = _
   rw [show 0 + j * 4 = j * 4 by omega, rg_spl _ hx]
  have st' : stN h ⟨B, 0, 0 + j * 4⟩ [.int .i64 ((j : Nat) : Int), .int .i64 (-1), .int .i64 0, .bool false] = some (h.set B (.cells ((l.set j ⟨j, -1, 0, false⟩).flatMap rgC) (.grow 4) 0)) := st
  obtain ⟨h2, l2, b1, b2, b3, b4, b5⟩ := ih (j + 1) (by omega) (h.set B (.cells ((l.set j ⟨j, -1, 0, false⟩).flatMap rgC) (.grow 4) 0)) (l.set j ⟨j, -1, 0, false⟩) (kp.trans k2) (by rw [List.length_set]; exact le) ⟨set_same H.c, k2 _ _ H.p (Ne.symm H.d), by rw [List.length_set]; exact hn', H.d⟩ (fun i hi => by
   by_cases e : i = j
   · rw [e, List.getElem?_set_self (by omega)]
   · rw [List.getElem?_set_ne (Ne.symm e)]; exact hh i (by omega))
  rw [L9x11xeq, letK_eq, if_pos (by simp; omega), atP_of, H.hd, gL_of, chk_of (by intro _; omega), adP_pos, atP_of, add_mk, Int.toNat_natCast, st', Option.bind_some, letK_eq, wrap64 (x := (j : Int) + 1) (by omega) (by omega), show ((j : Int) + 1) = ((j + 1 : Nat) : Int) by omega, b1]
  exact ⟨h2, l2, rfl, b2, b3, b4, b5⟩
end loops
end Go.Proofs.Ytnmdadadjneaiaa.D
/- linear.Ranges: instructions, blocks. -/
set_option linter.unusedVariables false
set_option linter.unusedSimpArgs false
namespace Go.Proofs.Ytnmdadadjneaiaa.D
open Go Go.Proofs.Ytnmdadadjneaiaa.Abs Go.Proofs
def rIns (p : List Rg × Int) (y : VI) : List Rg × Int := (exL (exs p.1 (usesL y) p.2) (defR y.op y.d).toNat (p.2 + 1), p.2 + 2)
theorem rins_loop {hb hS : Heap} {B P n : Nat} {x : VB} (R : x.R hb) (oS : Old hb hS) (low : hb.length ≤ B) (okx : ∀ y ∈ x.ins, y.okR n) (hlx : x.ins.length ≤ 4096)
 (i1x0 : Int) (s1x1 : SA) (n1x1 : Nat) (i1x2 : Int) (s1x3 : SA) (n1x3 : Nat) (p5 : Option Ad) (s8 : SA) (n8 : Nat) (s9 : SA) (n9 : Nat) (i12 : Int) (i13x1 i13x2 : Int) (i13x3 i13x4 i13x5 : Int) (s13x6 : SA) (n13x6 : Nat) (s53 : SA) (n53 : Nat) (i54 i55 : Int) (Q : Kont (AV × Heap)) :
 ∀ (k j : Nat), j + k = x.ins.length → ∀ (h : Heap) (l : List Rg) (t : Int), Kp (· = B) hS h → hS.length ≤ h.length → RG h B P n l → 0 ≤ t → t + 2 * ((k : Nat) : Int) ≤ 900000 →
  ∃ h', L9x50 mk0 E i1x0 s1x1 n1x1 i1x2 s1x3 n1x3 p5 (some ⟨P, 0, 0⟩) s8 n8 s9 n9 t i12 x.s x.ins.length i13x1 i13x2 i13x3 i13x4 i13x5 s13x6 n13x6 s53 n53 i54 i55 x.s x.ins.length ((x.ins.length : Nat) : Int) ((j : Nat) : Int) h Q =
   Q (.exit 6) (S9xe6 i1x0 s1x1 n1x1 i1x2 s1x3 n1x3 p5 (some ⟨P, 0, 0⟩) s8 n8 s9 n9 ((x.ins.drop j).foldl rIns (l, t)).2 i12 x.s x.ins.length i13x1 i13x2 i13x3 i13x4 i13x5 s13x6 n13x6 s53 n53 i54 i55 h') ∧
   Kp (· = B) hS h' ∧ hS.length ≤ h'.length ∧ RG h' B P n ((x.ins.drop j).foldl rIns (l, t)).1 ∧ ((x.ins.drop j).foldl rIns (l, t)).2 = t + 2 * ((k : Nat) : Int) := by
 intro k
 induction k with
 | zero =>
  intro j hj h l t kp le H t0 t1
  rw [L9x50xeq, letK_eq, if_neg (by simp; omega), List.drop_eq_nil_of_le (by omega)]
  exact ⟨h, rfl, kp, le, H, by show t = _; omega⟩
 | succ k ih =>
  intro j hj h l t kp le H t0 t1
  obtain ⟨y, hy⟩ := at_lt (l := x.ins) (i := j) (by omega)
  have hym := List.mem_of_getElem? hy
  have oky := okx y hym
  have o : Old hb h := kp.old oS fun q hq e => by omega
  obtain ⟨a, ha, la⟩ := vs_ld (vs_old R.i o) vi_flat j y hy
  obtain ⟨h1, s84, u1, u2, u3, u4⟩ := uses_ok ((R.r y hym).old o) (by have := oky.1; omega)
  have hBl : B < h.length := (List.getElem?_eq_some_iff.1 H.c).1
  have ul : (usesL y).length ≤ 100000 := by
   have : (usesL y).length ≤ (y.a :: y.b :: y.args).length := List.length_filter_le _ _
   simp only [List.length_cons] at this
   have := oky.1
   omega
  obtain ⟨h2, m1, m2, m3, m4⟩ := ruse_loop (P := P) u3 oky.uses (fun hh => by have := u4 B hh; omega) ul t i1x0 s1x1 n1x1 i1x2 s1x3 n1x3 p5 s8 n8 s9 n9 i12 x.s x.ins.length i13x1 i13x2 i13x3 i13x4 i13x5 s13x6 n13x6 y.op y.d y.a y.b y.n y.s y.args.length s53 n53 i54 i55 x.s x.ins.length ((x.ins.length : Nat) : Int) ((j : Nat) : Int) (Q9x61 mk0 E Q) (usesL y).length 0 (by omega) h1 l (Kp.refl _ _) rfl (H.old u2)
  rw [show (((0 : Nat) : Int)) = 0 from rfl] at m1
  rw [List.drop_zero] at m4
  have dk := def_ok y h2
  obtain ⟨h3, w1, w2, w3, w4⟩ := ext_ok m4 oky.def (t + 1)
  have ule := u2.le
  obtain ⟨h4, r1, r2, r3, r4, r5⟩ := ih (j + 1) (by omega) h3 _ (t + 2) (((kp.trans (u2.kp _)).trans m2).trans w2) (by omega) w4 (by omega) (by omega)
  unfold VI.cells at la u1 dk
  rw [L9x50xeq, letK_eq, if_pos (by simp; omega), chk_of (by intro _; omega), ha, atP_of, Int.toNat_natCast, la, gCells_of]
  simp only [List.getElem?_cons_zero, List.getElem?_cons_succ]
  rw [gI_of, gI_of, gI_of, gI_of, gI_of, gL_of, u1, Option.bind_some, gL_of, m1, X9x61xe8, dk, Option.bind_some, gI_of, letK_eq, wrap64 (x := t + 1) (by omega) (by omega), w1, Option.bind_some, gT0_of, letK_eq, wrap64 (x := t + 2) (by omega) (by omega), letK_eq, wrap64 (x := (j : Int) + 1) (by omega) (by omega), show ((j : Int) + 1) = ((j + 1 : Nat) : Int) by omega, r1, drop_at hy]
  exact ⟨h4, rfl, r2, r3, r4, by
   rw [List.foldl_cons]
   have : (List.foldl rIns (rIns (l, t) y) (x.ins.drop (j + 1))).2 = (t + 2) + 2 * ((k : Nat) : Int) := r5
   rw [this]; omega⟩
def rBlk (M M' : List Bool) (x : VB) (p : List Rg × Int) : List Rg × Int :=
 let p1 := x.ins.foldl rIns (exs p.1 (ones 0 M) p.2, p.2)
 (exs (exs p1.1 (endL x.e) p1.2) (ones 0 M') (p1.2 + 1), p1.2 + 2)
def rBlks (n : Nat) (L : List (List Bool)) : Nat → List VB → List Rg × Int → List Rg × Int
 | _, [], p => p
 | j, x :: xs, p => rBlks n L (j + 1) xs (rBlk (L.getD j []) (afterL L (List.replicate n false) x.e.to) x p)
theorem rblk_loop {hb hS : Heap} {f : VF} (R : f.R hb) (oS : Old hb hS) (fo : f.ok) {B P n : Nat} (hn : n = f.regs.toNat) (low : hb.length ≤ B) {L : List (List Bool)} {BB : Nat} {qs es : List Nat} {s9 : SA} (HB : BL hS BB qs L n) (lq : qs.length = f.blocks.length) (nq : BB ≠ B ∧ B ∉ qs) (hL : ∀ x ∈ f.blocks, (afterL L (List.replicate n false) x.e.to).length = n) (hes : es.length = f.blocks.length) (V9 : VS (hdC n) 1 hS s9 es.length es)
 (he : ∀ (i e : Nat) (x : VB), es[i]? = some e → f.blocks[i]? = some x → hS[e]? = some (bits (afterL L (List.replicate n false) x.e.to))) (ne : B ∉ es ∧ ¬ inS s9 B)
 (i1x0 : Int) (s1x1 : SA) (n1x1 : Nat) (i1x2 : Int) (s1x3 : SA) (n1x3 : Nat) (p5 : Option Ad) (Q : Kont (AV × Heap)) :
 ∀ (k j : Nat), j + k = f.blocks.length → ∀ (h : Heap) (l : List Rg) (t : Int), Kp (· = B) hS h → hS.length ≤ h.length → RG h B P n l → 0 ≤ t → t + 2 * ((sumI (f.blocks.drop j) : Nat) : Int) + 2 * ((k : Nat) : Int) ≤ 100000 →
  ∃ h', L9x25 mk0 E i1x0 s1x1 n1x1 i1x2 s1x3 n1x3 p5 (some ⟨P, 0, 0⟩) (.pos ⟨BB, 0, 0⟩) f.blocks.length s9 es.length t f.sb f.blocks.length ((f.blocks.length : Nat) : Int) ((j : Nat) : Int) h Q =
   Q (.exit 2) (S9xe2 i1x0 s1x1 n1x1 i1x2 s1x3 n1x3 p5 (some ⟨P, 0, 0⟩) h') ∧
   Kp (· = B) hS h' ∧ hS.length ≤ h'.length ∧ RG h' B P n (rBlks n L j (f.blocks.drop j) (l, t)).1 := by
 have fr := fo.regs
 have okB := okB_of fr.1 fo.blk fo.sum
 have nb := fo.nb
 have fs := fo.sum
 intro k
 induction k with
 | zero =>
  intro j hj h l t kp le H t0 t1
  rw [L9x25xeq, letK_eq, if_neg (by simp; omega), List.drop_eq_nil_of_le (by omega)]
  exact ⟨h, rfl, kp, le, H⟩
 | succ k ih =>
  intro j hj h l t kp le H t0 t1
  obtain ⟨x, hx⟩ := at_lt (l := f.blocks) (i := j) (by omega)
  have hxm := List.mem_of_getElem? hx
  have okx := okB x hxm
  have sm := sumI_mem hxm
  have sd : sumI (f.blocks.drop j) = x.ins.length + sumI (f.blocks.drop (j + 1)) := by rw [drop_at hx]; rfl
  obtain ⟨e, he'⟩ := at_lt (l := es) (i := j) (by omega)
  obtain ⟨q, hq⟩ := at_lt (l := qs) (i := j) (by omega)
  obtain ⟨M, hM⟩ := at_lt (l := L) (i := j) (by have := HB.len; omega)
  have HBh := HB.but (b := B) (fun q x hq hn => kp q x hq hn) nq.1 nq.2
  obtain ⟨cM, lM⟩ := HBh.cell j q M hq hM
  have nqB : q ≠ B := fun hh => nq.2 (hh ▸ List.mem_of_getElem? hq)
  have neB : e ≠ B := fun hh => ne.1 (hh ▸ List.mem_of_getElem? he')
  have o : Old hb h := kp.old oS fun q hq e => by omega
  obtain ⟨a, ha, la⟩ := vs_ld (vs_old R.b o) vb_flat j x hx
  have lq1 : ld1 h ⟨BB, 0, 0 + j * 1⟩ = some (.sl (.pos ⟨q, 0, 0⟩) n) := ld1_at HBh.hd (by rw [Nat.zero_add, Nat.mul_one, List.getElem?_map, hq]; rfl) rfl
  obtain ⟨h1, a1, a2, a3, a4⟩ := rbeg_loop (P := P) (by omega) cM lM nqB t i1x0 s1x1 n1x1 i1x2 s1x3 n1x3 p5 (.pos ⟨BB, 0, 0⟩) f.blocks.length s9 es.length ((j : Nat) : Int) x.s x.ins.length x.e.kind x.e.op x.e.a x.e.b x.e.n x.e.s x.e.to.length f.sb f.blocks.length ((f.blocks.length : Nat) : Int) ((j : Nat) : Int) (Q9x36 mk0 E Q) n 0 (by omega) h l (Kp.refl _ _) rfl H
  rw [show (((0 : Nat) : Int)) = 0 from rfl] at a1
  rw [List.drop_zero] at a4
  have o1 : Old hb h1 := a2.old o fun q hq e => by omega
  obtain ⟨h2, b1, b2, b3, b4, b5⟩ := rins_loop (hS := h1) (R.r x hxm) o1 low (fun y hy => by rw [hn]; exact okx.ins y hy) (by omega) i1x0 s1x1 n1x1 i1x2 s1x3 n1x3 p5 (.pos ⟨BB, 0, 0⟩) f.blocks.length s9 es.length ((j : Nat) : Int) x.e.kind x.e.op x.e.a x.e.b x.e.n x.e.s x.e.to.length f.sb f.blocks.length ((f.blocks.length : Nat) : Int) ((j : Nat) : Int) (Q9x50 mk0 E Q) x.ins.length 0 (by omega) h1 _ t (Kp.refl _ _) (Nat.le_refl _) a4 t0 (by omega)
  rw [show (((0 : Nat) : Int)) = 0 from rfl] at b1
  rw [List.drop_zero] at b1 b4 b5
  obtain ⟨p1, ep1⟩ : ∃ p1, p1 = x.ins.foldl rIns (exs l (ones 0 M) t, t) := ⟨_, rfl⟩
  rw [← ep1] at b1 b4 b5
  obtain ⟨h3, sU, u1, u2, u3, u4⟩ := endUses_ok x.e h2
  have hBl : B < h2.length := (List.getElem?_eq_some_iff.1 b4.c).1
  have el : (endL x.e).length ≤ 2 := List.length_filter_le _ [x.e.a, x.e.b]
  obtain ⟨h4, c1, c2, c3, c4⟩ := reuse_loop (P := P) u3 (fun r hr => by have := okx.e r hr; rw [hn]; exact this) (fun hh => by have := u4 B hh; omega) (by omega) p1.2 i1x0 s1x1 n1x1 i1x2 s1x3 n1x3 p5 (.pos ⟨BB, 0, 0⟩) f.blocks.length s9 es.length ((j : Nat) : Int) f.sb f.blocks.length ((f.blocks.length : Nat) : Int) ((j : Nat) : Int) (Q9x73 mk0 E Q) (endL x.e).length 0 (by omega) h3 _ (Kp.refl _ _) rfl (b4.old u2)
  rw [show (((0 : Nat) : Int)) = 0 from rfl] at c1
  rw [List.drop_zero] at c4
  have kp4 : Kp (· = B) hS h4 := (((kp.trans a2).trans b2).trans (u2.kp _)).trans c2
  have ule := u2.le
  have V := vs_kp V9 kp4 fun b hb e => ne.2 (e ▸ hb)
  obtain ⟨a9, ha9, la9⟩ := vs_ld1 (g := hdr n) V (fun _ => rfl) _ e he'
  have cE := kp4 _ _ (he j e x he' hx) neB
  obtain ⟨h5, d1, d2, d3, d4⟩ := rend_loop (P := P) (t := p1.2) (by omega) cE (hL x hxm) neB (by omega) i1x0 s1x1 n1x1 i1x2 s1x3 n1x3 p5 (.pos ⟨BB, 0, 0⟩) f.blocks.length s9 es.length f.sb f.blocks.length ((f.blocks.length : Nat) : Int) ((j : Nat) : Int) (Q9x84 mk0 E Q) n 0 (by omega) h4 _ (Kp.refl _ _) rfl c4
  rw [show (((0 : Nat) : Int)) = 0 from rfl] at d1
  rw [List.drop_zero] at d4
  obtain ⟨h6, r1, r2, r3, r4⟩ := ih (j + 1) (by omega) h5 _ (p1.2 + 2) (kp4.trans d2) (by omega) d4 (by omega) (by omega)
  have eblk : rBlks n L j (f.blocks.drop j) (l, t) = rBlks n L (j + 1) (f.blocks.drop (j + 1)) (exs (exs p1.1 (endL x.e) p1.2) (ones 0 (afterL L (List.replicate n false) x.e.to)) (p1.2 + 1), p1.2 + 2) := by
   rw [drop_at hx]
   show rBlks n L (j + 1) _ (rBlk (L.getD j []) _ x (l, t)) = _
   rw [List.getD, hM, Option.getD_some]
   unfold rBlk
   dsimp only
   rw [← ep1]
  unfold VB.cells VE.cells at la
  unfold VE.cells at u1
  rw [L9x25xeq, letK_eq, if_pos (by simp; omega), chk_of (by intro _; omega), ha, atP_of, Int.toNat_natCast, la, gCells_of]
  simp only [List.getElem?_cons_zero, List.getElem?_cons_succ]
  rw [gL_of, gI_of, gI_of, gI_of, gI_of, gI_of, gL_of, chk_of (by intro _; omega), adP_pos, atP_of, add_mk, lq1, gL_of, a1, X9x36xe4, b1, X9x50xe6, u1, Option.bind_some, gL_of, c1, X9x73xe10, chk_of (by intro _; omega), ha9, atP_of, Int.toNat_natCast, la9]
  show ∃ h', (gL (some (AV.sl (.pos ⟨e, 0, 0⟩) n)) true _ : Option _) = _ ∧ _
  rw [gL_of, d1, X9x84xe12, letK_eq, wrap64 (x := p1.2 + 2) (by omega) (by omega), letK_eq, wrap64 (x := (j : Int) + 1) (by omega) (by omega), show ((j : Int) + 1) = ((j + 1 : Nat) : Int) by omega, r1]
  exact ⟨h6, rfl, r2, r3, by rw [eblk]; exact r4⟩
end Go.Proofs.Ytnmdadadjneaiaa.D
/- linear.finish. -/
set_option linter.unusedVariables false
set_option linter.unusedSimpArgs false
namespace Go.Proofs.Ytnmdadadjneaiaa.D
open Go Go.Proofs.Ytnmdadadjneaiaa.Abs Go.Proofs
def smk (t : Int) (x : Rg) : Rg := if 0 ≤ x.b ∧ x.b ≤ t ∧ t < x.e then { x with s := true } else x
theorem smk_loop {hb : Heap} {B P n : Nat} (hn : n ≤ 8192) {l : List Rg} (hl : l.length = n) (t : Int) (s13 : SA) (n13 : Nat) (i14 i15 : Int) (s20 : SA) (n20 : Nat) (i21 i22 : Int) (Q : Kont (AV × Heap)) :
 ∀ (k j : Nat), j + k = n → ∀ (h : Heap), Kp (· = B) hb h → h.length = hb.length → RG h B P n ((l.take j).map (smk t) ++ l.drop j) →
  ∃ h', L32x29 mk0 E (.pos ⟨B, 0, 0⟩) n t s13 n13 i14 i15 s20 n20 i21 i22 ((n : Nat) : Int) ((j : Nat) : Int) h Q = Q (.exit 4) (S32xe4 (.pos ⟨B, 0, 0⟩) n t s13 n13 i14 i15 s20 n20 i21 i22 h') ∧ Kp (· = B) hb h' ∧ h'.length = hb.length ∧ RG h' B P n (l.map (smk t)) := by
 intro k
 induction k with
 | zero =>
  intro j hj h kp le H
  rw [L32x29xeq, letK_eq, if_neg (by simp; omega)]
  rw [List.take_of_length_le (by omega), List.drop_eq_nil_of_le (by omega), List.append_nil] at H
  exact ⟨h, rfl, kp, le, H⟩
 | succ k ih =>
  intro j hj h kp le H
  obtain ⟨x, hx⟩ := at_lt (l := l) (i := j) (by omega)
  have tl : ((l.take j).map (smk t)).length = j := by rw [List.length_map, List.length_take]; omega
  have hxx : ((l.take j).map (smk t) ++ l.drop j)[j]? = some x := by
   rw [List.getElem?_append_right (by omega), tl, Nat.sub_self, drop_at hx]; rfl
  have step : (l.take (j + 1)).map (smk t) ++ l.drop (j + 1) = ((l.take j).map (smk t) ++ l.drop j).set j (smk t x) := by
   rw [List.set_append_right _ _ (by omega), tl, Nat.sub_self, drop_at hx, List.set_cons_zero, List.take_add_one, hx]
   simp
  have g1 := H.rd hxx 1 rfl rfl
  have g2 := H.rd hxx 2 rfl rfl
  have hc : (if (if decide (0 ≤ x.b) = true then decide (x.b ≤ t) else false) = true then decide (t < x.e) else false) = decide (0 ≤ x.b ∧ x.b ≤ t ∧ t < x.e) := by
   by_cases c1 : 0 ≤ x.b <;> by_cases c2 : x.b ≤ t <;> by_cases c3 : t < x.e <;> simp [c1, c2, c3]
  rw [L32x29xeq, letK_eq, if_pos (by simp; omega), chk_of (by intro _; omega), adP_pos, atP_of, Int.toNat_natCast, add_mk, add_mk, g1, gI_of, letK_eq, chk_of (by intro _; omega), atP_of, add_mk, atP_of, add_mk, atP_of, g1, gI_of, letK_eq, letK_eq, chk_of (by intro _; omega), atP_of, add_mk, atP_of, add_mk, atP_of, g2, gI_of, letK_eq, letK_eq, hc]
  by_cases hh : 0 ≤ x.b ∧ x.b ≤ t ∧ t < x.e
  · obtain ⟨h1, a1, a2, a3, a4⟩ := H.w hxx (k := 3) (by omega) (v := .bool true) (y := { x with s := true }) rfl fun _ => trivial
    have e : smk t x = { x with s := true } := by unfold smk; rw [if_pos hh]
    rw [← e, ← step] at a4
    obtain ⟨h2, b1, b2, b3, b4⟩ := ih (j + 1) (by omega) h1 (kp.trans a2) (by omega) a4
    rw [if_pos (decide_eq_true hh), chk_of (by intro _; omega), atP_of, add_mk, add_mk, a1 rfl, Option.bind_some, J32x39xeq, letK_eq, wrap64 (x := (j : Int) + 1) (by omega) (by omega), show ((j : Int) + 1) = ((j + 1 : Nat) : Int) by omega, b1]
    exact ⟨h2, rfl, b2, b3, b4⟩
  · have e : smk t x = x := by unfold smk; rw [if_neg hh]
    have same : ((l.take j).map (smk t) ++ l.drop j).set j x = (l.take j).map (smk t) ++ l.drop j := by
     apply List.ext_getElem?
     intro i
     by_cases hi : i = j
     · rw [hi, List.getElem?_set_self (List.getElem?_eq_some_iff.1 hxx).1, hxx]
     · rw [List.getElem?_set_ne (Ne.symm hi)]
    rw [e, same] at step
    rw [if_neg (by simpa using hh), J32x39xeq, letK_eq, wrap64 (x := (j : Int) + 1) (by omega) (by omega), show ((j : Int) + 1) = ((j + 1 : Nat) : Int) by omega]
    exact ih (j + 1) (by omega) h kp le (by rw [step]; exact H)
def fIns (p : List Rg × Int) (y : VI) : List Rg × Int := (if isCall y.op = true then p.1.map (smk p.2) else p.1, p.2 + 2)
def fBlk (p : List Rg × Int) (x : VB) : List Rg × Int := ((x.ins.foldl fIns p).1, (x.ins.foldl fIns p).2 + 2)
theorem fins_loop {hb hS : Heap} {B P n : Nat} (hn : n ≤ 8192) {x : VB} (R : x.R hb) (oS : Old hb hS) (low : hb.length ≤ B) (hlx : x.ins.length ≤ 4096) (s13 : SA) (n13 : Nat) (i14 i15 : Int) (Q : Kont (AV × Heap)) :
 ∀ (k j : Nat), j + k = x.ins.length → ∀ (h : Heap) (l : List Rg) (t : Int), Kp (· = B) hS h → h.length = hS.length → RG h B P n l → 0 ≤ t → t + 2 * ((k : Nat) : Int) ≤ 900000 →
  ∃ h', L32x16 mk0 E (.pos ⟨B, 0, 0⟩) n t s13 n13 i14 i15 x.s x.ins.length ((x.ins.length : Nat) : Int) ((j : Nat) : Int) h Q = Q (.exit 2) (S32xe2 (.pos ⟨B, 0, 0⟩) n ((x.ins.drop j).foldl fIns (l, t)).2 s13 n13 i14 i15 h') ∧
   Kp (· = B) hS h' ∧ h'.length = hS.length ∧ RG h' B P n ((x.ins.drop j).foldl fIns (l, t)).1 ∧ ((x.ins.drop j).foldl fIns (l, t)).2 = t + 2 * ((k : Nat) : Int) := by
 intro k
 induction k with
 | zero =>
  intro j hj h l t kp le H t0 t1
  rw [L32x16xeq, letK_eq, if_neg (by simp; omega), List.drop_eq_nil_of_le (by omega)]
  exact ⟨h, rfl, kp, le, H, by show t = _; omega⟩
 | succ k ih =>
  intro j hj h l t kp le H t0 t1
  obtain ⟨y, hy⟩ := at_lt (l := x.ins) (i := j) (by omega)
  have o : Old hb h := kp.old oS fun q hq e => by omega
  obtain ⟨a, ha, la⟩ := vs_ld (vs_old R.i o) vi_flat j y hy
  have ck := calls_ok y.op h
  unfold VI.cells at la
  have fin : ∀ (h1 : Heap) (l1 : List Rg), Kp (· = B) hS h1 → h1.length = hS.length → RG h1 B P n l1 → (fIns (l, t) y) = (l1, t + 2) →
   ∃ h', J32x40 mk0 E (.pos ⟨B, 0, 0⟩) n t s13 n13 i14 i15 x.s x.ins.length ((x.ins.length : Nat) : Int) ((j : Nat) : Int) h1 Q = Q (.exit 2) (S32xe2 (.pos ⟨B, 0, 0⟩) n ((x.ins.drop j).foldl fIns (l, t)).2 s13 n13 i14 i15 h') ∧
   Kp (· = B) hS h' ∧ h'.length = hS.length ∧ RG h' B P n ((x.ins.drop j).foldl fIns (l, t)).1 ∧ ((x.ins.drop j).foldl fIns (l, t)).2 = t + 2 * (((k + 1 : Nat)) : Int) := fun h1 l1 kp1 le1 H1 e1 => by
   obtain ⟨h', r1, r2, r3, r4, r5⟩ := ih (j + 1) (by omega) h1 l1 (t + 2) kp1 le1 H1 (by omega) (by omega)
   rw [J32x40xeq, letK_eq, wrap64 (x := t + 2) (by omega) (by omega), letK_eq, wrap64 (x := (j : Int) + 1) (by omega) (by omega), show ((j : Int) + 1) = ((j + 1 : Nat) : Int) by omega, r1, drop_at hy, List.foldl_cons, e1]
   exact ⟨h', rfl, r2, r3, r4, by rw [r5]; omega⟩
  rw [L32x16xeq, letK_eq, if_pos (by simp; omega), chk_of (by intro _; omega), ha, atP_of, Int.toNat_natCast, la, gCells_of]
  simp only [List.getElem?_cons_zero, List.getElem?_cons_succ]
  rw [gI_of, gI_of, gI_of, gI_of, gI_of, gL_of, ck, Option.bind_some, gB_of]
  cases hc : isCall y.op with
  | true =>
   obtain ⟨h1, a1, a2, a3, a4⟩ := smk_loop (hb := h) (P := P) hn H.n t s13 n13 i14 i15 x.s x.ins.length ((x.ins.length : Nat) : Int) ((j : Nat) : Int) (Q32x29 mk0 E Q) n 0 (by omega) h (Kp.refl _ _) rfl (by simpa using H)
   rw [show (((0 : Nat) : Int)) = 0 from rfl] at a1
   rw [if_pos rfl, a1, X32x29xe4]
   exact fin h1 _ (kp.trans a2) (by omega) a4 (by unfold fIns; rw [if_pos hc])
  | false =>
   rw [if_neg (show ¬ (false = true) from fun h => by cases h)]
   exact fin h l kp le H (by unfold fIns; rw [if_neg (by rw [hc]; exact fun h => by cases h)])
theorem fblk_loop {hb hS : Heap} {f : VF} (R : f.R hb) (oS : Old hb hS) (fo : f.ok) {B P n : Nat} (hn : n ≤ 8192) (low : hb.length ≤ B) (Q : Kont (AV × Heap)) :
 ∀ (k j : Nat), j + k = f.blocks.length → ∀ (h : Heap) (l : List Rg) (t : Int), Kp (· = B) hS h → h.length = hS.length → RG h B P n l → 0 ≤ t → t + 2 * ((sumI (f.blocks.drop j) : Nat) : Int) + 2 * ((k : Nat) : Int) ≤ 100000 →
  ∃ h', L32x5 mk0 E (.pos ⟨B, 0, 0⟩) n t f.sb f.blocks.length ((f.blocks.length : Nat) : Int) ((j : Nat) : Int) h Q = Q (.exit 0) (S32xe0 (.pos ⟨B, 0, 0⟩) n h') ∧
   Kp (· = B) hS h' ∧ h'.length = hS.length ∧ RG h' B P n ((f.blocks.drop j).foldl fBlk (l, t)).1 := by
 have fr := fo.regs
 have okB := okB_of fr.1 fo.blk fo.sum
 have nb := fo.nb
 have fs := fo.sum
 intro k
 induction k with
 | zero =>
  intro j hj h l t kp le H t0 t1
  rw [L32x5xeq, letK_eq, if_neg (by simp; omega), List.drop_eq_nil_of_le (by omega)]
  exact ⟨h, rfl, kp, le, H⟩
 | succ k ih =>
  intro j hj h l t kp le H t0 t1
  obtain ⟨x, hx⟩ := at_lt (l := f.blocks) (i := j) (by omega)
  have hxm := List.mem_of_getElem? hx
  have sm := sumI_mem hxm
  have sd : sumI (f.blocks.drop j) = x.ins.length + sumI (f.blocks.drop (j + 1)) := by rw [drop_at hx]; rfl
  have o : Old hb h := kp.old oS fun q hq e => by omega
  obtain ⟨a, ha, la⟩ := vs_ld (vs_old R.b o) vb_flat j x hx
  obtain ⟨h2, b1, b2, b3, b4, b5⟩ := fins_loop (P := P) (hS := h) hn (R.r x hxm) o low (by omega) f.sb f.blocks.length ((f.blocks.length : Nat) : Int) ((j : Nat) : Int) (Q32x16 mk0 E Q) x.ins.length 0 (by omega) h l t (Kp.refl _ _) rfl H t0 (by omega)
  rw [show (((0 : Nat) : Int)) = 0 from rfl] at b1
  rw [List.drop_zero] at b1 b4 b5
  obtain ⟨h3, r1, r2, r3, r4⟩ := ih (j + 1) (by omega) h2 _ ((x.ins.foldl fIns (l, t)).2 + 2) (kp.trans b2) (by omega) b4 (by omega) (by omega)
  unfold VB.cells VE.cells at la
  rw [L32x5xeq, letK_eq, if_pos (by simp; omega), chk_of (by intro _; omega), ha, atP_of, Int.toNat_natCast, la, gCells_of]
  simp only [List.getElem?_cons_zero, List.getElem?_cons_succ]
  rw [gL_of, gI_of, gI_of, gI_of, gI_of, gI_of, gL_of, b1, X32x16xe2, letK_eq, wrap64 (x := (x.ins.foldl fIns (l, t)).2 + 2) (by omega) (by omega), letK_eq, wrap64 (x := (j : Int) + 1) (by omega) (by omega), show ((j : Int) + 1) = ((j + 1 : Nat) : Int) by omega, r1]
  refine ⟨h3, rfl, r2, r3, ?_⟩
  rw [drop_at hx, List.foldl_cons]
  exact r4
def unused (x : Rg) : Bool := decide (x.b < 0) || decide (x.r = 0)
theorem unused_ok (h : Heap) (l : List Rg) : FnP 66 [] unused h l := fun x _ => by
 show E 66 [.agg (rgC x)] h = _
 unfold rgC
 rw [e66, letK_eq, gI_any, letK_eq, letK_eq]
 unfold unused
 by_cases c1 : x.b < 0 <;> simp [c1]
theorem RG.sl {h : Heap} {B P n : Nat} {l : List Rg} (H : RG h B P n l) : SL h B 0 n l :=
 ⟨⟨by rw [rgs_len, H.n], rows_flat rg_flat _, .inr ⟨B, 0, _, rfl, H.c, by rw [rgs_len, H.n]; exact Nat.le_refl _, List.take_of_length_le (by rw [rgs_len, H.n]; exact Nat.le_refl _)⟩⟩, H.n⟩
theorem finish_ok {hb h : Heap} {f : VF} (R : f.R hb) (oS : Old hb h) (fo : f.ok) {B P n : Nat} (hn : n ≤ 8192) (low : hb.length ≤ B) {l : List Rg} (H : RG h B P n l) :
 ∃ h' l', E 32 [.agg f.cells, .sl (.pos ⟨B, 0, 0⟩) n] h = some (.sl (.pos ⟨B, 0, 0⟩) l'.length, h') ∧ Kp (· = B) h h' ∧ SL h' B 0 l'.length l' ∧ l'.Perm ((f.blocks.foldl fBlk (l, 0)).1.filter fun x => !unused x) ∧ Srt l' 0 l'.length := by
 have fr := fo.regs
 have nb := fo.nb
 have fs := fo.sum
 obtain ⟨h1, a1, a2, a3, a4⟩ := fblk_loop (P := P) (hS := h) R oS fo hn low (Q32x5 mk0 E) f.blocks.length 0 (by omega) h l 0 (Kp.refl _ _) rfl H (by omega) (by rw [List.drop_zero]; omega)
 rw [show (((0 : Nat) : Int)) = 0 from rfl] at a1
 rw [List.drop_zero] at a4
 have n1 := a4.n
 obtain ⟨h2, b1, b2, b3, b4⟩ := rgdel_ok a4.sl (fun h' _ => unused_ok h' _) (by omega)
 have fl := List.length_filter_le (fun x => !unused x) (f.blocks.foldl fBlk (l, 0)).1
 obtain ⟨h3, l', c1, c2, c3, c4, c5, c6⟩ := sort_ok b4 (by omega)
 have ll := c2.ll
 refine ⟨h3, l', ?_, (a2.trans b2).trans c3, by rw [ll]; exact c2, c5, by rw [ll]; exact c6⟩
 unfold VF.cells
 rw [e32, a1, X32x5xe0, b1, Option.bind_some, gL_of, c1, Option.bind_some, gT0_of, ll]
end Go.Proofs.Ytnmdadadjneaiaa.D
/- linear.Ranges, whole; what its ranges are. -/
set_option linter.unusedVariables false
set_option linter.unusedSimpArgs false
namespace Go.Proofs.Ytnmdadadjneaiaa.D
open Go Go.Proofs.Ytnmdadadjneaiaa.Abs Go.Proofs
structure RI (l : List Rg) (n : Nat) : Prop where
 n : l.length = n
 ok : ∀ (r : Nat) x, l[r]? = some x → x.r = (r : Int) ∧ (x.b = -1 ∨ (0 ≤ x.b ∧ x.b ≤ x.e))
def At (l : List Rg) (r : Nat) (t : Int) : Prop := ∃ x, l[r]? = some x ∧ 0 ≤ x.b ∧ x.b ≤ t ∧ t ≤ x.e
def Grow (n : Nat) (l l' : List Rg) : Prop := RI l n → RI l' n ∧ ∀ r t, At l r t → At l' r t
theorem Grow.refl (n : Nat) (l : List Rg) : Grow n l l := fun h => ⟨h, fun _ _ h => h⟩
theorem Grow.trans {n : Nat} {a b c : List Rg} (x : Grow n a b) (y : Grow n b c) : Grow n a c := fun h => ⟨(y (x h).1).1, fun r t ht => (y (x h).1).2 r t ((x h).2 r t ht)⟩
theorem exX_ok {x : Rg} {t : Int} (ht : 0 ≤ t) (hx : x.b = -1 ∨ (0 ≤ x.b ∧ x.b ≤ x.e)) : (exX x t).r = x.r ∧ (exX x t).s = x.s ∧ (0 ≤ (exX x t).b ∧ (exX x t).b ≤ t ∧ t ≤ (exX x t).e) ∧ (0 ≤ x.b → (exX x t).b ≤ x.b ∧ x.e ≤ (exX x t).e) := by
 unfold exX
 split
 · rename_i hb
   refine ⟨rfl, rfl, ?_, fun h => by omega⟩
   simp only [foldMM, Int.lt_irrefl, if_false]
   omega
 · rename_i hb
   refine ⟨rfl, rfl, ?_, fun h => ?_⟩
   · simp only [foldMM]
     split <;> split <;> omega
   · simp only [foldMM]
     split <;> split <;> omega
theorem grow_exL {n : Nat} (l : List Rg) {r : Nat} {t : Int} (ht : 0 ≤ t) : Grow n l (exL l r t) := fun H => by
 have hn := H.n
 by_cases hr : r < n
 · obtain ⟨x, hx⟩ := at_lt (l := l) (i := r) (by omega)
   have hd : l.getD r ⟨0, 0, 0, false⟩ = x := by rw [List.getD, hx]; rfl
   obtain ⟨xr, xo⟩ := H.ok r x hx
   obtain ⟨e1, e2, e3, e4⟩ := exX_ok ht xo
   unfold exL
   rw [hd]
   have g : (l.set r (exX x t))[r]? = some (exX x t) := List.getElem?_set_self (by omega)
   refine ⟨⟨by rw [List.length_set]; exact hn, fun i y hy => ?_⟩, fun i u ⟨y, h1, h2, h3, h4⟩ => ?_⟩
   · by_cases e : i = r
     · rw [e, g] at hy
       cases hy
       exact ⟨by rw [e1, xr, e], .inr (by omega)⟩
     · rw [List.getElem?_set_ne (Ne.symm e)] at hy
       exact H.ok i y hy
   · by_cases e : i = r
     · rw [e, hx] at h1
       cases h1
       rw [e]
       have := e4 h2
       exact ⟨_, g, e3.1, by omega, by omega⟩
     · exact ⟨y, by rw [List.getElem?_set_ne (Ne.symm e)]; exact h1, h2, h3, h4⟩
 · have : exL l r t = l := by
    unfold exL
    rw [List.set_eq_of_length_le (by omega)]
   rw [this]
   exact ⟨H, fun _ _ h => h⟩
theorem grow_exs {n : Nat} {t : Int} (ht : 0 ≤ t) : ∀ (rs : List Int) (l : List Rg), Grow n l (exs l rs t)
 | [], l => Grow.refl n l
 | r :: rs, l => (grow_exL l ht).trans (grow_exs ht rs _)
theorem grow_ins {n : Nat} : ∀ (ys : List VI) (p : List Rg × Int), 0 ≤ p.2 → Grow n p.1 (ys.foldl rIns p).1 ∧ (ys.foldl rIns p).2 = p.2 + 2 * ((ys.length : Nat) : Int)
 | [], p, _ => ⟨Grow.refl n _, by simp⟩
 | y :: ys, p, h => by
  obtain ⟨g, e⟩ := grow_ins (n := n) ys (rIns p y) (by show 0 ≤ p.2 + 2; omega)
  refine ⟨?_, ?_⟩
  · exact ((grow_exs h (usesL y) p.1).trans (grow_exL (r := (defR y.op y.d).toNat) _ (by omega))).trans g
  · rw [List.foldl_cons, e]
    show p.2 + 2 + _ = _
    rw [List.length_cons]
    omega
theorem grow_blk {n : Nat} {M M' : List Bool} {x : VB} {p : List Rg × Int} (h : 0 ≤ p.2) : Grow n p.1 (rBlk M M' x p).1 ∧ (rBlk M M' x p).2 = p.2 + 2 * ((x.ins.length : Nat) : Int) + 2 := by
 obtain ⟨g, e⟩ := grow_ins (n := n) x.ins (exs p.1 (ones 0 M) p.2, p.2) h
 unfold rBlk
 dsimp only
 dsimp only at e
 refine ⟨(((grow_exs h _ _).trans g).trans (grow_exs (by omega) _ _)).trans (grow_exs (by omega) _ _), by omega⟩
theorem grow_blks {n : Nat} {m : Nat} {L : List (List Bool)} : ∀ (xs : List VB) (j : Nat) (p : List Rg × Int), 0 ≤ p.2 → Grow n p.1 (rBlks m L j xs p).1
 | [], j, p, _ => Grow.refl n _
 | x :: xs, j, p, h => by
  obtain ⟨g, e⟩ := grow_blk (n := n) (M := L.getD j []) (M' := afterL L (List.replicate m false) x.e.to) (x := x) h
  exact g.trans (grow_blks xs (j + 1) _ (by omega))
def Same (l l' : List Rg) : Prop := l'.length = l.length ∧ ∀ (r : Nat) x, l[r]? = some x → ∃ x', l'[r]? = some x' ∧ x'.r = x.r ∧ x'.b = x.b ∧ x'.e = x.e ∧ (x.s = true → x'.s = true)
theorem Same.refl (l : List Rg) : Same l l := ⟨rfl, fun r x h => ⟨x, h, rfl, rfl, rfl, id⟩⟩
theorem Same.trans {a b c : List Rg} (x : Same a b) (y : Same b c) : Same a c := ⟨y.1.trans x.1, fun r z hz => by
 obtain ⟨z1, a1, a2, a3, a4, a5⟩ := x.2 r z hz
 obtain ⟨z2, b1, b2, b3, b4, b5⟩ := y.2 r z1 a1
 exact ⟨z2, b1, b2.trans a2, b3.trans a3, b4.trans a4, fun h => b5 (a5 h)⟩⟩
theorem smk_eq (t : Int) (x : Rg) : (smk t x).r = x.r ∧ (smk t x).b = x.b ∧ (smk t x).e = x.e ∧ (x.s = true → (smk t x).s = true) := by
 unfold smk
 split
 · exact ⟨rfl, rfl, rfl, fun _ => rfl⟩
 · exact ⟨rfl, rfl, rfl, id⟩
theorem same_map (t : Int) (l : List Rg) : Same l (l.map (smk t)) := ⟨List.length_map .., fun r x h => ⟨smk t x, by rw [List.getElem?_map, h]; rfl, (smk_eq t x).1, (smk_eq t x).2.1, (smk_eq t x).2.2.1, (smk_eq t x).2.2.2⟩⟩
theorem same_fins : ∀ (ys : List VI) (p : List Rg × Int), Same p.1 (ys.foldl fIns p).1 ∧ (ys.foldl fIns p).2 = p.2 + 2 * ((ys.length : Nat) : Int)
 | [], p => ⟨Same.refl _, by simp⟩
 | y :: ys, p => by
  obtain ⟨g, e⟩ := same_fins ys (fIns p y)
  refine ⟨Same.trans ?_ g, ?_⟩
  · unfold fIns
    dsimp only
    split
    · exact same_map _ _
    · exact Same.refl _
  · rw [List.foldl_cons, e]
    show p.2 + 2 + _ = _
    rw [List.length_cons]
    omega
theorem same_fblk : ∀ (xs : List VB) (p : List Rg × Int), Same p.1 (xs.foldl fBlk p).1
 | [], p => Same.refl _
 | x :: xs, p => ((same_fins x.ins p).1).trans (same_fblk xs (fBlk p x))
theorem Same.ri {l l' : List Rg} {n : Nat} (S : Same l l') (H : RI l n) : RI l' n := ⟨S.1.trans H.n, fun r x hx => by
 have hr := (List.getElem?_eq_some_iff.1 hx).1
 obtain ⟨y, hy⟩ := at_lt (l := l) (i := r) (by have := S.1; omega)
 obtain ⟨x', h1, h2, h3, h4, _⟩ := S.2 r y hy
 rw [hx] at h1
 cases h1
 rw [h2, h3, h4]
 exact H.ok r y hy⟩
theorem lr_of {l l' : List Rg} {n : Nat} (H : RI l n) (p : l'.Perm (l.filter fun x => !unused x)) (so : Srt l' 0 l'.length) : LR n l' := by
 have pw : l.Pairwise fun x y => x.r ≠ y.r := List.pairwise_iff_getElem.2 fun i j hi hj hlt e => by
  have h1 := (H.ok i _ (List.getElem?_eq_getElem hi)).1
  have h2 := (H.ok j _ (List.getElem?_eq_getElem hj)).1
  omega
 refine ⟨fun x hx => ?_, ?_, ?_⟩
 · have hm := List.mem_filter.1 (p.mem_iff.1 hx)
   obtain ⟨i, hi⟩ := List.getElem?_of_mem hm.1
   have hl := (List.getElem?_eq_some_iff.1 hi).1
   have hn := H.n
   obtain ⟨h1, h2⟩ := H.ok i x hi
   have h3 := hm.2
   unfold unused at h3
   simp only [Bool.not_eq_true', Bool.or_eq_false_iff, decide_eq_false_iff_not] at h3
   omega
 · exact p.symm.pairwise (pw.filter _) fun h => Ne.symm h
 · refine List.pairwise_iff_getElem.2 fun i j hi hj hlt => ?_
   have := so i j (Nat.zero_le _) hlt hj
   unfold ky at this
   rw [List.getElem?_eq_getElem hi, List.getElem?_eq_getElem hj] at this
   exact this
def rIni (n : Nat) : List Rg := (List.range n).map fun (i : Nat) => ⟨(i : Int), -1, 0, false⟩
theorem ri_ini (n : Nat) : RI (rIni n) n := ⟨by simp [rIni], fun r x hx => by
 have hr := (List.getElem?_eq_some_iff.1 hx).1
 unfold rIni at hx hr
 rw [List.length_map, List.length_range] at hr
 rw [List.getElem?_map, List.getElem?_range hr] at hx
 cases hx
 exact ⟨rfl, .inl rfl⟩⟩
def rAll (f : VF) (L : List (List Bool)) : List Rg := exs (rBlks f.regs.toNat L 0 f.blocks (rIni f.regs.toNat, 0)).1 f.params 0
def rFin (f : VF) (L : List (List Bool)) : List Rg := (f.blocks.foldl fBlk (rAll f L, 0)).1
theorem ri_all (f : VF) (L : List (List Bool)) : RI (rAll f L) f.regs.toNat := ((grow_blks (m := f.regs.toNat) (L := L) f.blocks 0 (rIni f.regs.toNat, 0) (Int.le_refl 0)).trans (grow_exs (Int.le_refl 0) f.params _) (ri_ini _)).1
theorem ri_fin (f : VF) (L : List (List Bool)) : RI (rFin f L) f.regs.toNat := (same_fblk f.blocks (rAll f L, 0)).ri (ri_all f L)
theorem ranges_ok {h : Heap} {f : VF} (R : f.R h) (B : f.B) :
 (¬ f.ok ∧ ∃ h', ∃ e : Int, e ≠ 0 ∧ E 9 [.agg f.cells] h = some (.tup [.sl .nil 0, .int .i64 e], h') ∧ Old h h') ∨
 (f.ok ∧ ∃ h' b l L, E 9 [.agg f.cells] h = some (.tup [.sl (.pos ⟨b, 0, 0⟩) l.length, .int .i64 0], h') ∧ Old h h' ∧ SL h' b 0 l.length l ∧ f.lfp L ∧ l.Perm ((rFin f L).filter fun x => !unused x) ∧ LR f.regs.toNat l) := by
 obtain ⟨h1, e, c1, c2, c3⟩ := check_ok R B
 by_cases he : e = 0
 · right
   have fo := c3.1 he
   subst he
   refine ⟨fo, ?_⟩
   have fr := fo.regs
   have nb := fo.nb
   have fs := fo.sum
   obtain ⟨n, hn⟩ : ∃ n, n = f.regs.toNat := ⟨_, rfl⟩
   have z0 : repl n [AV.int .i64 0, .int .i64 0, .int .i64 0, .bool false] = (List.replicate n (⟨0, 0, 0, false⟩ : Rg)).flatMap rgC := by
    simp [repl, List.flatMap_def, rgC]
   obtain ⟨h2, e2⟩ : ∃ h2, h2 = h1 ++ [.cells ((List.replicate n (⟨0, 0, 0, false⟩ : Rg)).flatMap rgC) (.grow 4) 0] := ⟨_, rfl⟩
   obtain ⟨h4, e4⟩ : ∃ h4, h4 = h2 ++ [.cells [.sl (.pos ⟨h1.length, 0, 0⟩) n] .fix 0] := ⟨_, rfl⟩
   have l2 : h2.length = h1.length + 1 := by rw [e2]; simp
   have l4 : h4.length = h1.length + 2 := by rw [e4]; simp [l2]
   have bx : st1 (h2 ++ [.cells [.sl .nil 0] .fix 0]) ⟨h2.length, 0, 0⟩ (.sl (.pos ⟨h1.length, 0, 0⟩) n) = some h4 := by
    rw [st1_at (last_get _ _) (by simp) (by simp), set_last, e4]; rfl
   have o4 : Old h1 h4 := by rw [e4, e2]; exact (old_app _ _).trans (old_app _ _)
   have H4 : RG h4 h1.length h2.length n (List.replicate n ⟨0, 0, 0, false⟩) := ⟨by rw [e4]; exact app_old (by rw [e2]; exact last_get _ _), by rw [e4]; exact last_get _ _, List.length_replicate .., by omega⟩
   have c12 := c2.le
   obtain ⟨h5, l5, a1, a2, a3, a4, a5⟩ := rini_loop (hb := h4) (B := h1.length) (P := h2.length) (n := n) (by omega) f.nm f.sp f.params.length f.regs f.sb f.blocks.length (Q9x11 mk0 E) n 0 (by omega) h4 _ (Kp.refl _ _) rfl H4 (fun i hi => by omega)
   rw [show (((0 : Nat) : Int)) = 0 from rfl] at a1
   have el5 : l5 = rIni n := by
    apply List.ext_getElem?
    intro i
    by_cases hi : i < n
    · rw [a5 i hi, rIni, List.getElem?_map, List.getElem?_range hi]; rfl
    · rw [List.getElem?_eq_none (by have := a4.n; omega), List.getElem?_eq_none (by have := (ri_ini n).n; omega)]
   rw [el5] at a4
   have o5 : Old h h5 := a2.old (c2.trans o4) fun q hq e => by omega
   obtain ⟨h6, BB, qs, L, s9, es, b1, b2, b3, b4, b5, b6, b7, b8, b9, b10, b11, b12⟩ := liveB_ok (R.old o5) B fo
   rw [← hn] at b3 b8 b12
   have le6 := b2.le
   have H6 := a4.old b2
   have Ll : L.length = f.blocks.length := by have := b3.len; omega
   have Lc : ∀ (i : Nat) (M : List Bool), L[i]? = some M → M.length = n := fun i M hM => by
    obtain ⟨q, hq⟩ := at_lt (l := qs) (i := i) (by have := (List.getElem?_eq_some_iff.1 hM).1; omega)
    exact (b3.cell i q M hq hM).2
   have hL : ∀ x ∈ f.blocks, (afterL L (List.replicate n false) x.e.to).length = n := fun x hx => by
    obtain ⟨_, _, _, _, _, z6⟩ := end_of (by omega) (fo.blk x hx).2
    refine afterL_len _ (fun t ht => ?_) _ (List.length_replicate ..)
    have := z6 t ht
    obtain ⟨M, hM⟩ := at_lt (l := L) (i := t.toNat) (by omega)
    simp only [List.getD, hM, Option.getD_some]
    exact Lc _ _ hM
   have B5 : h1.length < h5.length := (List.getElem?_eq_some_iff.1 a4.c).1
   have V9 : VS (hdC n) 1 h6 s9 es.length es := vs_GS (f := hdC n) (es := 1) (fun _ => rfl) rfl (by rw [b7]; exact b8)
   obtain ⟨h7, d1, d2, d3, d4⟩ := rblk_loop (hS := h6) (P := h2.length) R (o5.trans b2) fo hn (by omega : h.length ≤ h1.length) b3 b5 ⟨by omega, fun hh => by have := b6.2 _ hh; omega⟩ hL b7 V9 b12 ⟨fun hh => by have := (b10 _ hh).1; omega, fun hh => by have := b9 _ hh; omega⟩ f.nm f.sp f.params.length f.regs f.sb f.blocks.length (some ⟨h2.length, 0, 0⟩) (Q9x25 mk0 E) f.blocks.length 0 (by omega) h6 _ 0 (Kp.refl _ _) (Nat.le_refl _) H6 (by omega) (by rw [List.drop_zero]; omega)
   rw [show (((0 : Nat) : Int)) = 0 from rfl] at d1
   rw [List.drop_zero] at d4
   have o7 : Old h h7 := d2.old (o5.trans b2) fun q hq e => by omega
   obtain ⟨h8, g1, g2, g3, g4⟩ := rpar_loop (hb := h7) (B := h1.length) (P := h2.length) (n := n) (rs := f.params) (vs_old R.p o7) (fun r hr => by
    obtain ⟨i, hi⟩ := List.getElem?_of_mem hr
    have := (fo.par i r hi).1
    omega) (fun h0 hh => by
    obtain ⟨_, z | ⟨b', v, o, c, m, z1, z2, z3⟩⟩ := R.p
    · omega
    · obtain ⟨a', za, zb⟩ := hh
      rw [z1] at za
      cases za
      have := (List.getElem?_eq_some_iff.1 z2).1
      have zb' : b' = h1.length := zb
      omega) (by have := fo.np; omega) f.nm f.sp f.params.length f.regs f.sb f.blocks.length (some ⟨h2.length, 0, 0⟩) (Q9x98 mk0 E) f.params.length 0 (by omega) h7 _ (Kp.refl _ _) rfl d4
   rw [show (((0 : Nat) : Int)) = 0 from rfl] at g1
   rw [List.drop_zero] at g4
   have o8 : Old h h8 := g2.old o7 fun q hq e => by omega
   have all : exs (rBlks n L 0 f.blocks (rIni n, 0)).1 f.params 0 = rAll f L := by unfold rAll; rw [hn]
   rw [all] at g4
   obtain ⟨h9, l', k1, k2, k3, k4, k5⟩ := finish_ok R o8 fo (by omega) (by omega : h.length ≤ h1.length) g4
   have o9 : Old h h9 := k2.old o8 fun q hq e => by omega
   refine ⟨h9, h1.length, l', L, ?_, o9, k3, b4, k4, lr_of (ri_fin f L) k4 k5⟩
   have hd4 := H4.hd
   have hd8 := g4.hd
   have es9 := b7
   unfold VF.cells at *
   rw [e9, c1, Option.bind_some, gI_of, letK_eq, if_neg (by simp), chk_of (by omega), newK_eq, letK_eq, newK_eq, ← hn, z0, ← e2, bx, Option.bind_some, hd4, gL_of, a1, X9x11xe0, b1, Option.bind_some, gT_of (n := 3) [_, _, _] rfl]
   simp only [List.getD_cons_zero, List.getD_cons_succ]
   rw [gL_of, gL_of, gI_of]
   rw [es9] at d1
   rw [d1, X9x25xe2, g1, X9x98xe14, atP_of, hd8, gL_of, k1, Option.bind_some, gL_of]
 · left
   refine ⟨fun fo => he (c3.2 fo), h1, e, he, ?_, c2⟩
   unfold VF.cells at *
   rw [e9, c1, Option.bind_some, gI_of, letK_eq, if_pos (by simp [he])]
end Go.Proofs.Ytnmdadadjneaiaa.D
