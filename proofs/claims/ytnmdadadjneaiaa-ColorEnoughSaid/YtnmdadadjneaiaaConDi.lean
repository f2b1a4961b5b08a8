/- color.coalesce: a move that is left as it is. -/
import Derived.Test.YtnmdadadjneaiaaConDh
set_option linter.unusedVariables false
set_option linter.unusedSimpArgs false
namespace Go.Proofs.Ytnmdadadjneaiaa.D
open Go Go.Proofs.Ytnmdadadjneaiaa.Abs Go.Proofs
structure Cst where
 E : Nat → Nat → Prop
 l : List Int
 th : List Bool
structure CG (h : Heap) (g : Gr) (n ob : Nat) (sl : List Bool) (mv : List (Int × Int)) (c : Cst) : Prop where
 m : GM h g n
 e : ∀ p q, gg g.L p q = true ↔ c.E p q
 sl : g.sl = sl
 th : g.th = c.th
 mv : g.mv = mv
 l : h[ob]? = some (intB c.l)
 ll : c.l.length = n
 no : ¬ g.owns ob
def loM (m : Int × Int) : Int := foldMM false m.1 [m.2]
def hiM (m : Int × Int) : Int := foldMM true m.1 [m.2]
theorem loM_bd {m : Int × Int} {n : Int} (h1 : 0 ≤ m.1 ∧ m.1 < n) (h2 : 0 ≤ m.2 ∧ m.2 < n) : 0 ≤ loM m ∧ loM m < n := by
 unfold loM; simp only [foldMM]; split <;> omega
theorem hiM_bd {m : Int × Int} {n : Int} (h1 : 0 ≤ m.1 ∧ m.1 < n) (h2 : 0 ≤ m.2 ∧ m.2 < n) : 0 ≤ hiM m ∧ hiM m < n := by
 unfold hiM; simp only [foldMM]; split <;> omega
theorem same_step {h : Heap} {g : Gr} {n ob : Nat} {sl : List Bool} {mv : List (Int × Int)} {c : Cst} (C : CG h g n ob sl mv c) (hn : n ≤ 8192) (hm : mv.length ≤ 100000) (hl : ∀ x ∈ c.l, 0 ≤ x ∧ x < (n : Int)) {j : Nat} {m : Int × Int} (hj : mv[j]? = some m) (b1 : 0 ≤ m.1 ∧ m.1 < (n : Int)) (b2 : 0 ≤ m.2 ∧ m.2 < (n : Int)) {x y : Int} (rx : Root c.l (loM m) x) (ry : Root c.l (hiM m) y) (hs : x = y ∨ c.E x.toNat y.toNat ∨ sl[x.toNat]? ≠ sl[y.toNat]?) (k : Int) (Q : Kont (AV × Heap)) :
 L41x16 mk0 E (some ⟨g.G, 0, 0⟩) k (.pos ⟨ob, 0, 0⟩) n g.sM mv.length ((mv.length : Nat) : Int) ((j : Nat) : Int) h Q = L41x16 mk0 E (some ⟨g.G, 0, 0⟩) k (.pos ⟨ob, 0, 0⟩) n g.sM mv.length ((mv.length : Nat) : Int) (((j + 1 : Nat)) : Int) h Q := by
 have jl := (List.getElem?_eq_some_iff.1 hj).1
 have V : VS mvC 2 h g.sM mv.length mv := vs_GS (f := mvC) (es := 2) (fun _ => rfl) rfl (by have := C.m.m; rw [C.mv] at this; exact this)
 obtain ⟨a, ha, la⟩ := vs_ld V (fun _ => rfl) j m hj
 have VI := intB_vs C.l C.ll
 have d1 := of_ok VI hl rx (loM_bd b1 b2)
 have d2 := of_ok VI hl ry (hiM_bd b1 b2)
 have g0 : ([AV.int .i64 m.1, AV.int .i64 m.2])[(0 + Int.toNat 0 * 1)]? = some (.int .i64 m.1) := rfl
 have g1 : ([AV.int .i64 m.1, AV.int .i64 m.2])[(0 + Int.toNat 1 * 1)]? = some (.int .i64 m.2) := rfl
 have xb := rx.bd hl
 have yb := ry.bd hl
 obtain ⟨q1, M1, r1, r2, r3, r4, r5, r6⟩ := C.m.row (j := x.toNat) (by omega)
 obtain ⟨e, he⟩ := at_lt (l := M1) (i := y.toNat) (by omega)
 have ee := gg_cell r2 he
 have rd := C.m.ld 0 (.sl (.pos ⟨g.B, g.v, 0⟩) n) rfl rfl
 have rs := C.m.ld 1 (.sl (.pos ⟨g.S, 0, 0⟩) n) rfl rfl
 obtain ⟨sx, hsx⟩ := at_lt (l := g.sl) (i := x.toNat) (by have := C.m.s.2; omega)
 obtain ⟨sy, hsy⟩ := at_lt (l := g.sl) (i := y.toNat) (by have := C.m.s.2; omega)
 unfold mvC at la
 unfold loM at d1
 unfold hiM at d2
 rw [L41x16xeq, letK_eq, if_pos (by simp; omega), chk_of (by intro _; omega), ha, atP_of, Int.toNat_natCast, la, gCells_of]
 simp only [List.getElem?_cons_zero, List.getElem?_cons_succ]
 rw [gI_of, gI_of, chk_of (by intro _; omega), g0, gI_of, chk_of (by intro _; omega), g1, gI_of, letK_eq, chk_of (by intro _; omega), gI_of, chk_of (by intro _; omega), gI_of, letK_eq, d1, Option.bind_some, gI_of, d2, Option.bind_some, gI_of, letK_eq, atP_of, atP_of, atP_of, add_mk, rd, gL_of, chk_of (by intro _; omega), adP_pos, atP_of, atP_of, add_mk, r5, gL_of, chk_of (by intro _; omega), adP_pos, atP_of, atP_of, add_mk, bits_get r3 he, gB_any, letK_eq, atP_of, atP_of, atP_of, add_mk, rs, gL_of, chk_of (by intro _; omega), adP_pos, atP_of, atP_of, add_mk, bits_get C.m.s.1 hsx, gB_any, atP_of, atP_of, atP_of, add_mk, rs, gL_of, chk_of (by intro _; omega), adP_pos, atP_of, atP_of, add_mk, bits_get C.m.s.1 hsy, gB_any, letK_eq, letK_eq]
 rw [if_pos (by
  rcases hs with hs | hs | hs
  · simp [hs]
  · rw [← C.e, ee] at hs
    simp [hs]
  · rw [← C.sl, hsx, hsy] at hs
    have : sx ≠ sy := fun e => hs (by rw [e])
    simp [this]), J41x75xeq, letK_eq, wrap64 (x := (j : Int) + 1) (by omega) (by omega), show ((j : Int) + 1) = ((j + 1 : Nat) : Int) by omega]
end Go.Proofs.Ytnmdadadjneaiaa.D
/- color.coalesce: the end of a joining. -/
set_option linter.unusedVariables false
set_option linter.unusedSimpArgs false
namespace Go.Proofs.Ytnmdadadjneaiaa.D
open Go Go.Proofs.Ytnmdadadjneaiaa.Abs Go.Proofs
theorem joined_end {h : Heap} {g : Gr} {n ob : Nat} {sl : List Bool} {mv : List (Int × Int)} {c : Cst} (C : CG h g n ob sl mv c) (hn : n ≤ 8192) (hm : mv.length ≤ 100000) {j : Nat} (hj : j < mv.length) {x : Int} {Y : Nat} (hY : Y < n) (k : Int) (Q : Kont (AV × Heap)) :
 ∃ h' L', L41x66 mk0 E (some ⟨g.G, 0, 0⟩) k (.pos ⟨ob, 0, 0⟩) n x ((Y : Nat) : Int) g.sM mv.length ((mv.length : Nat) : Int) ((j : Nat) : Int) ((n : Nat) : Int) 0 h (Q41x66 mk0 E Q) = L41x16 mk0 E (some ⟨g.G, 0, 0⟩) k (.pos ⟨ob, 0, 0⟩) n g.sM mv.length ((mv.length : Nat) : Int) (((j + 1 : Nat)) : Int) h' Q ∧
  CG h' { g with L := L', th := g.th.set Y false } n ob sl mv { E := fun p q => c.E p q ∧ p ≠ Y ∧ q ≠ Y, l := c.l.set Y x, th := c.th.set Y false } ∧ Kp (fun b => b ∈ g.own ∨ b = ob) h h' ∧ h'.length = h.length := by
 obtain ⟨h1, L1, a1, a2, a3, a4, a5⟩ := clear_loop hY (by omega) k (.pos ⟨ob, 0, 0⟩) n x g.sM mv.length ((mv.length : Nat) : Int) ((j : Nat) : Int) (Q41x66 mk0 E Q) n 0 (by omega) h g C.m
 have no : ob ∉ g.own := fun hh => C.no (.inl hh)
 have o1 := a3 _ _ C.l no
 have t1 := intB_set o1 (i := Y) (by have := C.ll; omega) x
 have k1 := kp_set (· = ob) ob h1 (intB (c.l.set Y x)) rfl
 have M2 : GM (h1.set ob (intB (c.l.set Y x))) { g with L := L1 } n := a2.kp k1 fun b hb e => C.no (by rw [← e]; exact hb)
 have rt := M2.ld 2 (.sl (.pos ⟨g.T, 0, 0⟩) n) rfl rfl
 obtain ⟨h3, t2, t3, t4, t5⟩ := M2.setT hY false
 have t2' : st1 (h1.set ob (intB (c.l.set Y x))) ⟨g.T, 0, 0 + Y * 1⟩ (.bool false) = some h3 := t2
 have nT : ob ≠ g.T := fun e => no (by rw [e]; exact mem_T g)
 rw [show (((0 : Nat) : Int)) = 0 from rfl] at a1
 rw [a1, X41x66xe8, chk_of (by intro _; omega), adP_pos, atP_of, Int.toNat_natCast, add_mk, t1, Option.bind_some, atP_of, add_mk, rt, gL_of, chk_of (by intro _; omega), adP_pos, atP_of, add_mk, t2', Option.bind_some, J41x75xeq, letK_eq, wrap64 (x := (j : Int) + 1) (by omega) (by omega), show ((j : Int) + 1) = ((j + 1 : Nat) : Int) by omega]
 refine ⟨h3, L1, rfl, ⟨t5, fun p q => ?_, C.sl, by show g.th.set Y false = _; rw [C.th], C.mv, t4 _ _ (set_same o1) nT, by rw [List.length_set]; exact C.ll, C.no⟩, fun b z hz hb => t4 _ _ (k1 _ _ (a3 _ _ hz fun hh => hb (.inl hh)) fun hh => hb (.inr hh)) fun hh => hb (.inl (by rw [hh]; exact mem_T g)), by rw [t3, List.length_set, a4]⟩
 show gg L1 p q = true ↔ c.E p q ∧ p ≠ Y ∧ q ≠ Y
 constructor
 · intro hh
   obtain ⟨l1, l2⟩ := gg_lt a2 hh
   obtain ⟨u1, u2, u3⟩ := (a5 p q l1 l2).1 hh
   exact ⟨(C.e p q).1 u1, fun e => u2 ⟨e, Nat.zero_le _⟩, fun e => u3 ⟨e, Nat.zero_le _⟩⟩
 · rintro ⟨u1, u2, u3⟩
   have u1' := (C.e p q).2 u1
   obtain ⟨l1, l2⟩ := gg_lt C.m u1'
   exact (a5 p q l1 l2).2 ⟨u1', fun e => u2 e.1, fun e => u3 e.1⟩
end Go.Proofs.Ytnmdadadjneaiaa.D
/- color.coalesce: a joining. -/
set_option linter.unusedVariables false
set_option linter.unusedSimpArgs false
namespace Go.Proofs.Ytnmdadadjneaiaa.D
open Go Go.Proofs.Ytnmdadadjneaiaa.Abs Go.Proofs
theorem join_step {h : Heap} {g : Gr} {n ob : Nat} {sl : List Bool} {mv : List (Int × Int)} {c : Cst} (C : CG h g n ob sl mv c) (sy : Sy c.E) (hn : n ≤ 8192) (h0 : 0 < n) (hm : mv.length ≤ 100000) (hl : ∀ x ∈ c.l, 0 ≤ x ∧ x < (n : Int)) {j : Nat} {m : Int × Int} (hj : mv[j]? = some m) (b1 : 0 ≤ m.1 ∧ m.1 < (n : Int)) (b2 : 0 ≤ m.2 ∧ m.2 < (n : Int)) {x y : Int} (rx : Root c.l (loM m) x) (ry : Root c.l (hiM m) y) (hxy : x ≠ y) (nE : ¬ c.E x.toNat y.toNat) (hsl : sl[x.toNat]? = sl[y.toNat]?) (k : Int) (Q : Kont (AV × Heap)) :
 ∃ h1 L1, L41x16 mk0 E (some ⟨g.G, 0, 0⟩) k (.pos ⟨ob, 0, 0⟩) n g.sM mv.length ((mv.length : Nat) : Int) ((j : Nat) : Int) h Q = Q41x33 mk0 E Q (.exit 4) (S41xe4 (some ⟨g.G, 0, 0⟩) k (.pos ⟨ob, 0, 0⟩) n x y (.pos ⟨h.length, 1, 0⟩) n g.sM mv.length ((mv.length : Nat) : Int) ((j : Nat) : Int) h1) ∧
  GM h1 { g with L := L1 } n ∧ Kp (· ∈ g.own) h h1 ∧ h1.length = h.length + 1 ∧ (∃ W : List Bool, W.length = n ∧ h1[h.length]? = some (bitsV 1 W) ∧ ∀ r : Nat, r < n → W[r]? = some (gg g.L x.toNat r)) ∧ ∀ p q, gg L1 p q = true ↔ gg g.L p q = true ∨ joinE x.toNat y.toNat 0 (gg g.L) p q := by
 have jl := (List.getElem?_eq_some_iff.1 hj).1
 have V : VS mvC 2 h g.sM mv.length mv := vs_GS (f := mvC) (es := 2) (fun _ => rfl) rfl (by have := C.m.m; rw [C.mv] at this; exact this)
 obtain ⟨a, ha, la⟩ := vs_ld V (fun _ => rfl) j m hj
 have VI := intB_vs C.l C.ll
 have d1 := of_ok VI hl rx (loM_bd b1 b2)
 have d2 := of_ok VI hl ry (hiM_bd b1 b2)
 have g0 : ([AV.int .i64 m.1, AV.int .i64 m.2])[(0 + Int.toNat 0 * 1)]? = some (.int .i64 m.1) := rfl
 have g1 : ([AV.int .i64 m.1, AV.int .i64 m.2])[(0 + Int.toNat 1 * 1)]? = some (.int .i64 m.2) := rfl
 have xb := rx.bd hl
 have yb := ry.bd hl
 obtain ⟨q1, M1, r1, r2, r3, r4, r5, r6⟩ := C.m.row (j := x.toNat) (by omega)
 obtain ⟨e, he⟩ := at_lt (l := M1) (i := y.toNat) (by omega)
 have ee := gg_cell r2 he
 have rd := C.m.ld 0 (.sl (.pos ⟨g.B, g.v, 0⟩) n) rfl rfl
 have rs := C.m.ld 1 (.sl (.pos ⟨g.S, 0, 0⟩) n) rfl rfl
 obtain ⟨sx, hsx⟩ := at_lt (l := g.sl) (i := x.toNat) (by have := C.m.s.2; omega)
 obtain ⟨sy', hsy⟩ := at_lt (l := g.sl) (i := y.toNat) (by have := C.m.s.2; omega)
 have e0 : e = false := by
  cases e with
  | false => rfl
  | true => exact absurd ((C.e _ _).1 ee) nE
 have es : sx = sy' := by
  rw [← C.sl, hsx, hsy] at hsl
  injection hsl
 have r3v : h[q1]? = some (bitsV 0 M1) := r3
 have cl := cloneB_ok r3v r4 h0 hn
 have oC : Old h (h ++ [bitsV 1 M1]) := old_app _ _
 have M2 := C.m.old oC
 obtain ⟨q2, N1, s1, s2, s3, s4, s5, s6⟩ := M2.row (j := y.toNat) (by omega)
 have rd2 := M2.ld 0 (.sl (.pos ⟨g.B, g.v, 0⟩) n) rfl rfl
 have hbb : gg g.L y.toNat y.toNat = false := by
  cases hz : gg g.L y.toNat y.toNat with
  | false => rfl
  | true => exact absurd ((C.e _ _).1 hz) (sy.i _)
 obtain ⟨h1, L1, u1, u2, u3, u4, u5⟩ := join_loop (a := x.toNat) (b := y.toNat) (by omega) (by omega) (by omega) (by omega) k (.pos ⟨ob, 0, 0⟩) n (.pos ⟨h.length, 1, 0⟩) n g.sM mv.length ((mv.length : Nat) : Int) ((j : Nat) : Int) (Q41x33 mk0 E Q) n 0 (by omega) _ g q2 M2 s1 hbb
 rw [show (((0 : Nat) : Int)) = 0 from rfl, show ((x.toNat : Nat) : Int) = x by omega, show ((y.toNat : Nat) : Int) = y by omega] at u1
 have nh : h.length ∉ g.own := fun hh => Nat.lt_irrefl _ (C.m.lt _ (.inl hh))
 unfold mvC at la
 unfold loM at d1
 unfold hiM at d2
 rw [L41x16xeq, letK_eq, if_pos (by simp; omega), chk_of (by intro _; omega), ha, atP_of, Int.toNat_natCast, la, gCells_of]
 simp only [List.getElem?_cons_zero, List.getElem?_cons_succ]
 rw [gI_of, gI_of, chk_of (by intro _; omega), g0, gI_of, chk_of (by intro _; omega), g1, gI_of, letK_eq, chk_of (by intro _; omega), gI_of, chk_of (by intro _; omega), gI_of, letK_eq, d1, Option.bind_some, gI_of, d2, Option.bind_some, gI_of, letK_eq, atP_of, atP_of, atP_of, add_mk, rd, gL_of, chk_of (by intro _; omega), adP_pos, atP_of, atP_of, add_mk, r5, gL_of, chk_of (by intro _; omega), adP_pos, atP_of, atP_of, add_mk, bits_get r3 he, gB_any, letK_eq, atP_of, atP_of, atP_of, add_mk, rs, gL_of, chk_of (by intro _; omega), adP_pos, atP_of, atP_of, add_mk, bits_get C.m.s.1 hsx, gB_any, atP_of, atP_of, atP_of, add_mk, rs, gL_of, chk_of (by intro _; omega), adP_pos, atP_of, atP_of, add_mk, bits_get C.m.s.1 hsy, gB_any, letK_eq, letK_eq]
 rw [if_neg (by simp [hxy, e0, es]), atP_of, add_mk, rd, gL_of, chk_of (by intro _; omega), adP_pos, atP_of, add_mk, r5, gL_of, cl, Option.bind_some, gL_of, atP_of, add_mk, rd2, gL_of, chk_of (by intro _; omega), adP_pos, atP_of, add_mk, s5, gL_of, u1]
 refine ⟨h1, L1, rfl, u2, fun b z hz hb => u3 _ _ (oC _ _ hz) hb, by rw [u4]; simp, ⟨M1, r4, u3 _ _ (last_get _ _) nh, fun r hr => ?_⟩, u5⟩
 obtain ⟨z, hz⟩ := at_lt (l := M1) (i := r) (by omega)
 rw [hz, gg_cell r2 hz]
end Go.Proofs.Ytnmdadadjneaiaa.D
/- color.coalesce: a joining that is taken back. -/
set_option linter.unusedVariables false
set_option linter.unusedSimpArgs false
namespace Go.Proofs.Ytnmdadadjneaiaa.D
open Go Go.Proofs.Ytnmdadadjneaiaa.Abs Go.Proofs
theorem undone {h h1 : Heap} {g : Gr} {n ob hw : Nat} {sl : List Bool} {mv : List (Int × Int)} {c : Cst} (C : CG h g n ob sl mv c) (sy : Sy c.E) (hn : n ≤ 8192) (hm : mv.length ≤ 100000) {j : Nat} (hj : j < mv.length) {X Y : Nat} (hX : X < n) {L1 : List (List Bool)} (M : GM h1 { g with L := L1 } n) (kp : Kp (· ∈ g.own) h h1) {W : List Bool} (hW : W.length = n) (hw1 : h1[hw]? = some (bitsV 1 W)) (hno : ¬ g.owns hw) (wr : ∀ r : Nat, r < n → W[r]? = some (gg g.L X r)) (e1 : ∀ p q, gg L1 p q = true ↔ gg g.L p q = true ∨ joinE X Y 0 (gg g.L) p q) {qa : Nat} (hq : g.qs[X]? = some qa) (k : Int) (Q : Kont (AV × Heap)) :
 ∃ h' L', L41x51 mk0 E (some ⟨g.G, 0, 0⟩) k (.pos ⟨ob, 0, 0⟩) n ((X : Nat) : Int) (.pos ⟨hw, 1, 0⟩) n g.sM mv.length ((mv.length : Nat) : Int) ((j : Nat) : Int) (.pos ⟨qa, 0, 0⟩) n ((n : Nat) : Int) 0 h1 (Q41x51 mk0 E Q) = L41x16 mk0 E (some ⟨g.G, 0, 0⟩) k (.pos ⟨ob, 0, 0⟩) n g.sM mv.length ((mv.length : Nat) : Int) (((j + 1 : Nat)) : Int) h' Q ∧
  CG h' { g with L := L' } n ob sl mv c ∧ Kp (· ∈ g.own) h h' ∧ h'.length = h1.length := by
 have xx : gg L1 X X = false := by
  cases hz : gg L1 X X with
  | false => rfl
  | true =>
   rcases (e1 _ _).1 hz with hh | ⟨r, _, _, x3, _, _, x6⟩
   · exact absurd ((C.e _ _).1 hh) (sy.i _)
   · rcases x6 with x6 | x6
     · exact absurd x6.2 x3
     · exact absurd x6.1 x3
 obtain ⟨h2, L2, a1, a2, a3, a4, a5⟩ := undo_loop hX (by omega) hW k (.pos ⟨ob, 0, 0⟩) n g.sM mv.length ((mv.length : Nat) : Int) ((j : Nat) : Int) (Q41x51 mk0 E Q) n 0 (by omega) h1 _ qa M hq xx hw1 hno
 rw [show (((0 : Nat) : Int)) = 0 from rfl] at a1
 have same := undo_join (E0 := gg g.L) (E1 := gg L1) (E2 := gg L2) wr hW (fun p q => Bool.eq_iff_iff.2 (by rw [C.e, C.e]; exact ⟨sy.s _ _, sy.s _ _⟩)) (fun p q hh => (gg_lt C.m hh).2) e1 a5
 have no : ob ∉ g.own := fun hh => C.no (.inl hh)
 rw [a1, X41x51xe6, J41x75xeq, letK_eq, wrap64 (x := (j : Int) + 1) (by omega) (by omega), show ((j : Int) + 1) = ((j + 1 : Nat) : Int) by omega]
 exact ⟨h2, L2, rfl, ⟨a2, fun p q => by show gg L2 p q = true ↔ _; rw [same]; exact C.e p q, C.sl, C.th, C.mv, a3 _ _ (kp _ _ C.l no) no, C.ll, C.no⟩, kp.trans a3, a4⟩
end Go.Proofs.Ytnmdadadjneaiaa.D
/- color.coalesce: a joining, whole. -/
set_option linter.unusedVariables false
set_option linter.unusedSimpArgs false
namespace Go.Proofs.Ytnmdadadjneaiaa.D
open Go Go.Proofs.Ytnmdadadjneaiaa.Abs Go.Proofs
theorem join_all {h : Heap} {g : Gr} {n ob : Nat} {sl : List Bool} {mv : List (Int × Int)} {c : Cst} (C : CG h g n ob sl mv c) (sy : Sy c.E) (hn : n ≤ 8192) (h0 : 0 < n) (hm : mv.length ≤ 100000) (hl : ∀ x ∈ c.l, 0 ≤ x ∧ x < (n : Int)) {j : Nat} {m : Int × Int} (hj : mv[j]? = some m) (b1 : 0 ≤ m.1 ∧ m.1 < (n : Int)) (b2 : 0 ≤ m.2 ∧ m.2 < (n : Int)) {X Y : Nat} (rx : Root c.l (loM m) X) (ry : Root c.l (hiM m) Y) (hxy : X ≠ Y) (nE : ¬ c.E X Y) (hsl : sl[X]? = sl[Y]?) (k : Int) (Q : Kont (AV × Heap)) :
 ∃ h' L' c', L41x16 mk0 E (some ⟨g.G, 0, 0⟩) k (.pos ⟨ob, 0, 0⟩) n g.sM mv.length ((mv.length : Nat) : Int) ((j : Nat) : Int) h Q = L41x16 mk0 E (some ⟨g.G, 0, 0⟩) k (.pos ⟨ob, 0, 0⟩) n g.sM mv.length ((mv.length : Nat) : Int) (((j + 1 : Nat)) : Int) h' Q ∧
  CG h' { g with L := L', th := c'.th } n ob sl mv c' ∧ Kp (fun b => b ∈ g.own ∨ b = ob) h h' ∧ h.length ≤ h'.length ∧
  (c' = c ∨ ((∀ p q, c'.E p q ↔ coE X Y c.E p q) ∧ c'.l = c.l.set Y X ∧ c'.th = c.th.set Y false ∧ (sl[X]? = some true ∨ ∃ L1 : List (List Bool), L1.length = n ∧ (∀ M ∈ L1, M.length = n) ∧ (∀ p q, gg L1 p q = true ↔ c.E p q ∨ joinE X Y 0 (gg g.L) p q) ∧ ((sigF L1 k 0 (L1.getD X []) : Nat) : Int) < k))) := by
 have jl := (List.getElem?_eq_some_iff.1 hj).1
 have xb := rx.bd hl
 have yb := ry.bd hl
 obtain ⟨h1, L1, u1, u2, u3, u4, ⟨W, w1, w2, w3⟩, u5⟩ := join_step C sy hn h0 hm hl hj b1 b2 rx ry (by omega) (by rw [Int.toNat_natCast, Int.toNat_natCast]; exact nE) (by rw [Int.toNat_natCast, Int.toNat_natCast]; exact hsl) k Q
 rw [Int.toNat_natCast] at w3 u5
 rw [Int.toNat_natCast] at u5
 have nh : ¬ g.owns h.length := fun hh => Nat.lt_irrefl _ (C.m.lt _ hh)
 have dg := deg_ok u2 (by omega) (r := X) (by omega) k
 have rs := u2.ld 1 (.sl (.pos ⟨g.S, 0, 0⟩) n) rfl rfl
 have rd := u2.ld 0 (.sl (.pos ⟨g.B, g.v, 0⟩) n) rfl rfl
 obtain ⟨sx, hsx⟩ := at_lt (l := g.sl) (i := X) (by have := C.m.s.2; omega)
 obtain ⟨q1, M1, r1, r2, r3, r4, r5, r6⟩ := u2.row (j := X) (by omega)
 obtain ⟨q2, M2, s1, s2, s3, s4, s5, s6⟩ := u2.row (j := Y) (by omega)
 have C1 : CG h1 { g with L := L1 } n ob sl mv { c with E := fun p q => c.E p q ∨ joinE X Y 0 (gg g.L) p q } := ⟨u2, fun p q => (u5 p q).trans (or_congr (C.e p q) Iff.rfl), C.sl, C.th, C.mv, u3 _ _ C.l fun hh => C.no (.inl hh), C.ll, C.no⟩
 rw [u1, X41x33xe4, dg, Option.bind_some, gT_of (n := 2) [_, _] rfl]
 simp only [List.getD_cons_zero, List.getD_cons_succ]
 rw [gI_of, gI_of, letK_eq, atP_of, atP_of, atP_of, add_mk, rs, gL_of, chk_of (by intro _; omega), adP_pos, atP_of, Int.toNat_natCast, atP_of, add_mk, bits_get u2.s.1 hsx, gB_any, letK_eq]
 by_cases ht : k ≤ ((sigF L1 k 0 (L1.getD X []) : Nat) : Int) ∧ sx = false
 · obtain ⟨t1, rfl⟩ := ht
   obtain ⟨h2, L2, v1, v2, v3, v4⟩ := undone C sy hn hm jl (by omega) u2 u3 w1 w2 nh w3 u5 r1 k Q
   rw [if_pos (by rw [decide_eq_true t1]; rfl), atP_of, add_mk, rd, gL_of, chk_of (by intro _; omega), adP_pos, atP_of, add_mk, r5, gL_of, v1]
   exact ⟨h2, L2, c, rfl, by have := v2; rw [← C.th]; exact this, v3.mono fun b hb => .inl hb, by omega, .inl rfl⟩
 · obtain ⟨h2, L2, v1, v2, v3, v4⟩ := joined_end C1 hn hm jl (x := (X : Int)) (Y := Y) (by omega) k Q
   rw [if_neg (by
    intro hh
    apply ht
    cases sx <;> simp at hh ⊢
    exact hh), atP_of, add_mk, rd, gL_of, chk_of (by intro _; omega), adP_pos, atP_of, Int.toNat_natCast, add_mk, s5, gL_of, v1]
   refine ⟨h2, L2, ⟨fun p q => (c.E p q ∨ joinE X Y 0 (gg g.L) p q) ∧ p ≠ Y ∧ q ≠ Y, c.l.set Y X, c.th.set Y false⟩, rfl, by have := v2; simp only [C.th] at this; exact this, fun b z hz hb => v3 _ _ (u3 _ _ hz fun hh => hb (.inl hh)) hb, by omega, .inr ⟨fun p q => ?_, rfl, rfl, ?_⟩⟩
   · unfold coE joinE
     simp only [C.e, Nat.zero_le, true_and]
   · cases sx with
     | true => exact .inl (by rw [← C.sl]; exact hsx)
     | false => exact .inr ⟨L1, u2.ll, fun M hM => by
      obtain ⟨i, hi⟩ := List.getElem?_of_mem hM
      obtain ⟨q, hq⟩ := at_lt (l := g.qs) (i := i) (by have := (List.getElem?_eq_some_iff.1 hi).1; have := u2.ll; have := u2.lq; simp only at *; omega)
      exact (u2.cell i q M hq hi).2, fun p q => (u5 p q).trans (or_congr (C.e p q) Iff.rfl), by
      have : ¬ k ≤ ((sigF L1 k 0 (L1.getD X []) : Nat) : Int) := fun hh => ht ⟨hh, rfl⟩
      omega⟩
end Go.Proofs.Ytnmdadadjneaiaa.D
/- color.coalesce, plain: what a joining keeps (Briggs). -/
set_option linter.unusedVariables false
set_option linter.unusedSimpArgs false
namespace Go.Proofs.Ytnmdadadjneaiaa.D
open Go Go.Proofs.Ytnmdadadjneaiaa.Abs Go.Proofs
def idxB : Nat → List Bool → List Nat
 | _, [] => []
 | j, b :: l => if b = true then j :: idxB (j + 1) l else idxB (j + 1) l
theorem idxB_len : ∀ (l : List Bool) (j : Nat), (idxB j l).length = cntB l := by
 intro l
 induction l with
 | nil => intro j; rfl
 | cons b l ih =>
  intro j
  unfold idxB cntB
  cases b
  · rw [if_neg (by simp), if_neg (by simp), ih, Nat.zero_add]
  · rw [if_pos rfl, if_pos rfl, List.length_cons, ih, Nat.add_comm]
theorem idxB_mem : ∀ (l : List Bool) (j t : Nat), t ∈ idxB j l ↔ j ≤ t ∧ l[t - j]? = some true := by
 intro l
 induction l with
 | nil => intro j t; simp [idxB]
 | cons b l ih =>
  intro j t
  have tl : t ≠ j → ((j + 1 ≤ t ∧ l[t - (j + 1)]? = some true) ↔ (j ≤ t ∧ (b :: l)[t - j]? = some true)) := fun hne => by
   constructor
   · rintro ⟨h1, h2⟩
     refine ⟨by omega, ?_⟩
     rw [show t - j = (t - (j + 1)) + 1 by omega, List.getElem?_cons_succ]
     exact h2
   · rintro ⟨h1, h2⟩
     refine ⟨by omega, ?_⟩
     rw [show t - j = (t - (j + 1)) + 1 by omega, List.getElem?_cons_succ] at h2
     exact h2
  unfold idxB
  cases b
  · rw [if_neg (by simp), ih]
    by_cases e : t = j
    · subst e
      constructor
      · rintro ⟨h1, _⟩; omega
      · rintro ⟨_, h2⟩
        rw [Nat.sub_self] at h2
        cases h2
    · exact tl e
  · rw [if_pos rfl, List.mem_cons, ih]
    by_cases e : t = j
    · subst e
      exact ⟨fun _ => ⟨Nat.le_refl _, by rw [Nat.sub_self]; rfl⟩, fun _ => .inl rfl⟩
    · rw [tl e]
      exact ⟨fun h => h.elim (fun h => absurd h e) id, .inr⟩
theorem idxB_nodup : ∀ (l : List Bool) (j : Nat), (idxB j l).Nodup := by
 intro l
 induction l with
 | nil => intro j; exact List.nodup_nil
 | cons b l ih =>
  intro j
  unfold idxB
  cases b
  · rw [if_neg (by simp)]; exact ih _
  · rw [if_pos rfl]
    exact List.nodup_cons.2 ⟨fun h => by have := ((idxB_mem l (j + 1) j).1 h).1; omega, ih _⟩
theorem cnt_sub {M : List Bool} {T : List Nat} (nd : T.Nodup) (h : ∀ t ∈ T, M[t]? = some true) : T.length ≤ cntB M := by
 rw [← idxB_len M 0]
 exact pig _ _ nd fun t ht => (idxB_mem _ _ _).2 ⟨Nat.zero_le _, h t ht⟩
def sigL (L : List (List Bool)) (k : Int) : Nat → List Bool → List Bool
 | _, [] => []
 | j, b :: l => (b && decide (k ≤ ((cntB (L.getD j []) : Nat) : Int))) :: sigL L k (j + 1) l
theorem sigL_cnt (L : List (List Bool)) (k : Int) : ∀ (l : List Bool) (j : Nat), cntB (sigL L k j l) = sigF L k j l := by
 intro l
 induction l with
 | nil => intro j; rfl
 | cons b l ih =>
  intro j
  show (if (b && decide (k ≤ ((cntB (L.getD j []) : Nat) : Int))) = true then 1 else 0) + cntB (sigL L k (j + 1) l) = (if b = true ∧ k ≤ ((cntB (L.getD j []) : Nat) : Int) then 1 else 0) + sigF L k (j + 1) l
  rw [ih]
  congr 1
  by_cases h : b = true ∧ k ≤ ((cntB (L.getD j []) : Nat) : Int)
  · rw [if_pos h, if_pos (by rw [h.1, decide_eq_true h.2]; rfl)]
  · rw [if_neg h, if_neg (by
     intro hh
     rw [Bool.and_eq_true] at hh
     exact h ⟨hh.1, of_decide_eq_true hh.2⟩)]
theorem sigL_get (L : List (List Bool)) (k : Int) : ∀ (l : List Bool) (j t : Nat), l[t]? = some true → k ≤ ((cntB (L.getD (j + t) []) : Nat) : Int) → (sigL L k j l)[t]? = some true := by
 intro l
 induction l with
 | nil => intro j t h _; cases h
 | cons b l ih =>
  intro j t h h2
  unfold sigL
  cases t with
  | zero =>
   rw [List.getElem?_cons_zero] at h ⊢
   cases h
   rw [Nat.add_zero] at h2
   rw [decide_eq_true h2]; rfl
  | succ t =>
   rw [List.getElem?_cons_succ] at h ⊢
   exact ih (j + 1) t h (by rw [show j + 1 + t = j + (t + 1) by omega]; exact h2)
theorem sig_sub {L : List (List Bool)} {k : Int} {M : List Bool} {T : List Nat} (nd : T.Nodup) (h : ∀ t ∈ T, M[t]? = some true ∧ k ≤ ((cntB (L.getD t []) : Nat) : Int)) : T.length ≤ sigF L k 0 M := by
 rw [← sigL_cnt]
 exact cnt_sub nd fun t ht => sigL_get L k M 0 t (h t ht).1 (by rw [Nat.zero_add]; exact (h t ht).2)
def Few (k : Nat) (E : Nat → Nat → Prop) (S : Nat → Prop) (r : Nat) : Prop := ∀ T : List Nat, T.Nodup → (∀ t ∈ T, S t ∧ E r t) → T.length < k
def Thin (k : Nat) (E : Nat → Nat → Prop) (A : Nat → Prop) : Prop := ∀ S : List Nat, S ≠ [] → (∀ r ∈ S, A r) → ∃ r ∈ S, Few k E (· ∈ S) r
def prE (x y : Nat) (E : Nat → Nat → Prop) (p q : Nat) : Prop := E p q ∨ ∃ r, E y r ∧ x ≠ r ∧ x ≠ 0 ∧ r ≠ 0 ∧ ((p = x ∧ q = r) ∨ (p = r ∧ q = x))
def Briggs (k : Nat) (E1 : Nat → Nat → Prop) (x : Nat) : Prop := ∀ S : List Nat, S.Nodup → (∀ s ∈ S, E1 x s ∧ ∃ T : List Nat, T.Nodup ∧ (∀ t ∈ T, E1 s t) ∧ k ≤ T.length) → S.length < k
theorem briggs_sig {L1 : List (List Bool)} {k n : Nat} {E1 : Nat → Nat → Prop} {x : Nat} (hL : L1.length = n) (e : ∀ p q, gg L1 p q = true ↔ E1 p q) (h : ((sigF L1 (k : Int) 0 (L1.getD x []) : Nat) : Int) < (k : Int)) : Briggs k E1 x := by
 intro S nd hS
 have cell : ∀ p q, E1 p q → (L1.getD p [])[q]? = some true := fun p q hh => by
  have := (e p q).2 hh
  unfold gg at this
  rw [List.getD, Option.getD_eq_iff] at this
  rcases this with h | ⟨_, h⟩
  · exact h
  · cases h
 have := sig_sub (L := L1) (k := (k : Int)) (M := L1.getD x []) nd fun t ht => by
  obtain ⟨h1, T, h2, h3, h4⟩ := hS t ht
  have h5 := cnt_sub h2 fun u hu => cell t u (h3 u hu)
  exact ⟨cell x t h1, by omega⟩
 omega
structure Jn (n : Nat) (sl : List Bool) (k : Nat) (c c' : Cst) (X Y : Nat) : Prop where
 x : X < n
 y : Y < n
 rx : c.l[X]? = some (X : Int)
 ry : c.l[Y]? = some (Y : Int)
 ne : X ≠ Y
 ad : ¬ c.E X Y
 s : sl[X]? = sl[Y]?
 tx : c.th[X]? = some true
 e : ∀ p q, c'.E p q ↔ coE X Y c.E p q
 l : c'.l = c.l.set Y X
 t : c'.th = c.th.set Y false
 b : sl[X]? = some true ∨ Briggs k (prE X Y c.E) X
structure CI (n : Nat) (sl : List Bool) (k : Nat) (E0 : Nat → Nat → Prop) (th0 : List Bool) (c : Cst) : Prop where
 sy : Sy c.E
 ll : c.l.length = n
 bd : ∀ x ∈ c.l, 0 ≤ x ∧ x < (n : Int)
 rt : ∀ r : Nat, r < n → ∃ x : Nat, Root c.l r x
 ed : ∀ p q x y : Nat, E0 p q → Root c.l p x → Root c.l q y → c.E x y
 sl : ∀ r x : Nat, Root c.l r x → sl[r]? = sl[x]?
 th : ∀ r x : Nat, th0[r]? = some true → Root c.l r x → c.th[x]? = some true
 hr : ∀ x : Nat, c.th[x]? = some true → c.l[x]? = some (x : Int)
 tl : c.th.length = n
 tz : c.th[0]? ≠ some true
theorem Root.split {l : List Int} {n : Nat} (hl : ∀ x ∈ l, 0 ≤ x ∧ x < (n : Int)) {X Y : Nat} (hX : l[X]? = some (X : Int)) (hY : l[Y]? = some (Y : Int)) (ne : X ≠ Y) {i r z : Nat} (R : Root l i r) (R' : Root (l.set Y X) i z) : z = if r = Y then X else r := by
 have := Root.merge hl (a := (X : Int)) (b := (Y : Int)) (by rw [Int.toNat_natCast]; exact hX) (by rw [Int.toNat_natCast]; exact hY) (by omega) R (by omega)
 rw [Int.toNat_natCast] at this
 have := R'.det this
 split
 · rename_i h; subst h
   rw [if_pos rfl] at this; omega
 · rename_i h
   rw [if_neg (by omega)] at this; omega
theorem CI.go {n : Nat} {sl : List Bool} {k : Nat} {E0 : Nat → Nat → Prop} {th0 : List Bool} {c c' : Cst} (H : CI n sl k E0 th0 c) {X Y : Nat} (J : Jn n sl k c c' X Y) (bd0 : ∀ p q, E0 p q → p < n ∧ q < n) (nz : X ≠ 0 ∧ Y ≠ 0) : CI n sl k E0 th0 c' := by
 have old : ∀ r z : Nat, r < n → Root c'.l r z → ∃ x : Nat, Root c.l r x ∧ z = if x = Y then X else x := fun r z hr hz => by
  obtain ⟨x, hx⟩ := H.rt r hr
  rw [J.l] at hz
  exact ⟨x, hx, hx.split H.bd J.rx J.ry J.ne hz⟩
 have bdr : ∀ r z : Nat, Root c'.l r z → r < n := fun r z hz => by
  cases hz with
  | here e => have := (List.getElem?_eq_some_iff.1 e).1; rw [J.l, List.length_set, H.ll] at this; omega
  | go e _ _ => have := (List.getElem?_eq_some_iff.1 e).1; rw [J.l, List.length_set, H.ll] at this; omega
 have selfr : ∀ r z : Nat, Root c.l r z → Root c.l z z := fun r z hz => .here hz.self
 refine ⟨?_, ?_, ?_, ?_, ?_, ?_, ?_, ?_, ?_, ?_⟩
 · have h1 := H.sy.co X Y
   exact ⟨fun p q h => (J.e _ _).2 (h1.s _ _ ((J.e _ _).1 h)), fun p h => h1.i p ((J.e _ _).1 h), fun p h => h1.z p ((J.e _ _).1 h)⟩
 · rw [J.l, List.length_set]; exact H.ll
 · intro x hx
   rw [J.l] at hx
   rcases List.mem_or_eq_of_mem_set hx with h | h
   · exact H.bd x h
   · rw [h]; have := J.x; omega
 · intro r hr
   obtain ⟨x, hx⟩ := H.rt r hr
   have := Root.merge H.bd (a := (X : Int)) (b := (Y : Int)) (by rw [Int.toNat_natCast]; exact J.rx) (by rw [Int.toNat_natCast]; exact J.ry) (by have := J.ne; omega) hx (by omega)
   rw [Int.toNat_natCast, ← J.l] at this
   split at this
   · exact ⟨X, this⟩
   · exact ⟨x, this⟩
 · intro p q x y he hx hy
   obtain ⟨b1, b2⟩ := bd0 p q he
   obtain ⟨x', rx, ex⟩ := old p x b1 hx
   obtain ⟨y', ry, ey⟩ := old q y b2 hy
   have E' := H.ed p q x' y' he rx ry
   have hne : ¬ (x' = Y ∧ y' = Y) := fun ⟨e1, e2⟩ => H.sy.i _ (by rw [e1, e2] at E'; exact E')
   rw [J.e]
   by_cases e1 : x' = Y
   · have e2 : y' ≠ Y := fun e2 => hne ⟨e1, e2⟩
     rw [if_pos e1] at ex
     rw [if_neg e2] at ey
     rw [ex, ey]
     rw [e1] at E'
     have e3 : X ≠ y' := fun e3 => J.ad (by rw [← e3] at E'; exact H.sy.s _ _ E')
     have e4 : y' ≠ 0 := fun e4 => H.sy.z Y (H.sy.s _ _ (by rw [e4] at E'; exact E'))
     exact ⟨.inr ⟨y', E', e3, nz.1, e4, .inl ⟨rfl, rfl⟩⟩, J.ne, e2⟩
   · rw [if_neg e1] at ex
     by_cases e2 : y' = Y
     · rw [if_pos e2] at ey
       rw [ex, ey]
       rw [e2] at E'
       have E'' := H.sy.s _ _ E'
       have e3 : X ≠ x' := fun e3 => J.ad (by rw [← e3] at E'; exact E')
       have e4 : x' ≠ 0 := fun e4 => H.sy.z Y (by rw [e4] at E'; exact E')
       exact ⟨.inr ⟨x', E'', e3, nz.1, e4, .inr ⟨rfl, rfl⟩⟩, e1, J.ne⟩
     · rw [if_neg e2] at ey
       rw [ex, ey]
       exact ⟨.inl E', e1, e2⟩
 · intro r z hz
   obtain ⟨x, rx, ex⟩ := old r z (bdr _ _ hz) hz
   have := H.sl r x rx
   by_cases e : x = Y
   · rw [if_pos e] at ex
     rw [this, ex, e, J.s]
   · rw [if_neg e] at ex
     rw [this, ex]
 · intro r z h0 hz
   obtain ⟨x, rx, ex⟩ := old r z (bdr _ _ hz) hz
   have := H.th r x h0 rx
   rw [J.t]
   by_cases e : x = Y
   · rw [if_pos e] at ex
     rw [ex, List.getElem?_set_ne (Ne.symm J.ne)]
     exact J.tx
   · rw [if_neg e] at ex
     rw [ex, List.getElem?_set_ne (Ne.symm e)]
     exact this
 · intro x hx
   rw [J.t] at hx
   have e : x ≠ Y := fun e => by
    rw [e, List.getElem?_set_self (by rw [H.tl]; exact J.y)] at hx
    cases hx
   rw [List.getElem?_set_ne (Ne.symm e)] at hx
   rw [J.l, List.getElem?_set_ne (Ne.symm e)]
   exact H.hr x hx
 · rw [J.t, List.length_set]; exact H.tl
 · rw [J.t, List.getElem?_set_ne nz.2]; exact H.tz
def want (sl th : List Bool) (r : Nat) : Prop := th[r]? = some true ∧ sl[r]? = some false
theorem thin_go {n : Nat} {sl : List Bool} {k : Nat} {c c' : Cst} {X Y : Nat} (J : Jn n sl k c c' X Y) (tl : c.th.length = n) (H : Thin k c.E (want sl c.th)) : Thin k c'.E (want sl c'.th) := by
 intro S hS hA
 have nY : ∀ r ∈ S, r ≠ Y := fun r hr e => by
  have := (hA r hr).1
  rw [J.t, e, List.getElem?_set_self (by rw [tl]; exact J.y)] at this
  cases this
 have hA' : ∀ r ∈ S, want sl c.th r := fun r hr => by
  have h := hA r hr
  have := h.1
  rw [J.t, List.getElem?_set_ne (Ne.symm (nY r hr))] at this
  exact ⟨this, h.2⟩
 have pr : ∀ p q, c'.E p q → prE X Y c.E p q := fun p q hh => ((J.e p q).1 hh).1
 by_cases hX : X ∈ S
 · have hb : Briggs k (prE X Y c.E) X := by
    rcases J.b with h | h
    · rw [(hA X hX).2] at h; cases h
    · exact h
   apply Classical.byContradiction
   intro hc
   have key : ∀ r ∈ S, ∃ T : List Nat, T.Nodup ∧ (∀ t ∈ T, t ∈ S ∧ c'.E r t) ∧ k ≤ T.length := fun r hr => by
    apply Classical.byContradiction
    intro h2
    refine hc ⟨r, hr, fun T h3 h4 => ?_⟩
    apply Classical.byContradiction
    intro h5
    exact h2 ⟨T, h3, h4, by omega⟩
   obtain ⟨T, h1, h2, h3⟩ := key X hX
   have := hb T h1 fun s hs => by
    obtain ⟨T', g1, g2, g3⟩ := key s (h2 s hs).1
    exact ⟨pr _ _ (h2 s hs).2, T', g1, fun t ht => pr _ _ (g2 t ht).2, g3⟩
   omega
 · obtain ⟨r, hr, hf⟩ := H S hS hA'
   refine ⟨r, hr, fun T h1 h2 => hf T h1 fun t ht => ⟨(h2 t ht).1, ?_⟩⟩
   obtain ⟨h3, h4⟩ := h2 t ht
   rcases pr _ _ h4 with h | ⟨u, _, _, _, _, h | h⟩
   · exact h
   · exact absurd (h.1 ▸ hr) hX
   · exact absurd (h.2 ▸ h3) hX
end Go.Proofs.Ytnmdadadjneaiaa.D
/- color.coalesce: all moves. -/
set_option linter.unusedVariables false
set_option linter.unusedSimpArgs false
namespace Go.Proofs.Ytnmdadadjneaiaa.D
open Go Go.Proofs.Ytnmdadadjneaiaa.Abs Go.Proofs
inductive Jns (n : Nat) (sl : List Bool) (k : Nat) (c : Cst) : Cst → Prop where
 | here : Jns n sl k c c
 | step {c' c'' : Cst} {X Y : Nat} : Jns n sl k c c' → Jn n sl k c' c'' X Y → X ≠ 0 ∧ Y ≠ 0 → Jns n sl k c c''
theorem Jns.ci {n : Nat} {sl : List Bool} {k : Nat} {E0 : Nat → Nat → Prop} {th0 : List Bool} {c c' : Cst} (bd0 : ∀ p q, E0 p q → p < n ∧ q < n) (J : Jns n sl k c c') (H : CI n sl k E0 th0 c) : CI n sl k E0 th0 c' := by
 induction J with
 | here => exact H
 | step _ j nz ih => exact ih.go j bd0 nz
theorem Jns.thin {n : Nat} {sl : List Bool} {k : Nat} {E0 : Nat → Nat → Prop} {th0 : List Bool} {c c' : Cst} (bd0 : ∀ p q, E0 p q → p < n ∧ q < n) (J : Jns n sl k c c') (H : CI n sl k E0 th0 c) (T : Thin k c.E (want sl c.th)) : Thin k c'.E (want sl c'.th) := by
 induction J with
 | here => exact T
 | step jj j nz ih => exact thin_go j (jj.ci bd0 H).tl ih
def MvOk (n : Nat) (th : List Bool) (m : Int × Int) : Prop := (0 < m.1 ∧ m.1 < (n : Int) ∧ th[m.1.toNat]? = some true) ∧ (0 < m.2 ∧ m.2 < (n : Int) ∧ th[m.2.toNat]? = some true)
theorem MvOk.lo {n : Nat} {th : List Bool} {m : Int × Int} (H : MvOk n th m) : th[(loM m).toNat]? = some true := by
 unfold loM; simp only [foldMM]; split
 · first | exact H.1.2.2 | exact H.2.2.2
 · first | exact H.1.2.2 | exact H.2.2.2
theorem MvOk.hi {n : Nat} {th : List Bool} {m : Int × Int} (H : MvOk n th m) : th[(hiM m).toNat]? = some true := by
 unfold hiM; simp only [foldMM]; split
 · first | exact H.1.2.2 | exact H.2.2.2
 · first | exact H.1.2.2 | exact H.2.2.2
theorem coal_loop {n ob K : Nat} {sl : List Bool} {mv : List (Int × Int)} {E0 : Nat → Nat → Prop} {th0 : List Bool} (bd0 : ∀ p q, E0 p q → p < n ∧ q < n) (hn : n ≤ 8192) (h0 : 0 < n) (hm : mv.length ≤ 100000) (ok : ∀ m ∈ mv, MvOk n th0 m) (Q : Kont (AV × Heap)) :
 ∀ (k j : Nat), j + k = mv.length → ∀ (h : Heap) (g : Gr) (c : Cst), CG h g n ob sl mv c → CI n sl K E0 th0 c →
  ∃ h' L' c', L41x16 mk0 E (some ⟨g.G, 0, 0⟩) K (.pos ⟨ob, 0, 0⟩) n g.sM mv.length ((mv.length : Nat) : Int) ((j : Nat) : Int) h Q = Q (.exit 2) (S41xe2 (.pos ⟨ob, 0, 0⟩) n h') ∧
   CG h' { g with L := L', th := c'.th } n ob sl mv c' ∧ Jns n sl K c c' ∧ Kp (fun b => b ∈ g.own ∨ b = ob) h h' ∧ h.length ≤ h'.length := by
 intro k
 induction k with
 | zero =>
  intro j hj h g c C I
  rw [L41x16xeq, letK_eq, if_neg (by simp; omega)]
  exact ⟨h, g.L, c, rfl, by rw [← C.th]; exact C, .here, Kp.refl _ _, Nat.le_refl _⟩
 | succ k ih =>
  intro j hj h g c C I
  obtain ⟨m, hmj⟩ := at_lt (l := mv) (i := j) (by omega)
  have mo := ok m (List.mem_of_getElem? hmj)
  have b1 : 0 ≤ m.1 ∧ m.1 < (n : Int) := ⟨by have := mo.1.1; omega, mo.1.2.1⟩
  have b2 : 0 ≤ m.2 ∧ m.2 < (n : Int) := ⟨by have := mo.2.1; omega, mo.2.2.1⟩
  have lb := loM_bd b1 b2
  have hb := hiM_bd b1 b2
  obtain ⟨X, rX⟩ := I.rt (loM m).toNat (by omega)
  obtain ⟨Y, rY⟩ := I.rt (hiM m).toNat (by omega)
  have tX := I.th _ _ mo.lo rX
  have tY := I.th _ _ mo.hi rY
  rw [show (((loM m).toNat : Nat) : Int) = loM m by omega] at rX
  rw [show (((hiM m).toNat : Nat) : Int) = hiM m by omega] at rY
  have xb := rX.bd I.bd
  have yb := rY.bd I.bd
  by_cases hs : (X : Int) = (Y : Int) ∨ c.E X Y ∨ sl[X]? ≠ sl[Y]?
  · have e1 := same_step C hn hm I.bd hmj b1 b2 rX rY (by rw [Int.toNat_natCast, Int.toNat_natCast]; exact hs) K Q
    obtain ⟨h', L', c', r1, r2, r3, r4, r5⟩ := ih (j + 1) (by omega) h g c C I
    exact ⟨h', L', c', e1.trans r1, r2, r3, r4, r5⟩
  · have n1 : X ≠ Y := fun e => hs (.inl (by rw [e]))
    have n2 : ¬ c.E X Y := fun e => hs (.inr (.inl e))
    have n3 : sl[X]? = sl[Y]? := Classical.byContradiction fun e => hs (.inr (.inr e))
    obtain ⟨h1, L1, c1, s1, s2, s3, s4, s5⟩ := join_all C I.sy hn h0 hm I.bd hmj b1 b2 rX rY n1 n2 n3 K Q
    have jj : c1 = c ∨ (Jn n sl K c c1 X Y ∧ X ≠ 0 ∧ Y ≠ 0) := by
     refine s5.imp id fun ⟨t1, t2, t3, t4⟩ => ⟨⟨by omega, by omega, ?_, ?_, n1, n2, n3, tX, t1, t2, t3, ?_⟩, fun e => ?_, fun e => ?_⟩
     · have := rX.self; rw [Int.toNat_natCast] at this; exact this
     · have := rY.self; rw [Int.toNat_natCast] at this; exact this
     · refine t4.imp id fun ⟨L2, u1, u2, u3, u4⟩ => briggs_sig u1 (fun p q => (u3 p q).trans ?_) u4
       unfold joinE prE
       refine or_congr Iff.rfl (exists_congr fun r => ?_)
       rw [C.e]
       exact ⟨fun hh => hh.2, fun hh => ⟨Nat.zero_le _, hh⟩⟩
     · rw [e] at tX; exact I.tz tX
     · rw [e] at tY; exact I.tz tY
    have I1 : CI n sl K E0 th0 c1 := by
     rcases jj with e | ⟨J, nz⟩
     · rw [e]; exact I
     · exact I.go J bd0 nz
    obtain ⟨h', L', c', r1, r2, r3, r4, r5⟩ := ih (j + 1) (by omega) h1 { g with L := L1, th := c1.th } c1 s2 I1
    refine ⟨h', L', c', s1.trans r1, r2, ?_, s3.trans r4, by omega⟩
    rcases jj with e | ⟨J, nz⟩
    · rw [← e]; exact r3
    · clear r1 r2 r4 r5 ih s1 s2 s5 I1
      induction r3 with
      | here => exact .step .here J nz
      | step _ j2 nz2 ih2 => exact .step ih2 j2 nz2
theorem ofs_root {n r : Nat} (hr : r < n) : Root (ofs0 n) r r := .here (by rw [Int.toNat_natCast]; exact ofs0_get hr)
theorem ofs_self {n : Nat} {r x : Nat} (R : Root (ofs0 n) r x) : x = r := by
 have hr : r < n := by
  cases R with
  | here e => have := (List.getElem?_eq_some_iff.1 e).1; unfold ofs0 at this; rw [List.length_map, List.length_range] at this; omega
  | go e _ _ => have := (List.getElem?_eq_some_iff.1 e).1; unfold ofs0 at this; rw [List.length_map, List.length_range] at this; omega
 have := R.det (ofs_root hr)
 omega
theorem ci_zero {n K : Nat} {sl th : List Bool} {E0 : Nat → Nat → Prop} (sy : Sy E0) (tl : th.length = n) (tz : th[0]? ≠ some true) : CI n sl K E0 th ⟨E0, ofs0 n, th⟩ := by
 have ll : (ofs0 n).length = n := by unfold ofs0; rw [List.length_map, List.length_range]
 refine ⟨sy, ll, fun x hx => ?_, fun r hr => ⟨r, ofs_root hr⟩, fun p q x y he hx hy => ?_, fun r x hx => by rw [ofs_self hx], fun r x h0 hx => by rw [ofs_self hx]; exact h0, fun x hx => ofs0_get (by have := (List.getElem?_eq_some_iff.1 hx).1; simp only at this; omega), tl, tz⟩
 · obtain ⟨i, hi⟩ := List.getElem?_of_mem hx
   have : i < n := by have := (List.getElem?_eq_some_iff.1 hi).1; simp only at this; omega
   simp only at hi
   rw [ofs0_get this] at hi
   cases hi
   omega
 · rw [ofs_self hx, ofs_self hy]; exact he
theorem coalesce_ok {h : Heap} {g : Gr} {n K : Nat} {s : Pbs} (B : BG h g n s) (hn : n ≤ 8192) (h0 : 0 < n) (sy : Sy s.E) (hm : s.mv.length ≤ 100000) (ok : ∀ m ∈ s.mv, MvOk n s.th m) (tz : s.th[0]? ≠ some true) :
 ∃ h' L' c', E 41 [.ptr (some ⟨g.G, 0, 0⟩), .int .i64 K] h = some (.sl (.pos ⟨h.length, 0, 0⟩) n, h') ∧ CG h' { g with L := L', th := c'.th } n h.length s.sl s.mv c' ∧ Jns n s.sl K ⟨s.E, ofs0 n, s.th⟩ c' ∧ CI n s.sl K s.E s.th c' ∧ Kp (· ∈ g.own) h h' ∧ h.length < h'.length := by
 have rd := B.m.ld 0 (.sl (.pos ⟨g.B, g.v, 0⟩) n) rfl rfl
 have ol := old_app h [Blk.cells (repl n [AV.int .i64 0]) (.grow 1) 0]
 have zl : (repl n [AV.int .i64 0]) = (List.replicate n (0 : Int)).map (.int .i64) := by simp [repl]
 have lst : (h ++ [Blk.cells (repl n [AV.int .i64 0]) (.grow 1) 0])[h.length]? = some (intB (List.replicate n 0)) := by rw [last_get, zl]; rfl
 obtain ⟨h1, r1, r2, r3, r4⟩ := ofs_loop (n := n) (by omega) (some ⟨g.G, 0, 0⟩) (K : Int) (Q41x5 mk0 E) n 0 (by omega) _ _ lst (List.length_replicate ..) (fun i hi => by omega)
 rw [show (((0 : Nat) : Int)) = 0 from rfl] at r1
 have nob : ∀ b, g.owns b → b ≠ h.length := fun b hb e => by have := B.m.lt b hb; omega
 have M1 : GM h1 g n := (B.m.old ol).kp r2 fun b hb e => nob b hb e
 have rm : ld1 h1 ⟨g.G, 0, 0 + 3⟩ = some (.sl g.sM g.mv.length) := M1.ld 3 (.sl g.sM g.mv.length) rfl rfl
 have C1 : CG h1 g n h.length s.sl s.mv ⟨s.E, ofs0 n, s.th⟩ := ⟨M1, B.e, B.sl, B.th, B.mv, r4, by unfold ofs0; rw [List.length_map, List.length_range], fun hb => nob _ hb rfl⟩
 have sl := B.sl
 have tl : s.th.length = n := by rw [← B.th]; exact B.m.t.2
 have I1 : CI n s.sl K s.E s.th ⟨s.E, ofs0 n, s.th⟩ := ci_zero sy tl tz
 have bd0 : ∀ p q, s.E p q → p < n ∧ q < n := fun p q hh => gg_lt B.m ((B.e p q).2 hh)
 obtain ⟨h2, L2, c2, u1, u2, u3, u4, u5⟩ := coal_loop bd0 hn h0 hm ok (Q41x16 mk0 E) s.mv.length 0 (by omega) h1 g _ C1 I1
 rw [show (((0 : Nat) : Int)) = 0 from rfl, ← B.mv] at u1
 refine ⟨h2, L2, c2, ?_, u2, u3, u3.ci bd0 I1, fun b z hz hb => u4 _ _ (r2 _ _ (ol _ _ hz) fun e => ?_) fun hh => ?_, ?_⟩
 · rw [e41, atP_of, add_mk, rd, gL_of, chk_of (by omega), newK_eq, letK_eq, Int.toNat_natCast, r1, X41x5xe0, atP_of, add_mk, rm, gL_of, u1, X41x16xe2]
 · have := (List.getElem?_eq_some_iff.1 hz).1
   omega
 · rcases hh with hh | hh
   · exact hb hh
   · have := (List.getElem?_eq_some_iff.1 hz).1
     omega
 · have : h.length + 1 = h1.length := by rw [r3]; simp
   omega
end Go.Proofs.Ytnmdadadjneaiaa.D
