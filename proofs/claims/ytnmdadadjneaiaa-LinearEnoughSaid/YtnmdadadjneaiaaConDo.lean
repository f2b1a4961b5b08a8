/- linear: the scan in memory; slot, free, enter, spill. -/
import Derived.Test.YtnmdadadjneaiaaConDn
import Derived.Test.YtnmdadadjneaiaaConDj
set_option linter.unusedVariables false
set_option linter.unusedSimpArgs false
namespace Go.Proofs.Ytnmdadadjneaiaa.D
open Go Go.Proofs.Ytnmdadadjneaiaa.Abs Go.Proofs
structure Sc where
 S : Nat
 RB : Nat
 TB : Nat
 sA : SA
 sE : SA
 R : List Int
 T : List Int
 A : List Rg
 Es : List Int
def Sc.cells (s : Sc) (n : Nat) : List AV := [.sl (.pos ⟨s.RB, 0, 0⟩) n, .sl (.pos ⟨s.TB, 0, 0⟩) n, .int .i64 0, .sl s.sA s.A.length, .sl s.sE s.Es.length]
def Sc.owns (s : Sc) (b : Nat) : Prop := b = s.S ∨ b = s.RB ∨ b = s.TB ∨ inS s.sA b ∨ inS s.sE b
structure SCM (h : Heap) (s : Sc) (n : Nat) : Prop where
 hd : h[s.S]? = some (.cells (s.cells n) .fix 0)
 r : h[s.RB]? = some (intB s.R)
 rl : s.R.length = n
 t : h[s.TB]? = some (intB s.T)
 tl : s.T.length = n
 a : RS h s.sA s.A.length 4 (s.A.flatMap rgC)
 e : RS h s.sE s.Es.length 1 (s.Es.map (.int .i64))
 d1 : s.S ≠ s.RB ∧ s.S ≠ s.TB ∧ s.RB ≠ s.TB
 d2 : ∀ b, b = s.S ∨ b = s.RB ∨ b = s.TB → ¬ inS s.sA b ∧ ¬ inS s.sE b
 d3 : ∀ b, inS s.sA b → ¬ inS s.sE b
theorem SCM.kp {X : Nat → Prop} {h h' : Heap} {s : Sc} {n : Nat} (H : SCM h s n) (k : Kp X h h') (hx : ∀ b, s.owns b → ¬ X b) : SCM h' s n :=
 ⟨k _ _ H.hd (hx _ (.inl rfl)), k _ _ H.r (hx _ (.inr (.inl rfl))), H.rl, k _ _ H.t (hx _ (.inr (.inr (.inl rfl)))), H.tl, rs_kp H.a k fun b hb => hx b (.inr (.inr (.inr (.inl hb)))), rs_kp H.e k fun b hb => hx b (.inr (.inr (.inr (.inr hb)))), H.d1, H.d2, H.d3⟩
theorem SCM.lt {h : Heap} {s : Sc} {n : Nat} (H : SCM h s n) : ∀ b, s.owns b → b < h.length := by
 rintro b (rfl | rfl | rfl | hb | hb)
 · exact (List.getElem?_eq_some_iff.1 H.hd).1
 · exact (List.getElem?_eq_some_iff.1 H.r).1
 · exact (List.getElem?_eq_some_iff.1 H.t).1
 · exact rs_lt H.a hb
 · exact rs_lt H.e hb
theorem SCM.old {h h' : Heap} {s : Sc} {n : Nat} (H : SCM h s n) (o : Old h h') : SCM h' s n := H.kp (o.kp fun _ => False) fun _ _ h => h
theorem SCM.ld {h : Heap} {s : Sc} {n : Nat} (H : SCM h s n) (k : Nat) (x : AV) (hx : (s.cells n)[k]? = some x) (hf : flatA x = true) : ld1 h ⟨s.S, 0, 0 + k⟩ = some x :=
 ld1_at H.hd (by rw [Nat.zero_add]; exact hx) hf
theorem SCM.setRT {h : Heap} {s : Sc} {n : Nat} (H : SCM h s n) {r : Nat} (hr : r < n) (x y : Int) :
 ∃ h1 h2, st1 h ⟨s.RB, 0, 0 + r * 1⟩ (.int .i64 x) = some h1 ∧ st1 h1 ⟨s.TB, 0, 0 + r * 1⟩ (.int .i64 y) = some h2 ∧ Kp (fun b => b = s.RB) h h1 ∧ Kp (fun b => b = s.RB ∨ b = s.TB) h h2 ∧ h1.length = h.length ∧ h2.length = h.length ∧ SCM h2 { s with R := s.R.set r x, T := s.T.set r y } n := by
 have hrl := H.rl
 have htl := H.tl
 have k1 := kp_set (fun b => b = s.RB) s.RB h (intB (s.R.set r x)) rfl
 have t1 : (h.set s.RB (intB (s.R.set r x)))[s.TB]? = some (intB s.T) := k1 _ _ H.t (Ne.symm H.d1.2.2)
 have k2 := kp_set (fun b => b = s.RB ∨ b = s.TB) s.TB (h.set s.RB (intB (s.R.set r x))) (intB (s.T.set r y)) (.inr rfl)
 have k3 : Kp (fun b => b = s.RB ∨ b = s.TB) h ((h.set s.RB (intB (s.R.set r x))).set s.TB (intB (s.T.set r y))) := (k1.mono fun b hb => .inl hb).trans k2
 refine ⟨_, _, intB_set H.r (by omega) x, intB_set t1 (by omega) y, k1, k3, by simp, by simp, ⟨k3 _ _ H.hd fun e => e.elim H.d1.1 H.d1.2.1, ?_, by simp [hrl], set_same t1, by simp [htl], rs_kp H.a k3 fun b hb e => (H.d2 b (.inr e)).1 hb, rs_kp H.e k3 fun b hb e => (H.d2 b (.inr e)).2 hb, H.d1, H.d2, H.d3⟩⟩
 rw [set_other (Ne.symm H.d1.2.2)]
 exact set_same H.r
theorem SCM.newE {h h' : Heap} {s : Sc} {n : Nat} (H : SCM h s n) {sE' : SA} {Es' : List Int} (k : Kp (inS s.sE) h h') (e : RS h' sE' Es'.length 1 (Es'.map (.int .i64))) (hi : ∀ b, inS sE' b → inS s.sE b ∨ h.length ≤ b) :
 ∃ h2, st1 h' ⟨s.S, 0, 0 + 4⟩ (.sl sE' Es'.length) = some h2 ∧ h2.length = h'.length ∧ Kp (fun b => b = s.S) h' h2 ∧ SCM h2 { s with sE := sE', Es := Es' } n := by
 have hS : h'[s.S]? = some (.cells (s.cells n) .fix 0) := k _ _ H.hd (H.d2 _ (.inl rfl)).2
 have lt := H.lt
 have ns : ∀ b, s.owns b → ¬ inS s.sE b → ¬ inS sE' b := fun b hb hn hh => by
  rcases hi b hh with h | h
  · exact hn h
  · have := lt b hb; omega
 refine ⟨_, st1_at hS (by simp) (by show 0 + 4 < 5; omega), by simp, kp_set _ _ _ _ rfl, ?_⟩
 have k2 := kp_set (fun b => b = s.S) s.S h' (.cells ((s.cells n).set (0 + 4) (.sl sE' Es'.length)) .fix 0) rfl
 refine ⟨by rw [set_same hS]; rfl, k2 _ _ (k _ _ H.r (H.d2 _ (.inr (.inl rfl))).2) (Ne.symm H.d1.1), H.rl, k2 _ _ (k _ _ H.t (H.d2 _ (.inr (.inr rfl))).2) (Ne.symm H.d1.2.1), H.tl, rs_kp (rs_kp H.a k fun b hb => H.d3 b hb) k2 fun b hb hh => (H.d2 _ (.inl hh)).1 hb, rs_kp e k2 fun b hb hh => ns b (.inl hh) (H.d2 _ (.inl hh)).2 hb, H.d1, fun b hb => ⟨(H.d2 b hb).1, ns b (by rcases hb with hb | hb | hb; exact .inl hb; exact .inr (.inl hb); exact .inr (.inr (.inl hb))) (H.d2 b hb).2⟩, fun b hb => ns b (.inr (.inr (.inr (.inl hb)))) (H.d3 b hb)⟩
theorem SCM.newA {h h' : Heap} {s : Sc} {n : Nat} (H : SCM h s n) {sA' : SA} {A' : List Rg} (k : Kp (inS s.sA) h h') (a : RS h' sA' A'.length 4 (A'.flatMap rgC)) (hi : ∀ b, inS sA' b → inS s.sA b ∨ h.length ≤ b) :
 ∃ h2, st1 h' ⟨s.S, 0, 0 + 3⟩ (.sl sA' A'.length) = some h2 ∧ h2.length = h'.length ∧ Kp (fun b => b = s.S) h' h2 ∧ SCM h2 { s with sA := sA', A := A' } n := by
 have hS : h'[s.S]? = some (.cells (s.cells n) .fix 0) := k _ _ H.hd (H.d2 _ (.inl rfl)).1
 have lt := H.lt
 have ns : ∀ b, s.owns b → ¬ inS s.sA b → ¬ inS sA' b := fun b hb hn hh => by
  rcases hi b hh with h | h
  · exact hn h
  · have := lt b hb; omega
 refine ⟨_, st1_at hS (by simp) (by show 0 + 3 < 5; omega), by simp, kp_set _ _ _ _ rfl, ?_⟩
 have k2 := kp_set (fun b => b = s.S) s.S h' (.cells ((s.cells n).set (0 + 3) (.sl sA' A'.length)) .fix 0) rfl
 refine ⟨by rw [set_same hS]; rfl, k2 _ _ (k _ _ H.r (H.d2 _ (.inr (.inl rfl))).1) (Ne.symm H.d1.1), H.rl, k2 _ _ (k _ _ H.t (H.d2 _ (.inr (.inr rfl))).1) (Ne.symm H.d1.2.1), H.tl, rs_kp a k2 fun b hb hh => ns b (.inl hh) (H.d2 _ (.inl hh)).1 hb, rs_kp (rs_kp H.e k fun b hb hh => H.d3 b hh hb) k2 fun b hb hh => (H.d2 _ (.inl hh)).2 hb, H.d1, fun b hb => ⟨ns b (by rcases hb with hb | hb | hb; exact .inl hb; exact .inr (.inl hb); exact .inr (.inr (.inl hb))) (H.d2 b hb).1, (H.d2 b hb).2⟩, fun b hb hh => ?_⟩
 rcases hi b hb with h3 | h3
 · exact H.d3 b h3 hh
 · have := rs_lt H.e hh; omega
theorem map_int (l : List Int) : l.flatMap intC = l.map (AV.int .i64) := rows_one _ _
theorem SCM.vsE {h : Heap} {s : Sc} {n : Nat} (H : SCM h s n) : VS intC 1 h s.sE s.Es.length s.Es := rs_vs (f := intC) (es := 1) (fun _ => rfl) rfl (by rw [map_int]; exact H.e)
theorem SCM.vsA {h : Heap} {s : Sc} {n : Nat} (H : SCM h s n) : VS rgC 4 h s.sA s.A.length s.A := rs_vs rg_len rfl H.a
theorem SCM.setE {h : Heap} {s : Sc} {n : Nat} (H : SCM h s n) {i : Nat} (hi : i < s.Es.length) (x : Int) :
 ∃ a h', adP s.sE = some a ∧ st1 h (Ad.add a (i * 1)) (.int .i64 x) = some h' ∧ h'.length = h.length ∧ Kp (inS s.sE) h h' ∧ SCM h' { s with Es := s.Es.set i x } n := by
 obtain ⟨e1, e2, ⟨e3, e4⟩ | ⟨b, v, c, e3, e4, e5, e6⟩⟩ := H.e
 · omega
 have hin : inS s.sE b := ⟨_, e3, rfl⟩
 have kp := kp_set (inS s.sE) b h (.cells (c.set (0 + i * 1) (.int .i64 x)) (.grow 1) v) hin
 refine ⟨⟨b, v, 0⟩, h.set b (.cells (c.set (0 + i * 1) (.int .i64 x)) (.grow 1) v), by rw [e3]; rfl, st1_at e4 (by simp) (by show 0 + i * 1 < c.length; omega), by simp, kp, ?_⟩
 have hSE : ∀ z, (z = s.S ∨ z = s.RB ∨ z = s.TB) → ¬ inS s.sE z := fun z hz => (H.d2 z hz).2
 refine ⟨by
  rw [kp _ _ H.hd (hSE _ (.inl rfl))]
  simp [Sc.cells], kp _ _ H.r (hSE _ (.inr (.inl rfl))), H.rl, kp _ _ H.t (hSE _ (.inr (.inr rfl))), H.tl, rs_kp H.a kp fun z hz => H.d3 z hz, ⟨by simp, flat_ints _, .inr ⟨b, v, _, e3, set_same e4, by simp; omega, ?_⟩⟩, H.d1, H.d2, H.d3⟩
 show (c.set (0 + i * 1) (.int .i64 x)).take ((s.Es.set i x).length * 1) = (s.Es.set i x).map (.int .i64)
 rw [List.length_set, List.map_set, ← e6, List.take_set, Nat.zero_add, Nat.mul_one, Nat.mul_one]
def SlotR (s s' : Sc) (x : Rg) : Prop := ∃ i : Nat, s' = { s with sE := s'.sE, Es := s'.Es, R := s.R.set x.r.toNat (-1), T := s.T.set x.r.toNat (i : Int) } ∧ ((∃ y, s.Es[i]? = some y ∧ y < x.b ∧ s'.Es = s.Es.set i x.e) ∨ (i = s.Es.length ∧ s'.Es = s.Es ++ [x.e]))
theorem slot_tail {h : Heap} {s : Sc} {n X : Nat} {x : Rg} (H : SCM h s n) (hX : h[X]? = some (.cells (rgC x) .fix 0)) (nX : ¬ s.owns X) (hx : 0 ≤ x.r ∧ x.r < (n : Int)) {i : Nat} (hi : i < s.Es.length) :
 ∃ h', J36x6 mk0 E (some ⟨s.S, 0, 0⟩) (some ⟨X, 0, 0⟩) ((i : Nat) : Int) h = some (.tup [], h') ∧ SCM h' { s with Es := s.Es.set i x.e, R := s.R.set x.r.toNat (-1), T := s.T.set x.r.toNat (i : Int) } n ∧ Kp s.owns h h' ∧ h'.length = h.length := by
 obtain ⟨a, h1, a1, a2, a3, a4, a5⟩ := H.setE hi x.e
 have hX1 := a4 _ _ hX fun hh => nX (.inr (.inr (.inr (.inr hh))))
 obtain ⟨h2, h3, b1, b2, b3, b4, b5, b6, b7⟩ := a5.setRT (r := x.r.toNat) (by omega) (-1) (i : Int)
 have hX2 := b3 _ _ hX1 fun hh => nX (.inr (.inl hh))
 have l4 := H.ld 4 (.sl s.sE s.Es.length) rfl rfl
 have x2 : ld1 h ⟨X, 0, 0 + 2⟩ = some (.int .i64 x.e) := ld1_at hX rfl rfl
 have x0 : ld1 h1 ⟨X, 0, 0 + 0⟩ = some (.int .i64 x.r) := ld1_at hX1 rfl rfl
 have r0 := a5.ld 0 (.sl (.pos ⟨s.RB, 0, 0⟩) n) rfl rfl
 have r1 := a5.ld 1 (.sl (.pos ⟨s.TB, 0, 0⟩) n) rfl rfl
 have r0' : ld1 h1 ⟨s.S, 0, 0 + 0 + 0⟩ = some (.sl (.pos ⟨s.RB, 0, 0⟩) n) := r0
 have r1' : ld1 h1 ⟨s.S, 0, 0 + 0 + 1⟩ = some (.sl (.pos ⟨s.TB, 0, 0⟩) n) := r1
 have b1' : st1 h1 ⟨s.RB, 0, 0 + x.r.toNat * 1⟩ (.int .i64 (-1)) = some h2 := b1
 have b2' : st1 h2 ⟨s.TB, 0, 0 + x.r.toNat * 1⟩ (.int .i64 ((i : Nat) : Int)) = some h3 := b2
 have same : ldN h2 ⟨X, 0, 0 + 0⟩ 1 = ldN h1 ⟨X, 0, 0 + 0⟩ 1 := by simp only [ldN, hX1, hX2]
 refine ⟨h3, ?_, b7, ((a4.mono fun b hb => .inr (.inr (.inr (.inr hb)))).trans (b4.mono fun b hb => by rcases hb with hb | hb; exact .inr (.inl hb); exact .inr (.inr (.inl hb)))), by omega⟩
 rw [J36x6xeq, atP_of, add_mk, l4, gL_of, atP_of, add_mk, x2, gI_of, chk_of (by intro _; omega), a1, atP_of, Int.toNat_natCast, a2, Option.bind_some, atP_of, add_mk, add_mk, r0', gL_of, atP_of, add_mk, x0, gI_of, atP_of, add_mk, add_mk, r1', gL_of, atP_of, add_mk, x0, gI_of, chk_of (by intro _; omega), adP_pos, atP_of, add_mk, b1', Option.bind_some, chkC_of (fun _ => same), chk_of (by intro _; omega), adP_pos, atP_of, add_mk, b2', Option.bind_some]
theorem slot_ok {h : Heap} {s : Sc} {n : Nat} {x : Rg} (H : SCM h s n) (hx : 0 ≤ x.r ∧ x.r < (n : Int)) (hn : s.Es.length ≤ 100000) :
 ∃ h' s', E 36 [.ptr (some ⟨s.S, 0, 0⟩), .agg (rgC x)] h = some (.tup [], h') ∧ SCM h' s' n ∧ SlotR s s' x ∧ Kp s.owns h h' ∧ h.length ≤ h'.length ∧ ∀ b, s'.owns b → s.owns b ∨ h.length ≤ b := by
 have o1 := old_app h [.cells (rgC x) .fix 0]
 have hX := last_get h (.cells (rgC x) .fix 0)
 have nX : ¬ s.owns h.length := fun hh => Nat.lt_irrefl _ (H.lt _ hh)
 have H1 := H.old o1
 have l4 := H1.ld 4 (.sl s.sE s.Es.length) rfl rfl
 have x1 : ld1 (h ++ [.cells (rgC x) .fix 0]) ⟨h.length, 0, 0 + 1⟩ = some (.int .i64 x.b) := ld1_at hX rfl rfl
 have cl : ∀ y, E 72 ([] ++ [.int .i64 y] ++ [.ptr (some ⟨h.length, 0, 0⟩)]) (h ++ [.cells (rgC x) .fix 0]) = some (.bool (decide (y < x.b)), h ++ [.cells (rgC x) .fix 0]) := fun y => by
  show E 72 [.int .i64 y, .ptr (some ⟨h.length, 0, 0⟩)] _ = _
  rw [e72, atP_of, add_mk, x1, gI_of, letK_eq]
 have hd : ∀ i : Int, E 71 [.sl s.sE s.Es.length, .fn 72 [] [.ptr (some ⟨h.length, 0, 0⟩)]] (h ++ [.cells (rgC x) .fix 0]) = some (.int .i64 i, h ++ [.cells (rgC x) .fix 0]) → ¬ i < 0 → E 36 [.ptr (some ⟨s.S, 0, 0⟩), .agg (rgC x)] h = J36x6 mk0 E (some ⟨s.S, 0, 0⟩) (some ⟨h.length, 0, 0⟩) i (h ++ [.cells (rgC x) .fix 0]) := fun i hi h0 => by
  unfold rgC at *
  rw [e36, newK_eq, atP_of, add_mk, l4, gL_of, hi, Option.bind_some, gI_of, letK_eq, if_neg (by simpa using h0)]
 rcases eidx_ok (P := fun y => decide (y < x.b)) cl H1.vsE (by omega) with ⟨i, y, i1, i2, i3, i4⟩ | ⟨i1, i2⟩
 · obtain ⟨h', t1, t2, t3, t4⟩ := slot_tail H1 hX nX hx i1
   refine ⟨h', _, (hd _ i4 (by omega)).trans t1, t2, ⟨i, rfl, .inl ⟨y, i2, of_decide_eq_true i3, rfl⟩⟩, (o1.kp _).trans t3, by rw [t4]; simp, fun b hb => .inl hb⟩
 · have g1 := rs_kp H1.e ((old_app _ [.cells [.int .i64 0] (.grow 1) 0]).kp fun _ => False) fun _ _ h => h
   obtain ⟨sE', h2, p1, p2, p3, p4, p5⟩ := rs_push (bytes := 8) (y := [.int .i64 0]) g1 (by omega) rfl rfl (by have := flat_ints (s.Es ++ [0]); rw [List.map_append] at this; exact this) (by omega)
   have p2' : RS h2 sE' (s.Es ++ [(0 : Int)]).length 1 ((s.Es ++ [(0 : Int)]).map (.int .i64)) := by rw [List.length_append, List.map_append]; exact p2
   have ldy := ldSl_at (n := 1) (last_get (h ++ [.cells (rgC x) .fix 0]) (.cells [.int .i64 0] (.grow 1) 0)) rfl rfl
   have kE : Kp (inS s.sE) (h ++ [.cells (rgC x) .fix 0]) h2 := fun b z hz hb => p3 b z (app_old hz) hb
   obtain ⟨h3, q1, q2, q3, q4⟩ := H1.newE kE p2' (fun b hb => by
    rcases p4 b hb with h | h
    · exact .inl h
    · right; simp at h ⊢; omega)
   have ns : ¬ s.S = h.length := fun hh => nX (.inl hh.symm)
   have hX3 : h3[h.length]? = some (.cells (rgC x) .fix 0) := q3 _ _ (kE _ _ hX fun hh => nX (.inr (.inr (.inr (.inr hh))))) (Ne.symm ns)
   have nE' : ∀ b, inS sE' b → inS s.sE b ∨ h.length < b := fun b hb => by
    rcases p4 b hb with h | h
    · exact .inl h
    · right; simp at h; omega
   have nX3 : ¬ ({ s with sE := sE', Es := s.Es ++ [0] } : Sc).owns h.length := by
    rintro (hh | hh | hh | hh | hh)
    · exact nX (.inl hh)
    · exact nX (.inr (.inl hh))
    · exact nX (.inr (.inr (.inl hh)))
    · exact nX (.inr (.inr (.inr (.inl hh))))
    · rcases nE' _ hh with h | h
      · exact nX (.inr (.inr (.inr (.inr h))))
      · omega
   obtain ⟨h', t1, t2, t3, t4⟩ := slot_tail q4 hX3 nX3 hx (i := s.Es.length) (by simp)
   have q1' : st1 h2 ⟨s.S, 0, 0 + 4⟩ (.sl sE' (s.Es.length + 1)) = some h3 := by rw [List.length_append] at q1; exact q1
   have kk : Kp s.owns h h' := fun b z hz hb => by
    have hbl := (List.getElem?_eq_some_iff.1 hz).1
    refine t3 _ _ (q3 _ _ (kE _ _ (o1 _ _ hz) fun hh => hb (.inr (.inr (.inr (.inr hh))))) fun hh => hb (.inl hh)) ?_
    rintro (hh | hh | hh | hh | hh)
    · exact hb (.inl hh)
    · exact hb (.inr (.inl hh))
    · exact hb (.inr (.inr (.inl hh)))
    · exact hb (.inr (.inr (.inr (.inl hh))))
    · rcases nE' _ hh with h | h
      · exact hb (.inr (.inr (.inr (.inr h))))
      · omega
   have l4b : ld1 (h ++ [.cells (rgC x) .fix 0]) ⟨s.S, 0, 0 + 4⟩ = some (.sl s.sE s.Es.length) := l4
   refine ⟨h', _, ?_, t2, ⟨s.Es.length, rfl, .inr ⟨rfl, by simp⟩⟩, kk, by
    simp at p5; omega, fun b hb => ?_⟩
   · unfold rgC at *
     rw [e36, newK_eq, atP_of, add_mk, l4, gL_of, i2, Option.bind_some, gI_of, letK_eq, if_pos (by simp), atP_of, add_mk, l4b, gL_of, atP_of, add_mk, l4b, gL_of, newK_eq, Nat.one_mul, ldy, Option.bind_some, p1, Option.bind_some, gL_of, atP_of, add_mk, q1', Option.bind_some]
     exact t1
   · rcases hb with hh | hh | hh | hh | hh
     · exact .inl (.inl hh)
     · exact .inl (.inr (.inl hh))
     · exact .inl (.inr (.inr (.inl hh)))
     · exact .inl (.inr (.inr (.inr (.inl hh))))
     · rcases nE' _ hh with h | h
       · exact .inl (.inr (.inr (.inr (.inr h))))
       · exact .inr (by omega)
end Go.Proofs.Ytnmdadadjneaiaa.D
/- linear: spill, free, enter. -/
set_option linter.unusedVariables false
set_option linter.unusedSimpArgs false
namespace Go.Proofs.Ytnmdadadjneaiaa.D
open Go Go.Proofs.Ytnmdadadjneaiaa.Abs Go.Proofs
def SpillR (s s' : Sc) (x : Rg) : Prop := s' = { s with sE := s'.sE, Es := s.Es ++ [x.e], R := s.R.set x.r.toNat (-1), T := s.T.set x.r.toNat ((s.Es.length : Nat) : Int) }
theorem spill_ok {h : Heap} {s : Sc} {n : Nat} {x : Rg} (H : SCM h s n) (hx : 0 ≤ x.r ∧ x.r < (n : Int)) (hn : s.Es.length ≤ 100000) :
 ∃ h' s', E 39 [.ptr (some ⟨s.S, 0, 0⟩), .agg (rgC x)] h = some (.tup [], h') ∧ SCM h' s' n ∧ SpillR s s' x ∧ Kp s.owns h h' ∧ h.length ≤ h'.length ∧ ∀ b, s'.owns b → s.owns b ∨ h.length ≤ b := by
 have l4 := H.ld 4 (.sl s.sE s.Es.length) rfl rfl
 obtain ⟨sE', h2, p1, p2, p3, p4, p5⟩ := rs_push (bytes := 8) (y := [.int .i64 x.e]) (rs_kp H.e ((old_app _ [.cells [.int .i64 x.e] (.grow 1) 0]).kp fun _ => False) fun _ _ h => h) (by omega) rfl rfl (by have := flat_ints (s.Es ++ [x.e]); rw [List.map_append] at this; exact this) (by omega)
 have p2' : RS h2 sE' (s.Es ++ [x.e]).length 1 ((s.Es ++ [x.e]).map (.int .i64)) := by rw [List.length_append, List.map_append]; exact p2
 have ldy := ldSl_at (n := 1) (last_get h (.cells [.int .i64 x.e] (.grow 1) 0)) rfl rfl
 have kE : Kp (inS s.sE) h h2 := fun b z hz hb => p3 b z (app_old hz) hb
 obtain ⟨h3, q1, q2, q3, q4⟩ := H.newE kE p2' (fun b hb => by
  rcases p4 b hb with h | h
  · exact .inl h
  · right; simp at h; omega)
 obtain ⟨h4, h5, b1, b2, b3, b4, b5, b6, b7⟩ := q4.setRT (r := x.r.toNat) (by omega) (-1) ((s.Es.length : Nat) : Int)
 have q1' : st1 h2 ⟨s.S, 0, 0 + 4⟩ (.sl sE' (s.Es.length + 1)) = some h3 := by rw [List.length_append] at q1; exact q1
 have r0 : ld1 h3 ⟨s.S, 0, 0 + 0 + 0⟩ = some (.sl (.pos ⟨s.RB, 0, 0⟩) n) := q4.ld 0 (.sl (.pos ⟨s.RB, 0, 0⟩) n) rfl rfl
 have r1 : ld1 h3 ⟨s.S, 0, 0 + 0 + 1⟩ = some (.sl (.pos ⟨s.TB, 0, 0⟩) n) := q4.ld 1 (.sl (.pos ⟨s.TB, 0, 0⟩) n) rfl rfl
 have r4 : ld1 h3 ⟨s.S, 0, 0 + 4⟩ = some (.sl sE' (s.Es ++ [x.e]).length) := q4.ld 4 (.sl sE' (s.Es ++ [x.e]).length) rfl rfl
 have b1' : st1 h3 ⟨s.RB, 0, 0 + x.r.toNat * 1⟩ (.int .i64 (-1)) = some h4 := b1
 have b2' : st1 h4 ⟨s.TB, 0, 0 + x.r.toNat * 1⟩ (.int .i64 ((s.Es.length : Nat) : Int)) = some h5 := b2
 have nE' : ∀ b, inS sE' b → inS s.sE b ∨ h.length ≤ b := fun b hb => by
  rcases p4 b hb with h | h
  · exact .inl h
  · right; simp at h; omega
 refine ⟨h5, _, ?_, b7, rfl, fun b z hz hb => b4 _ _ (q3 _ _ (kE _ _ hz fun hh => hb (.inr (.inr (.inr (.inr hh))))) fun hh => hb (.inl hh)) (by
  rintro (hh | hh)
  · exact hb (.inr (.inl hh))
  · exact hb (.inr (.inr (.inl hh)))), by simp at p5; omega, fun b hb => ?_⟩
 · unfold rgC
   rw [e39, atP_of, add_mk, l4, gL_of, newK_eq, Nat.one_mul, ldy, Option.bind_some, p1, Option.bind_some, gL_of, atP_of, add_mk, q1', Option.bind_some, atP_of, add_mk, add_mk, r0, gL_of, atP_of, add_mk, add_mk, r1, gL_of, atP_of, add_mk, r4, gL_of, letK_eq, List.length_append, List.length_singleton, wrap64 (by omega) (by omega), show (((s.Es.length + 1 : Nat) : Int) - 1) = ((s.Es.length : Nat) : Int) by omega, chk_of (by intro _; omega), adP_pos, atP_of, add_mk, b1', Option.bind_some, chk_of (by intro _; omega), adP_pos, atP_of, add_mk, b2', Option.bind_some]
 · rcases hb with hh | hh | hh | hh | hh
   · exact .inl (.inl hh)
   · exact .inl (.inr (.inl hh))
   · exact .inl (.inr (.inr (.inl hh)))
   · exact .inl (.inr (.inr (.inr (.inl hh))))
   · exact (nE' _ hh).imp (fun h => .inr (.inr (.inr (.inr h)))) id
theorem free_loop {h0 : Heap} {s : Sc} {n K P1 : Nat} (H : SCM h0 s n) (hK : K ≤ 1000) (hA : s.A.length ≤ 1000000) (hr : ∀ x ∈ s.A, 0 ≤ x.r ∧ x.r < (n : Int)) (hP : h0[P1]? = some (.cells [.ptr (some ⟨s.S, 0, 0⟩)] .fix 0)) :
 ∀ (N j NB : Nat), j + N = K + 1 → 1 ≤ j → ∀ (h : Heap), Old h0 h → h[NB]? = some (.cells [.int .i64 ((j : Nat) : Int)] .fix 0) → (∀ i : Nat, 1 ≤ i → i < j → ∃ y ∈ s.A, s.R[y.r.toNat]? = some ((i : Nat) : Int)) →
  ∃ h' k, L37x4 mk0 E ((K : Nat) : Int) (some ⟨P1, 0, 0⟩) (some ⟨NB, 0, 0⟩) h (Q37x4 mk0 E) = some (.int .i64 ((k : Nat) : Int), h') ∧ Old h0 h' ∧ ((1 ≤ k ∧ k ≤ K ∧ ∀ y ∈ s.A, s.R[y.r.toNat]? ≠ some ((k : Nat) : Int)) ∨ (k = 0 ∧ ∀ i : Nat, 1 ≤ i → i ≤ K → ∃ y ∈ s.A, s.R[y.r.toNat]? = some ((i : Nat) : Int))) := by
 intro N
 induction N with
 | zero =>
  intro j NB hj h1 h o hN A
  have rd : ld1 h ⟨NB, 0, 0⟩ = some (.int .i64 ((j : Nat) : Int)) := ld1_at hN rfl rfl
  rw [L37x4xeq, atP_of, rd, gI_of, letK_eq, if_neg (by simp; omega), X37x4xe0]
  exact ⟨h, 0, rfl, o, .inr ⟨rfl, fun i i1 i2 => A i i1 (by omega)⟩⟩
 | succ N ih =>
  intro j NB hj h1 h o hN A
  have rd : ld1 h ⟨NB, 0, 0⟩ = some (.int .i64 ((j : Nat) : Int)) := ld1_at hN rfl rfl
  have Hh := H.old o
  have rp : ld1 h ⟨P1, 0, 0⟩ = some (.ptr (some ⟨s.S, 0, 0⟩)) := ld1_at (o _ _ hP) rfl rfl
  have l3 := Hh.ld 3 (.sl s.sA s.A.length) rfl rfl
  have r0 : ld1 h ⟨s.S, 0, 0 + 0 + 0⟩ = some (.sl (.pos ⟨s.RB, 0, 0⟩) n) := Hh.ld 0 (.sl (.pos ⟨s.RB, 0, 0⟩) n) rfl rfl
  have cl : FnP 74 [.ptr (some ⟨P1, 0, 0⟩), .ptr (some ⟨NB, 0, 0⟩)] (fun x => decide (s.R[x.r.toNat]? = some ((j : Nat) : Int))) h s.A := fun x hx => by
   have xb := hr x hx
   obtain ⟨z, hz⟩ := at_lt (l := s.R) (i := x.r.toNat) (by rw [H.rl]; omega)
   obtain ⟨a, ha, la⟩ := vs_ld1 (g := AV.int .i64) (intB_vs Hh.r Hh.rl) (fun _ => rfl) x.r.toNat z hz
   cases ha
   show E 74 [.agg (rgC x), .ptr (some ⟨P1, 0, 0⟩), .ptr (some ⟨NB, 0, 0⟩)] h = _
   unfold rgC
   rw [e74, atP_of, rp, gP_of, atP_of, add_mk, add_mk, r0, gL_of, chk_of (by intro _; omega), adP_pos, atP_of, la, gI_of, atP_of, rd, gI_of, letK_eq]
   simp only [hz]
   simp
  have hs := rghas_ok cl Hh.vsA hA
  rw [L37x4xeq, atP_of, rd, gI_of, letK_eq, if_pos (by simp; omega), atP_of, rp, gP_of, atP_of, add_mk, l3, gL_of, hs, Option.bind_some, gB_of]
  cases ha : s.A.any fun x => decide (s.R[x.r.toNat]? = some ((j : Nat) : Int)) with
  | false =>
   rw [if_pos (show (!false) = true from rfl), atP_of, rd, gI_of, X37x4xr]
   refine ⟨h, j, rfl, o, .inl ⟨h1, by omega, fun y hy hh => ?_⟩⟩
   have := List.any_eq_false.1 ha y hy
   rw [hh] at this
   simp at this
  | true =>
   obtain ⟨y, hy, hy2⟩ := List.any_eq_true.1 ha
   have hy2 := of_decide_eq_true hy2
   have o1 := old_app h [.cells [.int .i64 0] .fix 0]
   have lst := last_get h (.cells [.int .i64 0] .fix 0)
   have s1 : st1 (h ++ [.cells [.int .i64 0] .fix 0]) ⟨h.length, 0, 0⟩ (.int .i64 ((j : Nat) : Int)) = some (h ++ [.cells [.int .i64 ((j : Nat) : Int)] .fix 0]) := by
    rw [st1_at lst (by simp) (by simp), set_last]; rfl
   have lst2 := last_get h (.cells [.int .i64 ((j : Nat) : Int)] .fix 0)
   have rd2 : ld1 (h ++ [.cells [.int .i64 ((j : Nat) : Int)] .fix 0]) ⟨h.length, 0, 0⟩ = some (.int .i64 ((j : Nat) : Int)) := ld1_at lst2 rfl rfl
   have s2 : st1 (h ++ [.cells [.int .i64 ((j : Nat) : Int)] .fix 0]) ⟨h.length, 0, 0⟩ (.int .i64 ((j + 1 : Nat) : Int)) = some (h ++ [.cells [.int .i64 ((j + 1 : Nat) : Int)] .fix 0]) := by
    rw [st1_at lst2 (by simp) (by simp), set_last]; rfl
   obtain ⟨h', k, r1, r2⟩ := ih (j + 1) h.length (by omega) (by omega) _ (o.trans (old_app _ _)) (last_get h (.cells [.int .i64 ((j + 1 : Nat) : Int)] .fix 0)) (fun i i1 i2 => by
    by_cases e : i = j
    · rw [e]; exact ⟨y, hy, hy2⟩
    · exact A i i1 (by omega))
   rw [if_neg (show ¬ (!true) = true from fun h => by cases h), atP_of, rd, gI_of, newK_eq, s1, Option.bind_some, rd2, gI_of, letK_eq, wrap64 (by omega) (by omega), show ((j : Int) + 1) = ((j + 1 : Nat) : Int) by omega, s2, Option.bind_some, r1]
   exact ⟨h', k, rfl, r2⟩
theorem free_ok {h : Heap} {s : Sc} {n K : Nat} (H : SCM h s n) (hK : K ≤ 1000) (hA : s.A.length ≤ 1000000) (hr : ∀ x ∈ s.A, 0 ≤ x.r ∧ x.r < (n : Int)) :
 ∃ h' k, E 37 [.ptr (some ⟨s.S, 0, 0⟩), .int .i64 ((K : Nat) : Int)] h = some (.int .i64 ((k : Nat) : Int), h') ∧ Old h h' ∧ ((1 ≤ k ∧ k ≤ K ∧ ∀ y ∈ s.A, s.R[y.r.toNat]? ≠ some ((k : Nat) : Int)) ∨ (k = 0 ∧ ∀ i : Nat, 1 ≤ i → i ≤ K → ∃ y ∈ s.A, s.R[y.r.toNat]? = some ((i : Nat) : Int))) := by
 obtain ⟨h1, e1⟩ : ∃ h1, h1 = h ++ [.cells [.ptr (some ⟨s.S, 0, 0⟩)] .fix 0] := ⟨_, rfl⟩
 have o1 : Old h h1 := by rw [e1]; exact old_app _ _
 have hP : h1[h.length]? = some (.cells [.ptr (some ⟨s.S, 0, 0⟩)] .fix 0) := by rw [e1]; exact last_get _ _
 have s1 : st1 (h1 ++ [.cells [.int .i64 0] .fix 0]) ⟨h1.length, 0, 0⟩ (.int .i64 1) = some (h1 ++ [.cells [.int .i64 ((1 : Nat) : Int)] .fix 0]) := by
  rw [st1_at (last_get _ _) (by simp) (by simp), set_last]; rfl
 obtain ⟨h', k, r1, r2, r3⟩ := free_loop (P1 := h.length) (H.old o1) hK hA hr hP K 1 h1.length (by omega) (Nat.le_refl _) _ (old_app h1 [.cells [.int .i64 ((1 : Nat) : Int)] .fix 0]) (last_get h1 (.cells [.int .i64 ((1 : Nat) : Int)] .fix 0)) (fun i i1 i2 => by omega)
 refine ⟨h', k, ?_, o1.trans r2, r3⟩
 rw [e37, newK_eq, ← e1, newK_eq, s1, Option.bind_some, r1]
theorem e76 (args : List AV) (h : Heap) : E 76 args h = rngP args h := EV_prim (by unfold T0; rfl) args h
theorem rg_pl (x : Rg) : ∀ u ∈ rgC x, Pl u := fun u hu => by
 unfold rgC at hu
 simp only [List.mem_cons, List.not_mem_nil, or_false] at hu
 rcases hu with rfl | rfl | rfl | rfl <;> trivial
theorem rgs_len (l : List Rg) : (l.flatMap rgC).length = l.length * 4 := by
 induction l with
 | nil => rfl
 | cons z l ih => rw [List.flatMap_cons, List.length_append, rg_len, ih, List.length_cons, Nat.succ_mul]; omega
def insA (l : List Rg) (i : Nat) (x : Rg) : List Rg := l.take i ++ x :: l.drop i
theorem insA_perm (l : List Rg) (i : Nat) (x : Rg) : (insA l i x).Perm (x :: l) := by
 unfold insA
 have := List.perm_middle (a := x) (l₁ := l.take i) (l₂ := l.drop i)
 rw [List.take_append_drop] at this
 exact this
theorem insert_ok {h : Heap} {s : SA} {m : Nat} {l : List Rg} (H : RS h s m 4 (l.flatMap rgC)) (hl : l.length = m) (hm : m ≤ 1000000) {i V : Nat} (hi : i ≤ m) {x : Rg} (hV : h[V]? = some (.cells (rgC x) (.grow 4) 0)) (nV : ¬ inS s V) :
 ∃ s' h', E 76 [.sl s m, .int .i64 ((i : Nat) : Int), .sl (.pos ⟨V, 0, 0⟩) 1] h = some (.sl s' (m + 1), h') ∧ RS h' s' (m + 1) 4 ((insA l i x).flatMap rgC) ∧ Kp (inS s) h h' ∧ (∀ b, inS s' b → inS s b ∨ h.length ≤ b) ∧ h.length ≤ h'.length := by
 obtain ⟨h1, h2, h3⟩ := H
 have ln : (insA l i x).length = m + 1 := by rw [(insA_perm l i x).length_eq, List.length_cons, hl]
 have tk : (List.drop 0 (rgC x)).take 4 = rgC x := rfl
 have pl : ∀ u ∈ l.flatMap rgC, Pl u := fun u hu => by
  obtain ⟨y, _, hy⟩ := List.mem_flatMap.1 hu
  exact rg_pl y u hy
 rw [e76]
 rcases h3 with ⟨rfl, rfl⟩ | ⟨b, v, c, rfl, h4, h5, h6⟩
 · have l0 : l = [] := List.length_eq_zero_iff.1 hl
   have i0 : i = 0 := by omega
   subst l0 i0
   refine ⟨.pos ⟨h.length, 0, 0⟩, h ++ [.cells (rgC x) (.grow 4) 0], ?_, ⟨rfl, rfl, .inr ⟨_, _, _, rfl, last_get _ _, Nat.le_refl _, rfl⟩⟩, (old_app _ _).kp _, fun b ⟨a, ha, hb⟩ => by cases ha; right; simp only at hb; omega, by simp⟩
   simp only [rngP, hV]
   rw [if_pos ⟨rfl, by simp, by rw [tk]; rfl, by rw [tk]; exact rg_pl x, by omega, by omega⟩, if_pos trivial, tk]
 · have cs : (List.drop 0 c).take (m * 4) = l.flatMap rgC := by rw [List.drop_zero]; exact h6
   have nVb : V ≠ b := fun e => nV ⟨_, rfl, e.symm⟩
   refine ⟨.pos ⟨b, v + 1, 0⟩, h.set b (.cells (insN (l.flatMap rgC) (rgC x) (i * 4)) (.grow 4) (v + 1)), ?_, ⟨by rw [rgs_len, ln], rows_flat rg_flat _, .inr ⟨b, v + 1, _, rfl, set_same h4, ?_, ?_⟩⟩, kp_set _ _ _ _ ⟨_, rfl, rfl⟩, fun z ⟨a, ha, hz⟩ => by cases ha; exact .inl ⟨_, rfl, hz⟩, by simp⟩
   · simp only [rngP, hV, h4]
     rw [if_pos ⟨rfl, by simp, by rw [tk]; rfl, by rw [tk]; exact rg_pl x, by omega, by omega⟩, if_pos ⟨rfl, by show 0 + m * 4 ≤ c.length; omega, nVb, by omega, by rw [cs]; exact pl⟩, cs, tk, Int.toNat_natCast]
   · rw [insN_len (by rw [rgs_len, hl]; omega), rgs_len, hl, rg_len]; omega
   · have e : insN (l.flatMap rgC) (rgC x) (i * 4) = (insA l i x).flatMap rgC := by
      unfold insN insA
      have e1 : l.flatMap rgC = (l.take i).flatMap rgC ++ (l.drop i).flatMap rgC := by rw [← List.flatMap_append, List.take_append_drop]
      have tl : ((l.take i).flatMap rgC).length = i * 4 := by rw [rgs_len, List.length_take, Nat.min_eq_left (by omega)]
      rw [e1, List.take_left' tl, List.drop_left' tl, List.flatMap_append, List.flatMap_cons, List.append_assoc]
     rw [e, List.take_of_length_le (by rw [rgs_len, ln]; omega)]
def EnterR (s s' : Sc) (x : Rg) (k : Int) : Prop := ∃ i : Nat, s' = { s with sA := s'.sA, A := insA s.A i x, R := s.R.set x.r.toNat k, T := s.T.set x.r.toNat (-1) }
theorem enter_ok {h : Heap} {s : Sc} {n : Nat} {x : Rg} (H : SCM h s n) (hx : 0 ≤ x.r ∧ x.r < (n : Int)) (hA : s.A.length ≤ 100000) (k : Int) :
 ∃ h' s', E 38 [.ptr (some ⟨s.S, 0, 0⟩), .agg (rgC x), .int .i64 k] h = some (.tup [], h') ∧ SCM h' s' n ∧ EnterR s s' x k ∧ Kp s.owns h h' ∧ h.length ≤ h'.length ∧ ∀ b, s'.owns b → s.owns b ∨ h.length ≤ b := by
 obtain ⟨h1, e1⟩ : ∃ h1, h1 = h ++ [.cells (rgC x) .fix 0] := ⟨_, rfl⟩
 have o1 : Old h h1 := by rw [e1]; exact old_app _ _
 have hX : h1[h.length]? = some (.cells (rgC x) .fix 0) := by rw [e1]; exact last_get _ _
 have nX : ¬ s.owns h.length := fun hh => Nat.lt_irrefl _ (H.lt _ hh)
 have H1 := H.old o1
 have l1 : h1.length = h.length + 1 := by rw [e1]; simp
 obtain ⟨h2, h3, b1, b2, b3, b4, b5, b6, b7⟩ := H1.setRT (r := x.r.toNat) (by omega) k (-1)
 have hX2 := b3 _ _ hX fun hh => nX (.inr (.inl hh))
 have hX3 := b4 _ _ hX (by
  rintro (hh | hh)
  · exact nX (.inr (.inl hh))
  · exact nX (.inr (.inr (.inl hh))))
 have r0 : ld1 h1 ⟨s.S, 0, 0 + 0 + 0⟩ = some (.sl (.pos ⟨s.RB, 0, 0⟩) n) := H1.ld 0 (.sl (.pos ⟨s.RB, 0, 0⟩) n) rfl rfl
 have r1 : ld1 h1 ⟨s.S, 0, 0 + 0 + 1⟩ = some (.sl (.pos ⟨s.TB, 0, 0⟩) n) := H1.ld 1 (.sl (.pos ⟨s.TB, 0, 0⟩) n) rfl rfl
 have x0 : ld1 h1 ⟨h.length, 0, 0 + 0⟩ = some (.int .i64 x.r) := ld1_at hX rfl rfl
 have l3 : ld1 h3 ⟨s.S, 0, 0 + 3⟩ = some (.sl s.sA s.A.length) := b7.ld 3 (.sl s.sA s.A.length) rfl rfl
 have x2 : ld1 h3 ⟨h.length, 0, 0 + 2⟩ = some (.int .i64 x.e) := ld1_at hX3 rfl rfl
 have same : ldN h2 ⟨h.length, 0, 0 + 0⟩ 1 = ldN h1 ⟨h.length, 0, 0 + 0⟩ 1 := by simp only [ldN, hX, hX2]
 have cl : FnP 75 [.ptr (some ⟨h.length, 0, 0⟩)] (fun y => decide (x.e < y.e)) h3 s.A := fun y hy => by
  show E 75 [.agg (rgC y), .ptr (some ⟨h.length, 0, 0⟩)] h3 = _
  unfold rgC
  rw [e75, atP_of, add_mk, x2, gI_of, letK_eq]
 have tail : ∀ i : Nat, i ≤ s.A.length → ∃ h' s', J38x6 mk0 E (some ⟨s.S, 0, 0⟩) (some ⟨h.length, 0, 0⟩) ((i : Nat) : Int) h3 = some (.tup [], h') ∧ SCM h' s' n ∧ EnterR s s' x k ∧ Kp s.owns h h' ∧ h.length ≤ h'.length ∧ ∀ b, s'.owns b → s.owns b ∨ h.length ≤ b := fun i hi => by
  obtain ⟨h4, e4⟩ : ∃ h4, h4 = h3 ++ [.cells (rgC x) (.grow 4) 0] := ⟨_, rfl⟩
  have o4 : Old h3 h4 := by rw [e4]; exact old_app _ _
  have hV : h4[h3.length]? = some (.cells (rgC x) (.grow 4) 0) := by rw [e4]; exact last_get _ _
  have l4 : h4.length = h3.length + 1 := by rw [e4]; simp
  have a4 : RS h4 s.sA s.A.length 4 (s.A.flatMap rgC) := rs_kp b7.a (o4.kp fun _ => False) fun _ _ h => h
  have nV : ¬ inS s.sA h3.length := fun hh => Nat.lt_irrefl _ (rs_lt b7.a hh)
  obtain ⟨sA', h5, p1, p2, p3, p4, p5⟩ := insert_ok a4 rfl (by omega) hi hV nV
  have ln : (insA s.A i x).length = s.A.length + 1 := by rw [(insA_perm s.A i x).length_eq, List.length_cons]
  have kA : Kp (inS s.sA) h3 h5 := fun z y hz hb => p3 z y (o4 _ _ hz) hb
  obtain ⟨h6, q1, q2, q3, q4⟩ := b7.newA (sA' := sA') (A' := insA s.A i x) kA (by rw [ln]; exact p2) (fun z hz => by
   rcases p4 z hz with h | h
   · exact .inl h
   · right; omega)
  have q1' : st1 h5 ⟨s.S, 0, 0 + 3⟩ (.sl sA' (s.A.length + 1)) = some h6 := by rw [ln] at q1; exact q1
  have rdX : ldN h3 ⟨h.length, 0, 0⟩ 4 = some (rgC x) := by
   unfold ldN
   rw [hX3]
   dsimp only
   rw [if_pos ⟨rfl, by show 0 + 4 ≤ 4; omega, rfl⟩]
   rfl
  refine ⟨h6, _, ?_, q4, ⟨i, rfl⟩, fun z y hz hb => q3 _ _ (kA _ _ (b4 _ _ (o1 _ _ hz) ?_) fun hh => hb (.inr (.inr (.inr (.inl hh))))) fun hh => hb (.inl hh), by omega, fun z hz => ?_⟩
  · unfold rgC at rdX e4
    rw [J38x6xeq, atP_of, add_mk, l3, gL_of, atP_of, rdX, gCells_of]
    simp only [List.getElem?_cons_zero, List.getElem?_cons_succ]
    rw [gI_of, gI_of, gI_of, gB_of, newK_eq, ← e4, p1, Option.bind_some, gL_of, atP_of, add_mk, q1', Option.bind_some]
  · rintro (hh | hh)
    · exact hb (.inr (.inl hh))
    · exact hb (.inr (.inr (.inl hh)))
  · rcases hz with hh | hh | hh | hh | hh
    · exact .inl (.inl hh)
    · exact .inl (.inr (.inl hh))
    · exact .inl (.inr (.inr (.inl hh)))
    · rcases p4 _ hh with h | h
      · exact .inl (.inr (.inr (.inr (.inl h))))
      · exact .inr (by omega)
    · exact .inl (.inr (.inr (.inr (.inr hh))))
 have hd : ∀ i : Int, E 70 [.sl s.sA s.A.length, .fn 75 [] [.ptr (some ⟨h.length, 0, 0⟩)]] h3 = some (.int .i64 i, h3) → E 38 [.ptr (some ⟨s.S, 0, 0⟩), .agg (rgC x), .int .i64 k] h = (if i < 0 then J38x6 mk0 E (some ⟨s.S, 0, 0⟩) (some ⟨h.length, 0, 0⟩) ((s.A.length : Nat) : Int) h3 else J38x6 mk0 E (some ⟨s.S, 0, 0⟩) (some ⟨h.length, 0, 0⟩) i h3) := fun i hi => by
  have b1' : st1 h1 ⟨s.RB, 0, 0 + x.r.toNat * 1⟩ (.int .i64 k) = some h2 := b1
  have b2' : st1 h2 ⟨s.TB, 0, 0 + x.r.toNat * 1⟩ (.int .i64 (-1)) = some h3 := b2
  unfold rgC at *
  rw [e38, newK_eq, ← e1, atP_of, add_mk, add_mk, r0, gL_of, add_mk, x0, gI_of, atP_of, add_mk, add_mk, r1, gL_of, gI_of, chk_of (by intro _; omega), adP_pos, atP_of, add_mk, b1', Option.bind_some, chkC_of (fun _ => same), chk_of (by intro _; omega), adP_pos, atP_of, add_mk, b2', Option.bind_some, atP_of, add_mk, l3, gL_of, hi, Option.bind_some, gI_of, letK_eq]
  by_cases h0 : i < 0
  · rw [if_pos (decide_eq_true h0), if_pos h0, atP_of, add_mk, l3, gL_of]
  · rw [if_neg (by simpa using h0), if_neg h0]
 rcases rgidx_ok cl b7.vsA (by show s.A.length ≤ _; omega) with ⟨i, y, i1, i2, i3, i4, i5⟩ | ⟨i1, i2⟩
 · obtain ⟨h', s', t1, t2⟩ := tail i (Nat.le_of_lt i1)
   exact ⟨h', s', by rw [hd _ i5, if_neg (by omega)]; exact t1, t2⟩
 · obtain ⟨h', s', t1, t2⟩ := tail s.A.length (Nat.le_refl _)
   exact ⟨h', s', by rw [hd _ i2, if_pos (by omega)]; exact t1, t2⟩
end Go.Proofs.Ytnmdadadjneaiaa.D
/- linear, plain: what the scan knows. -/
set_option linter.unusedVariables false
set_option linter.unusedSimpArgs false
namespace Go.Proofs.Ytnmdadadjneaiaa.D
open Go Go.Proofs.Ytnmdadadjneaiaa.Abs Go.Proofs
def meet (x y : Rg) : Prop := x.b ≤ y.e ∧ y.b ≤ x.e
structure LI (K n : Nat) (Ev : Prop) (p : List Rg) (bd : Int) (R T : List Int) (A : List Rg) (Es : List Int) : Prop where
 rl : R.length = n
 tl : T.length = n
 out : ∀ r : Nat, r < n → (∀ x ∈ p, x.r ≠ (r : Int)) → R[r]? = some (-1) ∧ T[r]? = some (-1)
 pl : ∀ x ∈ p, (∃ a, R[x.r.toNat]? = some a ∧ (1 ≤ a ∧ a ≤ (K : Int)) ∧ T[x.r.toNat]? = some (-1)) ∨ (R[x.r.toNat]? = some (-1) ∧ ∃ i : Nat, T[x.r.toNat]? = some (i : Int) ∧ ∃ y, Es[i]? = some y ∧ x.e ≤ y)
 sl : ∀ x ∈ p, x.s = true → R[x.r.toNat]? = some (-1)
 rr : ∀ x ∈ p, ∀ y ∈ p, x.r ≠ y.r → meet x y → ∀ a, R[x.r.toNat]? = some a → R[y.r.toNat]? = some a → a = -1
 tt : ∀ x ∈ p, ∀ y ∈ p, x.r ≠ y.r → meet x y → ∀ b, T[x.r.toNat]? = some b → T[y.r.toNat]? = some b → b = -1
 ac : ∀ x ∈ A, x ∈ p ∧ ∃ a, R[x.r.toNat]? = some a ∧ 1 ≤ a
 cv : ∀ x ∈ p, ∀ a, R[x.r.toNat]? = some a → 1 ≤ a → x ∈ A ∨ x.e < bd
 be : ∀ x ∈ p, x.b ≤ bd
 nd : A.Nodup
 el : A.length + Es.length ≤ p.length
 en : Ev → Es = []
structure LR (n : Nat) (l : List Rg) : Prop where
 ok : ∀ x ∈ l, (1 ≤ x.r ∧ x.r < (n : Int)) ∧ 0 ≤ x.b ∧ x.b ≤ x.e
 ne : l.Pairwise fun x y => x.r ≠ y.r
 so : l.Pairwise fun x y => x.b ≤ y.b
theorem LI.exp {K n : Nat} {Ev : Prop} {p : List Rg} {bd : Int} {R T : List Int} {A : List Rg} {Es : List Int} (H : LI K n Ev p bd R T A Es) {c : Int} (hc : bd ≤ c) : LI K n Ev p c R T (A.filter fun y => !decide (y.e < c)) Es :=
 ⟨H.rl, H.tl, H.out, H.pl, H.sl, H.rr, H.tt, fun x hx => H.ac x (List.mem_filter.1 hx).1, fun x hx a ha h1 => by
  rcases H.cv x hx a ha h1 with h | h
  · by_cases he : x.e < c
    · exact .inr he
    · exact .inl (List.mem_filter.2 ⟨h, by simp [he]⟩)
  · exact .inr (by omega), fun x hx => by have := H.be x hx; omega, H.nd.filter _, by have := H.el; have := List.length_filter_le (fun y => !decide (y.e < c)) A; omega, H.en⟩
theorem set_other_r {l : List Int} {x y : Rg} (hx : 0 ≤ x.r) (hy : 0 ≤ y.r) (h : x.r ≠ y.r) (v : Int) : (l.set x.r.toNat v)[y.r.toNat]? = l[y.r.toNat]? := List.getElem?_set_ne (by omega)
theorem LI.slot {K n : Nat} {Ev : Prop} {p : List Rg} {R T : List Int} {A : List Rg} {Es Es' : List Int} {x : Rg} (H : LI K n Ev p x.b R T A Es) (hp : ∀ y ∈ p, 0 ≤ y.r) (hx : (1 ≤ x.r ∧ x.r < (n : Int)) ∧ 0 ≤ x.b ∧ x.b ≤ x.e) (nx : ∀ y ∈ p, y.r ≠ x.r) (nev : ¬ Ev) {i : Nat} (hi : (∃ y, Es[i]? = some y ∧ y < x.b ∧ Es' = Es.set i x.e) ∨ (i = Es.length ∧ Es' = Es ++ [x.e])) :
 LI K n Ev (p ++ [x]) x.b (R.set x.r.toNat (-1)) (T.set x.r.toNat (i : Int)) A Es' := by
 have rl := H.rl
 have tl := H.tl
 have gx : (R.set x.r.toNat (-1))[x.r.toNat]? = some (-1) := List.getElem?_set_self (by omega)
 have gt : (T.set x.r.toNat (i : Int))[x.r.toNat]? = some (i : Int) := List.getElem?_set_self (by omega)
 have oR : ∀ y ∈ p, (R.set x.r.toNat (-1))[y.r.toNat]? = R[y.r.toNat]? := fun y hy => set_other_r (by omega) (hp y hy) (Ne.symm (nx y hy)) _
 have oT : ∀ y ∈ p, (T.set x.r.toNat (i : Int))[y.r.toNat]? = T[y.r.toNat]? := fun y hy => set_other_r (by omega) (hp y hy) (Ne.symm (nx y hy)) _
 have ex : Es'[i]? = some x.e := by
  rcases hi with ⟨y, h1, h2, h3⟩ | ⟨h1, h2⟩
  · rw [h3, List.getElem?_set_self (List.getElem?_eq_some_iff.1 h1).1]
  · rw [h2, h1]; simp
 have mono : ∀ (j : Nat) y e, Es[j]? = some y → e ≤ y → ∃ y', Es'[j]? = some y' ∧ e ≤ y' := fun j y e hj he => by
  rcases hi with ⟨z, h1, h2, h3⟩ | ⟨h1, h2⟩
  · by_cases hji : j = i
    · rw [hji, h1] at hj
      cases hj
      exact ⟨x.e, by rw [hji]; exact ex, by omega⟩
    · exact ⟨y, by rw [h3, List.getElem?_set_ne (Ne.symm hji)]; exact hj, he⟩
  · exact ⟨y, by rw [h2, List.getElem?_append_left (List.getElem?_eq_some_iff.1 hj).1]; exact hj, he⟩
 have ended : ∀ y ∈ p, T[y.r.toNat]? = some (i : Int) → ¬ meet x y ∧ ¬ meet y x := fun y hy ht => by
  have key : y.e < x.b := by
   rcases H.pl y hy with ⟨a, _, _, h⟩ | ⟨_, j, h1, z, h2, h3⟩
   · rw [ht] at h; injection h with h; omega
   · rw [ht] at h1
     injection h1 with h1
     have : j = i := by omega
     subst this
     rcases hi with ⟨w, g1, g2, g3⟩ | ⟨g1, g2⟩
     · rw [g1] at h2; cases h2; omega
     · have := (List.getElem?_eq_some_iff.1 h2).1; omega
  exact ⟨fun h => by have := h.1; omega, fun h => by have := h.2; omega⟩
 refine ⟨by rw [List.length_set]; exact rl, by rw [List.length_set]; exact tl, fun r hr h => ?_, fun y hy => ?_, fun y hy hs => ?_, fun y hy z hz ne m a h1 h2 => ?_, fun y hy z hz ne m b h1 h2 => ?_, fun y hy => ?_, fun y hy a ha h1 => ?_, fun y hy => ?_, H.nd, ?_, fun h => absurd h nev⟩
 · have hne := h x (by simp)
   obtain ⟨g1, g2⟩ := H.out r hr fun y hy => h y (by simp [hy])
   rw [List.getElem?_set_ne (by omega), List.getElem?_set_ne (by omega)]
   exact ⟨g1, g2⟩
 · rcases List.mem_append.1 hy with hy | hy
   · rw [oR y hy, oT y hy]
     rcases H.pl y hy with h | ⟨h1, j, h2, z, h3, h4⟩
     · exact .inl h
     · obtain ⟨y', g1, g2⟩ := mono j z y.e h3 h4
       exact .inr ⟨h1, j, h2, y', g1, g2⟩
   · rw [List.mem_singleton] at hy
     subst hy
     exact .inr ⟨gx, i, gt, _, ex, Int.le_refl _⟩
 · rcases List.mem_append.1 hy with hy | hy
   · rw [oR y hy]; exact H.sl y hy hs
   · rw [List.mem_singleton] at hy
     subst hy; exact gx
 · rcases List.mem_append.1 hy with hy | hy
   · rw [oR y hy] at h1
     rcases List.mem_append.1 hz with hz | hz
     · rw [oR z hz] at h2
       exact H.rr y hy z hz ne m a h1 h2
     · rw [List.mem_singleton] at hz
       rw [hz, gx] at h2
       injection h2 with h2; exact h2.symm
   · rw [List.mem_singleton] at hy
     rw [hy, gx] at h1
     injection h1 with h1; exact h1.symm
 · rcases List.mem_append.1 hy with hy | hy
   · rw [oT y hy] at h1
     rcases List.mem_append.1 hz with hz | hz
     · rw [oT z hz] at h2
       exact H.tt y hy z hz ne m b h1 h2
     · rw [List.mem_singleton] at hz
       rw [hz, gt] at h2
       injection h2 with h2
       rw [← h2] at h1
       rw [hz] at m
       exact absurd m (ended y hy h1).2
   · rw [List.mem_singleton] at hy
     rw [hy, gt] at h1
     injection h1 with h1
     rcases List.mem_append.1 hz with hz | hz
     · rw [oT z hz, ← h1] at h2
       rw [hy] at m
       exact absurd m (ended z hz h2).1
     · rw [List.mem_singleton] at hz
       exact absurd (by rw [hy, hz]) ne
 · obtain ⟨h1, a, h2, h3⟩ := H.ac y hy
   exact ⟨by simp [h1], a, by rw [oR y h1]; exact h2, h3⟩
 · rcases List.mem_append.1 hy with hy | hy
   · rw [oR y hy] at ha
     exact H.cv y hy a ha h1
   · rw [List.mem_singleton] at hy
     rw [hy, gx] at ha
     injection ha with ha; omega
 · rcases List.mem_append.1 hy with hy | hy
   · exact H.be y hy
   · rw [List.mem_singleton] at hy
     rw [hy]; exact Int.le_refl _
 · have := H.el
   rcases hi with ⟨z, h1, h2, h3⟩ | ⟨h1, h2⟩
   · rw [h3]; simp; omega
   · rw [h2]; simp; omega
theorem LI.enter {K n : Nat} {Ev : Prop} {p : List Rg} {R T : List Int} {A A' : List Rg} {Es : List Int} {x : Rg} (H : LI K n Ev p x.b R T A Es) (hp : ∀ y ∈ p, 0 ≤ y.r) (hx : (1 ≤ x.r ∧ x.r < (n : Int)) ∧ 0 ≤ x.b ∧ x.b ≤ x.e) (nx : ∀ y ∈ p, y.r ≠ x.r) (hs : x.s = false) {k : Int} (hk : 1 ≤ k ∧ k ≤ (K : Int)) (fr : ∀ y ∈ p, R[y.r.toNat]? = some k → y.e < x.b) (pA : A'.Perm (x :: A)) :
 LI K n Ev (p ++ [x]) x.b (R.set x.r.toNat k) (T.set x.r.toNat (-1)) A' Es := by
 have rl := H.rl
 have tl := H.tl
 have gx : (R.set x.r.toNat k)[x.r.toNat]? = some k := List.getElem?_set_self (by omega)
 have gt : (T.set x.r.toNat (-1))[x.r.toNat]? = some (-1) := List.getElem?_set_self (by omega)
 have oR : ∀ y ∈ p, (R.set x.r.toNat k)[y.r.toNat]? = R[y.r.toNat]? := fun y hy => set_other_r (by omega) (hp y hy) (Ne.symm (nx y hy)) _
 have oT : ∀ y ∈ p, (T.set x.r.toNat (-1))[y.r.toNat]? = T[y.r.toNat]? := fun y hy => set_other_r (by omega) (hp y hy) (Ne.symm (nx y hy)) _
 refine ⟨by rw [List.length_set]; exact rl, by rw [List.length_set]; exact tl, fun r hr h => ?_, fun y hy => ?_, fun y hy hs' => ?_, fun y hy z hz ne m a h1 h2 => ?_, fun y hy z hz ne m b h1 h2 => ?_, fun y hy => ?_, fun y hy a ha h1 => ?_, fun y hy => ?_, ?_, by have := H.el; rw [pA.length_eq]; simp; omega, H.en⟩
 · have hne := h x (by simp)
   obtain ⟨g1, g2⟩ := H.out r hr fun y hy => h y (by simp [hy])
   rw [List.getElem?_set_ne (by omega), List.getElem?_set_ne (by omega)]
   exact ⟨g1, g2⟩
 · rcases List.mem_append.1 hy with hy | hy
   · rw [oR y hy, oT y hy]; exact H.pl y hy
   · rw [List.mem_singleton] at hy
     subst hy
     exact .inl ⟨k, gx, hk, gt⟩
 · rcases List.mem_append.1 hy with hy | hy
   · rw [oR y hy]; exact H.sl y hy hs'
   · rw [List.mem_singleton] at hy
     rw [hy, hs] at hs'; cases hs'
 · rcases List.mem_append.1 hy with hy | hy
   · rw [oR y hy] at h1
     rcases List.mem_append.1 hz with hz | hz
     · rw [oR z hz] at h2
       exact H.rr y hy z hz ne m a h1 h2
     · rw [List.mem_singleton] at hz
       rw [hz, gx] at h2
       injection h2 with h2
       rw [← h2] at h1
       have := fr y hy h1
       rw [hz] at m
       have := m.2; omega
   · rw [List.mem_singleton] at hy
     rw [hy, gx] at h1
     injection h1 with h1
     rcases List.mem_append.1 hz with hz | hz
     · rw [oR z hz, ← h1] at h2
       have := fr z hz h2
       rw [hy] at m
       have := m.1; omega
     · rw [List.mem_singleton] at hz
       exact absurd (by rw [hy, hz]) ne
 · rcases List.mem_append.1 hy with hy | hy
   · rw [oT y hy] at h1
     rcases List.mem_append.1 hz with hz | hz
     · rw [oT z hz] at h2
       exact H.tt y hy z hz ne m b h1 h2
     · rw [List.mem_singleton] at hz
       rw [hz, gt] at h2
       injection h2 with h2; exact h2.symm
   · rw [List.mem_singleton] at hy
     rw [hy, gt] at h1
     injection h1 with h1; exact h1.symm
 · rcases List.mem_cons.1 (pA.mem_iff.1 hy) with e | hy
   · subst e
     exact ⟨by simp, k, gx, hk.1⟩
   · obtain ⟨h1, a, h2, h3⟩ := H.ac y hy
     exact ⟨by simp [h1], a, by rw [oR y h1]; exact h2, h3⟩
 · rcases List.mem_append.1 hy with hy | hy
   · rw [oR y hy] at ha
     exact (H.cv y hy a ha h1).imp (fun h => pA.mem_iff.2 (.tail _ h)) id
   · rw [List.mem_singleton] at hy
     rw [hy]
     exact .inl (pA.mem_iff.2 (.head _))
 · rcases List.mem_append.1 hy with hy | hy
   · exact H.be y hy
   · rw [List.mem_singleton] at hy
     rw [hy]; exact Int.le_refl _
 · refine pA.nodup_iff.2 (List.nodup_cons.2 ⟨fun h => ?_, H.nd⟩)
   exact nx x (H.ac x h).1 rfl
theorem LI.spill {K n : Nat} {Ev : Prop} {p : List Rg} {bd : Int} {R T : List Int} {A : List Rg} {Es : List Int} {z : Rg} (H : LI K n Ev p bd R T (A ++ [z]) Es) (hp : ∀ y ∈ p, 0 ≤ y.r ∧ y.r < (n : Int)) (uq : ∀ x ∈ p, ∀ y ∈ p, x.r = y.r → x = y) (nev : ¬ Ev) :
 LI K n Ev p bd (R.set z.r.toNat (-1)) (T.set z.r.toNat ((Es.length : Nat) : Int)) A (Es ++ [z.e]) := by
 have zp := (H.ac z (by simp)).1
 have zb := hp z zp
 have rl := H.rl
 have tl := H.tl
 have gx : (R.set z.r.toNat (-1))[z.r.toNat]? = some (-1) := List.getElem?_set_self (by omega)
 have gt : (T.set z.r.toNat ((Es.length : Nat) : Int))[z.r.toNat]? = some ((Es.length : Nat) : Int) := List.getElem?_set_self (by omega)
 have oR : ∀ y ∈ p, y ≠ z → (R.set z.r.toNat (-1))[y.r.toNat]? = R[y.r.toNat]? := fun y hy hn => set_other_r zb.1 (hp y hy).1 (fun e => hn (uq y hy z zp e.symm)) _
 have oT : ∀ y ∈ p, y ≠ z → (T.set z.r.toNat ((Es.length : Nat) : Int))[y.r.toNat]? = T[y.r.toNat]? := fun y hy hn => set_other_r zb.1 (hp y hy).1 (fun e => hn (uq y hy z zp e.symm)) _
 have fresh : ∀ y ∈ p, T[y.r.toNat]? ≠ some ((Es.length : Nat) : Int) := fun y hy hh => by
  rcases H.pl y hy with ⟨a, _, _, h⟩ | ⟨_, j, h1, w, h2, h3⟩
  · rw [hh] at h; injection h with h; omega
  · rw [hh] at h1
    injection h1 with h1
    have := (List.getElem?_eq_some_iff.1 h2).1
    omega
 refine ⟨by rw [List.length_set]; exact rl, by rw [List.length_set]; exact tl, fun r hr h => ?_, fun y hy => ?_, fun y hy hs => ?_, fun y hy w hw ne m a h1 h2 => ?_, fun y hy w hw ne m b h1 h2 => ?_, fun y hy => ?_, fun y hy a ha h1 => ?_, H.be, (List.nodup_append.1 H.nd).1, ?_, fun h => absurd h nev⟩
 · have hne := h z zp
   obtain ⟨g1, g2⟩ := H.out r hr h
   rw [List.getElem?_set_ne (by omega), List.getElem?_set_ne (by omega)]
   exact ⟨g1, g2⟩
 · by_cases e : y = z
   · rw [e]
     exact .inr ⟨gx, Es.length, gt, z.e, by simp, Int.le_refl _⟩
   · rw [oR y hy e, oT y hy e]
     rcases H.pl y hy with h | ⟨h1, j, h2, w, h3, h4⟩
     · exact .inl h
     · exact .inr ⟨h1, j, h2, w, by rw [List.getElem?_append_left (List.getElem?_eq_some_iff.1 h3).1]; exact h3, h4⟩
 · by_cases e : y = z
   · rw [e]; exact gx
   · rw [oR y hy e]; exact H.sl y hy hs
 · by_cases e1 : y = z
   · rw [e1, gx] at h1
     injection h1 with h1; exact h1.symm
   · by_cases e2 : w = z
     · rw [e2, gx] at h2
       injection h2 with h2; exact h2.symm
     · rw [oR y hy e1] at h1
       rw [oR w hw e2] at h2
       exact H.rr y hy w hw ne m a h1 h2
 · by_cases e1 : y = z
   · by_cases e2 : w = z
     · exact absurd (by rw [e1, e2]) ne
     · rw [e1, gt] at h1
       rw [oT w hw e2, ← h1] at h2
       exact absurd h2 (fresh w hw)
   · by_cases e2 : w = z
     · rw [e2, gt] at h2
       rw [oT y hy e1, ← h2] at h1
       exact absurd h1 (fresh y hy)
     · rw [oT y hy e1] at h1
       rw [oT w hw e2] at h2
       exact H.tt y hy w hw ne m b h1 h2
 · obtain ⟨h1, a, h2, h3⟩ := H.ac y (by simp [hy])
   have e : y ≠ z := fun e => (List.nodup_append.1 H.nd).2.2 y hy z (by simp) e
   exact ⟨h1, a, by rw [oR y h1 e]; exact h2, h3⟩
 · by_cases e : y = z
   · rw [e, gx] at ha
     injection ha with ha; omega
   · rw [oR y hy e] at ha
     rcases H.cv y hy a ha h1 with h | h
     · rcases List.mem_append.1 h with h | h
       · exact .inl h
       · rw [List.mem_singleton] at h; exact absurd h e
     · exact .inr h
 · have := H.el
   rw [List.length_append] at this ⊢
   simp at this ⊢
   omega
end Go.Proofs.Ytnmdadadjneaiaa.D
/- linear.Allocate: the scan. -/
set_option linter.unusedVariables false
set_option linter.unusedSimpArgs false
namespace Go.Proofs.Ytnmdadadjneaiaa.D
open Go Go.Proofs.Ytnmdadadjneaiaa.Abs Go.Proofs
theorem rgdel_any {f : FuncId} {cs : List AV} {P : Rg → Bool} {h : Heap} {s : SA} {n : Nat} {l : List Rg} (H : RS h s n 4 (l.flatMap rgC)) (hl : l.length = n) (hf : ∀ h', Kp (inS s) h h' → FnP f cs P h' l) (hn : n ≤ 1000000) :
 ∃ h', E 34 [.sl s n, .fn f [] cs] h = some (.sl s (l.filter fun x => !P x).length, h') ∧ Kp (inS s) h h' ∧ h'.length = h.length ∧ RS h' s (l.filter fun x => !P x).length 4 ((l.filter fun x => !P x).flatMap rgC) := by
 obtain ⟨h1, h2, ⟨rfl, rfl⟩ | ⟨b, v, c, rfl, h3⟩⟩ := id H
 · have l0 : l = [] := List.length_eq_zero_iff.1 hl
   subst l0
   refine ⟨h, ?_, Kp.refl _ _, rfl, H⟩
   rw [e34]
   rcases rgidx_ok (hf h (Kp.refl _ _)) (rs_vs rg_len rfl H) (by omega) with ⟨i, x, h1, _⟩ | ⟨_, h5⟩
   · omega
   · have h5' : E 70 [.sl .nil 0, .fn f [] cs] h = some (.int .i64 (-1), h) := h5
     rw [h5', Option.bind_some, gI_of, letK_eq, if_pos (by simp)]; rfl
 · have ko : ∀ h h' : Heap, Kp (· = b) h h' → Kp (inS (.pos ⟨b, v, 0⟩)) h h' := fun h h' k => k.mono fun z hz => ⟨_, rfl, hz.symm⟩
   obtain ⟨h', r1, r2, r3, r4⟩ := rgdel_ok (v := v) ⟨H, hl⟩ (fun h' k => hf h' (ko _ _ k)) hn
   exact ⟨h', r1, ko _ _ r2, r3, r4.m⟩
theorem expired (h : Heap) {X : Nat} {x : Rg} (hX : h[X]? = some (.cells (rgC x) .fix 0)) (l : List Rg) : FnP 35 [.ptr (some ⟨X, 0, 0⟩)] (fun y => decide (y.e < x.b)) h l := fun y hy => by
 have x1 : ld1 h ⟨X, 0, 0 + 1⟩ = some (.int .i64 x.b) := ld1_at hX rfl rfl
 show E 35 [.agg (rgC y), .ptr (some ⟨X, 0, 0⟩)] h = _
 unfold rgC
 rw [e35, atP_of, add_mk, x1, gI_of, letK_eq]
theorem alin_loop {hb : Heap} {n K : Nat} {l : List Rg} {s64 : SA} (V : VS rgC 4 hb s64 l.length l) (L : LR n l) (hln : l.length ≤ 10000) (hK : 1 ≤ K ∧ K ≤ 10) {Ev : Prop} (hev : Ev → (∀ x ∈ l, x.s = false) ∧ ∀ x ∈ l, (l.filter fun y => decide (y.b ≤ x.b) && decide (x.b ≤ y.e)).length ≤ K) (s4x0 : SA) (n4x0 : Nat) (s4x1 : SA) (n4x1 : Nat) (i4x2 : Int) (Q : Kont (AV × Heap)) :
 ∀ (k j : Nat), j + k = l.length → ∀ (h : Heap) (s : Sc) (bd : Int), SCM h s n → Old hb h → (∀ b, s.owns b → hb.length ≤ b) → LI K n Ev (l.take j) bd s.R s.T s.A s.Es → (∀ x ∈ l.drop j, bd ≤ x.b) →
  ∃ h' s' bd', L12x27 mk0 E ((K : Nat) : Int) s4x0 n4x0 s4x1 n4x1 i4x2 (some ⟨s.S, 0, 0⟩) s64 l.length ((l.length : Nat) : Int) ((j : Nat) : Int) h Q = Q (.exit 2) (S12xe2 s4x0 n4x0 s4x1 n4x1 i4x2 (some ⟨s.S, 0, 0⟩) h') ∧ SCM h' s' n ∧ Old hb h' ∧ (∀ b, s'.owns b → hb.length ≤ b) ∧ s'.S = s.S ∧ LI K n Ev l bd' s'.R s'.T s'.A s'.Es := by
 intro k
 induction k with
 | zero =>
  intro j hj h s bd H o low I B
  rw [L12x27xeq, letK_eq, if_neg (by simp; omega)]
  rw [List.take_of_length_le (by omega)] at I
  exact ⟨h, s, bd, rfl, H, o, low, rfl, I⟩
 | succ k ih =>
  intro j hj h s bd H o low I B
  obtain ⟨x, hx⟩ := at_lt (l := l) (i := j) (by omega)
  have xm := List.mem_of_getElem? hx
  have xok := L.ok x xm
  have xr : 0 ≤ x.r ∧ x.r < (n : Int) := ⟨by omega, xok.1.2⟩
  have spl : l = l.take j ++ x :: l.drop (j + 1) := by rw [← drop_at hx, List.take_append_drop]
  have tk : l.take (j + 1) = l.take j ++ [x] := by rw [List.take_add_one, hx]; rfl
  have ptk : ∀ y ∈ l.take j, y ∈ l := fun y hy => List.mem_of_mem_take hy
  have pr : ∀ y ∈ l.take j, 0 ≤ y.r ∧ y.r < (n : Int) := fun y hy => by have := L.ok y (ptk y hy); omega
  have nx : ∀ y ∈ l.take j, y.r ≠ x.r := fun y hy => by
   have := L.ne
   rw [spl] at this
   exact (List.pairwise_append.1 this).2.2 y hy x (by simp)
  have uq : ∀ a ∈ l.take j, ∀ b ∈ l.take j, a.r = b.r → a = b := fun a ha b hb' e => by
   obtain ⟨i1, g1⟩ := List.getElem?_of_mem (ptk a ha)
   obtain ⟨i2, g2⟩ := List.getElem?_of_mem (ptk b hb')
   have pw := List.pairwise_iff_getElem.1 L.ne
   have t1 := List.getElem?_eq_some_iff.1 g1
   have t2 := List.getElem?_eq_some_iff.1 g2
   obtain ⟨t1, t1'⟩ := t1
   obtain ⟨t2, t2'⟩ := t2
   rcases Nat.lt_trichotomy i1 i2 with h | h | h
   · exact absurd (by rw [t1', t2']; exact e) (pw i1 i2 t1 t2 h)
   · subst h; rw [g1] at g2; cases g2; rfl
   · exact absurd (by rw [t1', t2']; exact e.symm) (pw i2 i1 t2 t1 h)
  have bx : bd ≤ x.b := B x (by rw [drop_at hx]; simp)
  have Bn : ∀ y ∈ l.drop (j + 1), x.b ≤ y.b := fun y hy => by
   have := L.so
   rw [spl] at this
   exact (List.pairwise_cons.1 (List.pairwise_append.1 this).2.1).1 y hy
  have lj : (l.take j).length = j := by rw [List.length_take]; omega
  obtain ⟨a, ha, la⟩ := vs_ld (vs_old V o) rg_flat j x hx
  have z1 := last_get h (.cells [AV.int .i64 0, .int .i64 0, .int .i64 0, .bool false] .fix 0)
  have st1' : stN (h ++ [.cells [AV.int .i64 0, .int .i64 0, .int .i64 0, .bool false] .fix 0]) ⟨h.length, 0, 0⟩ (rgC x) = some (h ++ [.cells (rgC x) .fix 0]) := by
   unfold stN
   simp only [z1]
   rw [if_pos ⟨trivial, by simp, by show 0 + 4 ≤ 4; omega⟩, set_last]
   rfl
  obtain ⟨h2, e2⟩ : ∃ h2, h2 = h ++ [.cells (rgC x) .fix 0] := ⟨_, rfl⟩
  rw [← e2] at st1'
  have o2 : Old h h2 := by rw [e2]; exact old_app _ _
  have hX : h2[h.length]? = some (.cells (rgC x) .fix 0) := by rw [e2]; exact last_get _ _
  have l2 : h2.length = h.length + 1 := by rw [e2]; simp
  have nX : ¬ s.owns h.length := fun hh => Nat.lt_irrefl _ (H.lt _ hh)
  have H2 := H.old o2
  have l3 := H2.ld 3 (.sl s.sA s.A.length) rfl rfl
  have elen := I.el
  obtain ⟨h3, d1, d2, d3, d4⟩ := rgdel_any (f := 35) (cs := [.ptr (some ⟨h.length, 0, 0⟩)]) (P := fun y => decide (y.e < x.b)) H2.a rfl (fun h' kk => expired h' (kk _ _ hX fun hh => nX (.inr (.inr (.inr (.inl hh))))) _) (by omega)
  obtain ⟨h4, q1, q2, q3, q4⟩ := H2.newA (sA' := s.sA) (A' := s.A.filter fun y => !decide (y.e < x.b)) d2 d4 (fun b hb => .inl hb)
  obtain ⟨s1, es1⟩ : ∃ s1 : Sc, s1 = { s with sA := s.sA, A := s.A.filter fun y => !decide (y.e < x.b) } := ⟨_, rfl⟩
  rw [← es1] at q4
  have es1S : s1.S = s.S := by rw [es1]
  have own1 : ∀ b, s1.owns b ↔ s.owns b := fun b => by rw [es1]; exact Iff.rfl
  have k24 : Kp s.owns h2 h4 := (d2.mono fun b hb => .inr (.inr (.inr (.inl hb)))).trans (q3.mono fun b hb => .inl hb)
  have hX4 := k24 _ _ hX nX
  have l4 : h4.length = h.length + 1 := by omega
  have I1 : LI K n Ev (l.take j) x.b s1.R s1.T s1.A s1.Es := by rw [es1]; exact I.exp bx
  have o4 : Old hb h4 := k24.old (o.trans o2) fun b hb hh => by have := low b hh; omega
  have xs : ld1 h4 ⟨h.length, 0, 0 + 3⟩ = some (.bool x.s) := ld1_at hX4 rfl rfl
  have rd : ∀ {g : Heap}, g[h.length]? = some (.cells (rgC x) .fix 0) → ldN g ⟨h.length, 0, 0⟩ 4 = some (rgC x) := fun {g} hg => by
   unfold ldN
   rw [hg]
   dsimp only
   rw [if_pos ⟨rfl, by show 0 + 4 ≤ 4; omega, rfl⟩]
   rfl
  have e1len := I1.el
  rw [lj] at e1len
  have head : L12x27 mk0 E ((K : Nat) : Int) s4x0 n4x0 s4x1 n4x1 i4x2 (some ⟨s.S, 0, 0⟩) s64 l.length ((l.length : Nat) : Int) ((j : Nat) : Int) h Q =
   (if x.s = true then (E 36 [.ptr (some ⟨s.S, 0, 0⟩), .agg (rgC x)] h4).bind fun r83 => gT 0 r83.1 true fun u83 => J12x56 mk0 E ((K : Nat) : Int) s4x0 n4x0 s4x1 n4x1 i4x2 (some ⟨s.S, 0, 0⟩) s64 l.length ((l.length : Nat) : Int) ((j : Nat) : Int) r83.2 Q
   else (E 37 [.ptr (some ⟨s.S, 0, 0⟩), .int .i64 ((K : Nat) : Int)] h4).bind fun r86 => gI .i64 (some r86.1) true fun i86 => letK (decide ((0 : Int) < i86)) fun b88 =>
    if b88 = true then gCells (ldN r86.2 ⟨h.length, 0, 0⟩ 4) true fun l90 => gI .i64 (l90[0]?) true fun i90x0 => gI .i64 (l90[1]?) true fun i90x1 => gI .i64 (l90[2]?) true fun i90x2 => gB (l90[3]?) true fun b90x3 =>
     (E 38 [.ptr (some ⟨s.S, 0, 0⟩), .agg [.int .i64 i90x0, .int .i64 i90x1, .int .i64 i90x2, .bool b90x3], .int .i64 i86] r86.2).bind fun r92 => gT 0 r92.1 true fun u92 => J12x56 mk0 E ((K : Nat) : Int) s4x0 n4x0 s4x1 n4x1 i4x2 (some ⟨s.S, 0, 0⟩) s64 l.length ((l.length : Nat) : Int) ((j : Nat) : Int) r92.2 Q
    else atP (some ⟨s.S, 0, 0⟩) true fun a94 => gL (ld1 r86.2 (Ad.add a94 3)) true fun s96 n96 => atP (some ⟨s.S, 0, 0⟩) true fun a98 => gL (ld1 r86.2 (Ad.add a98 3)) true fun s100 n100 => letK (IntKind.wrap .i64 ((n100 : Int) - 1)) fun i102 =>
     chk (true = true → 0 ≤ i102 ∧ i102 < (n96 : Int)) <| atP (adP s96) true fun a103 => gCells (ldN r86.2 (Ad.add a103 (Int.toNat i102 * 4)) 4) true fun l104 => gI .i64 (l104[0]?) true fun i104x0 => gI .i64 (l104[1]?) true fun i104x1 => gI .i64 (l104[2]?) true fun i104x2 => gB (l104[3]?) true fun b104x3 =>
     gI .i64 (ld1 r86.2 (Ad.add ⟨h.length, 0, 0⟩ 2)) true fun i108 => letK (decide (i104x2 ≤ i108)) fun b109 =>
     if b109 = true then gCells (ldN r86.2 ⟨h.length, 0, 0⟩ 4) true fun l111 => gI .i64 (l111[0]?) true fun i111x0 => gI .i64 (l111[1]?) true fun i111x1 => gI .i64 (l111[2]?) true fun i111x2 => gB (l111[3]?) true fun b111x3 =>
      (E 36 [.ptr (some ⟨s.S, 0, 0⟩), .agg [.int .i64 i111x0, .int .i64 i111x1, .int .i64 i111x2, .bool b111x3]] r86.2).bind fun r112 => gT 0 r112.1 true fun u112 => J12x56 mk0 E ((K : Nat) : Int) s4x0 n4x0 s4x1 n4x1 i4x2 (some ⟨s.S, 0, 0⟩) s64 l.length ((l.length : Nat) : Int) ((j : Nat) : Int) r112.2 Q
     else atP (some ⟨s.S, 0, 0⟩) true fun a115 => gL (ld1 r86.2 (Ad.add a115 3)) true fun s117 n117 => atP (some ⟨s.S, 0, 0⟩) true fun a119 => gL (ld1 r86.2 (Ad.add a119 3)) true fun s121 n121 => letK (IntKind.wrap .i64 ((n121 : Int) - 1)) fun i123 =>
      chkC (true = true → 0 ≤ i123 ∧ hiOk r86.2 s117 n117 4 i123) <| letK (Int.toNat i123) fun n124 => atP (some ⟨s.S, 0, 0⟩) true fun a125 => (st1 r86.2 (Ad.add a125 3) (.sl s117 n124)).bind fun h_5 =>
      atP (some ⟨s.S, 0, 0⟩) true fun a128 => gL (ld1 h_5 (Ad.add (Ad.add a128 0) 0)) true fun s131 n131 => chk (true = true → 0 ≤ i104x0 ∧ i104x0 < (n131 : Int)) <| atP (adP s131) true fun a134 => gI .i64 (ld1 h_5 (Ad.add a134 (Int.toNat i104x0 * 1))) true fun i135 =>
      (E 39 [.ptr (some ⟨s.S, 0, 0⟩), .agg [.int .i64 i104x0, .int .i64 i104x1, .int .i64 i104x2, .bool b104x3]] h_5).bind fun r138 => gT 0 r138.1 true fun u138 => gCells (ldN r138.2 ⟨h.length, 0, 0⟩ 4) true fun l140 => gI .i64 (l140[0]?) true fun i140x0 => gI .i64 (l140[1]?) true fun i140x1 => gI .i64 (l140[2]?) true fun i140x2 => gB (l140[3]?) true fun b140x3 =>
      (E 38 [.ptr (some ⟨s.S, 0, 0⟩), .agg [.int .i64 i140x0, .int .i64 i140x1, .int .i64 i140x2, .bool b140x3], .int .i64 i135] r138.2).bind fun r142 => gT 0 r142.1 true fun u142 => J12x56 mk0 E ((K : Nat) : Int) s4x0 n4x0 s4x1 n4x1 i4x2 (some ⟨s.S, 0, 0⟩) s64 l.length ((l.length : Nat) : Int) ((j : Nat) : Int) r142.2 Q) := by
   have rd4 := rd hX4
   unfold rgC at la st1' rd4 ⊢
   rw [L12x27xeq, letK_eq, if_pos (by simp; omega), chk_of (by intro _; omega), ha, atP_of, Int.toNat_natCast, la, gCells_of]
   simp only [List.getElem?_cons_zero, List.getElem?_cons_succ]
   rw [gI_of, gI_of, gI_of, gB_of, newK_eq, st1', Option.bind_some, atP_of, add_mk, l3, gL_of, d1, Option.bind_some, gL_of, atP_of, add_mk, q1, Option.bind_some, add_mk, xs, gB_of]
   cases hxs : x.s with
   | true =>
    rw [hxs] at rd4
    rw [if_pos rfl, if_pos rfl, rd4, gCells_of]
    simp only [List.getElem?_cons_zero, List.getElem?_cons_succ]
    rw [gI_of, gI_of, gI_of, gB_of]
   | false =>
    rw [if_neg (show ¬ (false = true) from fun h => by cases h), if_neg (show ¬ (false = true) from fun h => by cases h)]
  have next : ∀ (h5 : Heap) (s5 : Sc), SCM h5 s5 n → Old hb h5 → (∀ b, s5.owns b → hb.length ≤ b) → s5.S = s.S → LI K n Ev (l.take j ++ [x]) x.b s5.R s5.T s5.A s5.Es →
   ∃ h' s' bd', J12x56 mk0 E ((K : Nat) : Int) s4x0 n4x0 s4x1 n4x1 i4x2 (some ⟨s.S, 0, 0⟩) s64 l.length ((l.length : Nat) : Int) ((j : Nat) : Int) h5 Q = Q (.exit 2) (S12xe2 s4x0 n4x0 s4x1 n4x1 i4x2 (some ⟨s.S, 0, 0⟩) h') ∧ SCM h' s' n ∧ Old hb h' ∧ (∀ b, s'.owns b → hb.length ≤ b) ∧ s'.S = s.S ∧ LI K n Ev l bd' s'.R s'.T s'.A s'.Es := fun h5 s5 H5 o5 low5 eS I5 => by
   obtain ⟨h', s', bd', r1, r2, r3, r4, r5, r6⟩ := ih (j + 1) (by omega) h5 s5 x.b H5 o5 low5 (by rw [tk]; exact I5) Bn
   rw [eS] at r1 r5
   rw [J12x56xeq, letK_eq, wrap64 (by omega) (by omega), show ((j : Int) + 1) = ((j + 1 : Nat) : Int) by omega, r1]
   exact ⟨h', s', bd', rfl, r2, r3, r4, r5, r6⟩
  have low1 : ∀ b, s1.owns b → hb.length ≤ b := fun b hb => low b ((own1 b).1 hb)
  have ole := o.le
  have slotStep : ∀ (h5 : Heap), SCM h5 s1 n → Old hb h5 → (¬ Ev) → ∃ h' s' bd', ((E 36 [.ptr (some ⟨s.S, 0, 0⟩), .agg (rgC x)] h5).bind fun r83 => gT 0 r83.1 true fun u83 => J12x56 mk0 E ((K : Nat) : Int) s4x0 n4x0 s4x1 n4x1 i4x2 (some ⟨s.S, 0, 0⟩) s64 l.length ((l.length : Nat) : Int) ((j : Nat) : Int) r83.2 Q) = Q (.exit 2) (S12xe2 s4x0 n4x0 s4x1 n4x1 i4x2 (some ⟨s.S, 0, 0⟩) h') ∧ SCM h' s' n ∧ Old hb h' ∧ (∀ b, s'.owns b → hb.length ≤ b) ∧ s'.S = s.S ∧ LI K n Ev l bd' s'.R s'.T s'.A s'.Es := fun h5 H5 o5 nev => by
   obtain ⟨h6, s6, r1, r2, ⟨i, r3, r4⟩, r5, r6, r7⟩ := slot_ok H5 xr (by omega)
   rw [es1S] at r1
   rw [r1, Option.bind_some, gT0_of]
   have le5 := o5.le
   refine next h6 s6 r2 (r5.old o5 fun b hb hh => by have := low1 b hh; omega) (fun b hb => by
    rcases r7 b hb with h | h
    · exact low1 b h
    · omega) (by rw [r3]; exact es1S) ?_
   have := I1.slot (fun y hy => (pr y hy).1) xok nx nev r4
   rw [r3]
   exact this
  rw [head]
  cases hxs : x.s with
  | true =>
   rw [if_pos rfl]
   exact slotStep h4 q4 o4 fun ev => by have := (hev ev).1 x xm; rw [hxs] at this; cases this
  | false =>
   rw [if_neg (show ¬ (false = true) from fun h => by cases h)]
   have rA : ∀ y ∈ s1.A, 0 ≤ y.r ∧ y.r < (n : Int) := fun y hy => pr y (I1.ac y hy).1
   obtain ⟨h5, kk, f1, f2, f3⟩ := free_ok (K := K) q4 (by omega) (by omega) rA
   rw [es1S] at f1
   have H5 := q4.old f2
   have o5 := o4.trans f2
   have hX5 := f2 _ _ hX4
   have le5 := o5.le
   have alive : ∀ y ∈ s1.A, x.b ≤ y.e := fun y hy => by
    rw [es1] at hy
    have := (List.mem_filter.1 hy).2
    simpa using this
   have rd5 := rd hX5
   rw [f1, Option.bind_some, gI_of, letK_eq]
   rcases f3 with ⟨k1, k2, k3⟩ | ⟨k1, k2⟩
   · -- a register is free
     obtain ⟨h6, s6, r1, r2, ⟨i, r3⟩, r5, r6, r7⟩ := enter_ok H5 xr (by omega) ((kk : Nat) : Int)
     rw [es1S] at r1
     unfold rgC at rd5 r1
     rw [if_pos (decide_eq_true (by omega)), rd5, gCells_of]
     simp only [List.getElem?_cons_zero, List.getElem?_cons_succ]
     rw [gI_of, gI_of, gI_of, gB_of, r1, Option.bind_some, gT0_of]
     refine next h6 s6 r2 (r5.old o5 fun b hb hh => by have := low1 b hh; omega) (fun b hb => by
      rcases r7 b hb with h | h
      · exact low1 b h
      · omega) (by rw [r3]; exact es1S) ?_
     have := I1.enter (fun y hy => (pr y hy).1) xok nx hxs (k := (kk : Int)) (by omega) (fun y hy hR => by
      rcases I1.cv y hy _ hR (by omega) with h | h
      · exact absurd hR (k3 y h)
      · exact h) (insA_perm s1.A i x)
     rw [r3]
     exact this
   · -- none is free
     subst k1
     have nev : ¬ Ev := fun ev => by
      have hx2 := (hev ev).2 x xm
      have c1 : K ≤ s1.A.length := by
       have := pig ((List.range K).map fun (i : Nat) => ((i + 1 : Nat) : Int)) (s1.A.map fun y => s1.R.getD y.r.toNat 0) (List.pairwise_map.2 (List.nodup_range.imp fun hne e => hne (by omega))) (fun z hz => by
        obtain ⟨i, hi, rfl⟩ := List.mem_map.1 hz
        have hi := List.mem_range.1 hi
        obtain ⟨y, hy, hy2⟩ := k2 (i + 1) (by omega) (by omega)
        exact List.mem_map.2 ⟨y, hy, by simp only [List.getD, hy2, Option.getD_some]⟩)
       rw [List.length_map, List.length_map, List.length_range] at this
       exact this
      have nxA : x ∉ s1.A := fun h => nx x (I1.ac x h).1 rfl
      have c2 := pig (x :: s1.A) (l.filter fun y => decide (y.b ≤ x.b) && decide (x.b ≤ y.e)) (List.nodup_cons.2 ⟨nxA, I1.nd⟩) (fun z hz => by
       rcases List.mem_cons.1 hz with rfl | hz
       · exact List.mem_filter.2 ⟨xm, by simp; omega⟩
       · have h1 := (I1.ac z hz).1
         have h2 := I1.be z h1
         have h3 := alive z hz
         exact List.mem_filter.2 ⟨ptk z h1, by simp; omega⟩)
      rw [List.length_cons] at c2
      omega
     obtain ⟨y1, hy1, _⟩ := k2 1 (Nat.le_refl _) hK.1
     have pos : 0 < s1.A.length := List.length_pos_of_mem hy1
     obtain ⟨A0, z, hA⟩ : ∃ A0 z, s1.A = A0 ++ [z] := by
      rcases List.eq_nil_or_concat s1.A with h | ⟨A0, z, h⟩
      · rw [h] at pos; simp at pos
      · exact ⟨A0, z, by rw [h, List.concat_eq_append]⟩
     have hAl : s1.A.length = A0.length + 1 := by rw [hA]; simp
     have zm : z ∈ s1.A := by rw [hA]; simp
     have zr := rA z zm
     have l35 := H5.ld 3 (.sl s1.sA s1.A.length) rfl rfl
     rw [es1S] at l35
     obtain ⟨az, haz, laz⟩ := vs_ld H5.vsA rg_flat A0.length z (by rw [hA]; simp)
     have x2 : ld1 h5 ⟨h.length, 0, 0 + 2⟩ = some (.int .i64 x.e) := ld1_at hX5 rfl rfl
     have laz' := laz
     unfold rgC at laz
     rw [if_neg (by simp), atP_of, add_mk, l35, gL_of, atP_of, add_mk, l35, gL_of, letK_eq, hAl, wrap64 (by omega) (by omega), show (((A0.length + 1 : Nat) : Int) - 1) = ((A0.length : Nat) : Int) by omega, chk_of (by intro _; omega), haz, atP_of, Int.toNat_natCast, laz, gCells_of]
     simp only [List.getElem?_cons_zero, List.getElem?_cons_succ]
     rw [gI_of, gI_of, gI_of, gB_of, add_mk, x2, gI_of, letK_eq]
     by_cases hze : z.e ≤ x.e
     · obtain ⟨h', s', bd', w1, w2⟩ := slotStep h5 H5 o5 nev
       unfold rgC at rd5 w1
       rw [if_pos (decide_eq_true hze), rd5, gCells_of]
       simp only [List.getElem?_cons_zero, List.getElem?_cons_succ]
       rw [gI_of, gI_of, gI_of, gB_of]
       exact ⟨h', s', bd', w1, w2⟩
     · -- the last one is spilled
       have ra : RS h5 s1.sA A0.length 4 (A0.flatMap rgC) := by
        have := rs_cut H5.a (m := A0.length) (by omega)
        rw [hA, List.flatMap_append, List.take_left' (by rw [rgs_len])] at this
        exact this
       obtain ⟨h6, g1, g2, g3, g4⟩ := H5.newA (sA' := s1.sA) (A' := A0) (Kp.refl _ _) ra (fun b hb => .inl hb)
       rw [es1S] at g1
       obtain ⟨s2, es2⟩ : ∃ s2 : Sc, s2 = { s1 with sA := s1.sA, A := A0 } := ⟨_, rfl⟩
       rw [← es2] at g4
       have es2S : s2.S = s.S := by rw [es2]; exact es1S
       have own2 : ∀ b, s2.owns b ↔ s.owns b := fun b => by rw [es2]; exact own1 b
       obtain ⟨nn, hnn⟩ := at_lt (l := s1.R) (i := z.r.toNat) (by rw [I1.rl]; omega)
       obtain ⟨zp, a9, hz1, hz2⟩ := I1.ac z zm
       rw [hnn] at hz1
       cases hz1
       obtain ⟨ar, har, lar⟩ := vs_ld1 (g := AV.int .i64) (intB_vs g4.r g4.rl) (fun _ => rfl) z.r.toNat nn (by rw [es2]; exact hnn)
       cases har
       have r06 : ld1 h6 ⟨s.S, 0, 0 + 0 + 0⟩ = some (.sl (.pos ⟨s2.RB, 0, 0⟩) n) := by
        have := g4.ld 0 (.sl (.pos ⟨s2.RB, 0, 0⟩) n) rfl rfl
        rw [es2S] at this
        exact this
       have el2 : s2.Es.length ≤ 100000 := by rw [es2]; show s1.Es.length ≤ _; omega
       obtain ⟨h7, s3, u1, u2, u3, u4, u5, u6⟩ := spill_ok g4 zr el2
       rw [es2S] at u1
       have I2 : LI K n Ev (l.take j) x.b s3.R s3.T s3.A s3.Es := by
        have I1' := I1
        rw [hA] at I1'
        have := I1'.spill pr uq nev
        rw [u3, es2]
        exact this
       have s3S : s3.S = s.S := by rw [u3]; exact es2S
       have low2 : ∀ b, s2.owns b → hb.length ≤ b := fun b hb => low b ((own2 b).1 hb)
       have low3 : ∀ b, s3.owns b → hb.length ≤ b := fun b hb => by
        rcases u6 b hb with h | h
        · exact low2 b h
        · omega
       have o6 : Old hb h6 := g3.old o5 fun b hb hh => by have := low1 b (.inl hh); omega
       have o7 : Old hb h7 := u4.old o6 fun b hb hh => by have := low2 b hh; omega
       have nX1 : h.length ≠ s1.S := fun e => nX (by rw [es1S] at e; exact .inl e)
       have hX6 := g3 _ _ hX5 nX1
       have hX7 := u4 _ _ hX6 fun hh => nX ((own2 _).1 hh)
       have I2e := I2.el
       rw [lj] at I2e
       obtain ⟨h8, s4, r1, r2, ⟨i, r3⟩, r5, r6, r7⟩ := enter_ok u2 xr (by omega) nn
       rw [s3S] at r1
       have rd7 := rd hX7
       unfold rgC at rd7 r1 u1
       have le7 := o7.le
       rw [if_neg (by simpa using hze), atP_of, add_mk, l35, gL_of, atP_of, add_mk, l35, gL_of, letK_eq, hAl, wrap64 (by omega) (by omega), show (((A0.length + 1 : Nat) : Int) - 1) = ((A0.length : Nat) : Int) by omega, chkC_of (fun _ => ⟨by omega, .inl (by omega)⟩), letK_eq, Int.toNat_natCast, atP_of, add_mk, g1, Option.bind_some, atP_of, add_mk, add_mk, r06, gL_of, chk_of (by intro _; omega), adP_pos, atP_of, lar, gI_of, u1, Option.bind_some, gT0_of, rd7, gCells_of]
       simp only [List.getElem?_cons_zero, List.getElem?_cons_succ]
       rw [gI_of, gI_of, gI_of, gB_of, r1, Option.bind_some, gT0_of]
       refine next h8 s4 r2 (r5.old o7 fun b hb hh => by have := low3 b hh; omega) (fun b hb => by
        rcases r7 b hb with h | h
        · exact low3 b h
        · omega) (by rw [r3]; exact s3S) ?_
       have kle : nn ≤ (K : Int) := by
        rcases I1.pl z zp with ⟨a, h1, h2, _⟩ | ⟨h1, _⟩
        · rw [hnn] at h1; cases h1; exact h2.2
        · rw [hnn] at h1; injection h1 with h1; omega
       have R3 : s3.R = s1.R.set z.r.toNat (-1) := by rw [u3, es2]
       have A3 : s3.A = A0 := by rw [u3, es2]
       have := I2.enter (fun y hy => (pr y hy).1) xok nx hxs (k := nn) ⟨hz2, kle⟩ (fun y hy hR => by
        rw [R3] at hR
        by_cases e : y = z
        · rw [e, List.getElem?_set_self (by rw [I1.rl]; omega)] at hR
          injection hR with hR; omega
        · have hne : z.r ≠ y.r := fun h => e (uq y hy z zp h.symm)
          rw [List.getElem?_set_ne (by have := pr y hy; omega)] at hR
          rcases I1.cv y hy _ hR hz2 with h | h
          · have b1 := I1.be y hy
            have b2 := I1.be z zp
            have b3 := alive y h
            have b4 := alive z zm
            have := I1.rr z zp y hy hne ⟨by omega, by omega⟩ nn hnn hR
            omega
          · exact h) (insA_perm s3.A i x)
       rw [r3]
       exact this
end Go.Proofs.Ytnmdadadjneaiaa.D
/- linear.Allocate, whole. -/
set_option linter.unusedVariables false
set_option linter.unusedSimpArgs false
namespace Go.Proofs.Ytnmdadadjneaiaa.D
open Go Go.Proofs.Ytnmdadadjneaiaa.Abs Go.Proofs
theorem lfill_loop {n : Nat} (hn : n ≤ 100000) {S : Nat} (i1 i4x2 : Int) (s4x0 : SA) (n4x0 : Nat) (s4x1 : SA) (n4x1 : Nat) (s6 : SA) (n6 : Nat) (Q : Kont (AV × Heap)) :
 ∀ (k j : Nat), j + k = n → ∀ (h : Heap) (s : Sc), SCM h s n → s.S = S → (∀ i : Nat, i < j → s.R[i]? = some (-1) ∧ s.T[i]? = some (-1)) →
  ∃ h' R T, L12x16 mk0 E i1 s4x0 n4x0 s4x1 n4x1 i4x2 s6 n6 (some ⟨S, 0, 0⟩) ((n : Nat) : Int) ((j : Nat) : Int) h Q = Q (.exit 0) (S12xe0 i1 s4x0 n4x0 s4x1 n4x1 i4x2 s6 n6 (some ⟨S, 0, 0⟩) h') ∧ SCM h' { s with R := R, T := T } n ∧ Kp s.owns h h' ∧ (∀ i : Nat, i < n → R[i]? = some (-1) ∧ T[i]? = some (-1)) := by
 intro k
 induction k with
 | zero =>
  intro j hj h s H hS hh
  rw [L12x16xeq, letK_eq, if_neg (by simp; omega)]
  exact ⟨h, s.R, s.T, rfl, H, Kp.refl _ _, fun i hi => hh i (by omega)⟩
 | succ k ih =>
  intro j hj h s H hS hh
  have rl := H.rl
  have tl := H.tl
  obtain ⟨h1, h2, t1, t2, k1, k2, l1, l2, H2⟩ := H.setRT (r := j) (by omega) (-1) (-1)
  have r0 := H.ld 0 (.sl (.pos ⟨s.RB, 0, 0⟩) n) rfl rfl
  have r1 := H.ld 1 (.sl (.pos ⟨s.TB, 0, 0⟩) n) rfl rfl
  rw [hS] at r0 r1
  have r0' : ld1 h ⟨S, 0, 0 + 0 + 0⟩ = some (.sl (.pos ⟨s.RB, 0, 0⟩) n) := r0
  have r1' : ld1 h ⟨S, 0, 0 + 0 + 1⟩ = some (.sl (.pos ⟨s.TB, 0, 0⟩) n) := r1
  obtain ⟨h3, R, T, u1, u2, u3, u4⟩ := ih (j + 1) (by omega) h2 _ H2 hS (fun i hi => by
   show (s.R.set j (-1))[i]? = _ ∧ (s.T.set j (-1))[i]? = _
   by_cases e : i = j
   · rw [e, List.getElem?_set_self (by omega), List.getElem?_set_self (by omega)]; exact ⟨rfl, rfl⟩
   · rw [List.getElem?_set_ne (Ne.symm e), List.getElem?_set_ne (Ne.symm e)]; exact hh i (by omega))
  refine ⟨h3, R, T, ?_, u2, (k2.mono fun b hb => by rcases hb with hb | hb; exact .inr (.inl hb); exact .inr (.inr (.inl hb))).trans (u3.mono fun b hb => hb), u4⟩
  rw [L12x16xeq, letK_eq, if_pos (by simp; omega), atP_of, add_mk, add_mk, r0', gL_of, atP_of, add_mk, add_mk, r1', gL_of, chk_of (by intro _; omega), adP_pos, atP_of, add_mk, Int.toNat_natCast, t1, Option.bind_some, chk_of (by intro _; omega), adP_pos, atP_of, add_mk, t2, Option.bind_some, letK_eq, wrap64 (x := (j : Int) + 1) (by omega) (by omega), show ((j : Int) + 1) = ((j + 1 : Nat) : Int) by omega, u1]
theorem lalloc_ok {h h1 : Heap} {f : VF} {K : Nat} {s : SA} {l : List Rg} (hK : 1 ≤ K ∧ K ≤ 10) (e9 : E 9 [.agg f.cells] h = some (.tup [.sl s l.length, .int .i64 0], h1)) (V : VS rgC 4 h1 s l.length l) (L : LR f.regs.toNat l) (hl : l.length ≤ 10000) (fr : 1 ≤ f.regs ∧ f.regs ≤ 8192) {Ev : Prop} (hev : Ev → (∀ x ∈ l, x.s = false) ∧ ∀ x ∈ l, (l.filter fun y => decide (y.b ≤ x.b) && decide (x.b ≤ y.e)).length ≤ K) :
 ∃ h' s1 s2 R T A Es bd, E 12 [.agg f.cells, .int .i64 K] h = some (.tup [.agg [.sl s1 f.regs.toNat, .sl s2 f.regs.toNat, .int .i64 ((Es.length : Nat) : Int)], .int .i64 0], h') ∧ Old h1 h' ∧ VS intC 1 h' s1 f.regs.toNat R ∧ VS intC 1 h' s2 f.regs.toNat T ∧ LI K f.regs.toNat Ev l bd R T A Es := by
 obtain ⟨n, hn⟩ : ∃ n, n = f.regs.toNat := ⟨_, rfl⟩
 rw [← hn] at L ⊢
 have zz : Blk.cells (repl n [AV.int .i64 0]) (.grow 1) 0 = intB (List.replicate n 0) := by simp [repl, intB]
 obtain ⟨h2, e2⟩ : ∃ h2, h2 = h1 ++ [intB (List.replicate n 0)] := ⟨_, rfl⟩
 obtain ⟨h3, e3⟩ : ∃ h3, h3 = h2 ++ [intB (List.replicate n 0)] := ⟨_, rfl⟩
 obtain ⟨h4, e4⟩ : ∃ h4, h4 = h3 ++ [.cells [.sl (.pos ⟨h1.length, 0, 0⟩) n, .sl (.pos ⟨h2.length, 0, 0⟩) n, .int .i64 0, .sl .nil 0, .sl .nil 0] .fix 0] := ⟨_, rfl⟩
 have l2 : h2.length = h1.length + 1 := by rw [e2]; simp
 have l3 : h3.length = h1.length + 2 := by rw [e3]; simp [l2]
 have l4 : h4.length = h1.length + 3 := by rw [e4]; simp [l3]
 have o4 : Old h1 h4 := by rw [e4, e3, e2]; exact (old_app _ _).trans ((old_app _ _).trans (old_app _ _))
 obtain ⟨sc, esc⟩ : ∃ sc : Sc, sc = ⟨h3.length, h1.length, h2.length, .nil, .nil, List.replicate n 0, List.replicate n 0, [], []⟩ := ⟨_, rfl⟩
 have nil : ∀ es, RS h4 .nil 0 es [] := fun es => ⟨(Nat.zero_mul es).symm, rfl, .inl ⟨rfl, rfl⟩⟩
 have nS : ∀ b, ¬ inS .nil b := fun b hb => by obtain ⟨_, hh, _⟩ := hb; cases hh
 have H : SCM h4 sc n := by
  rw [esc]
  refine ⟨by rw [e4]; exact last_get _ _, by rw [e4]; exact app_old (by rw [e3]; exact app_old (by rw [e2]; exact last_get _ _)), List.length_replicate .., by rw [e4]; exact app_old (by rw [e3]; exact last_get _ _), List.length_replicate .., nil 4, nil 1, ⟨by show h3.length ≠ h1.length; omega, by show h3.length ≠ h2.length; omega, by show h1.length ≠ h2.length; omega⟩, fun b _ => ⟨nS b, nS b⟩, fun b hb => absurd hb (nS b)⟩
 have scS : sc.S = h3.length := by rw [esc]
 have low : ∀ b, sc.owns b → h1.length ≤ b := fun b hb => by
  rw [esc] at hb
  rcases hb with hb | hb | hb | hb | hb
  · rw [hb]; show h1.length ≤ h3.length; omega
  · rw [hb]; exact Nat.le_refl _
  · rw [hb]; show h1.length ≤ h2.length; omega
  · exact absurd hb (nS b)
  · exact absurd hb (nS b)
 have rd := H.ld 0 (.sl (.pos ⟨sc.RB, 0, 0⟩) n) rfl rfl
 rw [scS] at rd
 have rd' : ld1 h4 ⟨h3.length, 0, 0 + 0 + 0⟩ = some (.sl (.pos ⟨sc.RB, 0, 0⟩) n) := rd
 obtain ⟨h5, R, T, a1, a2, a3, a4⟩ := lfill_loop (n := n) (by omega) (S := h3.length) ((K : Nat) : Int) 0 .nil 0 .nil 0 s l.length (Q12x16 mk0 E) n 0 (by omega) h4 sc H scS (fun i hi => by omega)
 rw [show (((0 : Nat) : Int)) = 0 from rfl] at a1
 have o5 : Old h1 h5 := a3.old o4 fun b hb hh => by have := low b hh; omega
 obtain ⟨s5, es5⟩ : ∃ s5 : Sc, s5 = { sc with R := R, T := T } := ⟨_, rfl⟩
 rw [← es5] at a2
 have s5S : s5.S = h3.length := by rw [es5]; exact scS
 have low5 : ∀ b, s5.owns b → h1.length ≤ b := fun b hb => low b (by rw [es5] at hb; exact hb)
 have I0 : LI K n Ev (l.take 0) 0 s5.R s5.T s5.A s5.Es := by
  have ea : s5.A = [] := by rw [es5, esc]
  have ee : s5.Es = [] := by rw [es5, esc]
  have eR : s5.R = R := by rw [es5]
  have eT : s5.T = T := by rw [es5]
  rw [List.take_zero, ea, ee]
  exact ⟨a2.rl, a2.tl, fun r hr _ => by rw [eR, eT]; exact a4 r hr, fun x hx => (by cases hx), fun x hx => (by cases hx), fun x hx => (by cases hx), fun x hx => (by cases hx), fun x hx => (by cases hx), fun x hx => (by cases hx), fun x hx => (by cases hx), List.nodup_nil, Nat.le_refl _, fun _ => rfl⟩
 obtain ⟨h6, s6, bd, b1, b2, b3, b4, b5, b6⟩ := alin_loop V L hl hK hev .nil 0 .nil 0 0 (Q12x27 mk0 E) l.length 0 (by omega) h5 s5 0 a2 o5 low5 I0 (fun x hx => (L.ok x (List.mem_of_mem_drop hx)).2.1)
 rw [show (((0 : Nat) : Int)) = 0 from rfl, s5S] at b1
 rw [s5S] at b5
 have q4 := b2.ld 4 (.sl s6.sE s6.Es.length) rfl rfl
 rw [b5] at q4
 have hd := b2.hd
 rw [b5] at hd
 have st : st1 h6 ⟨h3.length, 0, 0 + 0 + 2⟩ (.int .i64 ((s6.Es.length : Nat) : Int)) = some (h6.set h3.length (.cells ((s6.cells n).set (0 + 0 + 2) (.int .i64 ((s6.Es.length : Nat) : Int))) .fix 0)) := st1_at hd (by simp) (by show 0 + 0 + 2 < 5; omega)
 obtain ⟨h7, e7⟩ : ∃ h7, h7 = h6.set h3.length (.cells ((s6.cells n).set (0 + 0 + 2) (.int .i64 ((s6.Es.length : Nat) : Int))) .fix 0) := ⟨_, rfl⟩
 rw [← e7] at st
 have hd7 : h7[h3.length]? = some (.cells [.sl (.pos ⟨s6.RB, 0, 0⟩) n, .sl (.pos ⟨s6.TB, 0, 0⟩) n, .int .i64 ((s6.Es.length : Nat) : Int), .sl s6.sA s6.A.length, .sl s6.sE s6.Es.length] .fix 0) := by rw [e7]; exact set_same hd
 have rd3 : ldN h7 ⟨h3.length, 0, 0 + 0⟩ 3 = some [.sl (.pos ⟨s6.RB, 0, 0⟩) n, .sl (.pos ⟨s6.TB, 0, 0⟩) n, .int .i64 ((s6.Es.length : Nat) : Int)] := by
  unfold ldN
  rw [hd7]
  dsimp only
  rw [if_pos ⟨rfl, by show 0 + 3 ≤ 5; omega, rfl⟩]
  rfl
 have k7 : Kp (fun b => b = s6.S) h6 h7 := by rw [e7, b5]; exact kp_set _ _ _ _ rfl
 have o7 : Old h1 h7 := k7.old b3 fun b hb hh => by rw [b5] at hh; omega
 have r7 := k7 _ _ b2.r (Ne.symm b2.d1.1)
 have t7 := k7 _ _ b2.t (Ne.symm b2.d1.2.1)
 refine ⟨h7, .pos ⟨s6.RB, 0, 0⟩, .pos ⟨s6.TB, 0, 0⟩, s6.R, s6.T, s6.A, s6.Es, bd, ?_, o7, intB_vs r7 b2.rl, intB_vs t7 b2.tl, b6⟩
 unfold VF.cells at *
 rw [e12, e9, Option.bind_some, gT_of (n := 2) [_, _] rfl]
 simp only [List.getD_cons_zero, List.getD_cons_succ]
 rw [gL_of, gI_of, letK_eq, if_neg (by simp), letK_eq, letK_eq, letK_eq, if_neg (by
  rw [decide_eq_false (show ¬ (K : Int) < 1 by omega), decide_eq_false (show ¬ (10 : Int) < (K : Int) by omega)]; simp), chk_of (by omega), newK_eq, letK_eq, chk_of (by omega), newK_eq, letK_eq, newK_eq, ← hn, zz, ← e2, ← e3, ← e4, add_mk, add_mk, rd', gL_of, a1, X12x16xe0, b1, X12x27xe2, atP_of, add_mk, q4, gL_of, atP_of, add_mk, add_mk, st, Option.bind_some, atP_of, add_mk, rd3, gCells_of]
 simp only [List.getElem?_cons_zero, List.getElem?_cons_succ]
 rw [gL_of, gL_of, gI_of]
end Go.Proofs.Ytnmdadadjneaiaa.D
