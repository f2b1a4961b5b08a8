/- tile: what is live before a block. -/
import Derived.Test.YtnmdadadjneaiaaConDa
set_option linter.unusedVariables false
set_option linter.unusedSimpArgs false
namespace Go.Proofs.Ytnmdadadjneaiaa.D
open Go Go.Proofs.Ytnmdadadjneaiaa.Abs Go.Proofs
def bits (l : List Bool) : Blk := .cells (l.map .bool) (.grow 1) 0
def mark (l : List Bool) (rs : List Int) : List Bool := rs.foldl (fun l r => l.set r.toNat true) l
def stepB (l : List Bool) (x : VI) : List Bool := mark (l.set (defR x.op x.d).toNat false) (usesL x)
def beforeL (x : VB) (l : List Bool) : List Bool := (x.ins.reverse.foldl stepB (mark l (endL x.e))).set 0 false
theorem mark_len (rs : List Int) : ∀ (l : List Bool), (mark l rs).length = l.length := by
 induction rs with
 | nil => intro l; rfl
 | cons r rs ih =>
  intro l
  show (mark (l.set r.toNat true) rs).length = _
  rw [ih, List.length_set]
theorem bits_set {h : Heap} {b : Nat} {l : List Bool} (hb : h[b]? = some (bits l)) (i : Nat) (hi : i < l.length) (v : Bool) :
 st1 h ⟨b, 0, 0 + i * 1⟩ (.bool v) = some (h.set b (bits (l.set i v))) := by
 rw [Nat.zero_add, Nat.mul_one, st1_at hb (by simp) (by rw [List.length_map]; exact hi)]
 unfold bits
 rw [List.map_set]
theorem mark_loop4 {hb : Heap} {s11 : SA} {n11 : Nat} {rs : List Int} {b n1 : Nat} (H : VS intC 1 hb s11 n11 rs) (hn : n11 < 9223372036854775807) (hr : ∀ r ∈ rs, 0 ≤ r ∧ r < (n1 : Int)) (hs : ¬ inS s11 b) (s2 : SA) (n2 : Nat) (i1 i2 i3 i4 i5 : Int) (s6 : SA) (n6 : Nat) (Q : Kont (AV × Heap)) :
 ∀ (k j : Nat), j + k = n11 → ∀ (h : Heap) (l : List Bool), But b hb h → h.length = hb.length → h[b]? = some (bits l) → l.length = n1 →
  ∃ h', L90x4 mk0 E (.pos ⟨b, 0, 0⟩) n1 s2 n2 i1 i2 i3 i4 i5 s6 n6 s11 n11 ((n11 : Nat) : Int) ((j : Nat) : Int) h Q = Q (.exit 0) (S90xe0 (.pos ⟨b, 0, 0⟩) n1 s2 n2 i1 i2 i3 i4 i5 s6 n6 h') ∧ But b hb h' ∧ h'.length = hb.length ∧ h'[b]? = some (bits (mark l (rs.drop j))) := by
 have hl := H.1
 intro k
 induction k with
 | zero =>
  intro j hj h l bu le hb' hll
  rw [L90x4xeq, letK_eq, if_neg (by simp; omega), List.drop_eq_nil_of_le (by omega)]
  exact ⟨h, rfl, bu, le, hb'⟩
 | succ k ih =>
  intro j hj h l bu le hb' hll
  obtain ⟨y, hy⟩ := at_lt (l := rs) (i := j) (by omega)
  have HV : VS intC 1 h s11 n11 rs := by
   obtain ⟨z1, z2 | ⟨bb, v, o, c, md, z3, z4, z5⟩⟩ := H
   · exact ⟨z1, .inl z2⟩
   · exact ⟨z1, .inr ⟨bb, v, o, c, md, z3, bu _ _ z4 (fun e => hs ⟨_, z3, e⟩), z5⟩⟩
  obtain ⟨a, ha, la⟩ := vs_ld1 (g := AV.int .i64) HV (fun _ => rfl) j y hy
  obtain ⟨y0, y1⟩ := hr y (List.mem_of_getElem? hy)
  rw [L90x4xeq, letK_eq, if_pos (by simp; omega), chk_of (by intro _; omega), ha, atP_of, Int.toNat_natCast, la, gI_of, chk_of (by intro _; omega), adP_pos, atP_of, add_mk, bits_set hb' y.toNat (by omega), Option.bind_some, letK_eq, wrap64 (by omega) (by omega), show ((j : Int) + 1) = ((j + 1 : Nat) : Int) by omega, drop_at hy]
  exact ih (j + 1) (by omega) _ (l.set y.toNat true) (bu.trans (but_set b h _)) (by rw [List.length_set]; exact le) (set_same hb') (by rw [List.length_set]; exact hll)
theorem mark_loop25 {hb : Heap} {s11 : SA} {n11 : Nat} {rs : List Int} {b n1 : Nat} (H : VS intC 1 hb s11 n11 rs) (hn : n11 < 9223372036854775807) (hr : ∀ r ∈ rs, 0 ≤ r ∧ r < (n1 : Int)) (hs : ¬ inS s11 b) (s2 : SA) (n2 : Nat) (i1 i2 i3 i4 i5 : Int) (s6 : SA) (n6 : Nat) (i7 : Int) (Q : Kont (AV × Heap)) :
 ∀ (k j : Nat), j + k = n11 → ∀ (h : Heap) (l : List Bool), But b hb h → h.length = hb.length → h[b]? = some (bits l) → l.length = n1 →
  ∃ h', L90x25 mk0 E (.pos ⟨b, 0, 0⟩) n1 s2 n2 i1 i2 i3 i4 i5 s6 n6 i7 s11 n11 ((n11 : Nat) : Int) ((j : Nat) : Int) h Q = Q (.exit 4) (S90xe4 (.pos ⟨b, 0, 0⟩) n1 s2 n2 i1 i2 i3 i4 i5 s6 n6 i7 h') ∧ But b hb h' ∧ h'.length = hb.length ∧ h'[b]? = some (bits (mark l (rs.drop j))) := by
 have hl := H.1
 intro k
 induction k with
 | zero =>
  intro j hj h l bu le hb' hll
  rw [L90x25xeq, letK_eq, if_neg (by simp; omega), List.drop_eq_nil_of_le (by omega)]
  exact ⟨h, rfl, bu, le, hb'⟩
 | succ k ih =>
  intro j hj h l bu le hb' hll
  obtain ⟨y, hy⟩ := at_lt (l := rs) (i := j) (by omega)
  have HV : VS intC 1 h s11 n11 rs := by
   obtain ⟨z1, z2 | ⟨bb, v, o, c, md, z3, z4, z5⟩⟩ := H
   · exact ⟨z1, .inl z2⟩
   · exact ⟨z1, .inr ⟨bb, v, o, c, md, z3, bu _ _ z4 (fun e => hs ⟨_, z3, e⟩), z5⟩⟩
  obtain ⟨a, ha, la⟩ := vs_ld1 (g := AV.int .i64) HV (fun _ => rfl) j y hy
  obtain ⟨y0, y1⟩ := hr y (List.mem_of_getElem? hy)
  rw [L90x25xeq, letK_eq, if_pos (by simp; omega), chk_of (by intro _; omega), ha, atP_of, Int.toNat_natCast, la, gI_of, chk_of (by intro _; omega), adP_pos, atP_of, add_mk, bits_set hb' y.toNat (by omega), Option.bind_some, letK_eq, wrap64 (by omega) (by omega), show ((j : Int) + 1) = ((j + 1 : Nat) : Int) by omega, drop_at hy]
  exact ih (j + 1) (by omega) _ (l.set y.toNat true) (bu.trans (but_set b h _)) (by rw [List.length_set]; exact le) (set_same hb') (by rw [List.length_set]; exact hll)
def VI.okR (x : VI) (n1 : Nat) : Prop := x.args.length ≤ 6 ∧ ∀ r ∈ insL x, 0 ≤ r ∧ r < (n1 : Int)
theorem VI.okR.uses {x : VI} {n1 : Nat} (H : x.okR n1) : ∀ r ∈ usesL x, 0 ≤ r ∧ r < (n1 : Int) := by
 intro r hr
 unfold usesL at hr
 have := (List.mem_filter.1 hr).1
 refine H.2 r ?_
 unfold insL
 exact List.mem_cons_of_mem _ this
theorem VI.okR.def {x : VI} {n1 : Nat} (H : x.okR n1) : 0 ≤ defR x.op x.d ∧ defR x.op x.d < (n1 : Int) := by
 have hd := H.2 x.d (List.mem_cons_self ..)
 unfold defR
 split
 · omega
 · exact hd
theorem back_loop {h0 hs : Heap} {x : VB} {b n1 : Nat} (R : x.R h0) (o : Old h0 hs) (hb0 : h0.length ≤ b) (hbs : b < hs.length) (hi : ∀ y ∈ x.ins, y.okR n1) (hn : x.ins.length ≤ 1000000) (i1 i2 i3 i4 i5 : Int) (s6 : SA) (n6 : Nat) (Q : Kont (AV × Heap)) :
 ∀ (m : Nat), m ≤ x.ins.length → ∀ (h : Heap) (l : List Bool), But b hs h → hs.length ≤ h.length → h[b]? = some (bits l) → l.length = n1 →
  ∃ h', L90x15 mk0 E (.pos ⟨b, 0, 0⟩) n1 x.s x.ins.length i1 i2 i3 i4 i5 s6 n6 ((m : Int) - 1) h Q = Q (.exit 2) (S90xe2 (.pos ⟨b, 0, 0⟩) n1 h') ∧ But b hs h' ∧ hs.length ≤ h'.length ∧ h'[b]? = some (bits ((x.ins.take m).reverse.foldl stepB l)) := by
 intro m
 induction m with
 | zero =>
  intro hm h l bu le hb' hll
  rw [L90x15xeq, letK_eq, if_neg (by simp)]
  exact ⟨h, rfl, bu, le, by simpa using hb'⟩
 | succ m ih =>
  intro hm h l bu le hb' hll
  have ho : Old h0 h := fun q y hq => bu q y (o q y hq) (by have := (List.getElem?_eq_some_iff.1 hq).1; omega)
  obtain ⟨y, hy⟩ := at_lt (l := x.ins) (i := m) (by omega)
  have hym := List.mem_of_getElem? hy
  have oky := hi y hym
  obtain ⟨a, ha, la⟩ := vs_ld (vs_old R.i ho) vi_flat m y hy
  have o1 : Old h0 (h.set b (bits (l.set (defR y.op y.d).toNat false))) := fun q z hq => by
   have := (List.getElem?_eq_some_iff.1 hq).1
   rw [set_other (by omega)]
   exact ho q z hq
  obtain ⟨a', ha', la'⟩ := vs_ld (vs_old R.i o1) vi_flat m y hy
  obtain rfl : a = a' := by rw [ha] at ha'; cases ha'; rfl
  have hd := oky.def
  obtain ⟨h2, s42, u1, u2, u3, u4⟩ := uses_ok ((R.r y hym).old o1) (by have := oky.1; omega)
  have hset : (h.set b (bits (l.set (defR y.op y.d).toNat false)))[b]? = some (bits (l.set (defR y.op y.d).toNat false)) := set_same hb'
  have hbl : b < h.length := (List.getElem?_eq_some_iff.1 hb').1
  have nu : ¬ inS s42 b := fun hh => by have := u4 b hh; rw [List.length_set] at this; omega
  obtain ⟨h3, m1, m2, m3, m4⟩ := mark_loop25 u3 (by
   have : (usesL y).length ≤ (y.a :: y.b :: y.args).length := List.length_filter_le _ _
   simp only [List.length_cons] at this
   have := oky.1
   omega) oky.uses nu x.s x.ins.length i1 i2 i3 i4 i5 s6 n6 (m : Int) (Q90x25 mk0 E Q) (usesL y).length 0 (by omega) h2 _ (fun _ _ h _ => h) rfl (u2 _ _ hset) (by rw [List.length_set]; exact hll)
  have ule := u2.le
  rw [List.length_set] at ule
  have dk := def_ok y h
  simp only [VI.cells] at la la' dk u1
  rw [show ((((m + 1 : Nat) : Int)) - 1) = (m : Int) by omega, L90x15xeq, letK_eq, if_pos (by simp), chk_of (by intro _; omega), ha, atP_of, Int.toNat_natCast, la, gCells_of]
  simp only [List.getElem?_cons_zero, List.getElem?_cons_succ]
  rw [gI_of, gI_of, gI_of, gI_of, gI_of, gL_of, dk, Option.bind_some, gI_of, chk_of (by intro _; omega), adP_pos, atP_of, add_mk, bits_set hb' _ (by omega), Option.bind_some, chk_of (by intro _; omega), atP_of, la', gCells_of]
  simp only [List.getElem?_cons_zero, List.getElem?_cons_succ]
  rw [gI_of, gI_of, gI_of, gI_of, gI_of, gL_of, u1, Option.bind_some, gL_of]
  rw [show (((0 : Nat) : Int)) = 0 from rfl] at m1
  rw [List.drop_zero] at m4
  rw [m1, X90x25xe4, letK_eq, wrap64 (by omega) (by omega)]
  obtain ⟨h4, r1, r2, r3, r4⟩ := ih (by omega) h3 _ (((bu.trans (but_set b h _)).trans (u2.but b)).trans m2) (by omega) m4 (by rw [mark_len, List.length_set]; exact hll)
  refine ⟨h4, r1, r2, r3, ?_⟩
  rw [r4, List.take_add_one, hy]
  simp [stepB]
theorem before_ok {h0 hs : Heap} {x : VB} {b n1 : Nat} {l : List Bool} (R : x.R h0) (o : Old h0 hs) (hb0 : h0.length ≤ b) (hi : ∀ y ∈ x.ins, y.okR n1) (he : ∀ r ∈ endL x.e, 0 ≤ r ∧ r < (n1 : Int)) (hn : x.ins.length ≤ 1000000) (hz : 0 < n1)
 (hb' : hs[b]? = some (bits l)) (hll : l.length = n1) :
 ∃ h', E 90 [.agg x.cells, .sl (.pos ⟨b, 0, 0⟩) n1] hs = some (.tup [], h') ∧ But b hs h' ∧ hs.length ≤ h'.length ∧ h'[b]? = some (bits (beforeL x l)) := by
 have hbs : b < hs.length := (List.getElem?_eq_some_iff.1 hb').1
 obtain ⟨h1, s11, u1, u2, u3, u4⟩ := endUses_ok x.e hs
 have ne : ¬ inS s11 b := fun hh => by have := u4 b hh; omega
 have el : (endL x.e).length ≤ 2 := List.length_filter_le _ [x.e.a, x.e.b]
 obtain ⟨h2, m1, m2, m3, m4⟩ := mark_loop4 u3 (by omega) he ne x.s x.ins.length x.e.kind x.e.op x.e.a x.e.b x.e.n x.e.s x.e.to.length (Q90x4 mk0 E) (endL x.e).length 0 (by omega) h1 l (fun _ _ h _ => h) rfl (u2 _ _ hb') hll
 have ule := u2.le
 rw [show (((0 : Nat) : Int)) = 0 from rfl] at m1
 rw [List.drop_zero] at m4
 obtain ⟨h3, r1, r2, r3, r4⟩ := back_loop R o hb0 hbs hi hn x.e.kind x.e.op x.e.a x.e.b x.e.n x.e.s x.e.to.length (Q90x15 mk0 E) x.ins.length (Nat.le_refl _) h2 _ ((u2.but b).trans m2) (by omega) m4 (by rw [mark_len]; exact hll)
 rw [List.take_length] at r4
 have fl : ∀ (ys : List VI) (l : List Bool), (ys.foldl stepB l).length = l.length := by
  intro ys
  induction ys with
  | nil => intro l; rfl
  | cons y ys ih =>
   intro l
   rw [List.foldl_cons, ih]
   unfold stepB
   rw [mark_len, List.length_set]
 unfold VB.cells VE.cells
 simp only [VE.cells] at u1
 rw [e90, u1, Option.bind_some, gL_of, m1, X90x4xe0, letK_eq, wrap64 (by omega) (by omega), r1, X90x15xe2, chk_of (by intro _; omega), adP_pos, atP_of, add_mk, show Int.toNat 0 * 1 = 0 * 1 from rfl, bits_set r4 0 (by rw [fl, mark_len]; omega), Option.bind_some]
 exact ⟨_, rfl, r2.trans (but_set b h3 _), by rw [List.length_set]; exact r3, set_same r4⟩
end Go.Proofs.Ytnmdadadjneaiaa.D
/- tile: what is live after a block. -/
set_option linter.unusedVariables false
set_option linter.unusedSimpArgs false
namespace Go.Proofs.Ytnmdadadjneaiaa.D
open Go Go.Proofs.Ytnmdadadjneaiaa.Abs Go.Proofs
def orL (a b : List Bool) : List Bool := List.zipWith (· || ·) a b
theorem orL_len {a b : List Bool} (h : a.length = b.length) : (orL a b).length = a.length := by
 unfold orL
 rw [List.length_zipWith]; omega
theorem orL_get {a b : List Bool} {i : Nat} {x y : Bool} (h1 : a[i]? = some x) (h2 : b[i]? = some y) : (orL a b)[i]? = some (x || y) := by
 unfold orL
 rw [List.getElem?_zipWith, h1, h2]
theorem bits_get {h : Heap} {b : Nat} {l : List Bool} (hb : h[b]? = some (bits l)) {i : Nat} {x : Bool} (hi : l[i]? = some x) : ld1 h ⟨b, 0, 0 + i * 1⟩ = some (.bool x) :=
 ld1_at hb (by rw [Nat.zero_add, Nat.mul_one, List.getElem?_map, hi]; rfl) rfl
theorem part_step {l0 M : List Bool} {j : Nat} {x y : Bool} (hl : l0.length = M.length) (h1 : l0[j]? = some x) (h2 : M[j]? = some y) :
 ((orL l0 M).take j ++ l0.drop j).set j (x || y) = (orL l0 M).take (j + 1) ++ l0.drop (j + 1) := by
 have hj := (List.getElem?_eq_some_iff.1 h1).1
 have ho := orL_len hl
 rw [List.set_append_right _ _ (by rw [List.length_take]; omega), List.length_take, Nat.min_eq_left (by omega), Nat.sub_self, drop_at h1, List.set_cons_zero, List.take_add_one, orL_get h1 h2]
 simp
theorem part_get {l0 M : List Bool} {j : Nat} {x : Bool} (hl : l0.length = M.length) (h1 : l0[j]? = some x) : ((orL l0 M).take j ++ l0.drop j)[j]? = some x := by
 have hj := (List.getElem?_eq_some_iff.1 h1).1
 have ho := orL_len hl
 rw [List.getElem?_append_right (by rw [List.length_take]; omega), List.length_take, Nat.min_eq_left (by omega), Nat.sub_self, drop_at h1]
 rfl
theorem or_loop {hb : Heap} {q b n : Nat} {l0 M : List Bool} (hM : hb[q]? = some (bits M)) (hl0 : l0.length = n) (hl : M.length = n) (hne : q ≠ b) (hn : n < 9223372036854775807) (s1 : SA) (n1 : Nat) (s21 : SA) (n21 : Nat) (i22 i23 : Int) (Q : Kont (AV × Heap)) :
 ∀ (k j : Nat), j + k = n → ∀ (h : Heap), But b hb h → h.length = hb.length → h[b]? = some (bits ((orL l0 M).take j ++ l0.drop j)) →
  ∃ h', L62x15 mk0 E s1 n1 (.pos ⟨b, 0, 0⟩) n s21 n21 i22 i23 (.pos ⟨q, 0, 0⟩) n ((n : Nat) : Int) ((j : Nat) : Int) h Q = Q (.exit 2) (S62xe2 s1 n1 (.pos ⟨b, 0, 0⟩) n s21 n21 i22 i23 h') ∧ But b hb h' ∧ h'.length = hb.length ∧ h'[b]? = some (bits (orL l0 M)) := by
 have ho : (orL l0 M).length = n := by rw [orL_len (by omega), hl0]
 intro k
 induction k with
 | zero =>
  intro j hj h bu le hb'
  rw [L62x15xeq, letK_eq, if_neg (by simp; omega)]
  rw [List.take_of_length_le (by omega), List.drop_eq_nil_of_le (by omega), List.append_nil] at hb'
  exact ⟨h, rfl, bu, le, hb'⟩
 | succ k ih =>
  intro j hj h bu le hb'
  obtain ⟨x, hx⟩ := at_lt (l := l0) (i := j) (by omega)
  obtain ⟨y, hy⟩ := at_lt (l := M) (i := j) (by omega)
  have g1 := bits_get (bu q _ hM hne) hy
  have g2 := bits_get hb' (part_get (by omega) hx)
  have e : (if x = true then true else y) = (x || y) := by cases x <;> rfl
  rw [L62x15xeq, letK_eq, if_pos (by simp; omega), chk_of (by intro _; omega), adP_pos, atP_of, Int.toNat_natCast, add_mk, g1, gB_of, chk_of (by intro _; omega), adP_pos, atP_of, add_mk, g2, gB_of, letK_eq, chk_of (by intro _; omega), atP_of, add_mk, e, bits_set hb' j (by rw [List.length_append, List.length_take, List.length_drop]; omega), Option.bind_some, letK_eq, wrap64 (by omega) (by omega), show ((j : Int) + 1) = ((j + 1 : Nat) : Int) by omega]
  exact ih (j + 1) (by omega) _ (bu.trans (but_set b h _)) (by rw [List.length_set]; exact le) (by rw [set_same hb', part_step (by omega) hx hy])
structure BL (h : Heap) (B : Nat) (qs : List Nat) (L : List (List Bool)) (n : Nat) : Prop where
 hd : h[B]? = some (.cells (qs.map fun q => .sl (.pos ⟨q, 0, 0⟩) n) (.grow 1) 0)
 len : qs.length = L.length
 cell : ∀ (j q : Nat) (M : List Bool), qs[j]? = some q → L[j]? = some M → h[q]? = some (bits M) ∧ M.length = n
theorem BL.but {h h' : Heap} {B b : Nat} {qs : List Nat} {L : List (List Bool)} {n : Nat} (H : BL h B qs L n) (k : But b h h') (h1 : B ≠ b) (h2 : b ∉ qs) : BL h' B qs L n :=
 ⟨k _ _ H.hd h1, H.len, fun j q M hq hM => ⟨k _ _ (H.cell j q M hq hM).1 (fun e => h2 (e ▸ List.mem_of_getElem? hq)), (H.cell j q M hq hM).2⟩⟩
theorem BL.old {h h' : Heap} {B : Nat} {qs : List Nat} {L : List (List Bool)} {n : Nat} (H : BL h B qs L n) (k : Old h h') : BL h' B qs L n :=
 ⟨k _ _ H.hd, H.len, fun j q M hq hM => ⟨k _ _ (H.cell j q M hq hM).1, (H.cell j q M hq hM).2⟩⟩
def afterL (L : List (List Bool)) (l : List Bool) (to : List Int) : List Bool := to.foldl (fun l t => orL l (L.getD t.toNat [])) l
theorem after_loop {hb : Heap} {s21 : SA} {n21 B b n : Nat} {to : List Int} {qs : List Nat} {L : List (List Bool)} (H : VS intC 1 hb s21 n21 to) (hn21 : n21 < 9223372036854775807) (HB : BL hb B qs L n) (hto : ∀ t ∈ to, 0 ≤ t ∧ t < (L.length : Int)) (hs : ¬ inS s21 b) (h1 : B ≠ b) (h2 : b ∉ qs) (hn : n < 9223372036854775807) (Q : Kont (AV × Heap)) :
 ∀ (k j : Nat), j + k = n21 → ∀ (h : Heap) (l : List Bool), But b hb h → h.length = hb.length → h[b]? = some (bits l) → l.length = n →
  ∃ h', L62x5 mk0 E (.pos ⟨B, 0, 0⟩) qs.length (.pos ⟨b, 0, 0⟩) n s21 n21 ((n21 : Nat) : Int) ((j : Nat) : Int) h Q = Q (.exit 0) (S62xe0 (.pos ⟨b, 0, 0⟩) n h') ∧ But b hb h' ∧ h'.length = hb.length ∧ h'[b]? = some (bits (afterL L l (to.drop j))) ∧ (afterL L l (to.drop j)).length = n := by
 have hl := H.1
 intro k
 induction k with
 | zero =>
  intro j hj h l bu le hb' hll
  rw [L62x5xeq, letK_eq, if_neg (by simp; omega), List.drop_eq_nil_of_le (by omega)]
  exact ⟨h, rfl, bu, le, hb', hll⟩
 | succ k ih =>
  intro j hj h l bu le hb' hll
  obtain ⟨t, ht⟩ := at_lt (l := to) (i := j) (by omega)
  obtain ⟨t0, t1⟩ := hto t (List.mem_of_getElem? ht)
  have hlen := HB.len
  obtain ⟨q, hq⟩ := at_lt (l := qs) (i := t.toNat) (by omega)
  obtain ⟨M, hM⟩ := at_lt (l := L) (i := t.toNat) (by omega)
  have HV : VS intC 1 h s21 n21 to := by
   obtain ⟨z1, z2 | ⟨bb, v, o, c, md, z3, z4, z5⟩⟩ := H
   · exact ⟨z1, .inl z2⟩
   · exact ⟨z1, .inr ⟨bb, v, o, c, md, z3, bu _ _ z4 (fun e => hs ⟨_, z3, e⟩), z5⟩⟩
  have HB2 := HB.but bu h1 h2
  obtain ⟨a, ha, la⟩ := vs_ld1 (g := AV.int .i64) HV (fun _ => rfl) j t ht
  obtain ⟨c1, c2⟩ := HB2.cell _ q M hq hM
  have hqb : q ≠ b := fun e => h2 (e ▸ List.mem_of_getElem? hq)
  have rd : ld1 h ⟨B, 0, 0 + t.toNat * 1⟩ = some (.sl (.pos ⟨q, 0, 0⟩) n) := ld1_at HB2.hd (by rw [Nat.zero_add, Nat.mul_one, List.getElem?_map, hq]; rfl) rfl
  obtain ⟨h3, m1, m2, m3, m4⟩ := or_loop (l0 := l) c1 hll c2 hqb hn (.pos ⟨B, 0, 0⟩) qs.length s21 n21 ((n21 : Nat) : Int) ((j : Nat) : Int) (Q62x15 mk0 E Q) n 0 (by omega) h (fun _ _ h _ => h) rfl (by simpa using hb')
  rw [show (((0 : Nat) : Int)) = 0 from rfl] at m1
  have e : L.getD t.toNat [] = M := by simp [List.getD, hM]
  rw [L62x5xeq, letK_eq, if_pos (by simp; omega), chk_of (by intro _; omega), ha, atP_of, Int.toNat_natCast, la, gI_of, chk_of (by intro _; omega), adP_pos, atP_of, add_mk, rd, gL_of, m1, X62x15xe2, letK_eq, wrap64 (by omega) (by omega), show ((j : Int) + 1) = ((j + 1 : Nat) : Int) by omega, drop_at ht]
  have := ih (j + 1) (by omega) h3 (orL l M) (bu.trans m2) (by omega) m4 (by rw [orL_len (by omega), hll])
  rw [show afterL L l (t :: to.drop (j + 1)) = afterL L (orL l M) (to.drop (j + 1)) by rw [← e]; rfl]
  exact this
theorem add_add (a : Ad) (m n : Nat) : Ad.add (Ad.add a m) n = Ad.add a (m + n) := by
 cases a
 simp [Ad.add, Nat.add_assoc]
theorem vs_cell {α : Type} {f : α → List AV} {es n : Nat} {h : Heap} {s : SA} {l : List α} (H : VS f es h s n l) (i k : Nat) (x : α) (y : AV) (hi : l[i]? = some x) (hk : k < es) (hy : (f x)[k]? = some y) (fy : flatA y = true) :
 ∃ a, adP s = some a ∧ ld1 h (Ad.add (Ad.add a (i * es)) k) = some y := by
 obtain ⟨hl, H | ⟨b, v, o, c, m, rfl, hb, hc⟩⟩ := H
 · have := (List.getElem?_eq_some_iff.1 hi).1
   omega
 · obtain ⟨h1, h2⟩ := hc i x hi
   refine ⟨_, rfl, ?_⟩
   refine ld1_at hb ?_ fy
   have := congrArg (fun l => l[k]?) h2
   simp only [List.getElem?_take, List.getElem?_drop, hk, if_true] at this
   show c[o + i * es + k]? = some y
   rw [this]; exact hy
theorem after_ok {h : Heap} {f : VF} {B i : Nat} {x : VB} {qs : List Nat} {L : List (List Bool)} (R : f.R h) (hr : 0 ≤ f.regs ∧ f.regs ≤ 8192) (hx : f.blocks[i]? = some x) (HB : BL h B qs L f.regs.toNat) (hB : ∀ q ∈ qs, q < h.length)
 (hto : ∀ t ∈ x.e.to, 0 ≤ t ∧ t < (L.length : Int)) (hn : x.e.to.length < 9223372036854775807) :
 ∃ h', E 62 [.agg f.cells, .sl (.pos ⟨B, 0, 0⟩) qs.length, .int .i64 i] h = some (.sl (.pos ⟨h.length, 0, 0⟩) f.regs.toNat, h') ∧ Old h h' ∧ h'[h.length]? = some (bits (afterL L (List.replicate f.regs.toNat false) x.e.to)) ∧ (afterL L (List.replicate f.regs.toNat false) x.e.to).length = f.regs.toNat := by
 have hxm := List.mem_of_getElem? hx
 have hil : i < f.blocks.length := (List.getElem?_eq_some_iff.1 hx).1
 have o1 : Old h (h ++ [bits (List.replicate f.regs.toNat false)]) := old_app _ _
 obtain ⟨a, ha, la⟩ := vs_cell (vs_old R.b o1) i 6 x (.sl x.e.s x.e.to.length) hx (by omega) rfl rfl
 have hBl : B < h.length := (List.getElem?_eq_some_iff.1 HB.hd).1
 have he := ((R.r x hxm).e)
 have ns : ¬ inS x.e.s h.length ∨ x.e.to.length = 0 := by
  obtain ⟨z1, z2 | ⟨bb, v, o, c, md, z3, z4, z5⟩⟩ := he
  · exact .inr z2
  · left
    rintro ⟨a, ha, hb⟩
    rw [z3] at ha
    cases ha
    have h1 := (List.getElem?_eq_some_iff.1 z4).1
    have h2 : bb = h.length := hb
    omega
 have rp : repl (Int.toNat f.regs) [AV.bool false] = (List.replicate f.regs.toNat false).map .bool := by simp [repl]
 have fin : ∃ h', L62x5 mk0 E (.pos ⟨B, 0, 0⟩) qs.length (.pos ⟨h.length, 0, 0⟩) f.regs.toNat x.e.s x.e.to.length ((x.e.to.length : Nat) : Int) ((0 : Nat) : Int) (h ++ [bits (List.replicate f.regs.toNat false)]) (Q62x5 mk0 E) = Q62x5 mk0 E (.exit 0) (S62xe0 (.pos ⟨h.length, 0, 0⟩) f.regs.toNat h') ∧ But h.length (h ++ [bits (List.replicate f.regs.toNat false)]) h' ∧ h'[h.length]? = some (bits (afterL L (List.replicate f.regs.toNat false) x.e.to)) ∧ (afterL L (List.replicate f.regs.toNat false) x.e.to).length = f.regs.toNat := by
  rcases ns with ns | ns
  · obtain ⟨h', m1, m2, m3, m4, m5⟩ := after_loop (vs_old he o1) hn (HB.old o1) hto ns (by omega) (fun hm => by have := hB _ hm; omega) (by omega) (Q62x5 mk0 E) x.e.to.length 0 (by omega) _ (List.replicate f.regs.toNat false) (fun _ _ h _ => h) rfl (last_get _ _) (List.length_replicate ..)
    rw [List.drop_zero] at m4 m5
    exact ⟨h', m1, m2, m4, m5⟩
  · have hz : x.e.to = [] := List.length_eq_zero_iff.1 ns
    rw [hz]
    refine ⟨_, ?_, fun _ _ h _ => h, last_get _ _, List.length_replicate ..⟩
    rw [L62x5xeq, letK_eq, if_neg (by simp)]
 obtain ⟨h', m1, m2, m4, m5⟩ := fin
 rw [show (((0 : Nat) : Int)) = 0 from rfl] at m1
 unfold VF.cells
 rw [e62, chk_of (by omega), newK_eq, letK_eq, chk_of (by intro _; omega), ha, atP_of, rp, Int.toNat_natCast, add_add, show (1 + 5) = 6 from rfl]
 show ∃ h', gL (ld1 (h ++ [bits (List.replicate f.regs.toNat false)]) (Ad.add (Ad.add a (i * 7)) 6)) true _ = _ ∧ _
 rw [la, gL_of]
 refine ⟨h', m1.trans (X62x5xe0 _ _ _ _ _), fun q y hq => m2 q y (o1 q y hq) ?_, m4, m5⟩
 have := (List.getElem?_eq_some_iff.1 hq).1
 omega
end Go.Proofs.Ytnmdadadjneaiaa.D
/- tile: lists of marks compared. -/
set_option linter.unusedVariables false
set_option linter.unusedSimpArgs false
namespace Go.Proofs.Ytnmdadadjneaiaa.D
open Go Go.Proofs.Ytnmdadadjneaiaa.Abs Go.Proofs
theorem eqb_loop {h : Heap} {p q n : Nat} {l M : List Bool} (h1 : h[p]? = some (bits l)) (h2 : h[q]? = some (bits M)) (l1 : l.length = n) (l2 : M.length = n) (hn : n < 9223372036854775807) : ∀ (k j : Nat), j + k = n →
 L91x9 mk0 E (.pos ⟨p, 0, 0⟩) n (.pos ⟨q, 0, 0⟩) n ((n : Nat) : Int) ((j : Nat) : Int) h (Q91x9 mk0 E) = some (.bool (decide (l.drop j = M.drop j)), h) := by
 intro k
 induction k with
 | zero =>
  intro j hj
  rw [L91x9xeq, letK_eq, if_neg (by simp; omega), X91x9xe0, List.drop_eq_nil_of_le (by omega), List.drop_eq_nil_of_le (by omega)]
  rfl
 | succ k ih =>
  intro j hj
  obtain ⟨x, hx⟩ := at_lt (l := l) (i := j) (by omega)
  obtain ⟨y, hy⟩ := at_lt (l := M) (i := j) (by omega)
  rw [L91x9xeq, letK_eq, if_pos (by simp; omega), chk_of (by intro _; omega), adP_pos, atP_of, Int.toNat_natCast, add_mk, bits_get h1 hx, gB_of, chk_of (by intro _; omega), adP_pos, atP_of, add_mk, bits_get h2 hy, gB_of, letK_eq, drop_at hx, drop_at hy]
  by_cases he : x = y
  · subst he
    rw [if_neg (by simp), letK_eq, wrap64 (by omega) (by omega), show ((j : Int) + 1) = ((j + 1 : Nat) : Int) by omega, ih (j + 1) (by omega)]
    simp
  · rw [if_pos (by simp [he]), X91x9xr]
    simp [he]
theorem eqb_ok {h : Heap} {p q n : Nat} {l M : List Bool} (h1 : h[p]? = some (bits l)) (h2 : h[q]? = some (bits M)) (l1 : l.length = n) (l2 : M.length = n) (hn : n < 9223372036854775807) :
 E 91 [.sl (.pos ⟨p, 0, 0⟩) n, .sl (.pos ⟨q, 0, 0⟩) n] h = some (.bool (decide (l = M)), h) := by
 rw [e91, letK_eq, if_neg (by simp)]
 have := eqb_loop h1 h2 l1 l2 hn n 0 (by omega)
 rw [show (((0 : Nat) : Int)) = 0 from rfl, List.drop_zero, List.drop_zero] at this
 exact this
end Go.Proofs.Ytnmdadadjneaiaa.D
/- tile: what is live grows with what is live behind. -/
set_option linter.unusedVariables false
set_option linter.unusedSimpArgs false
namespace Go.Proofs.Ytnmdadadjneaiaa.D
open Go Go.Proofs.Ytnmdadadjneaiaa.Abs Go.Proofs
def LeB (a b : List Bool) : Prop := a.length = b.length ∧ ∀ i : Nat, a[i]? = some true → b[i]? = some true
theorem LeB.refl (a : List Bool) : LeB a a := ⟨rfl, fun _ h => h⟩
theorem LeB.trans {a b c : List Bool} (h1 : LeB a b) (h2 : LeB b c) : LeB a c := ⟨h1.1.trans h2.1, fun i h => h2.2 i (h1.2 i h)⟩
theorem LeB.set {a b : List Bool} (h : LeB a b) (i : Nat) (v : Bool) : LeB (a.set i v) (b.set i v) := by
 refine ⟨by simp [h.1], fun j hj => ?_⟩
 have hl := h.1
 rw [List.getElem?_set] at hj ⊢
 by_cases e : i = j
 · subst e
   rw [if_pos rfl] at hj ⊢
   by_cases hi : i < a.length
   · rw [if_pos hi] at hj; rw [if_pos (by omega)]; exact hj
   · rw [if_neg hi] at hj; cases hj
 · rw [if_neg e] at hj ⊢
   exact h.2 j hj
theorem LeB.mark (rs : List Int) : ∀ {a b : List Bool}, LeB a b → LeB (mark a rs) (mark b rs) := by
 induction rs with
 | nil => intro a b h; exact h
 | cons r rs ih => intro a b h; exact ih (h.set r.toNat true)
theorem LeB.steps (ys : List VI) : ∀ {a b : List Bool}, LeB a b → LeB (ys.foldl stepB a) (ys.foldl stepB b) := by
 induction ys with
 | nil => intro a b h; exact h
 | cons y ys ih => intro a b h; exact ih ((h.set _ false).mark (usesL y))
theorem LeB.before (x : VB) {a b : List Bool} (h : LeB a b) : LeB (beforeL x a) (beforeL x b) := (((h.mark (endL x.e)).steps x.ins.reverse).set 0 false)
theorem LeB.or {a b c d : List Bool} (h1 : LeB a b) (h2 : LeB c d) : LeB (orL a c) (orL b d) := by
 refine ⟨by unfold orL; simp [h1.1, h2.1], fun i hi => ?_⟩
 unfold orL at hi ⊢
 rw [List.getElem?_zipWith] at hi ⊢
 cases ha : a[i]? with
 | none => rw [ha] at hi; cases hi
 | some x =>
  cases hc : c[i]? with
  | none => rw [ha, hc] at hi; cases hi
  | some y =>
   rw [ha, hc] at hi
   have la := (List.getElem?_eq_some_iff.1 ha).1
   have lc := (List.getElem?_eq_some_iff.1 hc).1
   have e1 := h1.1
   have e2 := h2.1
   obtain ⟨x', hb⟩ := at_lt (l := b) (i := i) (by omega)
   obtain ⟨y', hd⟩ := at_lt (l := d) (i := i) (by omega)
   rw [hb, hd]
   have k1 := h1.2 i
   have k2 := h2.2 i
   rw [ha, hb] at k1
   rw [hc, hd] at k2
   cases x <;> cases y <;> cases x' <;> cases y' <;> simp_all
def LeL (L L' : List (List Bool)) : Prop := L.length = L'.length ∧ ∀ i, LeB (L.getD i []) (L'.getD i [])
theorem LeB.after {L L' : List (List Bool)} (hL : LeL L L') (to : List Int) : ∀ {a b : List Bool}, LeB a b → LeB (afterL L a to) (afterL L' b to) := by
 induction to with
 | nil => intro a b h; exact h
 | cons t to ih => intro a b h; exact ih (h.or (hL.2 _))
def liveF (regs : Nat) (x : VB) (L : List (List Bool)) : List Bool := beforeL x (afterL L (List.replicate regs false) x.e.to)
theorem liveF_mono (regs : Nat) (x : VB) {L L' : List (List Bool)} (h : LeL L L') : LeB (liveF regs x L) (liveF regs x L') :=
 LeB.before x (LeB.after h x.e.to (LeB.refl _))
end Go.Proofs.Ytnmdadadjneaiaa.D
/- tile: the rounds end, for the marks only grow. -/
set_option linter.unusedVariables false
set_option linter.unusedSimpArgs false
namespace Go.Proofs.Ytnmdadadjneaiaa.D
open Go Go.Proofs.Ytnmdadadjneaiaa.Abs Go.Proofs
def offs (l : List Bool) : Nat := (l.filter fun b => !b).length
def offsL (L : List (List Bool)) : Nat := (L.map offs).foldr (· + ·) 0
theorem offs_le : ∀ (a b : List Bool), LeB a b → offs b ≤ offs a ∧ (offs b = offs a → a = b)
 | [], [], _ => ⟨Nat.le_refl _, fun _ => rfl⟩
 | [], y :: b, h => by have := h.1; simp at this
 | x :: a, [], h => by have := h.1; simp at this
 | x :: a, y :: b, h => by
  have ht : LeB a b := ⟨by have := h.1; simpa using this, fun i hi => by have := h.2 (i + 1); simp only [List.getElem?_cons_succ] at this; exact this hi⟩
  obtain ⟨h1, h2⟩ := offs_le a b ht
  have h0 := h.2 0
  simp only [List.getElem?_cons_zero] at h0
  unfold offs at *
  cases x <;> cases y
  · simp only [List.filter_cons, Bool.not_false, if_true, List.length_cons]
    exact ⟨by omega, fun e => by rw [h2 (by omega)]⟩
  · simp only [List.filter_cons, Bool.not_false, Bool.not_true, if_true, Bool.false_eq_true, if_false, List.length_cons]
    exact ⟨by omega, fun e => by omega⟩
  · exact absurd (h0 rfl) (by simp)
  · simp only [List.filter_cons, Bool.not_true, Bool.false_eq_true, if_false]
    exact ⟨h1, fun e => by rw [h2 e]⟩
theorem offsL_set : ∀ (L : List (List Bool)) (i : Nat) (l l' : List Bool), L[i]? = some l → offsL (L.set i l') + offs l = offsL L + offs l'
 | [], i, l, l', h => by simp at h
 | x :: L, 0, l, l', h => by
  simp at h
  subst h
  simp only [offsL, List.set_cons_zero, List.map_cons, List.foldr_cons]
  omega
 | x :: L, i + 1, l, l', h => by
  have := offsL_set L i l l' (by simpa using h)
  simp only [offsL, List.set_cons_succ, List.map_cons, List.foldr_cons] at this ⊢
  omega
def Pre (regs : Nat) (bs : List VB) (M : List (List Bool)) : Prop := M.length = bs.length ∧ ∀ (i : Nat) (x : VB), bs[i]? = some x → LeB (liveF regs x M) (M.getD i []) ∧ (M.getD i []).length = regs
def Inv (regs : Nat) (bs : List VB) (L : List (List Bool)) : Prop := L.length = bs.length ∧ (∀ (i : Nat) (x : VB), bs[i]? = some x → LeB (L.getD i []) (liveF regs x L)) ∧ ∀ M, Pre regs bs M → LeL L M
theorem getD_set (L : List (List Bool)) (i j : Nat) (l : List Bool) (hi : i < L.length) : (L.set i l).getD j [] = if i = j then l else L.getD j [] := by
 simp only [List.getD, List.getElem?_set]
 by_cases e : i = j
 · subst e; simp [hi]
 · simp [e]
theorem set_up {L : List (List Bool)} {i : Nat} {l : List Bool} (hi : i < L.length) (h : LeB (L.getD i []) l) : LeL L (L.set i l) := by
 refine ⟨by simp, fun j => ?_⟩
 rw [getD_set L i j l hi]
 by_cases e : i = j
 · subst e; rw [if_pos rfl]; exact h
 · rw [if_neg e]; exact LeB.refl _
theorem Inv.step {regs : Nat} {bs : List VB} {L : List (List Bool)} (H : Inv regs bs L) {i : Nat} {x : VB} (hx : bs[i]? = some x) :
 Inv regs bs (L.set i (liveF regs x L)) ∧ offsL (L.set i (liveF regs x L)) ≤ offsL L ∧ (L.getD i [] ≠ liveF regs x L → offsL (L.set i (liveF regs x L)) < offsL L) := by
 have hil := (List.getElem?_eq_some_iff.1 hx).1
 have hL := H.1
 have hi : i < L.length := by omega
 have up := H.2.1 i x hx
 have hLL := set_up hi up
 obtain ⟨l, hl⟩ := at_lt (l := L) hi
 have hg : L.getD i [] = l := by simp [List.getD, hl]
 have hs := offsL_set L i l (liveF regs x L) hl
 rw [hg] at up
 obtain ⟨o1, o2⟩ := offs_le _ _ up
 refine ⟨⟨by rw [List.length_set]; exact hL, fun j y hy => ?_, fun M hM => ⟨by rw [List.length_set, (H.2.2 M hM).1], fun j => ?_⟩⟩, by omega, fun hne => ?_⟩
 · rw [getD_set L i j _ hi]
   by_cases e : i = j
   · subst e
     rw [hx] at hy
     cases hy
     rw [if_pos rfl]
     exact liveF_mono regs x hLL
   · rw [if_neg e]
     exact (H.2.1 j y hy).trans (liveF_mono regs y hLL)
 · rw [getD_set L i j _ hi]
   by_cases e : i = j
   · subst e
     rw [if_pos rfl]
     exact (liveF_mono regs x (H.2.2 M hM)).trans (hM.2 i x hx).1
   · rw [if_neg e]
     exact (H.2.2 M hM).2 j
 · rw [hg] at hne
   have : ¬ offs (liveF regs x L) = offs l := fun e => hne (o2 e)
   omega
theorem BL.put {h : Heap} {B q' n i : Nat} {qs : List Nat} {L : List (List Bool)} {l : List Bool} (H : BL h B qs L n) (hi : i < qs.length) (hq : h[q']? = some (bits l)) (hl : l.length = n) (hB : B ∉ qs) (hne : q' ≠ B) :
 ∃ h', st1 h ⟨B, 0, 0 + i * 1⟩ (.sl (.pos ⟨q', 0, 0⟩) n) = some h' ∧ But B h h' ∧ h'.length = h.length ∧ BL h' B (qs.set i q') (L.set i l) n := by
 refine ⟨h.set B (.cells ((qs.set i q').map fun q => .sl (.pos ⟨q, 0, 0⟩) n) (.grow 1) 0), ?_, but_set B h _, by simp, set_same H.hd, by simp [H.len], fun j q M hq' hM => ?_⟩
 · rw [Nat.zero_add, Nat.mul_one, st1_at H.hd (by simp) (by rw [List.length_map]; exact hi), List.map_set]
 · have hlen := H.len
   rw [List.getElem?_set] at hq' hM
   by_cases e : i = j
   · subst e
     rw [if_pos rfl, if_pos hi] at hq'
     rw [if_pos rfl, if_pos (by omega)] at hM
     cases hq'
     cases hM
     exact ⟨by rw [set_other (fun e => hne e.symm)]; exact hq, hl⟩
   · rw [if_neg e] at hq' hM
     obtain ⟨c1, c2⟩ := H.cell j q M hq' hM
     refine ⟨?_, c2⟩
     have hm := List.mem_of_getElem? hq'
     rw [set_other (fun e => by subst e; exact hB hm)]
     exact c1
theorem mem_set {α : Type} {l : List α} {i : Nat} {x y : α} (h : y ∈ l.set i x) : y = x ∨ y ∈ l := by
 obtain ⟨j, hj, he⟩ := List.getElem_of_mem h
 rw [List.getElem_set] at he
 split at he
 · exact .inl he.symm
 · exact .inr (he ▸ List.getElem_mem _)
theorem liveF_len {regs : Nat} {x : VB} {L : List (List Bool)} (hL : ∀ t ∈ x.e.to, (L.getD t.toNat []).length = regs) : (liveF regs x L).length = regs := by
 have af : ∀ (to : List Int) (l : List Bool), (∀ t ∈ to, (L.getD t.toNat []).length = regs) → l.length = regs → (afterL L l to).length = regs := by
  intro to
  induction to with
  | nil => intro l _ hl; exact hl
  | cons t to ih =>
   intro l ht hl
   have e := ht t (.head _)
   exact ih (orL l (L.getD t.toNat [])) (fun t' h' => ht t' (.tail _ h')) (by rw [orL_len (by omega), hl])
 have st : ∀ (ys : List VI) (l : List Bool), (ys.foldl stepB l).length = l.length := by
  intro ys
  induction ys with
  | nil => intro l; rfl
  | cons y ys ih =>
   intro l
   rw [List.foldl_cons, ih]
   unfold stepB
   rw [mark_len, List.length_set]
 unfold liveF beforeL
 rw [List.length_set, st, mark_len]
 exact af x.e.to _ hL (List.length_replicate ..)
end Go.Proofs.Ytnmdadadjneaiaa.D
/- tile: the lists are laid. -/
set_option linter.unusedVariables false
set_option linter.unusedSimpArgs false
namespace Go.Proofs.Ytnmdadadjneaiaa.D
open Go Go.Proofs.Ytnmdadadjneaiaa.Abs Go.Proofs
def hdr (n : Nat) (q : Nat) : AV := .sl (.pos ⟨q, 0, 0⟩) n
theorem lay_loop {h0 : Heap} {f : VF} {B N : Nat} (hr : 0 ≤ f.regs ∧ f.regs ≤ 8192) (hB : h0.length ≤ B) (hN : N ≤ 1000000) (Q : Kont (AV × Heap)) : ∀ (k j : Nat), j + k = N → ∀ (h : Heap) (qs : List Nat), qs.length = j → Old h0 h →
 h[B]? = some (.cells (qs.map (hdr f.regs.toNat) ++ List.replicate k (.sl .nil 0)) (.grow 1) 0) → (∀ q ∈ qs, h[q]? = some (bits (List.replicate f.regs.toNat false)) ∧ B < q) →
  ∃ h' qs', L61x5 mk0 E f.nm f.sp f.params.length f.regs f.sb f.blocks.length (.pos ⟨B, 0, 0⟩) N ((N : Nat) : Int) ((j : Nat) : Int) h Q = Q (.exit 0) (S61xe0 f.nm f.sp f.params.length f.regs f.sb f.blocks.length (.pos ⟨B, 0, 0⟩) N h') ∧
   Old h0 h' ∧ BL h' B qs' (List.replicate N (List.replicate f.regs.toNat false)) f.regs.toNat ∧ ∀ q ∈ qs', B < q := by
 intro k
 induction k with
 | zero =>
  intro j hj h qs hq ho hb hc
  rw [L61x5xeq, letK_eq, if_neg (by simp; omega)]
  refine ⟨h, qs, rfl, ho, ⟨?_, by simp; omega, fun i q M h1 h2 => ?_⟩, fun q hm => (hc q hm).2⟩
  · rw [hb, List.replicate_zero, List.append_nil]; rfl
  · have hm := (List.mem_replicate.1 (List.mem_of_getElem? h2)).2
    subst hm
    exact ⟨(hc q (List.mem_of_getElem? h1)).1, List.length_replicate ..⟩
 | succ k ih =>
  intro j hj h qs hq ho hb hc
  have hBl : B < h.length := (List.getElem?_eq_some_iff.1 hb).1
  have rp : repl (Int.toNat f.regs) [AV.bool false] = (List.replicate f.regs.toNat false).map .bool := by simp [repl]
  have hb2 : (h ++ [bits (List.replicate f.regs.toNat false)])[B]? = some (.cells (qs.map (hdr f.regs.toNat) ++ List.replicate (k + 1) (.sl .nil 0)) (.grow 1) 0) := app_old hb
  have hset : (qs.map (hdr f.regs.toNat) ++ List.replicate (k + 1) (AV.sl .nil 0)).set (0 + j * 1) (.sl (.pos ⟨h.length, 0, 0⟩) f.regs.toNat) = (qs ++ [h.length]).map (hdr f.regs.toNat) ++ List.replicate k (.sl .nil 0) := by
   rw [Nat.zero_add, Nat.mul_one, List.set_append_right _ _ (by rw [List.length_map]; omega), List.length_map, hq, Nat.sub_self, List.replicate_succ, List.set_cons_zero, List.map_append]
   simp [hdr]
  rw [L61x5xeq, letK_eq, if_pos (by simp; omega), chk_of (by omega), newK_eq, letK_eq, chk_of (by intro _; omega), adP_pos, atP_of, Int.toNat_natCast, add_mk, rp]
  show ∃ h' qs', (Option.bind (st1 (h ++ [bits (List.replicate f.regs.toNat false)]) ⟨B, 0, 0 + j * 1⟩ (.sl (.pos ⟨h.length, 0, 0⟩) f.regs.toNat)) _) = _ ∧ _
  rw [st1_at hb2 (by simp) (by simp; omega), Option.bind_some, letK_eq, wrap64 (by omega) (by omega), show ((j : Int) + 1) = ((j + 1 : Nat) : Int) by omega, hset]
  refine ih (j + 1) (by omega) _ (qs ++ [h.length]) (by simp; omega) (fun q y hy => ?_) (set_same hb2) (fun q hm => ?_)
  · have := (List.getElem?_eq_some_iff.1 hy).1
    rw [set_other (by omega)]
    exact app_old (ho q y hy)
  · rw [List.mem_append, List.mem_singleton] at hm
    rcases hm with hm | rfl
    · obtain ⟨c1, c2⟩ := hc q hm
      exact ⟨by rw [set_other (by omega)]; exact app_old c1, c2⟩
    · exact ⟨by rw [set_other (by omega)]; exact last_get _ _, hBl⟩
end Go.Proofs.Ytnmdadadjneaiaa.D
/- tile: one round of live. -/
set_option linter.unusedVariables false
set_option linter.unusedSimpArgs false
namespace Go.Proofs.Ytnmdadadjneaiaa.D
open Go Go.Proofs.Ytnmdadadjneaiaa.Abs Go.Proofs
structure VB.okB (x : VB) (n N : Nat) : Prop where
 ins : ∀ y ∈ x.ins, y.okR n
 e : ∀ r ∈ endL x.e, 0 ≤ r ∧ r < (n : Int)
 len : x.ins.length ≤ 1000000
 to : ∀ t ∈ x.e.to, 0 ≤ t ∧ t < (N : Int)
 tol : x.e.to.length < 9223372036854775807
theorem round_loop {h0 : Heap} {f : VF} {B : Nat} (R : f.R h0) (hr : 0 < f.regs ∧ f.regs ≤ 8192) (ok : ∀ x ∈ f.blocks, x.okB f.regs.toNat f.blocks.length) (hN : f.blocks.length ≤ 1000000) (hB : h0.length ≤ B) (Q : Kont (AV × Heap)) :
 ∀ (m : Nat), m ≤ f.blocks.length → ∀ (h : Heap) (qs : List Nat) (L : List (List Bool)) (b5 : Bool), Old h0 h → BL h B qs L f.regs.toNat → (∀ q ∈ qs, B < q ∧ q < h.length) → Inv f.regs.toNat f.blocks L →
  ∃ h' qs' L' b', L61x25 mk0 E f.nm f.sp f.params.length f.regs f.sb f.blocks.length (.pos ⟨B, 0, 0⟩) f.blocks.length b5 ((m : Int) - 1) h Q = Q (.exit 4) (S61xe4 f.nm f.sp f.params.length f.regs f.sb f.blocks.length (.pos ⟨B, 0, 0⟩) f.blocks.length b' h') ∧
   Old h0 h' ∧ BL h' B qs' L' f.regs.toNat ∧ (∀ q ∈ qs', B < q ∧ q < h'.length) ∧ Inv f.regs.toNat f.blocks L' ∧ offsL L' ≤ offsL L ∧ (b' = true → b5 = true ∨ offsL L' < offsL L) ∧
   (b' = false → L' = L ∧ b5 = false ∧ ∀ (i : Nat) (x : VB), i < m → f.blocks[i]? = some x → L.getD i [] = liveF f.regs.toNat x L) := by
 intro m
 induction m with
 | zero =>
  intro hm h qs L b5 ho HB hq HI
  rw [L61x25xeq, letK_eq, if_neg (by simp)]
  exact ⟨h, qs, L, b5, rfl, ho, HB, hq, HI, Nat.le_refl _, fun h => .inl h, fun h => ⟨rfl, h, fun i x hi => by omega⟩⟩
 | succ m ih =>
  intro hm h qs L b5 ho HB hq HI
  obtain ⟨x, hx⟩ := at_lt (l := f.blocks) (i := m) (by omega)
  have okx := ok x (List.mem_of_getElem? hx)
  have Rh := R.old ho
  have hqL := HB.len
  have hLN := HI.1
  obtain ⟨h1, a1, a2, a3, a4⟩ := after_ok Rh ⟨by omega, hr.2⟩ hx HB (fun q hm => (hq q hm).2) (fun t ht => by have := okx.to t ht; omega) okx.tol
  obtain ⟨h2, b1, b2, b3, b4⟩ := before_ok (Rh.r x (List.mem_of_getElem? hx)) a2 (Nat.le_refl _) okx.ins okx.e okx.len (by omega) a3 a4
  have o2 : Old h h2 := fun q y hy => b2 q y (a2 q y hy) (by have := (List.getElem?_eq_some_iff.1 hy).1; omega)
  have HB2 := HB.old o2
  have hlen : qs.length = f.blocks.length := by omega
  obtain ⟨a, ha, la⟩ := vs_ld (vs_old R.b (ho.trans a2)) vb_flat m x hx
  obtain ⟨q, hqm⟩ := at_lt (l := qs) (i := m) (by omega)
  obtain ⟨M, hM⟩ := at_lt (l := L) (i := m) (by omega)
  obtain ⟨c1, c2⟩ := HB2.cell m q M hqm hM
  have rd : ld1 h2 ⟨B, 0, 0 + m * 1⟩ = some (.sl (.pos ⟨q, 0, 0⟩) f.regs.toNat) := ld1_at HB2.hd (by rw [Nat.zero_add, Nat.mul_one, List.getElem?_map, hqm]; rfl) rfl
  have hg : L.getD m [] = M := by simp [List.getD, hM]
  have up := HI.2.1 m x hx
  have bl : (liveF f.regs.toNat x L).length = f.regs.toNat := by rw [← up.1, hg, c2]
  have eq := eqb_ok b4 c1 bl c2 (by omega)
  rw [hlen] at a1
  simp only [VF.cells] at a1
  simp only [VB.cells, VE.cells] at la b1
  rw [show ((((m + 1 : Nat) : Int)) - 1) = (m : Int) by omega, L61x25xeq, letK_eq, if_pos (by simp), a1, Option.bind_some, gL_of, chk_of (by intro _; omega), ha, atP_of, Int.toNat_natCast, la, gCells_of]
  simp only [List.getElem?_cons_zero, List.getElem?_cons_succ]
  rw [gL_of, gI_of, gI_of, gI_of, gI_of, gI_of, gL_of, b1, Option.bind_some]
  show ∃ h' qs' L' b', (chk _ _ : Res) = _ ∧ _
  rw [chk_of (by intro _; omega), adP_pos, atP_of, add_mk, rd, gL_of]
  have eq' : E 91 [.sl (.pos ⟨h.length, 0, 0⟩) f.regs.toNat, .sl (.pos ⟨q, 0, 0⟩) f.regs.toNat] h2 = some (.bool (decide (liveF f.regs.toNat x L = M)), h2) := eq
  rw [eq', Option.bind_some, gB_of]
  have ol := o2.le
  have qb : ∀ q ∈ qs, B < q ∧ q < h2.length := fun q hm => ⟨(hq q hm).1, by have := (hq q hm).2; omega⟩
  by_cases he : liveF f.regs.toNat x L = M
  · rw [if_neg (by simp [he]), J61x36xeq, letK_eq, wrap64 (by omega) (by omega)]
    obtain ⟨h', qs', L', b', r1, r2, r3, r4, r5, r6, r7, r8⟩ := ih (by omega) h2 qs L b5 (ho.trans o2) HB2 qb HI
    refine ⟨h', qs', L', b', r1, r2, r3, r4, r5, r6, r7, fun hb => ?_⟩
    obtain ⟨e1, e2, e3⟩ := r8 hb
    refine ⟨e1, e2, fun i y hi hy => ?_⟩
    by_cases hij : i = m
    · subst hij
      rw [hx] at hy
      cases hy
      rw [hg, he]
    · exact e3 i y (by omega) hy
  · have hBq : B ∉ qs := fun hm => by have := (hq B hm).1; omega
    have hBl : B < h.length := (List.getElem?_eq_some_iff.1 HB.hd).1
    obtain ⟨h3, p1, p2, p3, p4⟩ := HB2.put (i := m) (by omega) b4 bl hBq (by omega)
    obtain ⟨s1, s2, s3⟩ := HI.step hx
    have o3 : Old h0 h3 := fun z y hy => p2 z y ((ho.trans o2) z y hy) (by have := (List.getElem?_eq_some_iff.1 hy).1; omega)
    have lt := s3 (by rw [hg]; exact fun e => he e.symm)
    obtain ⟨h', qs', L', b', r1, r2, r3, r4, r5, r6, r7, r8⟩ := ih (by omega) h3 (qs.set m h.length) (L.set m (liveF f.regs.toNat x L)) true o3 p4 (fun z hz => by
     rcases mem_set hz with rfl | hz
     · have := (List.getElem?_eq_some_iff.1 b4).1
       exact ⟨hBl, by omega⟩
     · have := qb z hz
       exact ⟨this.1, by omega⟩) s1
    have bt : b' = true := by
     cases hb : b' with
     | true => rfl
     | false => exact absurd (r8 hb).2.1 (by simp)
    rw [if_pos (by simp [he]), chk_of (by intro _; omega), atP_of, add_mk, p1, Option.bind_some, J61x36xeq, letK_eq, wrap64 (by omega) (by omega)]
    exact ⟨h', qs', L', b', r1, r2, r3, r4, r5, by omega, fun _ => .inr (by omega), fun hb => by rw [bt] at hb; cases hb⟩
end Go.Proofs.Ytnmdadadjneaiaa.D
/- tile: live ends, at a fixed point. -/
set_option linter.unusedVariables false
set_option linter.unusedSimpArgs false
namespace Go.Proofs.Ytnmdadadjneaiaa.D
open Go Go.Proofs.Ytnmdadadjneaiaa.Abs Go.Proofs
theorem rounds {h0 : Heap} {f : VF} {B : Nat} (R : f.R h0) (hr : 0 < f.regs ∧ f.regs ≤ 8192) (ok : ∀ x ∈ f.blocks, x.okB f.regs.toNat f.blocks.length) (hN : f.blocks.length ≤ 1000000) (hB : h0.length ≤ B) :
 ∀ (c : Nat) (h : Heap) (qs : List Nat) (L : List (List Bool)), offsL L ≤ c → Old h0 h → BL h B qs L f.regs.toNat → (∀ q ∈ qs, B < q ∧ q < h.length) → Inv f.regs.toNat f.blocks L →
  ∃ h' qs' L', L61x16 mk0 E f.nm f.sp f.params.length f.regs f.sb f.blocks.length (.pos ⟨B, 0, 0⟩) f.blocks.length true h (Q61x16 mk0 E) = some (.sl (.pos ⟨B, 0, 0⟩) f.blocks.length, h') ∧
   Old h0 h' ∧ BL h' B qs' L' f.regs.toNat ∧ (∀ q ∈ qs', B < q ∧ q < h'.length) ∧ L'.length = f.blocks.length ∧ (∀ (i : Nat) (x : VB), f.blocks[i]? = some x → L'.getD i [] = liveF f.regs.toNat x L') ∧ ∀ M, Pre f.regs.toNat f.blocks M → LeL L' M := by
 intro c
 induction c with
 | zero =>
  intro h qs L hc ho HB hq HI
  obtain ⟨h', qs', L', b', r1, r2, r3, r4, r5, r6, r7, r8⟩ := round_loop R hr ok hN hB (Q61x25 mk0 E (Q61x16 mk0 E)) f.blocks.length (Nat.le_refl _) h qs L false ho HB hq HI
  rw [L61x16xeq, if_pos rfl, letK_eq, wrap64 (by omega) (by omega), r1, X61x25xe4]
  have bf : b' = false := by
   cases hb : b' with
   | false => rfl
   | true => rcases r7 hb with h | h; cases h; omega
  subst bf
  obtain ⟨e1, e2, e3⟩ := r8 rfl
  subst e1
  rw [L61x16xeq, if_neg (by simp), X61x16xe2]
  exact ⟨h', qs', _, rfl, r2, r3, r4, r5.1, fun i x hx => e3 i x (List.getElem?_eq_some_iff.1 hx).1 hx, r5.2.2⟩
 | succ c ih =>
  intro h qs L hc ho HB hq HI
  obtain ⟨h', qs', L', b', r1, r2, r3, r4, r5, r6, r7, r8⟩ := round_loop R hr ok hN hB (Q61x25 mk0 E (Q61x16 mk0 E)) f.blocks.length (Nat.le_refl _) h qs L false ho HB hq HI
  rw [L61x16xeq, if_pos rfl, letK_eq, wrap64 (by omega) (by omega), r1, X61x25xe4]
  cases hb : b' with
  | true =>
   have lt : offsL L' < offsL L := by rcases r7 hb with h | h; cases h; exact h
   exact ih h' qs' L' (by omega) r2 r3 r4 r5
  | false =>
   obtain ⟨e1, e2, e3⟩ := r8 hb
   subst e1
   rw [L61x16xeq, if_neg (by simp), X61x16xe2]
   exact ⟨h', qs', _, rfl, r2, r3, r4, r5.1, fun i x hx => e3 i x (List.getElem?_eq_some_iff.1 hx).1 hx, r5.2.2⟩
end Go.Proofs.Ytnmdadadjneaiaa.D
/- tile.live. -/
set_option linter.unusedVariables false
set_option linter.unusedSimpArgs false
namespace Go.Proofs.Ytnmdadadjneaiaa.D
open Go Go.Proofs.Ytnmdadadjneaiaa.Abs Go.Proofs
theorem inv0 {f : VF} (ok : ∀ x ∈ f.blocks, x.okB f.regs.toNat f.blocks.length) : Inv f.regs.toNat f.blocks (List.replicate f.blocks.length (List.replicate f.regs.toNat false)) := by
 have hg : ∀ j, j < f.blocks.length → (List.replicate f.blocks.length (List.replicate f.regs.toNat false)).getD j [] = List.replicate f.regs.toNat false := fun j hj => by simp [List.getD, List.getElem?_replicate, hj]
 refine ⟨by simp, fun i x hx => ?_, fun M hM => ⟨by rw [List.length_replicate, hM.1], fun j => ?_⟩⟩
 rotate_left
 · by_cases hj : j < f.blocks.length
   · rw [hg j hj]
     obtain ⟨x, hx⟩ := at_lt hj
     refine ⟨by rw [List.length_replicate, (hM.2 j x hx).2], fun i hi => ?_⟩
     have := (List.mem_replicate.1 (List.mem_of_getElem? hi)).2
     cases this
   · have e1 : (List.replicate f.blocks.length (List.replicate f.regs.toNat false)).getD j [] = [] := by
      rw [List.getD_eq_getElem?_getD, List.getElem?_eq_none (by rw [List.length_replicate]; omega)]; rfl
     have e2 : M.getD j [] = [] := by
      rw [List.getD_eq_getElem?_getD, List.getElem?_eq_none (by rw [hM.1]; omega)]; rfl
     rw [e1, e2]; exact LeB.refl _
 have hi := (List.getElem?_eq_some_iff.1 hx).1
 rw [hg i hi]
 refine ⟨?_, fun j hj => ?_⟩
 · rw [List.length_replicate, liveF_len]
   intro t ht
   have := (ok x (List.mem_of_getElem? hx)).to t ht
   rw [hg t.toNat (by omega), List.length_replicate]
 · have := (List.mem_replicate.1 (List.mem_of_getElem? hj)).2
   cases this
theorem live_ok {h : Heap} {f : VF} (R : f.R h) (hr : 0 < f.regs ∧ f.regs ≤ 8192) (ok : ∀ x ∈ f.blocks, x.okB f.regs.toNat f.blocks.length) (hN : f.blocks.length ≤ 1000000) :
 ∃ h' qs L, E 61 [.agg f.cells] h = some (.sl (.pos ⟨h.length, 0, 0⟩) f.blocks.length, h') ∧ Old h h' ∧ BL h' h.length qs L f.regs.toNat ∧ (∀ q ∈ qs, h.length < q ∧ q < h'.length) ∧ L.length = f.blocks.length ∧
  (∀ (i : Nat) (x : VB), f.blocks[i]? = some x → L.getD i [] = liveF f.regs.toNat x L) ∧ ∀ M, Pre f.regs.toNat f.blocks M → LeL L M := by
 obtain ⟨h1, qs1, l1, l2, l3, l4⟩ := lay_loop (f := f) (B := h.length) (N := f.blocks.length) ⟨by omega, hr.2⟩ (Nat.le_refl _) hN (Q61x5 mk0 E) f.blocks.length 0 (by omega) (h ++ [.cells (([] : List Nat).map (hdr f.regs.toNat) ++ List.replicate f.blocks.length (.sl .nil 0)) (.grow 1) 0]) [] rfl (old_app _ _) (last_get _ _) (by simp)
 rw [show (((0 : Nat) : Int)) = 0 from rfl] at l1
 obtain ⟨h2, qs2, L, r1, r2, r3, r4, r5, r6⟩ := rounds R hr ok hN (Nat.le_refl _) _ h1 qs1 _ (Nat.le_refl _) l2 l3 (fun q hm => by
  refine ⟨l4 q hm, ?_⟩
  obtain ⟨j, hj, he⟩ := List.getElem_of_mem hm
  have hl := l3.len
  obtain ⟨M, hM⟩ := at_lt (l := List.replicate f.blocks.length (List.replicate f.regs.toNat false)) (i := j) (by omega)
  exact (List.getElem?_eq_some_iff.1 (l3.cell j q M (by rw [List.getElem?_eq_getElem hj, he]) hM).1).1) (inv0 ok)
 unfold VF.cells
 have rp : repl (Int.toNat ((f.blocks.length : Nat) : Int)) [AV.sl .nil 0] = ([] : List Nat).map (hdr f.regs.toNat) ++ List.replicate f.blocks.length (.sl .nil 0) := by simp [repl]
 rw [e61, chk_of (by omega), newK_eq, letK_eq, rp, Int.toNat_natCast, l1, X61x5xe0, r1]
 exact ⟨h2, qs2, L, rfl, r2, r3, r4, r5, r6⟩
end Go.Proofs.Ytnmdadadjneaiaa.D
/- tile.Check. -/
set_option linter.unusedVariables false
set_option linter.unusedSimpArgs false
namespace Go.Proofs.Ytnmdadadjneaiaa.D
open Go Go.Proofs.Ytnmdadadjneaiaa.Abs Go.Proofs
structure VF.B (f : VF) : Prop where
 p : f.params.length ≤ 140737488355328
 b : f.blocks.length ≤ 140737488355328
 i : ∀ x ∈ f.blocks, x.ins.length ≤ 140737488355328
 t : ∀ x ∈ f.blocks, x.e.to.length ≤ 140737488355328
def parOk (l : List Int) (regs : Int) (i : Nat) : Prop := ∀ r, l[i]? = some r → (1 ≤ r ∧ r ≤ regs - 1) ∧ r ∉ l.take i
theorem params_loop {h : Heap} {f : VF} (R : f.R h) (B : f.B) (h0 : 1 ≤ f.regs) (h1 : f.regs ≤ 8192) (Q : Kont (AV × Heap)) : ∀ (k j : Nat), j + k = f.params.length →
 (∃ e : Int, e ≠ 0 ∧ ¬ (∀ i, j ≤ i → parOk f.params f.regs i) ∧ L26x14 mk0 E f.nm f.sp f.params.length f.regs f.sb f.blocks.length f.sp f.params.length ((f.params.length : Nat) : Int) ((j : Nat) : Int) h Q = Q .ret (S26xr e h)) ∨
 ((∀ i, j ≤ i → parOk f.params f.regs i) ∧ L26x14 mk0 E f.nm f.sp f.params.length f.regs f.sb f.blocks.length f.sp f.params.length ((f.params.length : Nat) : Int) ((j : Nat) : Int) h Q = Q (.exit 0) (S26xe0 f.nm f.sp f.params.length f.regs f.sb f.blocks.length h)) := by
 have bp := B.p
 intro k
 induction k with
 | zero =>
  intro j hj
  refine .inr ⟨fun i hi r hr => ?_, ?_⟩
  · have := (List.getElem?_eq_some_iff.1 hr).1; omega
  · rw [L26x14xeq, letK_eq, if_neg (by simp; omega)]
 | succ k ih =>
  intro j hj
  obtain ⟨y, hy⟩ := at_lt (l := f.params) (i := j) (by omega)
  obtain ⟨a, ha, la⟩ := vs_ld1 (g := AV.int .i64) R.p (fun _ => rfl) j y hy
  rw [L26x14xeq, letK_eq, if_pos (by simp; omega), chk_of (by intro _; omega), ha, atP_of, Int.toNat_natCast, la, gI_of, letK_eq, wrap64 (by omega) (by omega), in_ok, Option.bind_some, gB_of]
  cases hb : inB y 1 (f.regs - 1) with
  | false =>
   rw [if_pos (by simp)]
   refine .inl ⟨6, by omega, fun hall => ?_, rfl⟩
   have := (hall j (Nat.le_refl _) y hy).1
   unfold inB at hb
   rw [decide_eq_true this.1, decide_eq_true this.2] at hb
   cases hb
  | true =>
   have hyr : 1 ≤ y ∧ y ≤ f.regs - 1 := by unfold inB at hb; simpa using hb
   have V := vs_take R.p j (by omega)
   rw [if_neg (by simp), chkC_of (by intro _; exact ⟨by omega, .inl (by omega)⟩), letK_eq, contains_ok V (by omega), Option.bind_some, gB_of]
   by_cases hm : y ∈ f.params.take j
   · rw [if_pos (by simp [hm])]
     exact .inl ⟨7, by omega, fun hall => (hall j (Nat.le_refl _) y hy).2 hm, rfl⟩
   · rw [if_neg (by simp [hm]), letK_eq, wrap64 (by omega) (by omega), show ((j : Int) + 1) = ((j + 1 : Nat) : Int) by omega]
     rcases ih (j + 1) (by omega) with ⟨e, e1, e2, e3⟩ | ⟨e2, e3⟩
     · exact .inl ⟨e, e1, fun hall => e2 fun i hi => hall i (by omega), e3⟩
     · refine .inr ⟨fun i hi => ?_, e3⟩
       by_cases he : i = j
       · subst he
         intro r hr
         rw [hy] at hr; cases hr
         exact ⟨hyr, hm⟩
       · exact e2 i (by omega)
theorem ins_loop {h0 : Heap} {f : VF} {x : VB} (R : x.R h0) (hx : x.ins.length ≤ 140737488355328) (g0 : 0 ≤ f.regs) (g1 : f.regs ≤ 8192) (i5 : Int) (s56 : SA) (n56 : Nat) (i57 i58 : Int) (Q : Kont (AV × Heap)) : ∀ (k j : Nat), j + k = x.ins.length → ∀ (h : Heap), Old h0 h →
 ∃ h', Old h0 h' ∧ ((∃ e : Int, e ≠ 0 ∧ ¬ (∀ y ∈ x.ins.drop j, badV y f.regs = 0) ∧ L26x52 mk0 E f.nm f.sp f.params.length f.regs f.sb f.blocks.length i5 x.s x.ins.length x.e.kind x.e.op x.e.a x.e.b x.e.n x.e.s x.e.to.length s56 n56 i57 i58 x.s x.ins.length ((x.ins.length : Nat) : Int) ((j : Nat) : Int) h Q = Q .ret (S26xr e h')) ∨
 ((∀ y ∈ x.ins.drop j, badV y f.regs = 0) ∧ L26x52 mk0 E f.nm f.sp f.params.length f.regs f.sb f.blocks.length i5 x.s x.ins.length x.e.kind x.e.op x.e.a x.e.b x.e.n x.e.s x.e.to.length s56 n56 i57 i58 x.s x.ins.length ((x.ins.length : Nat) : Int) ((j : Nat) : Int) h Q = Q (.exit 4) (S26xe4 f.nm f.sp f.params.length f.regs f.sb f.blocks.length i5 x.s x.ins.length x.e.kind x.e.op x.e.a x.e.b x.e.n x.e.s x.e.to.length s56 n56 i57 i58 h'))) := by
 intro k
 induction k with
 | zero =>
  intro j hj h ho
  refine ⟨h, ho, .inr ⟨?_, ?_⟩⟩
  · rw [List.drop_eq_nil_of_le (by omega)]; simp
  · rw [L26x52xeq, letK_eq, if_neg (by simp; omega)]
 | succ k ih =>
  intro j hj h ho
  obtain ⟨y, hy⟩ := at_lt (l := x.ins) (i := j) (by omega)
  obtain ⟨a, ha, la⟩ := vs_ld (vs_old R.i ho) vi_flat j y hy
  obtain ⟨h1, b1, b2⟩ := badIns_ok ((R.r y (List.mem_of_getElem? hy)).old ho) g0 g1
  simp only [VI.cells] at la b1
  rw [L26x52xeq, letK_eq, if_pos (by simp; omega), chk_of (by intro _; omega), ha, atP_of, Int.toNat_natCast, la, gCells_of]
  simp only [List.getElem?_cons_zero, List.getElem?_cons_succ]
  rw [gI_of, gI_of, gI_of, gI_of, gI_of, gL_of, b1, Option.bind_some, gI_of, letK_eq, drop_at hy]
  by_cases hz : badV y f.regs = 0
  · rw [if_neg (by simp [hz]), letK_eq, wrap64 (by omega) (by omega), show ((j : Int) + 1) = ((j + 1 : Nat) : Int) by omega]
    obtain ⟨h', o', c⟩ := ih (j + 1) (by omega) h1 (ho.trans b2)
    refine ⟨h', o', ?_⟩
    rcases c with ⟨e, e1, e2, e3⟩ | ⟨e2, e3⟩
    · exact .inl ⟨e, e1, fun hall => e2 fun z hz => hall z (.tail _ hz), e3⟩
    · exact .inr ⟨fun z hm => by
       rcases List.mem_cons.1 hm with rfl | hm
       · exact hz
       · exact e2 z hm, e3⟩
  · rw [if_pos (by simp [hz])]
    exact ⟨h1, ho.trans b2, .inl ⟨_, hz, fun hall => hz (hall y (.head _)), rfl⟩⟩
def blkOk (regs : Int) (N : Nat) (x : VB) : Prop := (∀ y ∈ x.ins, badV y regs = 0) ∧ endV x.e regs N = 0
def sumI (bs : List VB) : Nat := (bs.map fun x => x.ins.length).foldr (· + ·) 0
theorem blks_loop {h0 : Heap} {f : VF} (R : f.R h0) (B : f.B) (hN : f.blocks.length ≤ 4096) (g0 : 0 ≤ f.regs) (g1 : f.regs ≤ 8192) (Q : Kont (AV × Heap)) : ∀ (k j : Nat), j + k = f.blocks.length → ∀ (m : Nat) (h : Heap), m ≤ 4096 → Old h0 h →
 ∃ h', Old h0 h' ∧ ((∃ e : Int, e ≠ 0 ∧ ¬ ((∀ x ∈ f.blocks.drop j, blkOk f.regs f.blocks.length x) ∧ m + sumI (f.blocks.drop j) ≤ 4096) ∧ L26x35 mk0 E f.nm f.sp f.params.length f.regs f.sb f.blocks.length ((m : Nat) : Int) f.sb f.blocks.length ((f.blocks.length : Nat) : Int) ((j : Nat) : Int) h Q = Q .ret (S26xr e h')) ∨
 (((∀ x ∈ f.blocks.drop j, blkOk f.regs f.blocks.length x) ∧ m + sumI (f.blocks.drop j) ≤ 4096) ∧ L26x35 mk0 E f.nm f.sp f.params.length f.regs f.sb f.blocks.length ((m : Nat) : Int) f.sb f.blocks.length ((f.blocks.length : Nat) : Int) ((j : Nat) : Int) h Q = Q (.exit 2) (S26xe2 f.nm f.sp f.params.length f.regs f.sb f.blocks.length h'))) := by
 intro k
 induction k with
 | zero =>
  intro j hj m h hm ho
  refine ⟨h, ho, .inr ⟨?_, ?_⟩⟩
  · rw [List.drop_eq_nil_of_le (by omega)]; exact ⟨by simp, by simpa [sumI] using hm⟩
  · rw [L26x35xeq, letK_eq, if_neg (by simp; omega)]
 | succ k ih =>
  intro j hj m h hm ho
  obtain ⟨x, hx⟩ := at_lt (l := f.blocks) (i := j) (by omega)
  have hxm := List.mem_of_getElem? hx
  have bi := B.i x hxm
  have bt := B.t x hxm
  obtain ⟨a, ha, la⟩ := vs_ld (vs_old R.b ho) vb_flat j x hx
  simp only [VB.cells, VE.cells] at la
  have sm : sumI (f.blocks.drop j) = x.ins.length + sumI (f.blocks.drop (j + 1)) := by rw [drop_at hx]; rfl
  rw [L26x35xeq, letK_eq, if_pos (by simp; omega), chk_of (by intro _; omega), ha, atP_of, Int.toNat_natCast, la, gCells_of]
  simp only [List.getElem?_cons_zero, List.getElem?_cons_succ]
  rw [gL_of, gI_of, gI_of, gI_of, gI_of, gI_of, gL_of, letK_eq, wrap64 (by omega) (by omega), letK_eq]
  by_cases hs : m + x.ins.length ≤ 4096
  · rw [if_neg (by simp; omega), show ((m : Nat) : Int) + ((x.ins.length : Nat) : Int) = ((m + x.ins.length : Nat) : Int) by omega]
    obtain ⟨h1, o1, c⟩ := ins_loop (f := f) ((R.r x hxm)) bi g0 g1 ((m + x.ins.length : Nat) : Int) f.sb f.blocks.length ((f.blocks.length : Nat) : Int) ((j : Nat) : Int) (Q26x52 mk0 E Q) x.ins.length 0 (by omega) h ho
    rw [show (((0 : Nat) : Int)) = 0 from rfl, List.drop_zero] at c
    rcases c with ⟨e, e1, e2, e3⟩ | ⟨e2, e3⟩
    · rw [e3, X26x52xr]
      exact ⟨h1, o1, .inl ⟨e, e1, fun hh => e2 (hh.1 x (by rw [drop_at hx]; exact .head _)).1, rfl⟩⟩
    · have bE := badEnd_ok ((R.r x hxm).e.old o1) (by omega) g0 g1 (bs := ((f.blocks.length : Nat) : Int)) (by omega) (by omega)
      simp only [VE.cells] at bE
      rw [e3, X26x52xe4, bE, Option.bind_some, gI_of, letK_eq]
      by_cases hz : endV x.e f.regs ((f.blocks.length : Nat) : Int) = 0
      · rw [if_neg (by simp [hz]), letK_eq, wrap64 (by omega) (by omega), show ((j : Int) + 1) = ((j + 1 : Nat) : Int) by omega]
        obtain ⟨h', o', c⟩ := ih (j + 1) (by omega) (m + x.ins.length) h1 hs o1
        refine ⟨h', o', ?_⟩
        rcases c with ⟨e, d1, d2, d3⟩ | ⟨d2, d3⟩
        · refine .inl ⟨e, d1, fun hall => d2 ⟨fun z hz => hall.1 z (by rw [drop_at hx]; exact .tail _ hz), ?_⟩, d3⟩
          have := hall.2
          omega
        · refine .inr ⟨⟨fun z hm => ?_, ?_⟩, d3⟩
          · rw [drop_at hx] at hm
            rcases List.mem_cons.1 hm with rfl | hm
            · exact ⟨e2, hz⟩
            · exact d2.1 z hm
          · have := d2.2
            omega
      · rw [if_pos (by simp [hz])]
        exact ⟨h1, o1, .inl ⟨_, hz, fun hh => hz (hh.1 x (by rw [drop_at hx]; exact .head _)).2, rfl⟩⟩
  · rw [if_pos (by simp; omega)]
    exact ⟨h, ho, .inl ⟨2, by omega, fun hh => by have := hh.2; omega, rfl⟩⟩
def VF.lfp (f : VF) (L : List (List Bool)) : Prop := Pre f.regs.toNat f.blocks L ∧ ∀ M, Pre f.regs.toNat f.blocks M → LeL L M
theorem LeB.anti {a b : List Bool} (h1 : LeB a b) (h2 : LeB b a) : a = b := by
 apply List.ext_getElem?
 intro i
 have l := h1.1
 by_cases hi : i < a.length
 · obtain ⟨x, hx⟩ := at_lt hi
   obtain ⟨y, hy⟩ := at_lt (l := b) (i := i) (by omega)
   have k1 := h1.2 i
   have k2 := h2.2 i
   rw [hx, hy] at k1 k2
   rw [hx, hy]
   cases x <;> cases y <;> simp_all
 · rw [List.getElem?_eq_none (by omega), List.getElem?_eq_none (by omega)]
theorem VF.lfp.uniq {f : VF} {L M : List (List Bool)} (h1 : f.lfp L) (h2 : f.lfp M) : L = M := by
 apply List.ext_getElem?
 intro i
 have e := (h1.2 M h2.1).2 i
 have e' := (h2.2 L h1.1).2 i
 have l1 := h1.1.1
 have l2 := h2.1.1
 have eq := e.anti e'
 by_cases hi : i < L.length
 · obtain ⟨x, hx⟩ := at_lt hi
   obtain ⟨y, hy⟩ := at_lt (l := M) (i := i) (by omega)
   simp only [List.getD, hx, hy, Option.getD_some] at eq
   rw [hx, hy, eq]
 · rw [List.getElem?_eq_none (by omega), List.getElem?_eq_none (by omega)]
structure VF.ok (f : VF) : Prop where
 np : f.params.length ≤ 6
 nb : f.blocks.length ≤ 4096
 regs : 1 ≤ f.regs ∧ f.regs ≤ 8192
 b0 : 0 < f.blocks.length
 par : ∀ i, parOk f.params f.regs i
 blk : ∀ x ∈ f.blocks, blkOk f.regs f.blocks.length x
 sum : sumI f.blocks ≤ 4096
 lv : ∀ L, f.lfp L → ∀ r : Nat, 1 ≤ r → (L.getD 0 [])[r]? = some true → ((r : Nat) : Int) ∈ f.params
theorem okR_of {y : VI} {regs : Int} (h0 : 0 ≤ regs) (h : badV y regs = 0) : y.okR regs.toNat := by
 unfold badV at h
 split at h
 · omega
 split at h
 · omega
 rename_i h2
 split at h
 · omega
 rename_i h3
 split at h
 · rename_i h4
   refine ⟨?_, fun r hr => ?_⟩
   · unfold bad2 at h3
     simp only [Bool.or_eq_true, not_or, decide_eq_true_eq] at h3
     omega
   · have := List.all_eq_true.1 h4 r hr
     unfold inB at this
     simp only [Bool.and_eq_true, decide_eq_true_eq] at this
     omega
 · omega
theorem end_of {x : VE} {regs : Int} {N : Nat} (h0 : 0 ≤ regs) (h : endV x regs N = 0) : (x.kind = 0 ∨ x.kind = 1 ∨ x.kind = 2 ∨ x.kind = 3) ∧ okE x = true ∧ ((x.to.length : Nat) : Int) = manyE x.kind ∧ (0 ≤ x.a ∧ x.a < regs) ∧ (0 ≤ x.b ∧ x.b < regs) ∧ ∀ t ∈ x.to, 1 ≤ t ∧ t < (N : Int) := by
 unfold endV at h
 split at h
 · rename_i hk
   unfold restE at h
   split at h
   · omega
   rename_i h1
   split at h
   · omega
   rename_i h2
   split at h
   · rename_i h3
     refine ⟨hk, ?_, ?_, ?_, ?_, fun t ht => ?_⟩
     · cases ho : okE x with
       | true => rfl
       | false => rw [ho] at h1; simp at h1
     · simp only [Bool.or_eq_true, not_or, Bool.not_eq_true', decide_eq_false_iff_not, Decidable.not_not] at h1
       exact h1.2
     · rw [Bool.not_eq_false] at h2
       simp only [inB, Bool.and_eq_true, decide_eq_true_eq] at h2
       omega
     · rw [Bool.not_eq_false] at h2
       simp only [inB, Bool.and_eq_true, decide_eq_true_eq] at h2
       omega
     · have := List.all_eq_true.1 h3 t ht
       unfold inB at this
       simp only [Bool.and_eq_true, decide_eq_true_eq] at this
       omega
   · omega
 · omega
theorem sumI_mem : ∀ {bs : List VB} {x : VB}, x ∈ bs → x.ins.length ≤ sumI bs
 | y :: bs, x, h => by
  simp only [sumI, List.map_cons, List.foldr_cons]
  rcases List.mem_cons.1 h with rfl | h
  · omega
  · have := sumI_mem h
    unfold sumI at this
    omega
theorem okB_of {f : VF} (hr : 1 ≤ f.regs) (hb : ∀ x ∈ f.blocks, blkOk f.regs f.blocks.length x) (hs : sumI f.blocks ≤ 4096) : ∀ x ∈ f.blocks, x.okB f.regs.toNat f.blocks.length := by
 intro x hx
 obtain ⟨h1, h2⟩ := hb x hx
 obtain ⟨e1, e2, e3, e4, e5, e6⟩ := end_of (by omega) h2
 have := sumI_mem hx
 refine ⟨fun y hy => okR_of (by omega) (h1 y hy), fun r hr => ?_, by omega, fun t ht => by have := e6 t ht; omega, ?_⟩
 · unfold endL at hr
   have := (List.mem_filter.1 hr).1
   simp only [List.mem_cons, List.not_mem_nil, or_false] at this
   rcases this with rfl | rfl <;> omega
 · have : manyE x.e.kind ≤ 2 := by
    unfold manyE
    split
    · omega
    · split <;> omega
   omega
theorem lv_loop {h : Heap} {f : VF} (R : f.R h) {B : Nat} {qs : List Nat} {L : List (List Bool)} (HB : BL h B qs L f.regs.toNat) (hN : 0 < f.blocks.length) (hq : qs.length = f.blocks.length) (hp : f.params.length ≤ 6) (h0 : 1 ≤ f.regs) (h1 : f.regs ≤ 8192) (Q : Kont (AV × Heap)) : ∀ (k j : Nat), j + k = f.regs.toNat →
 (∃ e : Int, e ≠ 0 ∧ ¬ (∀ r : Nat, j ≤ r → (L.getD 0 [])[r]? = some true → ((r : Nat) : Int) ∈ f.params) ∧ L26x74 mk0 E f.nm f.sp f.params.length f.regs f.sb f.blocks.length (.pos ⟨B, 0, 0⟩) f.blocks.length ((j : Nat) : Int) h Q = Q .ret (S26xr e h)) ∨
 ((∀ r : Nat, j ≤ r → (L.getD 0 [])[r]? = some true → ((r : Nat) : Int) ∈ f.params) ∧ L26x74 mk0 E f.nm f.sp f.params.length f.regs f.sb f.blocks.length (.pos ⟨B, 0, 0⟩) f.blocks.length ((j : Nat) : Int) h Q = Q (.exit 6) (S26xe6 h)) := by
 have hl := HB.len
 obtain ⟨q, hq0⟩ := at_lt (l := qs) (i := 0) (by omega)
 obtain ⟨M, hM⟩ := at_lt (l := L) (i := 0) (by omega)
 obtain ⟨c1, c2⟩ := HB.cell 0 q M hq0 hM
 have hg : L.getD 0 [] = M := by simp [List.getD, hM]
 rw [hg]
 have rd : ld1 h ⟨B, 0, 0 + Int.toNat 0 * 1⟩ = some (.sl (.pos ⟨q, 0, 0⟩) f.regs.toNat) := ld1_at HB.hd (by rw [List.getElem?_map]; simp [hq0]) rfl
 intro k
 induction k with
 | zero =>
  intro j hj
  refine .inr ⟨fun r hr hM => ?_, ?_⟩
  · have := (List.getElem?_eq_some_iff.1 hM).1; omega
  · rw [L26x74xeq, letK_eq, if_neg (by simp; omega)]
 | succ k ih =>
  intro j hj
  obtain ⟨b, hb⟩ := at_lt (l := M) (i := j) (by omega)
  have g := bits_get c1 hb
  have cc := contains_ok R.p (by omega) ((j : Nat) : Int)
  rw [L26x74xeq, letK_eq, if_pos (by simp; omega), chk_of (by intro _; omega), adP_pos, atP_of, add_mk, rd, gL_of, chk_of (by intro _; omega), adP_pos, atP_of, Int.toNat_natCast, add_mk, g, gB_of, gL_any, cc, callO_bool, Option.bind_some, gB_any, letK_eq]
  have step : ∀ (P : Prop), (b = true → ((j : Nat) : Int) ∈ f.params) →
   ((∃ e : Int, e ≠ 0 ∧ ¬ (∀ r : Nat, j ≤ r → M[r]? = some true → ((r : Nat) : Int) ∈ f.params) ∧ L26x74 mk0 E f.nm f.sp f.params.length f.regs f.sb f.blocks.length (.pos ⟨B, 0, 0⟩) f.blocks.length ((j + 1 : Nat) : Int) h Q = Q .ret (S26xr e h)) ∨
  ((∀ r : Nat, j ≤ r → M[r]? = some true → ((r : Nat) : Int) ∈ f.params) ∧ L26x74 mk0 E f.nm f.sp f.params.length f.regs f.sb f.blocks.length (.pos ⟨B, 0, 0⟩) f.blocks.length ((j + 1 : Nat) : Int) h Q = Q (.exit 6) (S26xe6 h))) := by
    intro _ hj1
    rcases ih (j + 1) (by omega) with ⟨e, e1, e2, e3⟩ | ⟨e2, e3⟩
    · exact .inl ⟨e, e1, fun hall => e2 fun i hi => hall i (by omega), e3⟩
    · refine .inr ⟨fun r hr hMr => ?_, e3⟩
      by_cases he : r = j
      · subst he
        rw [hb] at hMr; cases hMr
        exact hj1 rfl
      · exact e2 r (by omega) hMr
  cases b with
  | false =>
   rw [if_neg (by simp), letK_eq, wrap64 (by omega) (by omega), show ((j : Int) + 1) = ((j + 1 : Nat) : Int) by omega]
   exact step True (by simp)
  | true =>
   by_cases hm : ((j : Nat) : Int) ∈ f.params
   · rw [if_neg (by simp [hm]), letK_eq, wrap64 (by omega) (by omega), show ((j : Int) + 1) = ((j + 1 : Nat) : Int) by omega]
     exact step True (fun _ => hm)
   · rw [if_pos (by simp [hm])]
     exact .inl ⟨12, by omega, fun hall => hm (hall j (Nat.le_refl _) hb), rfl⟩
theorem check_ok {h : Heap} {f : VF} (R : f.R h) (B : f.B) : ∃ h', ∃ e : Int, E 26 [.agg f.cells] h = some (.int .i64 e, h') ∧ Old h h' ∧ (e = 0 ↔ f.ok) := by
 unfold VF.cells
 have bp := B.p
 have bb := B.b
 rw [e26]
 simp only [letK_eq, gL_any, gI_any, in_call, Option.bind_some, gB_any, decide_eq_true_eq]
 by_cases h1 : f.params.length ≤ 6
 case neg =>
  rw [if_pos (by simp; omega)]
  exact ⟨h, 2, rfl, Old.refl _, by simp, fun o => absurd o.np h1⟩
 by_cases h2 : f.blocks.length ≤ 4096
 case neg =>
  rw [if_pos (by simp; omega)]
  exact ⟨h, 2, rfl, Old.refl _, by simp, fun o => absurd o.nb h2⟩
 by_cases h3 : 1 ≤ f.regs ∧ f.regs ≤ 8192
 case neg =>
  rw [if_pos (by unfold inB; simp; omega)]
  exact ⟨h, 2, rfl, Old.refl _, by simp, fun o => absurd o.regs h3⟩
 rw [if_neg (by unfold inB; simp; omega)]
 by_cases h4 : 0 < f.blocks.length
 case neg =>
  rw [if_pos (by omega)]
  exact ⟨h, 3, rfl, Old.refl _, by simp, fun o => absurd o.b0 h4⟩
 rw [if_neg (by omega)]
 have pl := params_loop R B h3.1 h3.2 (Q26x14 mk0 E) f.params.length 0 (by omega)
 rw [show (((0 : Nat) : Int)) = 0 from rfl] at pl
 rcases pl with ⟨e, e1, e2, e3⟩ | ⟨p2, e3⟩
 · rw [e3, X26x14xr]
   exact ⟨h, e, rfl, Old.refl _, fun he => absurd he e1, fun o => absurd (fun i _ => o.par i) e2⟩
 rw [e3, X26x14xe0]
 obtain ⟨h1', o1, c⟩ := blks_loop R B h2 (by omega) h3.2 (Q26x35 mk0 E) f.blocks.length 0 (by omega) 0 h (by omega) (Old.refl _)
 rw [show (((0 : Nat) : Int)) = 0 from rfl, List.drop_zero, Nat.zero_add] at c
 rcases c with ⟨e, e1, e2, e3⟩ | ⟨b2, e3⟩
 · rw [e3, X26x35xr]
   exact ⟨h1', e, rfl, o1, fun he => absurd he e1, fun o => absurd ⟨o.blk, o.sum⟩ e2⟩
 have okB := okB_of h3.1 b2.1 b2.2
 obtain ⟨h2', qs, L, l1, l2, l3, l4, l5, l6, l7⟩ := live_ok (R.old o1) ⟨by omega, h3.2⟩ okB (by omega)
 have LF : f.lfp L := ⟨⟨l5, fun i x hx => ⟨by rw [← l6 i x hx]; exact LeB.refl _, by
  have hi := (List.getElem?_eq_some_iff.1 hx).1
  have hl := l3.len
  obtain ⟨q, hq⟩ := at_lt (l := qs) (i := i) (by omega)
  obtain ⟨M, hM⟩ := at_lt (l := L) (i := i) (by omega)
  have := (l3.cell i q M hq hM).2
  simp only [List.getD, hM, Option.getD_some]
  exact this⟩⟩, l7⟩
 simp only [VF.cells] at l1
 rw [e3, X26x35xe2, l1, Option.bind_some, gL_of]
 have vl := lv_loop ((R.old o1).old l2) l3 h4 (by have := l3.len; omega) h1 h3.1 h3.2 (Q26x74 mk0 E) (f.regs.toNat - 1) 1 (by omega)
 rw [show (((1 : Nat) : Int)) = 1 from rfl] at vl
 rcases vl with ⟨e, e1, e2, e3⟩ | ⟨v2, e3⟩
 · rw [e3, X26x74xr]
   exact ⟨h2', e, rfl, o1.trans l2, fun he => absurd he e1, fun o => absurd (o.lv L LF) e2⟩
 · rw [e3, X26x74xe6]
   refine ⟨h2', 0, rfl, o1.trans l2, fun _ => ⟨h1, h2, h3, h4, fun i => p2 i (by omega), b2.1, b2.2, fun L' hL' => ?_⟩, fun _ => rfl⟩
   rw [hL'.uniq LF]
   exact v2
end Go.Proofs.Ytnmdadadjneaiaa.D
