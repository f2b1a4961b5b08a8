/- color.Interfere; the law ColorEnough. -/
import Derived.Test.YtnmdadadjneaiaaDAlive
import Derived.Test.YtnmdadadjneaiaaConDe
set_option linter.unusedVariables false
set_option linter.unusedSimpArgs false
namespace Go.Proofs.Ytnmdadadjneaiaa.D
open Go Go.Proofs.Ytnmdadadjneaiaa.Abs Go.Proofs
structure IP (n : Nat) (L : List (List Bool)) (P : Nat → Nat → Prop) (l : List (Int × Int)) : Prop where
 bd : ∀ p ∈ l, 0 ≤ p.1 ∧ p.1 < p.2 ∧ p.2 < (n : Int)
 all : ∀ a b : Nat, a < b → gg L a b = true → P a b → (((a : Nat) : Int), ((b : Nat) : Int)) ∈ l
theorem inter_in {h0 : Heap} {n a q : Nat} (hn : n ≤ 8192) {L : List (List Bool)} {M : List Bool} (hq : h0[q]? = some (bits M)) (hM : M.length = n) (hL : L[a]? = some M) (han : a < n) (s20 : SA) (n20 : Nat) (i21 i22 : Int) (c : Nat) (hc : c ≤ 100000000) (Q : Kont (AV × Heap)) :
 ∀ (k j : Nat), j + k = n → a < j → ∀ (h : Heap) (s : SA) (l : List (Int × Int)), Old h0 h → GS h s l.length 2 (l.flatMap mvC) → (∀ b, inS s b → h0.length ≤ b) → IP n L (fun x y => x < a ∨ (x = a ∧ y < j)) l → l.length ≤ c + j →
  ∃ h' s' l', L13x22 mk0 E s l.length ((a : Nat) : Int) (.pos ⟨q, 0, 0⟩) n ((j : Nat) : Int) s20 n20 i21 i22 h Q = Q (.exit 2) (S13xe2 s' l'.length s20 n20 i21 i22 h') ∧ Old h0 h' ∧ GS h' s' l'.length 2 (l'.flatMap mvC) ∧ (∀ b, inS s' b → h0.length ≤ b) ∧ IP n L (fun x y => x < a + 1) l' ∧ l'.length ≤ c + n := by
 intro k
 induction k with
 | zero =>
  intro j hj ha h s l ho g so H hl
  rw [L13x22xeq, letK_eq, if_neg (by simp; omega)]
  refine ⟨h, s, l, rfl, ho, g, so, ⟨H.bd, fun x y hxy hg hp => H.all x y hxy hg ?_⟩, by omega⟩
  by_cases e : x = a
  · right
    refine ⟨e, ?_⟩
    rw [e] at hg
    unfold gg at hg
    simp only [List.getD, hL, Option.getD_some] at hg
    cases hz : M[y]? with
    | none => rw [hz] at hg; cases hg
    | some z => have := (List.getElem?_eq_some_iff.1 hz).1; omega
  · left; omega
 | succ k ih =>
  intro j hj ha h s l ho g so H hl
  obtain ⟨z, hz⟩ := at_lt (l := M) (i := j) (by omega)
  rw [L13x22xeq, letK_eq, if_pos (by simp; omega), chk_of (by intro _; omega), adP_pos, atP_of, Int.toNat_natCast, add_mk, bits_get (ho _ _ hq) hz, gB_of]
  cases z with
  | false =>
   rw [if_neg (by simp), J13x31xeq, letK_eq, wrap64 (x := (j : Int) + 1) (by omega) (by omega), show ((j : Int) + 1) = ((j + 1 : Nat) : Int) by omega]
   refine ih (j + 1) (by omega) (by omega) h s l ho g so ⟨H.bd, fun x y hxy hg hp => ?_⟩ (by omega)
   by_cases e : x = a ∧ y = j
   · rw [e.1, e.2, gg_cell hL hz] at hg; cases hg
   · exact H.all x y hxy hg (by omega)
  | true =>
   have cat : l.flatMap mvC ++ [AV.int .i64 (a : Nat), .int .i64 (j : Nat)] = (l ++ [(((a : Nat) : Int), ((j : Nat) : Int))]).flatMap mvC := by simp [mvC]
   obtain ⟨s', h', a1, a2, a3, a4, a5, a6⟩ := gs_add (bytes := 16) g [.int .i64 (a : Nat), .int .i64 (j : Nat)] (by omega) rfl rfl (by rw [cat]; exact rows_flat (fun _ => rfl) _) (by omega)
   rw [cat] at a3
   rw [if_pos rfl, newK_eq, a1, Option.bind_some, a2, Option.bind_some, gL_of, J13x31xeq, letK_eq, wrap64 (x := (j : Int) + 1) (by omega) (by omega), show ((j : Int) + 1) = ((j + 1 : Nat) : Int) by omega, show l.length + 1 = (l ++ [(((a : Nat) : Int), ((j : Nat) : Int))]).length by simp]
   refine ih (j + 1) (by omega) (by omega) h' s' _ (fun b x hb => a4 b x (ho b x hb) fun hi => ?_) (by rw [List.length_append]; exact a3) (fun b hb => ?_) ⟨fun p hp => ?_, fun x y hxy hg hp => ?_⟩ (by simp; omega)
   · have := so b hi; have := (List.getElem?_eq_some_iff.1 hb).1; omega
   · rcases a5 b hb with h5 | h5
     · exact so b h5
     · have := ho.le; omega
   · rcases List.mem_append.1 hp with hp | hp
     · exact H.bd p hp
     · rw [List.mem_singleton] at hp
       rw [hp]
       exact ⟨by simp, by simp; omega, by simp; omega⟩
   · by_cases e : x = a ∧ y = j
     · rw [e.1, e.2]; simp
     · exact List.mem_append.2 (.inl (H.all x y hxy hg (by omega)))
theorem inter_loop {h0 : Heap} {g : Gr} {n : Nat} (M : GM h0 g n) (hn : n ≤ 8192) (Q : Kont (AV × Heap)) :
 ∀ (k j : Nat), j + k = n → ∀ (h : Heap) (s : SA) (l : List (Int × Int)), Old h0 h → GS h s l.length 2 (l.flatMap mvC) → (∀ b, inS s b → h0.length ≤ b) → IP n g.L (fun x y => x < j) l → l.length ≤ j * n →
  ∃ h' s' l', L13x12 mk0 E s l.length (.pos ⟨g.B, g.v, 0⟩) n ((n : Nat) : Int) ((j : Nat) : Int) h Q = Q (.exit 0) (S13xe0 s' l'.length h') ∧ Old h0 h' ∧ GS h' s' l'.length 2 (l'.flatMap mvC) ∧ IP n g.L (fun _ _ => True) l' ∧ l'.length ≤ n * n := by
 intro k
 induction k with
 | zero =>
  intro j hj h s l ho gs so H hl
  rw [L13x12xeq, letK_eq, if_neg (by simp; omega)]
  rw [show j = n by omega] at hl H
  refine ⟨h, s, l, rfl, ho, gs, ⟨H.bd, fun x y hxy hg _ => H.all x y hxy hg ?_⟩, hl⟩
  have := gg_lt M hg
  omega
 | succ k ih =>
  intro j hj h s l ho gs so H hl
  have Mh := M.old ho
  obtain ⟨q, R, s1, s2, s3, s4, s5, s6⟩ := M.row (j := j) (by omega)
  obtain ⟨q', R', t1, t2, t3, t4, t5, t6⟩ := Mh.row (j := j) (by omega)
  rw [s1] at t1; cases t1
  rw [s2] at t2; cases t2
  have jn : j * n ≤ 8192 * 8192 := Nat.mul_le_mul (by omega) (by omega)
  obtain ⟨h', s', l', r1, r2, r3, r4, r5, r6⟩ := inter_in (h0 := h0) hn s3 s4 s2 (by omega) (.pos ⟨g.B, g.v, 0⟩) n ((n : Nat) : Int) ((j : Nat) : Int) (j * n) (by omega) (Q13x22 mk0 E Q) (n - (j + 1)) (j + 1) (by omega) (by omega) h s l ho gs so ⟨H.bd, fun x y hxy hg hp => H.all x y hxy hg (by omega)⟩ (by omega)
  obtain ⟨h2, s2', l2, u1, u2⟩ := ih (j + 1) (by omega) h' s' l' r2 r3 r4 r5 (by rw [Nat.succ_mul]; omega)
  rw [L13x12xeq, letK_eq, if_pos (by simp; omega), chk_of (by intro _; omega), adP_pos, atP_of, Int.toNat_natCast, add_mk, t5, gL_of, letK_eq, wrap64 (x := (j : Int) + 1) (by omega) (by omega), show ((j : Int) + 1) = ((j + 1 : Nat) : Int) by omega, r1, X13x22xe2, letK_eq, wrap64 (x := (j : Int) + 1) (by omega) (by omega), show ((j : Int) + 1) = ((j + 1 : Nat) : Int) by omega, u1]
  exact ⟨h2, s2', l2, rfl, u2⟩
theorem inter_ok {h : Heap} {f : VF} (R : f.R h) (B : f.B) :
 (¬ f.ok ∧ ∃ h', ∃ e : Int, e ≠ 0 ∧ E 13 [.agg f.cells] h = some (.tup [.sl .nil 0, .int .i64 e], h') ∧ Old h h') ∨
 (f.ok ∧ ∃ h' s l L, E 13 [.agg f.cells] h = some (.tup [.sl s l.length, .int .i64 0], h') ∧ Old h h' ∧ VS mvC 2 h' s l.length l ∧ f.lfp L ∧ (∀ p ∈ l, 0 ≤ p.1 ∧ p.1 < p.2 ∧ p.2 < (f.regs.toNat : Int)) ∧ (∀ a b : Nat, a < b → (pBuild f L).E a b → (((a : Nat) : Int), ((b : Nat) : Int)) ∈ l) ∧ l.length ≤ 8192 * 8192) := by
 obtain ⟨h1, e, c1, c2, c3⟩ := check_ok R B
 unfold VF.cells at *
 by_cases he : e = 0
 · subst he
   have fo := c3.1 rfl
   have fr := fo.regs
   right
   refine ⟨fo, ?_⟩
   obtain ⟨h2, g, L, b1, b2, b3, b4, b5⟩ := build_ok (R.old c2) B fo
   unfold VF.cells at b1
   have rd := b4.m.ld 0 (.sl (.pos ⟨g.B, g.v, 0⟩) f.regs.toNat) rfl rfl
   obtain ⟨h3, s, l, r1, r2, r3, r4, r5⟩ := inter_loop b4.m (by omega) (Q13x12 mk0 E) f.regs.toNat 0 (by omega) h2 .nil [] (Old.refl _) ⟨rfl, rfl, .inl ⟨rfl, rfl⟩⟩ (fun b ⟨_, hh, _⟩ => by cases hh) ⟨fun p hp => (by cases hp), fun x y _ _ hp => (by omega)⟩ (Nat.zero_le _)
   rw [show (((0 : Nat) : Int)) = 0 from rfl, show ([] : List (Int × Int)).length = 0 from rfl] at r1
   refine ⟨h3, s, l, L, ?_, (c2.trans b2).trans r2, vs_GS (f := mvC) (es := 2) (fun _ => rfl) rfl r3, b3, r4.bd, fun a b hab hE => r4.all a b hab ((b4.e a b).2 hE) trivial, Nat.le_trans r5 (Nat.mul_le_mul (by omega) (by omega))⟩
   rw [e13, c1, Option.bind_some, gI_of, letK_eq, if_neg (by simp), b1, Option.bind_some, gP_of, atP_of, add_mk, rd, gL_of, r1, X13x12xe0]
 · left
   refine ⟨fun fo => he (c3.2 fo), h1, e, he, ?_, c2⟩
   rw [e13, c1, Option.bind_some, gI_of, letK_eq, if_pos (by simp [he])]
def hasR (r : Int) (p : Int × Int) : Bool := decide (p.1 = r) || decide (p.2 = r)
def cntP (l : List (Int × Int)) (r : Int) : Nat := (l.filter (hasR r)).length
theorem cntP_app (l : List (Int × Int)) (p : Int × Int) (r : Int) : cntP (l ++ [p]) r = cntP l r + (if p.1 = r ∨ p.2 = r then 1 else 0) := by
 unfold cntP
 rw [List.filter_append, List.length_append]
 congr 1
 by_cases h : p.1 = r ∨ p.2 = r
 · rw [if_pos h, List.filter_cons_of_pos (by unfold hasR; rcases h with h | h <;> simp [h])]; rfl
 · rw [if_neg h, List.filter_cons_of_neg (by
    rw [not_or] at h
    unfold hasR; simp [h.1, h.2])]; rfl
theorem cntP_le (l : List (Int × Int)) (r : Int) : cntP l r ≤ l.length := List.length_filter_le _ _
theorem few_pairs {l : List (Int × Int)} {E : Nat → Nat → Prop} (sy : Sy E) (all : ∀ a b : Nat, a < b → E a b → (((a : Nat) : Int), ((b : Nat) : Int)) ∈ l) {r : Nat} {T : List Nat} (nd : T.Nodup) (hT : ∀ t ∈ T, E r t) : T.length ≤ cntP l r := by
 have key := pig (T.map fun (t : Nat) => if r < t then (((r : Nat) : Int), ((t : Nat) : Int)) else (((t : Nat) : Int), ((r : Nat) : Int))) (l.filter (hasR r)) ?_ ?_
 · rw [List.length_map] at key
   exact key
 · refine List.pairwise_map.2 (List.Pairwise.imp_of_mem (R := fun a b => a ≠ b) (fun {a b} ha hb hne e => hne ?_) nd)
   have ra : r ≠ a := fun h => sy.i a (by have := hT a ha; rw [h] at this; exact this)
   have rb : r ≠ b := fun h => sy.i b (by have := hT b hb; rw [h] at this; exact this)
   split at e
   · split at e
     · have := (Prod.mk.inj e).2; omega
     · have := Prod.mk.inj e; omega
   · split at e
     · have := Prod.mk.inj e; omega
     · have := (Prod.mk.inj e).1; omega
 · intro p hp
   obtain ⟨t, ht, rfl⟩ := List.mem_map.1 hp
   have he := hT t ht
   have ne : r ≠ t := fun h => sy.i t (by rw [h] at he; exact he)
   split
   · rename_i hlt
     exact List.mem_filter.2 ⟨all r t hlt he, by unfold hasR; simp⟩
   · exact List.mem_filter.2 ⟨all t r (by omega) (sy.s _ _ he), by unfold hasR; simp⟩
theorem deg4_loop {h0 : Heap} {f : VF} {hd n : Nat} {s28 : SA} {l : List (Int × Int)} (V : VS mvC 2 h0 s28 l.length l) (bd : ∀ p ∈ l, 0 ≤ p.1 ∧ p.1 < p.2 ∧ p.2 < (n : Int)) (ll : l.length ≤ 1000000000) (ns : hd = h0.length) (Q : Kont (AV × Heap)) :
 ∀ (k j : Nat), j + k = l.length → ∀ (h : Heap) (d : List Int) (m : Int), Old h0 h → h[hd]? = some (intB d) → d.length = n → (∀ r : Nat, r < n → d[r]? = some ((cntP (l.take j) r : Nat) : Int)) → (0 ≤ m ∧ m ≤ 1000000000) → (∀ r : Nat, r < n → ((cntP (l.take j) r : Nat) : Int) ≤ m) →
  ∃ h' m', L4x17 mk0 E f.nm f.sp f.params.length f.regs f.sb f.blocks.length (.pos ⟨hd, 0, 0⟩) n m s28 l.length ((l.length : Nat) : Int) ((j : Nat) : Int) h Q = Q (.exit 0) (S4xe0 f.nm f.sp f.params.length f.regs f.sb f.blocks.length m' h') ∧ Old h0 h' ∧ (0 ≤ m' ∧ m' ≤ 1000000000) ∧ ∀ r : Nat, r < n → ((cntP l r : Nat) : Int) ≤ m' := by
 intro k
 induction k with
 | zero =>
  intro j hj h d m ho hq dl hd' hm hh
  rw [L4x17xeq, letK_eq, if_neg (by simp; omega)]
  rw [List.take_of_length_le (by omega)] at hh
  exact ⟨h, m, rfl, ho, hm, hh⟩
 | succ k ih =>
  intro j hj h d m ho hq dl hd' hm hh
  obtain ⟨p, hp⟩ := at_lt (l := l) (i := j) (by omega)
  obtain ⟨p1, p2, p3⟩ := bd p (List.mem_of_getElem? hp)
  obtain ⟨a, ha, la⟩ := vs_ld (vs_old V ho) (fun _ => rfl) j p hp
  unfold mvC at la
  have g0 : ([AV.int .i64 p.1, AV.int .i64 p.2])[(0 + Int.toNat 0 * 1)]? = some (.int .i64 p.1) := rfl
  have g1 : ([AV.int .i64 p.1, AV.int .i64 p.2])[(0 + Int.toNat 1 * 1)]? = some (.int .i64 p.2) := rfl
  have tk : l.take (j + 1) = l.take j ++ [p] := by rw [List.take_add_one, hp]; rfl
  have c1 := hd' p.1.toNat (by omega)
  have c2 := hd' p.2.toNat (by omega)
  have b1 := cntP_le (l.take j) ((p.1.toNat : Nat) : Int)
  have b2 := cntP_le (l.take j) ((p.2.toNat : Nat) : Int)
  rw [List.length_take] at b1 b2
  obtain ⟨A, eA⟩ : ∃ A : Int, A = ((cntP (l.take j) ((p.1.toNat : Nat) : Int) : Nat) : Int) := ⟨_, rfl⟩
  obtain ⟨B, eB⟩ : ∃ B : Int, B = ((cntP (l.take j) ((p.2.toNat : Nat) : Int) : Nat) : Int) := ⟨_, rfl⟩
  rw [← eA] at c1
  rw [← eB] at c2
  obtain ⟨a1, ha1, la1⟩ := vs_ld1 (g := AV.int .i64) (intB_vs hq dl) (fun _ => rfl) p.1.toNat A c1
  cases ha1
  have t1 := intB_set hq (i := p.1.toNat) (by omega) (A + 1)
  have q1 := set_same (x := intB (d.set p.1.toNat (A + 1))) hq
  have dl1 : (d.set p.1.toNat (A + 1)).length = n := by rw [List.length_set]; exact dl
  have c2' : (d.set p.1.toNat (A + 1))[p.2.toNat]? = some B := by rw [List.getElem?_set_ne (by omega)]; exact c2
  obtain ⟨a2, ha2, la2⟩ := vs_ld1 (g := AV.int .i64) (intB_vs q1 dl1) (fun _ => rfl) p.2.toNat B c2'
  cases ha2
  have t2 := intB_set q1 (i := p.2.toNat) (by omega) (B + 1)
  have q2 := set_same (x := intB ((d.set p.1.toNat (A + 1)).set p.2.toNat (B + 1))) q1
  have dl2 : ((d.set p.1.toNat (A + 1)).set p.2.toNat (B + 1)).length = n := by rw [List.length_set]; exact dl1
  have e1 : ((d.set p.1.toNat (A + 1)).set p.2.toNat (B + 1))[p.1.toNat]? = some (A + 1) := by rw [List.getElem?_set_ne (by omega), List.getElem?_set_self (by omega)]
  have e2 : ((d.set p.1.toNat (A + 1)).set p.2.toNat (B + 1))[p.2.toNat]? = some (B + 1) := by rw [List.getElem?_set_self (by omega)]
  obtain ⟨a3, ha3, la3⟩ := vs_ld1 (g := AV.int .i64) (intB_vs q2 dl2) (fun _ => rfl) p.1.toNat (A + 1) e1
  cases ha3
  obtain ⟨a4, ha4, la4⟩ := vs_ld1 (g := AV.int .i64) (intB_vs q2 dl2) (fun _ => rfl) p.2.toNat (B + 1) e2
  cases ha4
  obtain ⟨m2, em2⟩ : ∃ m2, m2 = foldMM true m [A + 1, B + 1] := ⟨_, rfl⟩
  have mm : m ≤ m2 ∧ A + 1 ≤ m2 ∧ B + 1 ≤ m2 ∧ m2 ≤ 1000000000 := by
   rw [em2]
   simp only [foldMM]
   split <;> split <;> omega
  have o1 : Old h0 (h.set hd (intB (d.set p.1.toNat (A + 1)))) := ho.set (by omega) _
  have o2 : Old h0 ((h.set hd (intB (d.set p.1.toNat (A + 1)))).set hd (intB ((d.set p.1.toNat (A + 1)).set p.2.toNat (B + 1)))) := o1.set (by omega) _
  have cn : ∀ r : Nat, r < n → ((d.set p.1.toNat (A + 1)).set p.2.toNat (B + 1))[r]? = some ((cntP (l.take (j + 1)) r : Nat) : Int) := fun r hr => by
   rw [tk, cntP_app]
   by_cases x1 : r = p.2.toNat
   · rw [x1, e2, eB, if_pos (.inr (by omega))]; congr 1
   · rw [List.getElem?_set_ne (Ne.symm x1)]
     by_cases x2 : r = p.1.toNat
     · rw [x2, List.getElem?_set_self (by omega), eA, if_pos (.inl (by omega))]; congr 1
     · rw [List.getElem?_set_ne (Ne.symm x2), hd' r hr, if_neg (by omega)]; rfl
  obtain ⟨h', m', r1, r2⟩ := ih (j + 1) (by omega) _ _ m2 o2 q2 dl2 cn (by omega) (fun r hr => by
   rw [tk, cntP_app]
   have := hh r hr
   split
   · rename_i hx
     rcases hx with hx | hx
     · have : ((p.1.toNat : Nat) : Int) = ((r : Nat) : Int) := by omega
       rw [this] at eA; omega
     · have : ((p.2.toNat : Nat) : Int) = ((r : Nat) : Int) := by omega
       rw [this] at eB; omega
   · omega)
  rw [L4x17xeq, letK_eq, if_pos (by simp; omega), chk_of (by intro _; omega), ha, atP_of, Int.toNat_natCast, la, gCells_of]
  simp only [List.getElem?_cons_zero, List.getElem?_cons_succ]
  rw [gI_of, gI_of, chk_of (by intro _; omega), g0, gI_of, chk_of (by intro _; omega), adP_pos, atP_of, la1, gI_of, letK_eq, wrap64 (x := A + 1) (by omega) (by omega), chk_of (by intro _; omega), atP_of, add_mk, t1, Option.bind_some, chk_of (by intro _; omega), g1, gI_of, chk_of (by intro _; omega), atP_of, la2, gI_of, letK_eq, wrap64 (x := B + 1) (by omega) (by omega), chk_of (by intro _; omega), atP_of, add_mk, t2, Option.bind_some, chk_of (by intro _; omega), gI_of, chk_of (by intro _; omega), atP_of, la3, gI_of, chk_of (by intro _; omega), gI_of, chk_of (by intro _; omega), atP_of, la4, gI_of, letK_eq, ← em2, letK_eq, wrap64 (x := (j : Int) + 1) (by omega) (by omega), show ((j : Int) + 1) = ((j + 1 : Nat) : Int) by omega, r1]
  exact ⟨h', m', rfl, r2⟩
theorem slot4_loop {h0 : Heap} {f : VF} (R : f.R h0) (fo : f.ok) {L : List (List Bool)} (H : f.lfp L) {s2 : SA} {T : List Int} (V : VS intC 1 h0 s2 f.regs.toNat T) (hk : ∀ (r : Nat) b, T[r]? = some b → 0 ≤ b → KeptP f L r) (s1 : SA) (n1 : Nat) (i9x2 : Int) :
 ∀ (k j : Nat), j + k = f.regs.toNat → 1 ≤ j → ∀ (h : Heap), Old h0 h →
  ∃ h', L4x41 mk0 E f.nm f.sp f.params.length f.regs f.sb f.blocks.length s1 n1 s2 f.regs.toNat i9x2 ((j : Nat) : Int) h (Q4x41 mk0 E) = some (.bool true, h') := by
 have fr := fo.regs
 have tl := V.1
 intro k
 induction k with
 | zero =>
  intro j hj h1 h ho
  rw [L4x41xeq, letK_eq, if_neg (by simp; omega), X4x41xe2]
  exact ⟨h, rfl⟩
 | succ k ih =>
  intro j hj h1 h ho
  obtain ⟨b, hb⟩ := at_lt (l := T) (i := j) (by omega)
  obtain ⟨a, ha, la⟩ := vs_ld1 (g := AV.int .i64) (vs_old V ho) (fun _ => rfl) j b hb
  rw [L4x41xeq, letK_eq, if_pos (by simp; omega), chk_of (by intro _; omega), ha, atP_of, Int.toNat_natCast, la, gI_of, letK_eq, chk_of (by intro _; omega), gI_any, gL_any, gI_any, gL_any]
  by_cases hb0 : 0 ≤ b
  · obtain ⟨h', k1, k2⟩ := kept_ok (R.old ho) fo H h1 (hk j b hb hb0)
    unfold VF.cells at k1
    rw [decide_eq_true hb0, callO_true, k1, Option.bind_some, gB_any, letK_eq, if_neg (by simp), letK_eq, wrap64 (x := (j : Int) + 1) (by omega) (by omega), show ((j : Int) + 1) = ((j + 1 : Nat) : Int) by omega]
    exact ih (j + 1) (by omega) (by omega) h' (ho.trans k2)
  · rw [decide_eq_false hb0, callO_false, Option.bind_some, gB_any, letK_eq, if_neg (by simp), letK_eq, wrap64 (x := (j : Int) + 1) (by omega) (by omega), show ((j : Int) + 1) = ((j + 1 : Nat) : Int) by omega]
    exact ih (j + 1) (by omega) (by omega) h ho
theorem lfp_uniq {f : VF} {L L' : List (List Bool)} (H : f.lfp L) (H' : f.lfp L') : L = L' := by
 have h1 := H.2 L' H'.1
 have h2 := H'.2 L H.1
 apply List.ext_getElem?
 intro i
 by_cases hi : i < L.length
 · obtain ⟨x, hx⟩ := at_lt hi
   obtain ⟨y, hy⟩ := at_lt (l := L') (i := i) (by have := h1.1; omega)
   have e1 := h1.2 i
   have e2 := h2.2 i
   simp only [List.getD, hx, hy, Option.getD_some] at e1 e2
   rw [hx, hy, e1.anti e2]
 · rw [List.getElem?_eq_none (by omega), List.getElem?_eq_none (by have := h1.1; omega)]
theorem colorEnough_ok {h : Heap} {f : VF} (R : f.R h) (B : f.B) : ∃ h', E 4 [.agg f.cells] h = some (.bool true, h') := by
 rcases inter_ok R B with ⟨nf, h1, e, e0, c1, c2⟩ | ⟨fo, h1, s, l, L, c1, c2, c3, c4, c5, c6, c7⟩
 · obtain ⟨h2, b, s1, s2, s3⟩ := small_ok (R.old c2) B
   unfold VF.cells at *
   rw [e4, fact8, Option.bind_some, gB_of, if_neg (by simp), c1, Option.bind_some, gT_of (n := 2) [_, _] rfl]
   simp only [List.getD_cons_zero, List.getD_cons_succ]
   rw [gL_of, gI_of, s1, Option.bind_some, gB_of, letK_eq, letK_eq, if_pos (by cases b <;> simp [e0])]
   exact ⟨h2, rfl⟩
 · obtain ⟨h2, b, s1, s2, s3⟩ := small_ok (R.old c2) B
   have fr := fo.regs
   cases b with
   | false =>
    unfold VF.cells at *
    rw [e4, fact8, Option.bind_some, gB_of, if_neg (by simp), c1, Option.bind_some, gT_of (n := 2) [_, _] rfl]
    simp only [List.getD_cons_zero, List.getD_cons_succ]
    rw [gL_of, gI_of, s1, Option.bind_some, gB_of, letK_eq, letK_eq, if_pos (by simp)]
    exact ⟨h2, rfl⟩
   | true =>
    obtain ⟨n, hn⟩ : ∃ n, n = f.regs.toNat := ⟨_, rfl⟩
    have zz : Blk.cells (repl (Int.toNat f.regs) [AV.int .i64 0]) (.grow 1) 0 = intB (List.replicate n 0) := by simp [repl, intB, hn]
    obtain ⟨h3, e3⟩ : ∃ h3, h3 = h2 ++ [intB (List.replicate n 0)] := ⟨_, rfl⟩
    have o3 : Old h2 h3 := by rw [e3]; exact old_app _ _
    obtain ⟨h4, m, d1, d2, d3, d4⟩ := deg4_loop (h0 := h2) (f := f) (hd := h2.length) (n := n) (vs_old c3 s2) (by rw [hn]; exact c5) (by omega) rfl (Q4x17 mk0 E) l.length 0 (by omega) h3 _ 0 o3 (by rw [e3]; exact last_get _ _) (List.length_replicate ..) (fun r hr => by rw [List.getElem?_replicate, if_pos hr]; rfl) (by omega) (fun r hr => by show ((0 : Nat) : Int) ≤ 0; omega)
    rw [show (((0 : Nat) : Int)) = 0 from rfl] at d1
    have oA : Old h h4 := (c2.trans s2).trans d2
    unfold VF.cells at *
    rw [e4, fact8, Option.bind_some, gB_of, if_neg (by simp), c1, Option.bind_some, gT_of (n := 2) [_, _] rfl]
    simp only [List.getD_cons_zero, List.getD_cons_succ]
    rw [gL_of, gI_of, s1, Option.bind_some, gB_of, letK_eq, letK_eq, if_neg (by simp), chk_of (by omega), newK_eq, letK_eq, zz, ← e3, ← hn, d1, X4x17xe0, letK_eq]
    by_cases hm : 10 ≤ m
    · rw [if_pos (decide_eq_true hm)]
      exact ⟨h4, rfl⟩
    · obtain ⟨h5, s5, s6, Rl, Tl, S, L5, u1, u2, u3, u4, u5, u6⟩ := alloc_ok (K := (m + 1).toNat) (R.old oA) B fo (by omega)
      have eL := lfp_uniq u5 c4
      subst eL
      unfold VF.cells at u1
      rw [show (((m + 1).toNat : Nat) : Int) = m + 1 by omega] at u1
      rw [if_neg (by simp; omega), letK_eq, wrap64 (x := m + 1) (by omega) (by omega), u1, Option.bind_some, gT_of (n := 2) [_, _] rfl]
      simp only [List.getD_cons_zero, List.getD_cons_succ]
      have sy := sy_build f L5
      have br := u6.br fun S hS hA => by
       obtain ⟨r, hr⟩ := List.exists_mem_of_ne_nil S hS
       refine ⟨r, hr, fun T hT hh => ?_⟩
       have rn : r < n := by
        have := (List.getElem?_eq_some_iff.1 (hA r hr).1).1
        have tl := (pm_build fo L5).1.tl
        omega
       have h1 := few_pairs sy c6 hT fun t ht => (hh t ht).2
       have h2 := d4 r rn
       omega
      obtain ⟨h6, w1⟩ := slot4_loop (R.old (oA.trans u2)) fo u5 u4 (fun r b hb h0 => build_kept fo u5 (br r b hb h0)) s5 f.regs.toNat S (f.regs.toNat - 1) 1 (by omega) (by omega) h5 (Old.refl _)
      rw [show (((1 : Nat) : Int)) = 1 from rfl] at w1
      refine ⟨h6, ?_⟩
      rw [gA_of, chk_of (by intro _; rfl)]
      simp only [List.getElem?_cons_zero, List.getElem?_cons_succ]
      rw [gL_of, gL_of, gI_of, gI_of, letK_eq, gL_any, gI_any, letK_eq, letK_eq, if_neg (by simp; omega), w1]
end Go.Proofs.Ytnmdadadjneaiaa.D
