/- alloccheck: what places hold, in memory. -/
import Derived.Test.YtnmdadadjneaiaaConDb
import Derived.Test.YtnmdadadjneaiaaDGen2
set_option linter.unusedVariables false
set_option linter.unusedSimpArgs false
namespace Go.Proofs.Ytnmdadadjneaiaa.D
open Go Go.Proofs.Ytnmdadadjneaiaa.Abs Go.Proofs
def Kp (S : Nat → Prop) (h h' : Heap) : Prop := ∀ (q : Nat) (x : Blk), h[q]? = some x → ¬ S q → h'[q]? = some x
theorem Kp.trans {S : Nat → Prop} {h1 h2 h3 : Heap} (x : Kp S h1 h2) (y : Kp S h2 h3) : Kp S h1 h3 := fun q z hq hn => y q z (x q z hq hn) hn
theorem Kp.mono {S T : Nat → Prop} {h1 h2 : Heap} (x : Kp S h1 h2) (st : ∀ q, S q → T q) : Kp T h1 h2 := fun q z hq hn => x q z hq fun hs => hn (st q hs)
theorem Old.kp {h h' : Heap} (x : Old h h') (S : Nat → Prop) : Kp S h h' := fun q z hq _ => x q z hq
theorem Kp.refl (S : Nat → Prop) (h : Heap) : Kp S h h := fun q z hq _ => hq
theorem kp_set (S : Nat → Prop) (b : Nat) (h : Heap) (x : Blk) (hb : S b) : Kp S h (h.set b x) := fun q z hq hn => by
 rw [set_other (fun e => hn (by subst e; exact hb))]; exact hq
theorem Kp.old {S : Nat → Prop} {h0 h h' : Heap} (x : Kp S h h') (o : Old h0 h) (hs : ∀ q, q < h0.length → ¬ S q) : Old h0 h' := fun q z hq => x q z (o q z hq) (hs q (List.getElem?_eq_some_iff.1 hq).1)
def bitsV (v : Nat) (l : List Bool) : Blk := .cells (l.map .bool) (.grow 1) v
def gg (L : List (List Bool)) (p r : Nat) : Bool := (L.getD p []).getD r false
theorem bitsV_get {h : Heap} {b v : Nat} {l : List Bool} (hb : h[b]? = some (bitsV v l)) {i : Nat} {x : Bool} (hi : l[i]? = some x) : ld1 h ⟨b, v, 0 + i * 1⟩ = some (.bool x) :=
 ld1_at hb (by rw [Nat.zero_add, Nat.mul_one, List.getElem?_map, hi]; rfl) rfl
theorem bitsV_set {h : Heap} {b v : Nat} {l : List Bool} (hb : h[b]? = some (bitsV v l)) (i : Nat) (hi : i < l.length) (y : Bool) :
 st1 h ⟨b, v, 0 + i * 1⟩ (.bool y) = some (h.set b (bitsV v (l.set i y))) := by
 rw [Nat.zero_add, Nat.mul_one, st1_at hb (by simp) (by rw [List.length_map]; exact hi)]
 unfold bitsV
 rw [List.map_set]
theorem gg_at {L : List (List Bool)} {p : Nat} {M : List Bool} (h : L[p]? = some M) (r : Nat) : gg L p r = M.getD r false := by
 unfold gg
 simp [List.getD, h]
theorem gg_get {L : List (List Bool)} {p r : Nat} {M : List Bool} {b : Bool} (h : L[p]? = some M) (hb : M[r]? = some b) : gg L p r = b := by
 rw [gg_at h]; simp [List.getD, hb]
theorem gg_set {L : List (List Bool)} {p r : Nat} {M : List Bool} (h : L[p]? = some M) (hr : r < M.length) (v : Bool) (q s : Nat) : gg (L.set p (M.set r v)) q s = if q = p ∧ s = r then v else gg L q s := by
 have hp := (List.getElem?_eq_some_iff.1 h).1
 unfold gg
 rw [getD_set L p q _ hp]
 by_cases e : p = q
 · subst e
   rw [if_pos rfl]
   by_cases e2 : r = s
   · subst e2; simp [List.getD, hr]
   · have : ¬ s = r := fun e => e2 e.symm
     simp [List.getD, e2, this, h]
 · have : ¬ q = p := fun x => e x.symm
   simp [e, this]
theorem gg_row {L : List (List Bool)} {p : Nat} (M : List Bool) (hp : p < L.length) (q s : Nat) : gg (L.set p M) q s = if q = p then M.getD s false else gg L q s := by
 unfold gg
 rw [getD_set L p q _ hp]
 by_cases e : p = q
 · subst e; simp
 · have : ¬ q = p := fun x => e x.symm
   simp [e, this]
structure Mt where
 B : Nat
 qs : List (Nat × Nat)
 L : List (List Bool)
def Mt.own (m : Mt) : List Nat := m.B :: m.qs.map Prod.fst
structure HM (h : Heap) (m : Mt) (P n : Nat) : Prop where
 hd : h[m.B]? = some (.cells (m.qs.map fun q => .sl (.pos ⟨q.1, q.2, 0⟩) n) (.grow 1) 0)
 lq : m.qs.length = P
 ll : m.L.length = P
 cell : ∀ (j : Nat) (q : Nat × Nat) (M : List Bool), m.qs[j]? = some q → m.L[j]? = some M → h[q.1]? = some (bitsV q.2 M) ∧ M.length = n
 nd : m.own.Nodup
theorem HM.kp {S : Nat → Prop} {h h' : Heap} {m : Mt} {P n : Nat} (H : HM h m P n) (k : Kp S h h') (hs : ∀ b ∈ m.own, ¬ S b) : HM h' m P n :=
 ⟨k _ _ H.hd (hs _ (.head _)), H.lq, H.ll, fun j q M hq hM => ⟨k _ _ (H.cell j q M hq hM).1 (hs _ (.tail _ (List.mem_map.2 ⟨q, List.mem_of_getElem? hq, rfl⟩))), (H.cell j q M hq hM).2⟩, H.nd⟩
theorem HM.old {h h' : Heap} {m : Mt} {P n : Nat} (H : HM h m P n) (k : Old h h') : HM h' m P n := H.kp (k.kp fun _ => False) fun _ _ h => h
theorem HM.lt {h : Heap} {m : Mt} {P n : Nat} (H : HM h m P n) : ∀ b ∈ m.own, b < h.length := by
 intro b hb
 rcases List.mem_cons.1 hb with rfl | hb
 · exact (List.getElem?_eq_some_iff.1 H.hd).1
 · obtain ⟨q, hq, rfl⟩ := List.mem_map.1 hb
   obtain ⟨j, hj, he⟩ := List.getElem_of_mem hq
   have h1 := H.lq
   have h2 := H.ll
   obtain ⟨M, hM⟩ := at_lt (l := m.L) (i := j) (by omega)
   exact (List.getElem?_eq_some_iff.1 (H.cell j q M (by rw [List.getElem?_eq_getElem hj, he]) hM).1).1
theorem HM.row {h : Heap} {m : Mt} {P n : Nat} (H : HM h m P n) {j : Nat} (hj : j < P) : ∃ q M, m.qs[j]? = some q ∧ m.L[j]? = some M ∧ h[q.1]? = some (bitsV q.2 M) ∧ M.length = n ∧ ld1 h ⟨m.B, 0, 0 + j * 1⟩ = some (.sl (.pos ⟨q.1, q.2, 0⟩) n) ∧ q.1 ∈ m.own ∧ q.1 ≠ m.B := by
 have h1 := H.lq
 have h2 := H.ll
 obtain ⟨q, hq⟩ := at_lt (l := m.qs) (i := j) (by omega)
 obtain ⟨M, hM⟩ := at_lt (l := m.L) (i := j) (by omega)
 obtain ⟨c1, c2⟩ := H.cell j q M hq hM
 have hm : q.1 ∈ m.qs.map Prod.fst := List.mem_map.2 ⟨q, List.mem_of_getElem? hq, rfl⟩
 refine ⟨q, M, hq, hM, c1, c2, ld1_at H.hd (by rw [Nat.zero_add, Nat.mul_one, List.getElem?_map, hq]; rfl) rfl, .tail _ hm, fun e => ?_⟩
 have := (List.nodup_cons.1 H.nd).1
 exact this (e ▸ hm)
theorem own_inj {l : List (Nat × Nat)} (hn : (l.map Prod.fst).Nodup) {i j : Nat} {p q : Nat × Nat} (hi : l[i]? = some p) (hj : l[j]? = some q) (e : p.1 = q.1) : i = j := by
 have h1 := (List.getElem?_eq_some_iff.1 hi)
 have h2 := (List.getElem?_eq_some_iff.1 hj)
 refine (List.getElem_inj (h₀ := by simpa using h1.1) (h₁ := by simpa using h2.1) hn).1 ?_
 rw [List.getElem_map, List.getElem_map, h1.2, h2.2]
 exact e
theorem HM.setbit {h : Heap} {m : Mt} {P n : Nat} (H : HM h m P n) {j : Nat} {q : Nat × Nat} {M : List Bool} (hq : m.qs[j]? = some q) (hM : m.L[j]? = some M) {r : Nat} (hr : r < n) (v : Bool) :
 ∃ h', st1 h ⟨q.1, q.2, 0 + r * 1⟩ (.bool v) = some h' ∧ h'.length = h.length ∧ Kp (· ∈ m.own) h h' ∧ HM h' ⟨m.B, m.qs, m.L.set j (M.set r v)⟩ P n := by
 obtain ⟨c1, c2⟩ := H.cell j q M hq hM
 have hm : q.1 ∈ m.qs.map Prod.fst := List.mem_map.2 ⟨q, List.mem_of_getElem? hq, rfl⟩
 have hne : q.1 ≠ m.B := fun e => (List.nodup_cons.1 H.nd).1 (e ▸ hm)
 refine ⟨_, bitsV_set c1 r (by omega) v, by simp, kp_set _ _ _ _ (.tail _ hm), ⟨?_, H.lq, by simp [H.ll], fun i q' M' hq' hM' => ?_, H.nd⟩⟩
 · rw [set_other hne]; exact H.hd
 · have hj := (List.getElem?_eq_some_iff.1 hM).1
   by_cases e : i = j
   · subst e
     simp only at hq' hM'
     rw [hq] at hq'
     cases hq'
     rw [List.getElem?_set, if_pos rfl, if_pos hj] at hM'
     cases hM'
     exact ⟨set_same c1, by rw [List.length_set]; exact c2⟩
   · simp only at hq' hM'
     rw [List.getElem?_set, if_neg (fun x => e x.symm)] at hM'
     obtain ⟨d1, d2⟩ := H.cell i q' M' hq' hM'
     refine ⟨?_, d2⟩
     rw [set_other]
     · exact d1
     · intro ee
       exact e (own_inj (List.nodup_cons.1 H.nd).2 hq' hq ee.symm)
theorem HM.setrow {h : Heap} {m : Mt} {P n : Nat} (H : HM h m P n) {j : Nat} (hj : j < P) {b v : Nat} {M : List Bool} (hb : h[b]? = some (bitsV v M)) (hM : M.length = n) (hn : b ∉ m.own) :
 ∃ h', st1 h ⟨m.B, 0, 0 + j * 1⟩ (.sl (.pos ⟨b, v, 0⟩) n) = some h' ∧ h'.length = h.length ∧ Kp (· = m.B) h h' ∧ HM h' ⟨m.B, m.qs.set j (b, v), m.L.set j M⟩ P n := by
 have h1 := H.lq
 have h2 := H.ll
 have hbB : b ≠ m.B := fun e => hn (e ▸ .head _)
 refine ⟨h.set m.B (.cells ((m.qs.set j (b, v)).map fun q => .sl (.pos ⟨q.1, q.2, 0⟩) n) (.grow 1) 0), ?_, by simp, kp_set _ _ _ _ rfl, ⟨set_same H.hd, by simp [h1], by simp [h2], fun i q' M' hq' hM' => ?_, ?_⟩⟩
 · rw [Nat.zero_add, Nat.mul_one, st1_at H.hd (by simp) (by rw [List.length_map]; omega), List.map_set]
 · simp only at hq' hM'
   rw [List.getElem?_set] at hq' hM'
   by_cases e : j = i
   · subst e
     rw [if_pos rfl, if_pos (by omega)] at hq' hM'
     cases hq'; cases hM'
     exact ⟨by rw [set_other (fun e => hbB e.symm)]; exact hb, hM⟩
   · rw [if_neg e] at hq' hM'
     obtain ⟨d1, d2⟩ := H.cell i q' M' hq' hM'
     refine ⟨?_, d2⟩
     rw [set_other]
     · exact d1
     · intro ee
       exact (List.nodup_cons.1 H.nd).1 (ee ▸ List.mem_map.2 ⟨q', List.mem_of_getElem? hq', rfl⟩)
 · show (m.B :: (m.qs.set j (b, v)).map Prod.fst).Nodup
   rw [List.map_set]
   have nd := List.nodup_cons.1 H.nd
   refine List.nodup_cons.2 ⟨fun hm => ?_, ?_⟩
   · rcases mem_set hm with e | e
     · exact hbB e.symm
     · exact nd.1 e
   · have hb' : b ∉ m.qs.map Prod.fst := fun e => hn (.tail _ e)
     have key : ∀ (l : List Nat) (j : Nat), l.Nodup → b ∉ l → (l.set j b).Nodup := by
      intro l
      induction l with
      | nil => intro j _ _; simp
      | cons x l ih =>
       intro j h1 h2
       have h1' := List.nodup_cons.1 h1
       cases j with
       | zero => rw [List.set_cons_zero]; exact List.nodup_cons.2 ⟨fun e => h2 (.tail _ e), h1'.2⟩
       | succ j =>
        rw [List.set_cons_succ]
        refine List.nodup_cons.2 ⟨fun e => ?_, ih j h1'.2 fun e => h2 (.tail _ e)⟩
        rcases mem_set e with rfl | e
        · exact h2 (.head _)
        · exact h1'.1 e
     exact key _ j nd.2 hb'
structure VA where
 s0 : SA
 reg : List Int
 s1 : SA
 slot : List Int
 slots : Int
def VA.cells (a : VA) : List AV := [.sl a.s0 a.reg.length, .sl a.s1 a.slot.length, .int .i64 a.slots]
structure VA.R (h : Heap) (a : VA) : Prop where
 r : VS intC 1 h a.s0 a.reg.length a.reg
 s : VS intC 1 h a.s1 a.slot.length a.slot
theorem VA.R.old {h h' : Heap} {a : VA} (H : a.R h) (o : Old h h') : a.R h' := ⟨vs_old H.r o, vs_old H.s o⟩
structure VA.ok (a : VA) (regs : Int) : Prop where
 lr : ((a.reg.length : Nat) : Int) = regs
 ls : ((a.slot.length : Nat) : Int) = regs
 sl : 0 ≤ a.slots ∧ a.slots ≤ 8192
 each : ∀ (i : Nat) (r s : Int), a.reg[i]? = some r → a.slot[i]? = some s → (-1 ≤ r ∧ r ≠ 0 ∧ r ≤ 10) ∧ (-1 ≤ s ∧ s < a.slots) ∧ ¬ (0 < r ∧ 0 ≤ s)
def placeV (a : VA) (r : Int) : Int :=
 if r = 0 then 0 else if 0 < a.reg.getD r.toNat 0 then a.reg.getD r.toNat 0 else if 0 ≤ a.slot.getD r.toNat 0 then 11 + a.slot.getD r.toNat 0 else 0
theorem VA.ok.place {a : VA} {regs : Int} (ok : a.ok regs) {r : Int} (h0 : 0 ≤ r) (h1 : r < regs) : 0 ≤ placeV a r ∧ placeV a r < 11 + a.slots := by
 have hsl := ok.sl
 have h2 := ok.lr
 have h3 := ok.ls
 obtain ⟨x, hx⟩ := at_lt (l := a.reg) (i := r.toNat) (by omega)
 obtain ⟨y, hy⟩ := at_lt (l := a.slot) (i := r.toNat) (by omega)
 have := ok.each _ x y hx hy
 unfold placeV
 simp only [List.getD, hx, hy, Option.getD_some]
 split
 · omega
 · split
   · omega
   · split <;> omega
theorem place_ok {h : Heap} {a : VA} (R : a.R h) {regs : Int} (ok : a.ok regs) {r : Int} (h0 : 0 ≤ r) (h1 : r < regs) : E 49 [.agg a.cells, .int .i64 r] h = some (.int .i64 (placeV a r), h) := by
 have hsl := ok.sl
 have h2 := ok.lr
 have h3 := ok.ls
 obtain ⟨x, hx⟩ := at_lt (l := a.reg) (i := r.toNat) (by omega)
 obtain ⟨y, hy⟩ := at_lt (l := a.slot) (i := r.toNat) (by omega)
 have hk := ok.each _ x y hx hy
 obtain ⟨b, hb, lb⟩ := vs_ld1 (g := AV.int .i64) R.r (fun _ => rfl) _ x hx
 obtain ⟨c, hc, lc⟩ := vs_ld1 (g := AV.int .i64) R.s (fun _ => rfl) _ y hy
 unfold VA.cells placeV
 rw [e49, letK_eq]
 simp only [List.getD, hx, hy, Option.getD_some]
 by_cases hr : r = 0
 · rw [if_pos (by simp [hr]), if_pos hr]
 · rw [if_neg (by simp [hr]), if_neg hr, chk_of (by intro _; omega), hb, atP_of, lb, gI_of, letK_eq]
   by_cases hx0 : 0 < x
   · rw [if_pos (by simp [hx0]), if_pos hx0, chk_of (by intro _; omega), atP_of, lb, gI_of]
   · rw [if_neg (by simp [hx0]), if_neg hx0, chk_of (by intro _; omega), hc, atP_of, lc, gI_of, letK_eq]
     by_cases hy0 : 0 ≤ y
     · rw [if_pos (by simp [hy0]), if_pos hy0, chk_of (by intro _; omega), atP_of, lc, gI_of, letK_eq, wrap64 (by omega) (by omega)]
     · rw [if_neg (by simp [hy0]), if_neg hy0]
theorem acheck_loop {h : Heap} {a : VA} (R : a.R h) (hl : a.slot.length = a.reg.length) (hn : a.reg.length ≤ 8192) (Q : Kont (AV × Heap)) : ∀ (k j : Nat), j + k = a.reg.length →
 (∃ e : Int, e ≠ 0 ∧ ¬ (∀ (i : Nat) (r s : Int), j ≤ i → a.reg[i]? = some r → a.slot[i]? = some s → (-1 ≤ r ∧ r ≠ 0 ∧ r ≤ 10) ∧ (-1 ≤ s ∧ s < a.slots) ∧ ¬ (0 < r ∧ 0 ≤ s)) ∧
   L17x20 mk0 E a.s0 a.reg.length a.s1 a.slot.length a.slots ((a.reg.length : Nat) : Int) ((j : Nat) : Int) h Q = Q .ret (S17xr e h)) ∨
 ((∀ (i : Nat) (r s : Int), j ≤ i → a.reg[i]? = some r → a.slot[i]? = some s → (-1 ≤ r ∧ r ≠ 0 ∧ r ≤ 10) ∧ (-1 ≤ s ∧ s < a.slots) ∧ ¬ (0 < r ∧ 0 ≤ s)) ∧
   L17x20 mk0 E a.s0 a.reg.length a.s1 a.slot.length a.slots ((a.reg.length : Nat) : Int) ((j : Nat) : Int) h Q = Q (.exit 0) (S17xe0 h)) := by
 intro k
 induction k with
 | zero =>
  intro j hj
  refine .inr ⟨fun i r s hi hr => ?_, ?_⟩
  · have := (List.getElem?_eq_some_iff.1 hr).1; omega
  · rw [L17x20xeq, letK_eq, if_neg (by simp; omega)]
 | succ k ih =>
  intro j hj
  obtain ⟨x, hx⟩ := at_lt (l := a.reg) (i := j) (by omega)
  obtain ⟨y, hy⟩ := at_lt (l := a.slot) (i := j) (by omega)
  obtain ⟨b, hb, lb⟩ := vs_ld1 (g := AV.int .i64) R.r (fun _ => rfl) _ x hx
  obtain ⟨c, hc, lc⟩ := vs_ld1 (g := AV.int .i64) R.s (fun _ => rfl) _ y hy
  rw [L17x20xeq, letK_eq, if_pos (by simp; omega), chk_of (by intro _; omega), hb, atP_of, Int.toNat_natCast, lb, gI_of, letK_eq, gL_any, chk_of (by intro _; omega), hb, atP_any, atP_any, lb, gI_any, letK_eq, letK_eq, gL_any, chk_of (by intro _; omega), hb, atP_any, atP_any, lb, gI_any, letK_eq, letK_eq,
   gL_any, chk_of (by intro _; omega), hc, atP_any, atP_any, lc, gI_any, letK_eq, letK_eq, gL_any, chk_of (by intro _; omega), hc, atP_any, atP_any, lc, gI_any, gI_any, letK_eq, letK_eq]
  by_cases h1 : (-1 ≤ x ∧ x ≠ 0 ∧ x ≤ 10) ∧ (-1 ≤ y ∧ y < a.slots)
  · have e1 : decide (x < -1) = false := decide_eq_false (by omega)
    have e2 : decide (x = 0) = false := decide_eq_false (by omega)
    have e3 : decide (10 < x) = false := decide_eq_false (by omega)
    have e4 : decide (y < -1) = false := decide_eq_false (by omega)
    have e5 : decide (a.slots ≤ y) = false := decide_eq_false (by omega)
    rw [e1, e2, e3, e4, e5, if_neg (by simp), chk_of (by intro _; omega), atP_of, lb, gI_of, letK_eq, gL_any, chk_of (by intro _; omega), hc, atP_any, atP_any, lc, gI_any, letK_eq, letK_eq]
    by_cases h2 : 0 < x ∧ 0 ≤ y
    · rw [if_pos (by simp [h2])]
      exact .inl ⟨7, by omega, fun hall => (hall j x y (Nat.le_refl _) hx hy).2.2 h2, rfl⟩
    · rw [if_neg (by simp; omega), letK_eq, wrap64 (by omega) (by omega), show ((j : Int) + 1) = ((j + 1 : Nat) : Int) by omega]
      rcases ih (j + 1) (by omega) with ⟨e, i1, i2, i3⟩ | ⟨i2, i3⟩
      · exact .inl ⟨e, i1, fun hall => i2 fun i r s hi => hall i r s (by omega), i3⟩
      · refine .inr ⟨fun i r s hi hr hs => ?_, i3⟩
        by_cases he : i = j
        · subst he
          rw [hx] at hr; rw [hy] at hs
          cases hr; cases hs
          exact ⟨h1.1, h1.2, h2⟩
        · exact i2 i r s (by omega) hr hs
  · rw [if_pos (by
     by_cases e1 : x < -1
     · simp [e1]
     by_cases e2 : x = 0
     · simp [e2]
     by_cases e3 : 10 < x
     · simp [e3]
     by_cases e4 : y < -1
     · simp [e4]
     · have : a.slots ≤ y := by omega
       simp [this])]
    exact .inl ⟨4, by omega, fun hall => h1 ⟨(hall j x y (Nat.le_refl _) hx hy).1, (hall j x y (Nat.le_refl _) hx hy).2.1⟩, rfl⟩
theorem acheck_ok {h : Heap} {f : VF} {a : VA} (R : f.R h) (B : f.B) (A : a.R h) : ∃ h', ∃ e : Int, E 17 [.agg f.cells, .agg a.cells] h = some (.int .i64 e, h') ∧ Old h h' ∧ (e = 0 ↔ f.ok ∧ a.ok f.regs) := by
 obtain ⟨h1, e, c1, c2, c3⟩ := check_ok R B
 unfold VF.cells VA.cells at *
 rw [e17, c1, Option.bind_some, gI_of, letK_eq]
 by_cases he : e = 0
 case neg =>
  rw [if_pos (by simp [he])]
  exact ⟨h1, e, rfl, c2, fun h => absurd h he, fun h => absurd (c3.2 h.1) he⟩
 have fo := c3.1 he
 have fr := fo.regs
 rw [if_neg (by simp [he]), letK_eq, gL_any, gI_any, letK_eq, letK_eq]
 by_cases hl : ((a.reg.length : Nat) : Int) = f.regs ∧ ((a.slot.length : Nat) : Int) = f.regs
 case neg =>
  rw [if_pos (by
   by_cases e1 : ((a.reg.length : Nat) : Int) = f.regs
   · have : ¬ ((a.slot.length : Nat) : Int) = f.regs := fun e => hl ⟨e1, e⟩
     simp [e1, this]
   · simp [e1])]
  exact ⟨h1, 3, rfl, c2, by simp, fun h => absurd ⟨h.2.lr, h.2.ls⟩ hl⟩
 rw [if_neg (by simp [hl.1, hl.2]), letK_eq, gI_any, letK_eq, letK_eq]
 by_cases hs : 0 ≤ a.slots ∧ a.slots ≤ 8192
 case neg =>
  rw [if_pos (by
   by_cases e1 : a.slots < 0
   · simp [e1]
   · have : 8192 < a.slots := by omega
     simp [this])]
  exact ⟨h1, 2, rfl, c2, by simp, fun h => absurd h.2.sl hs⟩
 rw [if_neg (by
  have e1 : ¬ a.slots < 0 := by omega
  have e2 : ¬ 8192 < a.slots := by omega
  simp [e1, e2])]
 have lp := acheck_loop (A.old c2) (by omega) (by omega) (Q17x20 mk0 E) a.reg.length 0 (by omega)
 rw [show (((0 : Nat) : Int)) = 0 from rfl] at lp
 rcases lp with ⟨e', i1, i2, i3⟩ | ⟨i2, i3⟩
 · rw [i3, X17x20xr]
   exact ⟨h1, e', rfl, c2, fun h => absurd h i1, fun h => absurd (fun i r s _ => h.2.each i r s) i2⟩
 · rw [i3, X17x20xe0]
   exact ⟨h1, 0, rfl, c2, fun _ => ⟨fo, ⟨hl.1, hl.2, hs, fun i r s => i2 i r s (by omega)⟩⟩, fun _ => rfl⟩
end Go.Proofs.Ytnmdadadjneaiaa.D
/- alloccheck: new, copied and met matrices. -/
set_option linter.unusedVariables false
set_option linter.unusedSimpArgs false
namespace Go.Proofs.Ytnmdadadjneaiaa.D
open Go Go.Proofs.Ytnmdadadjneaiaa.Abs Go.Proofs
theorem flat_bools (l : List Bool) : flatL (l.map AV.bool) = true := by
 induction l with
 | nil => rfl
 | cons x l ih => simpa [flatL, flatA] using ih
theorem cloneB_ok {h : Heap} {q v n : Nat} {M : List Bool} (hb : h[q]? = some (bitsV v M)) (hM : M.length = n) (h0 : 0 < n) (hn : n ≤ 8192) :
 E 80 [.sl (.pos ⟨q, v, 0⟩) n] h = some (.sl (.pos ⟨h.length, 1, 0⟩) n, h ++ [bitsV 1 M]) := by
 have rd : ldSl (h ++ [.cells [] (.grow 1) 0]) (.pos ⟨q, v, 0⟩) (n * 1) = some (M.map .bool) := by
  rw [Nat.mul_one]
  exact ldSl_at (app_old hb) (by rw [List.length_map]; exact hM) (flat_bools M)
 have ap : apnd (h ++ [.cells [] (.grow 1) 0]) (.sl (.pos ⟨h.length, 0, 0⟩) 0) 1 1 (M.map .bool) n = some (.sl (.pos ⟨h.length, 1, 0⟩) n, h ++ [bitsV 1 M]) := by
  obtain ⟨k, rfl⟩ : ∃ k, n = k + 1 := ⟨n - 1, by omega⟩
  simp only [apnd, last_get]
  rw [if_pos ⟨trivial, trivial, by simp, by omega⟩, if_neg (by simp), if_pos (by simp [flatL]), set_last]
  simp [bitsV]
 rw [e80, if_neg (by simp [SA.isNil]), newK_eq, rd, Option.bind_some, ap, Option.bind_some, gL_of]
def hdq (n : Nat) (q : Nat × Nat) : AV := .sl (.pos ⟨q.1, q.2, 0⟩) n
structure Part (h : Heap) (B : Nat) (qs : List (Nat × Nat)) (L : List (List Bool)) (k n : Nat) : Prop where
 hd : h[B]? = some (.cells (qs.map (hdq n) ++ List.replicate k (.sl .nil 0)) (.grow 1) 0)
 ll : L.length = qs.length
 cell : ∀ (j : Nat) (q : Nat × Nat) (M : List Bool), qs[j]? = some q → L[j]? = some M → h[q.1]? = some (bitsV q.2 M) ∧ M.length = n
 lt : ∀ q ∈ qs, B < q.1 ∧ q.1 < h.length
 nd : (qs.map Prod.fst).Nodup
theorem Part.done {h : Heap} {B : Nat} {qs : List (Nat × Nat)} {L : List (List Bool)} {n P : Nat} (H : Part h B qs L 0 n) (hP : qs.length = P) : HM h ⟨B, qs, L⟩ P n :=
 ⟨by rw [H.hd, List.replicate_zero, List.append_nil]; rfl, hP, by have := H.ll; exact this.trans hP, H.cell, List.nodup_cons.2 ⟨fun hm => by
  obtain ⟨q, hq, e⟩ := List.mem_map.1 hm
  have := (H.lt q hq).1
  have e' : q.1 = B := e
  omega, H.nd⟩⟩
theorem Part.add {h : Heap} {B : Nat} {qs : List (Nat × Nat)} {L : List (List Bool)} {k n : Nat} (H : Part h B qs L (k + 1) n) (v : Nat) (M : List Bool) (hM : M.length = n) :
 ∃ h', st1 (h ++ [bitsV v M]) ⟨B, 0, 0 + qs.length * 1⟩ (.sl (.pos ⟨h.length, v, 0⟩) n) = some h' ∧ (∀ (q : Nat) (x : Blk), h[q]? = some x → q ≠ B → h'[q]? = some x) ∧ Part h' B (qs ++ [(h.length, v)]) (L ++ [M]) k n := by
 have hBl : B < h.length := (List.getElem?_eq_some_iff.1 H.hd).1
 have hb2 : (h ++ [bitsV v M])[B]? = some (.cells (qs.map (hdq n) ++ List.replicate (k + 1) (.sl .nil 0)) (.grow 1) 0) := app_old H.hd
 have hset : (qs.map (hdq n) ++ List.replicate (k + 1) (AV.sl .nil 0)).set (0 + qs.length * 1) (.sl (.pos ⟨h.length, v, 0⟩) n) = (qs ++ [(h.length, v)]).map (hdq n) ++ List.replicate k (.sl .nil 0) := by
  rw [Nat.zero_add, Nat.mul_one, List.set_append_right _ _ (by rw [List.length_map]; omega), List.length_map, Nat.sub_self, List.replicate_succ, List.set_cons_zero, List.map_append]
  simp [hdq]
 have hll := H.ll
 refine ⟨_, by rw [st1_at hb2 (by simp) (by simp), hset], fun q x hq hne => by rw [set_other (fun e => hne e.symm)]; exact app_old hq, ⟨set_same hb2, by simp [hll], fun j q M' hq hM' => ?_, fun q hm => ?_, ?_⟩⟩
 · rw [List.getElem?_append] at hq hM'
   by_cases hj : j < qs.length
   · rw [if_pos hj] at hq
     rw [if_pos (by omega)] at hM'
     obtain ⟨c1, c2⟩ := H.cell j q M' hq hM'
     have := (H.lt q (List.mem_of_getElem? hq)).1
     exact ⟨by rw [set_other (by omega)]; exact app_old c1, c2⟩
   · rw [if_neg hj] at hq
     rw [if_neg (by omega)] at hM'
     have hj0 : j - qs.length = 0 := by have := (List.getElem?_eq_some_iff.1 hq).1; simpa using this
     rw [hj0] at hq
     rw [hll, hj0] at hM'
     cases hq; cases hM'
     exact ⟨by rw [set_other (by omega)]; exact last_get _ _, hM⟩
 · rw [List.length_set, List.length_append]
   rcases List.mem_append.1 hm with hm | hm
   · have := H.lt q hm; exact ⟨this.1, by omega⟩
   · rw [List.mem_singleton] at hm; subst hm
     exact ⟨hBl, by simp⟩
 · rw [List.map_append]
   refine List.nodup_append.2 ⟨H.nd, by simp, fun x hx y hy => ?_⟩
   simp only [List.map_cons, List.map_nil, List.mem_singleton] at hy
   obtain ⟨q, hq, rfl⟩ := List.mem_map.1 hx
   have := (H.lt q hq).2
   omega
theorem new_loop {h0 : Heap} {B P n : Nat} (hB : h0.length ≤ B) (hP : P ≤ 1000000) (hn : n ≤ 8192) (Q : Kont (AV × Heap)) : ∀ (k j : Nat), j + k = P → ∀ (h : Heap) (qs : List (Nat × Nat)), qs.length = j → Old h0 h → Part h B qs (List.replicate j (List.replicate n false)) k n →
 ∃ h' qs', L47x5 mk0 E ((n : Nat) : Int) (.pos ⟨B, 0, 0⟩) P ((P : Nat) : Int) ((j : Nat) : Int) h Q = Q (.exit 0) (S47xe0 (.pos ⟨B, 0, 0⟩) P h') ∧ Old h0 h' ∧ qs'.length = P ∧ Part h' B qs' (List.replicate P (List.replicate n false)) 0 n := by
 intro k
 induction k with
 | zero =>
  intro j hj h qs hq ho H
  rw [L47x5xeq, letK_eq, if_neg (by simp; omega)]
  have : j = P := by omega
  subst this
  exact ⟨h, qs, rfl, ho, hq, H⟩
 | succ k ih =>
  intro j hj h qs hq ho H
  have rp : repl n [AV.bool false] = (List.replicate n false).map .bool := by simp [repl]
  obtain ⟨h1, a1, a2, a3⟩ := H.add 0 (List.replicate n false) (List.length_replicate ..)
  rw [hq] at a1
  rw [L47x5xeq, letK_eq, if_pos (by simp; omega), chk_of (by omega), newK_eq, chk_of (by intro _; omega), adP_pos, atP_of, Int.toNat_natCast, Int.toNat_natCast, add_mk, rp]
  show ∃ h' qs', (Option.bind (st1 (h ++ [bitsV 0 (List.replicate n false)]) ⟨B, 0, 0 + j * 1⟩ (.sl (.pos ⟨h.length, 0, 0⟩) n)) _) = _ ∧ _
  rw [a1, Option.bind_some, letK_eq, wrap64 (by omega) (by omega), show ((j : Int) + 1) = ((j + 1 : Nat) : Int) by omega]
  refine ih (j + 1) (by omega) h1 (qs ++ [(h.length, 0)]) (by simp [hq]) (fun q x hx => a2 q x (ho q x hx) ?_) ?_
  · have := (List.getElem?_eq_some_iff.1 hx).1
    omega
  · rw [List.replicate_succ']; exact a3
theorem gg_zero {P n p r : Nat} : gg (List.replicate P (List.replicate n false)) p r = false := by
 unfold gg
 by_cases hp : p < P
 · by_cases hr : r < n
   · simp [List.getD, List.getElem?_replicate, hp, hr]
   · simp [List.getD, List.getElem?_replicate, hp, hr]
 · simp [List.getD, List.getElem?_replicate, hp]
theorem newHolds_ok (h : Heap) {P n : Nat} (hP : P ≤ 1000000) (hn : n ≤ 8192) :
 ∃ h' m, E 47 [.int .i64 P, .int .i64 n] h = some (.sl (.pos ⟨m.B, 0, 0⟩) P, h') ∧ Old h h' ∧ HM h' m P n ∧ (∀ b ∈ m.own, h.length ≤ b) ∧ gg m.L = fun _ _ => false := by
 have rp : repl P [AV.sl .nil 0] = ([] : List (Nat × Nat)).map (hdq n) ++ List.replicate P (.sl .nil 0) := by simp [repl]
 obtain ⟨h', qs, l1, l2, l3, l4⟩ := new_loop (h0 := h) (B := h.length) (P := P) (n := n) (Nat.le_refl _) hP hn (Q47x5 mk0 E) P 0 (by omega) (h ++ [.cells (([] : List (Nat × Nat)).map (hdq n) ++ List.replicate P (.sl .nil 0)) (.grow 1) 0]) [] rfl (old_app _ _) ⟨last_get _ _, rfl, fun j q M h => by simp at h, fun q h => by simp at h, by simp⟩
 rw [show (((0 : Nat) : Int)) = 0 from rfl] at l1
 refine ⟨h', ⟨h.length, qs, _⟩, ?_, l2, l4.done l3, fun b hb => ?_, funext fun p => funext fun r => gg_zero⟩
 · rw [e47, chk_of (by omega), newK_eq, Int.toNat_natCast, rp, l1, X47x5xe0]
 · rcases List.mem_cons.1 hb with rfl | hb
   · exact Nat.le_refl _
   · obtain ⟨q, hq, rfl⟩ := List.mem_map.1 hb
     have := (l4.lt q hq).1
     omega
theorem clone_loop {h0 : Heap} {m : Mt} {B P n : Nat} (H0 : HM h0 m P n) (hB : h0.length ≤ B) (hP : P ≤ 1000000) (h0n : 0 < n) (hn : n ≤ 8192) (Q : Kont (AV × Heap)) : ∀ (k j : Nat), j + k = P → ∀ (h : Heap) (qs : List (Nat × Nat)), qs.length = j → Old h0 h → Part h B qs (m.L.take j) k n →
 ∃ h' qs', L50x5 mk0 E (.pos ⟨B, 0, 0⟩) P (.pos ⟨m.B, 0, 0⟩) P ((P : Nat) : Int) ((j : Nat) : Int) h Q = Q (.exit 0) (S50xe0 (.pos ⟨B, 0, 0⟩) P h') ∧ Old h0 h' ∧ qs'.length = P ∧ Part h' B qs' m.L 0 n := by
 intro k
 induction k with
 | zero =>
  intro j hj h qs hq ho H
  have hll := H0.ll
  rw [L50x5xeq, letK_eq, if_neg (by simp; omega)]
  rw [List.take_of_length_le (by omega)] at H
  exact ⟨h, qs, rfl, ho, by omega, H⟩
 | succ k ih =>
  intro j hj h qs hq ho H
  obtain ⟨q, M, r1, r2, r3, r4, r5, r6, r7⟩ := (H0.old ho).row (j := j) (by omega)
  have cl := cloneB_ok r3 r4 h0n hn
  obtain ⟨h1, a1, a2, a3⟩ := H.add 1 M r4
  rw [hq] at a1
  rw [L50x5xeq, letK_eq, if_pos (by simp; omega), chk_of (by intro _; omega), adP_pos, atP_of, Int.toNat_natCast, add_mk, r5, gL_of, cl, Option.bind_some, gL_of, chk_of (by intro _; omega), adP_pos, atP_of, add_mk, a1, Option.bind_some, letK_eq, wrap64 (by omega) (by omega), show ((j : Int) + 1) = ((j + 1 : Nat) : Int) by omega]
  refine ih (j + 1) (by omega) h1 (qs ++ [(h.length, 1)]) (by simp [hq]) (fun q x hx => a2 q x (ho q x hx) ?_) ?_
  · have := (List.getElem?_eq_some_iff.1 hx).1
    omega
  · rw [List.take_add_one, r2]; exact a3
theorem clone_ok {h : Heap} {m : Mt} {P n : Nat} (H : HM h m P n) (hP : P ≤ 1000000) (h0n : 0 < n) (hn : n ≤ 8192) :
 ∃ h' m', E 50 [.sl (.pos ⟨m.B, 0, 0⟩) P] h = some (.sl (.pos ⟨m'.B, 0, 0⟩) P, h') ∧ Old h h' ∧ HM h' m' P n ∧ (∀ b ∈ m'.own, h.length ≤ b) ∧ m'.L = m.L := by
 have rp : repl P [AV.sl .nil 0] = ([] : List (Nat × Nat)).map (hdq n) ++ List.replicate P (.sl .nil 0) := by simp [repl]
 obtain ⟨h', qs, l1, l2, l3, l4⟩ := clone_loop (B := h.length) H (Nat.le_refl _) hP h0n hn (Q50x5 mk0 E) P 0 (by omega) (h ++ [.cells (([] : List (Nat × Nat)).map (hdq n) ++ List.replicate P (.sl .nil 0)) (.grow 1) 0]) [] rfl (old_app _ _) ⟨last_get _ _, rfl, fun j q M h => by simp at h, fun q h => by simp at h, by simp⟩
 rw [show (((0 : Nat) : Int)) = 0 from rfl] at l1
 refine ⟨h', ⟨h.length, qs, m.L⟩, ?_, l2, l4.done l3, fun b hb => ?_, rfl⟩
 · rw [e50, chk_of (by omega), newK_eq, Int.toNat_natCast, rp, letK_eq, l1, X50x5xe0]
 · rcases List.mem_cons.1 hb with rfl | hb
   · exact Nat.le_refl _
   · obtain ⟨q, hq, rfl⟩ := List.mem_map.1 hb
     have := (l4.lt q hq).1
     omega
theorem offs_clear : ∀ {M : List Bool} {r : Nat}, M[r]? = some true → offs (M.set r false) = offs M + 1
 | [], r, h => by simp at h
 | x :: M, 0, h => by
  simp at h; subst h
  simp [offs]
 | x :: M, r + 1, h => by
  have := offs_clear (M := M) (r := r) (by simpa using h)
  unfold offs at *
  rw [List.set_cons_succ, List.filter_cons, List.filter_cons]
  split <;> simp [this]
theorem meet_row {h0 : Heap} {m0 G : Mt} {P n j : Nat} (HG : HM h0 G P n) (hd : ∀ b ∈ G.own, b ∉ m0.own) (hj : j < P) (hP : P ≤ 1000000) (hn : n ≤ 8192) {q : Nat × Nat} (hq : m0.qs[j]? = some q) (Q : Kont (AV × Heap)) :
 ∀ (k r : Nat), r + k = n → ∀ (h : Heap) (L : List (List Bool)) (b : Bool), Kp (· ∈ m0.own) h0 h → h.length = h0.length → HM h ⟨m0.B, m0.qs, L⟩ P n →
  ∃ h' L' b', L53x15 mk0 E (.pos ⟨G.B, 0, 0⟩) P b ((j : Nat) : Int) (.pos ⟨q.1, q.2, 0⟩) n (.pos ⟨m0.B, 0, 0⟩) P ((P : Nat) : Int) ((j : Nat) : Int) (.pos ⟨q.1, q.2, 0⟩) n ((n : Nat) : Int) ((r : Nat) : Int) h Q = Q (.exit 2) (S53xe2 (.pos ⟨G.B, 0, 0⟩) P b' (.pos ⟨m0.B, 0, 0⟩) P ((P : Nat) : Int) ((j : Nat) : Int) h') ∧
   Kp (· ∈ m0.own) h0 h' ∧ h'.length = h0.length ∧ HM h' ⟨m0.B, m0.qs, L'⟩ P n ∧ (∀ p s, gg L' p s = if p = j ∧ r ≤ s then gg L p s && gg G.L p s else gg L p s) ∧ offsL L ≤ offsL L' ∧ (b' = true → b = true ∨ offsL L < offsL L') ∧ (b' = false → b = false ∧ L' = L) := by
 intro k
 induction k with
 | zero =>
  intro r hr h L b kp hl H
  rw [L53x15xeq, letK_eq, if_neg (by simp; omega)]
  refine ⟨h, L, b, rfl, kp, hl, H, fun p s => ?_, Nat.le_refl _, fun h => .inl h, fun h => ⟨h, rfl⟩⟩
  split
  · rename_i hc
    obtain ⟨rfl, hs⟩ := hc
    obtain ⟨q', M, r1, r2, r3, r4, r5, r6, r7⟩ := H.row hj
    have : gg L p s = false := by
     rw [gg_at r2]
     simp only [List.getD]
     rw [List.getElem?_eq_none (by omega)]; rfl
    rw [this]; rfl
  · rfl
 | succ k ih =>
  intro r hr h L b kp hl H
  obtain ⟨q', M, r1, r2, r3, r4, r5, r6, r7⟩ := H.row hj
  simp only at r1 r2
  rw [hq] at r1
  cases r1
  obtain ⟨g', N, s1, s2, s3, s4, s5, s6, s7⟩ := (HG.kp kp hd).row hj
  obtain ⟨x, hx⟩ := at_lt (l := M) (i := r) (by omega)
  obtain ⟨y, hy⟩ := at_lt (l := N) (i := r) (by omega)
  have e1 := gg_get r2 hx
  have e2 := gg_get s2 hy
  have lx := bitsV_get r3 hx
  have ly := bitsV_get s3 hy
  rw [L53x15xeq, letK_eq, if_pos (by simp; omega), chk_of (by intro _; omega), adP_pos, atP_of, Int.toNat_natCast, add_mk, lx, gB_of, chk_of (by intro _; omega), adP_pos, atP_any, Int.toNat_natCast, add_mk, atP_any, s5, gL_any, chk_of (by intro _; omega), adP_pos, atP_any, add_mk, atP_any, ly, gB_any, letK_eq]
  by_cases hxy : x = true ∧ y = false
  · obtain ⟨rfl, rfl⟩ := hxy
    obtain ⟨h1, t1, t2, t3, t4⟩ := H.setbit hq r2 (r := r) (by omega) false
    rw [if_pos (by simp), chk_of (by intro _; omega), atP_of, add_mk, t1, Option.bind_some, J53x25xeq, letK_eq, wrap64 (by omega) (by omega), show ((r : Int) + 1) = ((r + 1 : Nat) : Int) by omega]
    obtain ⟨h', L', b', u1, u2, u3, u4, u5, u6, u7, u8⟩ := ih (r + 1) (by omega) h1 _ true (kp.trans t3) (by omega) t4
    have ol := offsL_set L j M (M.set r false) r2
    have oc := offs_clear hx
    have bt : b' = true := by
     cases hb : b' with
     | true => rfl
     | false => exact absurd (u8 hb).1 (by simp)
    have u6' : offsL (L.set j (M.set r false)) ≤ offsL L' := u6
    refine ⟨h', L', b', u1, u2, u3, u4, fun p s => ?_, by omega, fun _ => .inr (by omega), fun hb => by rw [bt] at hb; cases hb⟩
    rw [u5]
    have gs := gg_set r2 (r := r) (by omega) false
    by_cases hp : p = j
    · subst hp
      by_cases h3 : r + 1 ≤ s
      · have : ¬ s = r := by omega
        rw [if_pos ⟨rfl, h3⟩, if_pos ⟨rfl, by omega⟩, gs]
        simp [this]
      · rw [if_neg (by omega), gs]
        by_cases h4 : s = r
        · subst h4
          rw [if_pos ⟨rfl, rfl⟩, if_pos ⟨rfl, Nat.le_refl _⟩, e2]; simp
        · rw [if_neg (by simp [h4]), if_neg (by omega)]
    · rw [if_neg (by simp [hp]), if_neg (by simp [hp]), gs, if_neg (by simp [hp])]
  · rw [if_neg (by cases x <;> cases y <;> simp_all), J53x25xeq, letK_eq, wrap64 (by omega) (by omega), show ((r : Int) + 1) = ((r + 1 : Nat) : Int) by omega]
    obtain ⟨h', L', b', u1, u2, u3, u4, u5, u6, u7, u8⟩ := ih (r + 1) (by omega) h L b kp hl H
    refine ⟨h', L', b', u1, u2, u3, u4, fun p s => ?_, u6, u7, u8⟩
    rw [u5]
    by_cases hp : p = j
    · subst hp
      by_cases h3 : r + 1 ≤ s
      · rw [if_pos ⟨rfl, h3⟩, if_pos ⟨rfl, by omega⟩]
      · rw [if_neg (by omega)]
        by_cases h4 : s = r
        · subst h4
          rw [if_pos ⟨rfl, Nat.le_refl _⟩, e1, e2]
          cases x <;> cases y <;> simp_all
        · rw [if_neg (by omega)]
    · rw [if_neg (by simp [hp]), if_neg (by simp [hp])]
theorem meet_loop {h0 : Heap} {m0 G : Mt} {P n : Nat} (HG : HM h0 G P n) (hd : ∀ b ∈ G.own, b ∉ m0.own) (hP : P ≤ 1000000) (hn : n ≤ 8192) (Q : Kont (AV × Heap)) :
 ∀ (k j : Nat), j + k = P → ∀ (h : Heap) (L : List (List Bool)) (b : Bool), Kp (· ∈ m0.own) h0 h → h.length = h0.length → HM h ⟨m0.B, m0.qs, L⟩ P n →
  ∃ h' L' b', L53x5 mk0 E (.pos ⟨G.B, 0, 0⟩) P b (.pos ⟨m0.B, 0, 0⟩) P ((P : Nat) : Int) ((j : Nat) : Int) h Q = Q (.exit 0) (S53xe0 b' h') ∧
   Kp (· ∈ m0.own) h0 h' ∧ h'.length = h0.length ∧ HM h' ⟨m0.B, m0.qs, L'⟩ P n ∧ (∀ p s, gg L' p s = if j ≤ p then gg L p s && gg G.L p s else gg L p s) ∧ offsL L ≤ offsL L' ∧ (b' = true → b = true ∨ offsL L < offsL L') ∧ (b' = false → b = false ∧ L' = L) := by
 intro k
 induction k with
 | zero =>
  intro j hj h L b kp hl H
  rw [L53x5xeq, letK_eq, if_neg (by simp; omega)]
  refine ⟨h, L, b, rfl, kp, hl, H, fun p s => ?_, Nat.le_refl _, fun h => .inl h, fun h => ⟨h, rfl⟩⟩
  split
  · have hll := H.ll
    have : gg L p s = false := by
     unfold gg
     rw [show L.getD p [] = [] by simp only [List.getD]; rw [List.getElem?_eq_none (by simp only at hll; omega)]; rfl]
     rfl
    rw [this]; rfl
  · rfl
 | succ k ih =>
  intro j hj h L b kp hl H
  obtain ⟨q, M, r1, r2, r3, r4, r5, r6, r7⟩ := H.row (j := j) (by omega)
  obtain ⟨h1, L1, b1, u1, u2, u3, u4, u5, u6, u7, u8⟩ := meet_row HG hd (by omega) hP hn r1 (Q53x15 mk0 E Q) n 0 (by omega) h L b kp hl H
  rw [show (((0 : Nat) : Int)) = 0 from rfl] at u1
  rw [L53x5xeq, letK_eq, if_pos (by simp; omega), chk_of (by intro _; omega), adP_pos, atP_of, Int.toNat_natCast, add_mk, r5, gL_of, u1, X53x15xe2, letK_eq, wrap64 (by omega) (by omega), show ((j : Int) + 1) = ((j + 1 : Nat) : Int) by omega]
  obtain ⟨h', L', b', v1, v2, v3, v4, v5, v6, v7, v8⟩ := ih (j + 1) (by omega) h1 L1 b1 u2 u3 u4
  refine ⟨h', L', b', v1, v2, v3, v4, fun p s => ?_, by omega, fun hb => ?_, fun hb => ?_⟩
  · rw [v5]
    by_cases hp : p = j
    · subst hp
      rw [if_neg (by omega), u5, if_pos ⟨rfl, by omega⟩, if_pos (Nat.le_refl _)]
    · have e : gg L1 p s = gg L p s := by rw [u5, if_neg (fun h => hp h.1)]
      rw [e]
      by_cases h3 : j + 1 ≤ p
      · rw [if_pos h3, if_pos (by omega)]
      · rw [if_neg h3, if_neg (by omega)]
  · rcases v7 hb with h | h
    · rcases u7 h with h | h
      · exact .inl h
      · exact .inr (by omega)
    · exact .inr (by omega)
  · obtain ⟨w1, w2⟩ := v8 hb
    obtain ⟨w3, w4⟩ := u8 w1
    exact ⟨w3, w2.trans w4⟩
theorem meet_ok {h : Heap} {m G : Mt} {P n : Nat} (H : HM h m P n) (HG : HM h G P n) (hd : ∀ b ∈ G.own, b ∉ m.own) (hP : P ≤ 1000000) (hn : n ≤ 8192) :
 ∃ h' L' b', E 53 [.sl (.pos ⟨m.B, 0, 0⟩) P, .sl (.pos ⟨G.B, 0, 0⟩) P] h = some (.bool b', h') ∧ Kp (· ∈ m.own) h h' ∧ h'.length = h.length ∧ HM h' ⟨m.B, m.qs, L'⟩ P n ∧
  (gg L' = fun p s => gg m.L p s && gg G.L p s) ∧ (b' = true → offsL m.L < offsL L') ∧ (b' = false → L' = m.L) := by
 obtain ⟨h', L', b', v1, v2, v3, v4, v5, v6, v7, v8⟩ := meet_loop HG hd hP hn (Q53x5 mk0 E) P 0 (by omega) h m.L false (Kp.refl _ _) rfl H
 rw [show (((0 : Nat) : Int)) = 0 from rfl] at v1
 refine ⟨h', L', b', by rw [e53, v1, X53x5xe0], v2, v3, v4, funext fun p => funext fun s => by rw [v5, if_pos (by omega)], fun hb => ?_, fun hb => (v8 hb).2⟩
 rcases v7 hb with h | h
 · cases h
 · exact h
end Go.Proofs.Ytnmdadadjneaiaa.D
/- alloccheck: an instruction on a matrix. -/
set_option linter.unusedVariables false
set_option linter.unusedSimpArgs false
namespace Go.Proofs.Ytnmdadadjneaiaa.D
open Go Go.Proofs.Ytnmdadadjneaiaa.Abs Go.Proofs
def defG (g : Nat → Nat → Bool) (p r : Nat) (A : Nat → Bool) : Nat → Nat → Bool := fun q s => if p ≠ 0 ∧ q = p then (decide (s = r) || A s) else (!decide (s = r) && g q s)
theorem col_loop {h0 : Heap} {m0 : Mt} {P n r : Nat} (hr : r < n) (hP : P ≤ 1000000) (i1 : Int) (s3 : SA) (n3 : Nat) (Q : Kont (AV × Heap)) :
 ∀ (k j : Nat), j + k = P → ∀ (h : Heap) (L : List (List Bool)), Kp (· ∈ m0.own) h0 h → h.length = h0.length → HM h ⟨m0.B, m0.qs, L⟩ P n →
  ∃ h' L', L48x3 mk0 E (.pos ⟨m0.B, 0, 0⟩) P i1 ((r : Nat) : Int) s3 n3 (.pos ⟨m0.B, 0, 0⟩) P ((P : Nat) : Int) ((j : Nat) : Int) h Q = Q (.exit 0) (S48xe0 (.pos ⟨m0.B, 0, 0⟩) P i1 ((r : Nat) : Int) s3 n3 h') ∧
   Kp (· ∈ m0.own) h0 h' ∧ h'.length = h0.length ∧ HM h' ⟨m0.B, m0.qs, L'⟩ P n ∧ (∀ p s, gg L' p s = if j ≤ p ∧ s = r then false else gg L p s) := by
 intro k
 induction k with
 | zero =>
  intro j hj h L kp hl H
  rw [L48x3xeq, letK_eq, if_neg (by simp; omega)]
  refine ⟨h, L, rfl, kp, hl, H, fun p s => ?_⟩
  split
  · rename_i hc
    have hll := H.ll
    unfold gg
    rw [show L.getD p [] = [] by simp only [List.getD]; rw [List.getElem?_eq_none (by simp only at hll; omega)]; rfl]
    rfl
  · rfl
 | succ k ih =>
  intro j hj h L kp hl H
  obtain ⟨q, M, r1, r2, r3, r4, r5, r6, r7⟩ := H.row (j := j) (by omega)
  obtain ⟨h1, t1, t2, t3, t4⟩ := H.setbit r1 r2 hr false
  rw [L48x3xeq, letK_eq, if_pos (by simp; omega), chk_of (by intro _; omega), adP_pos, atP_of, Int.toNat_natCast, Int.toNat_natCast, add_mk, r5, gL_of, chk_of (by intro _; omega), adP_pos, atP_of, add_mk, t1, Option.bind_some, letK_eq, wrap64 (by omega) (by omega), show ((j : Int) + 1) = ((j + 1 : Nat) : Int) by omega]
  obtain ⟨h', L', u1, u2, u3, u4, u5⟩ := ih (j + 1) (by omega) h1 _ (kp.trans t3) (by omega) t4
  refine ⟨h', L', u1, u2, u3, u4, fun p s => ?_⟩
  have gs := gg_set r2 (r := r) (by omega) false
  rw [u5]
  by_cases hc : j + 1 ≤ p ∧ s = r
  · rw [if_pos hc, if_pos (by omega)]
  · rw [if_neg hc, gs]
    by_cases hd : p = j ∧ s = r
    · rw [if_pos hd, if_pos (by omega)]
    · rw [if_neg hd, if_neg (by omega)]
def AlsoR (h : Heap) (m : Mt) (s : SA) (k n : Nat) (A : Nat → Bool) : Prop :=
 (s = .nil ∧ k = 0 ∧ ∀ i, A i = false) ∨ ∃ q v M, s = .pos ⟨q, v, 0⟩ ∧ k = n ∧ h[q]? = some (bitsV v M) ∧ M.length = n ∧ q ∉ m.own ∧ ∀ i, A i = M.getD i false
theorem splice_all : ∀ (z c : List AV), z.length = c.length → splice 0 z c = z
 | [], [], _ => rfl
 | [], y :: c, h => by simp at h
 | z :: zs, [], h => by simp at h
 | z :: zs, y :: c, h => by
  have := splice_all zs c (by simpa using h)
  simp [splice, this]
theorem define_ok {h : Heap} {m : Mt} {P n : Nat} (H : HM h m P n) {p r : Nat} (hp : p < P) (hr : r < n) (hP : P ≤ 1000000) (hn : n ≤ 8192) {s3 : SA} {n3 : Nat} {A : Nat → Bool} (al : AlsoR h m s3 n3 n A) :
 ∃ h' m', E 48 [.sl (.pos ⟨m.B, 0, 0⟩) P, .int .i64 p, .int .i64 r, .sl s3 n3] h = some (.tup [], h') ∧ HM h' m' P n ∧ m'.B = m.B ∧ (∀ b ∈ m'.own, b ∈ m.own ∨ h.length ≤ b) ∧ Kp (· ∈ m.own) h h' ∧ h.length ≤ h'.length ∧ gg m'.L = defG (gg m.L) p r A := by
 obtain ⟨h1, L, u1, u2, u3, u4, u5⟩ := col_loop hr hP ((p : Nat) : Int) s3 n3 (Q48x3 mk0 E) P 0 (by omega) h m.L (Kp.refl _ _) rfl H
 rw [show (((0 : Nat) : Int)) = 0 from rfl] at u1
 rw [e48, u1, X48x3xe0, letK_eq]
 by_cases hp0 : p = 0
 · subst hp0
   rw [if_pos (by simp)]
   refine ⟨h1, ⟨m.B, m.qs, L⟩, rfl, u4, rfl, fun b hb => .inl hb, u2, by omega, funext fun q => funext fun s => ?_⟩
   unfold defG
   rw [if_neg (show ¬ ((0 : Nat) ≠ 0 ∧ q = 0) by simp), u5]
   by_cases hs : s = r <;> simp [hs]
 · have row := u4.row hp
   obtain ⟨q, M, r1, r2, r3, r4, r5, r6, r7⟩ := row
   rw [if_neg (by simp; omega), chk_of (by intro _; omega), adP_pos, atP_of, Int.toNat_natCast, add_mk, r5, gL_of, chk_of (by omega), newK_eq, letK_eq, Int.toNat_natCast]
   have rp : repl n [AV.bool false] = (List.replicate n false).map .bool := by simp [repl]
   rw [rp]
   obtain ⟨N, e1, e2, e3⟩ : ∃ N : List Bool, N.length = n ∧ (∀ i, N.getD i false = A i) ∧ ∃ y, ldSl (h1 ++ [bitsV 0 (List.replicate n false)]) s3 (min n3 n * 1) = some y ∧ cpyM (h1 ++ [bitsV 0 (List.replicate n false)]) (.pos ⟨h1.length, 0, 0⟩) (min n3 n * 1) y = some (h1 ++ [bitsV 0 N]) := by
    rcases al with ⟨rfl, rfl, hA⟩ | ⟨qa, va, N, rfl, rfl, ha, hN, hno, hA⟩
    · refine ⟨List.replicate n false, by simp, fun i => ?_, [], ?_, ?_⟩
      · rw [hA]
        by_cases hi : i < n <;> simp [List.getD, List.getElem?_replicate, hi]
      · rw [Nat.zero_min, Nat.zero_mul]; rfl
      · rw [Nat.zero_min, Nat.zero_mul]; rfl
    · refine ⟨N, hN, fun i => (hA i).symm, N.map .bool, ?_, ?_⟩
      · rw [Nat.min_self, Nat.mul_one]
        exact ldSl_at (app_old (u2 _ _ ha hno)) (by rw [List.length_map]; exact hN) (flat_bools N)
      · rw [Nat.min_self, Nat.mul_one]
        obtain ⟨k, rfl⟩ : ∃ k, n3 = k + 1 := ⟨n3 - 1, by omega⟩
        show stN _ ⟨h1.length, 0, 0⟩ _ = _
        unfold stN bitsV
        simp only [last_get]
        rw [if_pos ⟨trivial, by simp, by simp [hN]⟩, set_last, splice_all _ _ (by simp [hN])]
   obtain ⟨y, e4, e5⟩ := e3
   have e4' : ldSl (h1 ++ [Blk.cells ((List.replicate n false).map AV.bool) (.grow 1) 0]) s3 (min n3 n * 1) = some y := e4
   have e5' : cpyM (h1 ++ [Blk.cells ((List.replicate n false).map AV.bool) (.grow 1) 0]) (.pos ⟨h1.length, 0, 0⟩) (min n3 n * 1) y = some (h1 ++ [bitsV 0 N]) := e5
   rw [e4', Option.bind_some, e5', Option.bind_some, chk_of (by intro _; omega), add_mk, Int.toNat_natCast, bitsV_set (last_get _ _) r (by omega), Option.bind_some, set_last]
   have Hn := (u4.old (old_app h1 [bitsV 0 (N.set r true)]))
   have hnew : h1.length ∉ (Mt.mk m.B m.qs L).own := fun e => Nat.lt_irrefl _ (u4.lt _ e)
   obtain ⟨h2, s1, s2, s3', s4⟩ := Hn.setrow hp (last_get h1 (bitsV 0 (N.set r true))) (by rw [List.length_set]; exact e1) hnew
   rw [chk_of (by intro _; omega), atP_of, add_mk, s1, Option.bind_some]
   have hBo : m.B ∈ m.own := .head _
   refine ⟨h2, _, rfl, s4, rfl, fun b hb => ?_, fun z x hz hno => s3' z x (app_old (u2 z x hz hno)) (fun e => hno (by rw [e]; exact hBo)), ?_, funext fun q' => funext fun s => ?_⟩
   · rcases List.mem_cons.1 hb with rfl | hb
     · exact .inl (.head _)
     · have hb' : b ∈ (m.qs.set p (h1.length, 0)).map Prod.fst := hb
       rw [List.map_set] at hb'
       rcases mem_set hb' with rfl | hb'
       · exact .inr (by show h.length ≤ h1.length; omega)
       · exact .inl (.tail _ hb')
   · rw [s2, List.length_append]; omega
   · show gg (L.set p (N.set r true)) q' s = _
     rw [gg_row _ (by have := u4.ll; simp only at this; omega)]
     unfold defG
     by_cases hq : q' = p
     · subst hq
       rw [if_pos rfl, if_pos ⟨hp0, rfl⟩]
       by_cases hs : s = r
       · subst hs
         simp [List.getD, e1, hr]
       · have hs' : ¬ r = s := fun e => hs e.symm
         have := e2 s
         simp only [List.getD] at this ⊢
         rw [List.getElem?_set, if_neg hs']
         simp [hs, this]
     · rw [if_neg hq, if_neg (by simp [hq]), u5]
       by_cases hs : s = r <;> simp [hs]
def useG (a : VA) (g : Nat → Nat → Bool) (l : List Int) : Bool := l.all fun r => !decide (placeV a r = 0) && g (placeV a r).toNat r.toNat
def CK (h : Heap) (c : Nat) (f : VF) (a : VA) : Prop := h[c]? = some (.cells (f.cells ++ a.cells) .fix 0)
theorem CK.ld {h : Heap} {c : Nat} {f : VF} {a : VA} (H : CK h c f a) : ldN h (Ad.add ⟨c, 0, 0⟩ 4) 3 = some a.cells := by
 unfold CK at H
 simp only [ldN, Ad.add, H]
 rfl
theorem used_loop {h : Heap} {c : Nat} {f : VF} {a : VA} (C : CK h c f a) (A : a.R h) {regs : Int} (ok : a.ok regs) {m : Mt} {P n : Nat} (H : HM h m P n) (hn : ((n : Nat) : Int) = regs) (hP : ((P : Nat) : Int) = 11 + a.slots) {s : SA} {N : Nat} {l : List Int} (V : VS intC 1 h s N l) (hN : N ≤ 1000000) (hl : ∀ r ∈ l, 0 ≤ r ∧ r < regs) (Q : Kont (AV × Heap)) :
 ∀ (k j : Nat), j + k = N → L52x4 mk0 E (some ⟨c, 0, 0⟩) (.pos ⟨m.B, 0, 0⟩) P s N ((N : Nat) : Int) ((j : Nat) : Int) h Q = if useG a (gg m.L) (l.drop j) = true then Q (.exit 0) (S52xe0 h) else Q .ret (S52xr false h) := by
 have hll := V.1
 intro k
 induction k with
 | zero =>
  intro j hj
  rw [L52x4xeq, letK_eq, if_neg (by simp; omega), List.drop_eq_nil_of_le (by omega)]
  rfl
 | succ k ih =>
  intro j hj
  obtain ⟨r, hr⟩ := at_lt (l := l) (i := j) (by omega)
  obtain ⟨r0, r1⟩ := hl r (List.mem_of_getElem? hr)
  obtain ⟨b, hb, lb⟩ := vs_ld1 (g := AV.int .i64) V (fun _ => rfl) _ r hr
  have pl := place_ok A ok r0 r1
  have pr := ok.place r0 r1
  have ck := C.ld
  unfold VA.cells at ck pl
  rw [L52x4xeq, letK_eq, if_pos (by simp; omega), chk_of (by intro _; omega), hb, atP_of, Int.toNat_natCast, lb, gI_of, atP_of, ck, gCells_of]
  simp only [List.getElem?_cons_zero, List.getElem?_cons_succ]
  rw [gL_of, gL_of, gI_of, pl, Option.bind_some, gI_of, letK_eq, drop_at hr]
  have us : useG a (gg m.L) (r :: l.drop (j + 1)) = ((!decide (placeV a r = 0) && gg m.L (placeV a r).toNat r.toNat) && useG a (gg m.L) (l.drop (j + 1))) := rfl
  by_cases h0 : placeV a r = 0
  · obtain ⟨q, M, t1, t2, t3, t4, t5, t6, t7⟩ := H.row (j := 0) (by omega)
    obtain ⟨x, hx⟩ := at_lt (l := M) (i := r.toNat) (by omega)
    rw [us, h0, chk_of (by simp), adP_pos, atP_any, atP_any, add_mk, show Int.toNat 0 * 1 = 0 * 1 from rfl, t5, gL_any, chk_of (by simp), adP_pos, atP_any, atP_any, add_mk, bitsV_get t3 hx, gB_any, letK_eq, if_pos (by simp), if_neg (by simp)]
  · obtain ⟨q, M, t1, t2, t3, t4, t5, t6, t7⟩ := H.row (j := (placeV a r).toNat) (by omega)
    obtain ⟨x, hx⟩ := at_lt (l := M) (i := r.toNat) (by omega)
    rw [us, chk_of (by intro _; omega), adP_pos, atP_any, atP_any, add_mk, t5, gL_any, chk_of (by intro _; omega), adP_pos, atP_any, atP_any, add_mk, bitsV_get t3 hx, gB_any, letK_eq, gg_get t2 hx]
    cases x with
    | false => rw [if_pos (by simp), if_neg (by simp)]
    | true =>
     rw [if_neg (by simp [h0]), letK_eq, wrap64 (by omega) (by omega), show ((j : Int) + 1) = ((j + 1 : Nat) : Int) by omega, ih (j + 1) (by omega)]
     simp [h0]
theorem used_ok {h : Heap} {c : Nat} {f : VF} {a : VA} (C : CK h c f a) (A : a.R h) {regs : Int} (ok : a.ok regs) {m : Mt} {P n : Nat} (H : HM h m P n) (hn : ((n : Nat) : Int) = regs) (hP : ((P : Nat) : Int) = 11 + a.slots) {s : SA} {N : Nat} {l : List Int} (V : VS intC 1 h s N l) (hN : N ≤ 1000000) (hl : ∀ r ∈ l, 0 ≤ r ∧ r < regs) :
 E 52 [.ptr (some ⟨c, 0, 0⟩), .sl (.pos ⟨m.B, 0, 0⟩) P, .sl s N] h = some (.bool (useG a (gg m.L) l), h) := by
 have := used_loop C A ok H hn hP V hN hl (Q52x4 mk0 E) N 0 (by omega)
 rw [show (((0 : Nat) : Int)) = 0 from rfl, List.drop_zero] at this
 rw [e52, this]
 cases useG a (gg m.L) l with
 | true => rw [if_pos rfl, X52x4xe0]
 | false => rw [if_neg (by simp), X52x4xr]
def isCall (op : Int) : Bool := decide (op = 101) || decide (op = 102)
theorem calls_ok (op : Int) (h : Heap) : E 21 [.int .i64 op] h = some (.bool (isCall op), h) := by
 rw [e21]
 simp only [letK_eq, isCall]
 by_cases h1 : op = 101 <;> by_cases h2 : op = 102 <;> simp [h1, h2]
def callG (g : Nat → Nat → Bool) : Nat → Nat → Bool := fun q s => if 1 ≤ q ∧ q ≤ 10 then false else g q s
theorem clr_row {h : Heap} {m : Mt} {P n : Nat} (H : HM h m P n) {j : Nat} {q : Nat × Nat} {M : List Bool} (hq : m.qs[j]? = some q) (hM : m.L[j]? = some M) (h0 : 0 < n) :
 ∃ h', clrM h (.pos ⟨q.1, q.2, 0⟩) n [.bool false] = some h' ∧ h'.length = h.length ∧ Kp (· ∈ m.own) h h' ∧ HM h' ⟨m.B, m.qs, m.L.set j (List.replicate n false)⟩ P n := by
 obtain ⟨c1, c2⟩ := H.cell j q M hq hM
 have hm : q.1 ∈ m.qs.map Prod.fst := List.mem_map.2 ⟨q, List.mem_of_getElem? hq, rfl⟩
 have hne : q.1 ≠ m.B := fun e => (List.nodup_cons.1 H.nd).1 (e ▸ hm)
 have hj := (List.getElem?_eq_some_iff.1 hM).1
 refine ⟨h.set q.1 (bitsV q.2 (List.replicate n false)), ?_, by simp, kp_set _ _ _ _ (.tail _ hm), ⟨by rw [set_other hne]; exact H.hd, H.lq, by simp [H.ll], fun i q' M' hq' hM' => ?_, H.nd⟩⟩
 · obtain ⟨k, rfl⟩ : ∃ k, n = k + 1 := ⟨n - 1, by omega⟩
   show stN h ⟨q.1, q.2, 0⟩ _ = _
   unfold stN bitsV at *
   simp only [c1]
   rw [if_pos ⟨trivial, by simp, by simp [repl, c2]⟩, splice_all _ _ (by simp [repl, c2])]
   simp [repl]
 · simp only at hq' hM'
   by_cases e : i = j
   · subst e
     rw [hq] at hq'
     cases hq'
     rw [List.getElem?_set, if_pos rfl, if_pos hj] at hM'
     cases hM'
     exact ⟨set_same c1, by simp⟩
   · rw [List.getElem?_set, if_neg (fun x => e x.symm)] at hM'
     obtain ⟨d1, d2⟩ := H.cell i q' M' hq' hM'
     refine ⟨?_, d2⟩
     rw [set_other]
     · exact d1
     · intro ee
       exact e (own_inj (List.nodup_cons.1 H.nd).2 hq' hq ee.symm)
theorem clr_loop {h0 : Heap} {m0 : Mt} {P n : Nat} (h0n : 0 < n) (hP : 11 ≤ P) (p0 : Option Ad) (x : VI) (Q : Kont (AV × Heap)) :
 ∀ (k j : Nat), j + k = 11 → 1 ≤ j → ∀ (h : Heap) (L : List (List Bool)), Kp (· ∈ m0.own) h0 h → h.length = h0.length → HM h ⟨m0.B, m0.qs, L⟩ P n →
  ∃ h' L', L51x11 mk0 E p0 (.pos ⟨m0.B, 0, 0⟩) P x.op x.d x.a x.b x.n x.s x.args.length ((j : Nat) : Int) h Q = Q (.exit 0) (S51xe0 p0 (.pos ⟨m0.B, 0, 0⟩) P x.op x.d x.a x.b x.n x.s x.args.length h') ∧
   Kp (· ∈ m0.own) h0 h' ∧ h'.length = h0.length ∧ HM h' ⟨m0.B, m0.qs, L'⟩ P n ∧ (∀ p s, gg L' p s = if j ≤ p ∧ p ≤ 10 then false else gg L p s) := by
 intro k
 induction k with
 | zero =>
  intro j hj h1 h L kp hl H
  rw [L51x11xeq, letK_eq, if_neg (by simp; omega)]
  exact ⟨h, L, rfl, kp, hl, H, fun p s => by rw [if_neg (by omega)]⟩
 | succ k ih =>
  intro j hj hj1 h L kp hl H
  obtain ⟨q, M, r1, r2, r3, r4, r5, r6, r7⟩ := H.row (j := j) (by omega)
  obtain ⟨h1, t1, t2, t3, t4⟩ := clr_row H r1 r2 h0n
  rw [L51x11xeq, letK_eq, if_pos (by simp; omega), chk_of (by intro _; omega), adP_pos, atP_of, Int.toNat_natCast, add_mk, r5, gL_of, t1, Option.bind_some, letK_eq, wrap64 (by omega) (by omega), show ((j : Int) + 1) = ((j + 1 : Nat) : Int) by omega]
  obtain ⟨h', L', u1, u2, u3, u4, u5⟩ := ih (j + 1) (by omega) (by omega) h1 _ (kp.trans t3) (by omega) t4
  refine ⟨h', L', u1, u2, u3, u4, fun p s => ?_⟩
  have gr := gg_row (L := L) (p := j) (List.replicate n false) (by have := H.ll; simp only at this; omega)
  have u5' : gg L' p s = if j + 1 ≤ p ∧ p ≤ 10 then false else gg (L.set j (List.replicate n false)) p s := u5 p s
  rw [u5', gr]
  by_cases hc : p = j
  · subst hc
    rw [if_neg (by omega), if_pos rfl, if_pos (by omega)]
    by_cases hs : s < n <;> simp [List.getD, List.getElem?_replicate, hs]
  · rw [if_neg hc]
    by_cases hd : j + 1 ≤ p ∧ p ≤ 10
    · rw [if_pos hd, if_pos (by omega)]
    · rw [if_neg hd, if_neg (by omega)]
def mvG (a : VA) (x : VI) (g : Nat → Nat → Bool) : Nat → Bool := if x.op = 100 ∧ x.a ≠ 0 then fun s => g (placeV a x.a).toNat s else fun _ => false
def setG (a : VA) (x : VI) (g : Nat → Nat → Bool) : Nat → Nat → Bool := if defR x.op x.d = 0 then g else defG g (placeV a (defR x.op x.d)).toNat (defR x.op x.d).toNat (mvG a x g)
def stepG (a : VA) (x : VI) (g : Nat → Nat → Bool) : Option (Nat → Nat → Bool) :=
 if useG a g (usesL x) = true then some (setG a x (if isCall x.op = true then callG g else g)) else none
theorem set_ok {h : Heap} {c : Nat} {f : VF} {a : VA} (C : CK h c f a) (A : a.R h) {regs : Int} (ok : a.ok regs) {m : Mt} {P n : Nat} (H : HM h m P n) (hn : ((n : Nat) : Int) = regs) (hn8 : n ≤ 8192) (h0n : 0 < n) (hP : ((P : Nat) : Int) = 11 + a.slots) {x : VI} (okx : x.okR n) :
 ∃ h' m', J51x18 mk0 E (some ⟨c, 0, 0⟩) (.pos ⟨m.B, 0, 0⟩) P x.op x.d x.a x.b x.n x.s x.args.length h = some (.bool true, h') ∧ HM h' m' P n ∧ m'.B = m.B ∧ (∀ b ∈ m'.own, b ∈ m.own ∨ h.length ≤ b) ∧ Kp (· ∈ m.own) h h' ∧ h.length ≤ h'.length ∧ gg m'.L = setG a x (gg m.L) := by
 have dk := def_ok x h
 have dr := okx.def
 have hsl := ok.sl
 unfold VI.cells at dk
 rw [J51x18xeq, dk, Option.bind_some, gI_of, letK_eq]
 unfold setG
 by_cases hd : defR x.op x.d = 0
 · rw [if_pos (by simp [hd]), if_pos hd]
   exact ⟨h, m, rfl, H, rfl, fun b hb => .inl hb, Kp.refl _ _, Nat.le_refl _, rfl⟩
 rw [if_neg (by simp [hd]), if_neg hd, letK_eq, gI_any, letK_eq, letK_eq]
 have tl : ∀ (h1 : Heap) (s9 : SA) (n9 : Nat), Old h h1 → h.length ≤ h1.length → AlsoR h1 m s9 n9 n (fun s => decide (s = (defR x.op x.d).toNat) && false || (mvG a x (gg m.L) s && !decide (s = (defR x.op x.d).toNat))) →
  ∃ h' m', J51x30 mk0 E (some ⟨c, 0, 0⟩) (.pos ⟨m.B, 0, 0⟩) P (defR x.op x.d) s9 n9 h1 = some (.bool true, h') ∧ HM h' m' P n ∧ m'.B = m.B ∧ (∀ b ∈ m'.own, b ∈ m.own ∨ h.length ≤ b) ∧ Kp (· ∈ m.own) h h' ∧ h.length ≤ h'.length ∧ gg m'.L = defG (gg m.L) (placeV a (defR x.op x.d)).toNat (defR x.op x.d).toNat (mvG a x (gg m.L)) := by
  intro h1 s9 n9 o1 l1 al
  have pl := place_ok (A.old o1) ok (r := defR x.op x.d) (by omega) (by omega)
  have pr := ok.place (r := defR x.op x.d) (by omega) (by omega)
  have ck : CK h1 c f a := o1 _ _ C
  have ckl := ck.ld
  obtain ⟨h', m', d1, d2, d3, d4, d5, d6, d7⟩ := define_ok (H.old o1) (p := (placeV a (defR x.op x.d)).toNat) (r := (defR x.op x.d).toNat) (by omega) (by omega) (by omega) hn8 al
  rw [show (((placeV a (defR x.op x.d)).toNat : Nat) : Int) = placeV a (defR x.op x.d) by omega, show (((defR x.op x.d).toNat : Nat) : Int) = defR x.op x.d by omega] at d1
  unfold VA.cells at ckl pl
  rw [J51x30xeq, atP_of, ckl, gCells_of]
  simp only [List.getElem?_cons_zero, List.getElem?_cons_succ]
  rw [gL_of, gL_of, gI_of, pl, Option.bind_some, gI_of, d1, Option.bind_some, gT0_of]
  refine ⟨h', m', rfl, d2, d3, fun b hb => ?_, fun q y hq hno => d5 q y (o1 q y hq) hno, by omega, ?_⟩
  · rcases d4 b hb with h | h
    · exact .inl h
    · exact .inr (by omega)
  · rw [d7]
    funext q s
    unfold defG
    by_cases e1 : s = (defR x.op x.d).toNat <;> simp [e1]
 by_cases hm : x.op = 100 ∧ x.a ≠ 0
 · have ra := okx.2 x.a (by unfold insL; simp)
   have pl := place_ok A ok (r := x.a) (by omega) (by omega)
   have pr := ok.place (r := x.a) (by omega) (by omega)
   have ckl := C.ld
   obtain ⟨q, M, r1, r2, r3, r4, r5, r6, r7⟩ := H.row (j := (placeV a x.a).toNat) (by omega)
   have cl := cloneB_ok r3 r4 h0n hn8
   unfold VA.cells at ckl pl
   rw [if_pos (by simp [hm.1, hm.2]), atP_of, ckl, gCells_of]
   simp only [List.getElem?_cons_zero, List.getElem?_cons_succ]
   rw [gL_of, gL_of, gI_of, pl, Option.bind_some, gI_of, chk_of (by intro _; omega), adP_pos, atP_of, add_mk, r5, gL_of, cl, Option.bind_some, gL_of, chk_of (by intro _; omega), adP_pos, atP_of, add_mk, bitsV_set (last_get _ _) _ (by omega), Option.bind_some, set_last]
   refine tl _ _ _ (old_app _ _) (by simp) (.inr ⟨_, _, _, rfl, rfl, last_get _ _, by rw [List.length_set]; exact r4, fun e => Nat.lt_irrefl _ (H.lt _ e), fun i => ?_⟩)
   unfold mvG
   rw [if_pos hm]
   dsimp only
   rw [gg_at r2]
   by_cases hi : i = (defR x.op x.d).toNat
   · subst hi
     simp [List.getD, show (defR x.op x.d).toNat < M.length by omega]
   · have hi' : ¬ (defR x.op x.d).toNat = i := fun e => hi e.symm
     simp [List.getD, List.getElem?_set, hi, hi']
 · rw [if_neg (by
    by_cases e1 : x.op = 100
    · have : x.a = 0 := by
       by_cases e2 : x.a = 0
       · exact e2
       · exact absurd ⟨e1, e2⟩ hm
      simp [e1, this]
    · simp [e1])]
   refine tl h .nil 0 (Old.refl _) (Nat.le_refl _) (.inl ⟨rfl, rfl, fun i => ?_⟩)
   unfold mvG
   rw [if_neg hm]
   simp
end Go.Proofs.Ytnmdadadjneaiaa.D
/- alloccheck: the instructions of a block on a matrix. -/
set_option linter.unusedVariables false
set_option linter.unusedSimpArgs false
namespace Go.Proofs.Ytnmdadadjneaiaa.D
open Go Go.Proofs.Ytnmdadadjneaiaa.Abs Go.Proofs
theorem Kp.chain {A B : List Nat} {h h1 h2 : Heap} (x : Kp (· ∈ A) h h1) (hs : ∀ b ∈ B, b ∈ A ∨ h.length ≤ b) (y : Kp (· ∈ B) h1 h2) : Kp (· ∈ A) h h2 := fun q z hq hn => y q z (x q z hq hn) fun hb => by
 have := (List.getElem?_eq_some_iff.1 hq).1
 rcases hs q hb with h | h
 · exact hn h
 · omega
theorem Kp.base {A : List Nat} {h0 h h' : Heap} (x : Kp (· ∈ A) h h') (o : Old h0 h) (hs : ∀ b ∈ A, h0.length ≤ b) : Old h0 h' := x.old o fun q hq hA => by have := hs q hA; omega
theorem ins_ok {h0 h : Heap} {c : Nat} {f : VF} {a : VA} (C : CK h0 c f a) (A : a.R h0) {x : VI} (R : x.R h0) (o : Old h0 h) {regs : Int} (ok : a.ok regs) {m : Mt} {P n : Nat} (H : HM h m P n) (sep : ∀ b ∈ m.own, h0.length ≤ b) (hn : ((n : Nat) : Int) = regs) (hn8 : n ≤ 8192) (h0n : 0 < n) (hP : ((P : Nat) : Int) = 11 + a.slots) (okx : x.okR n) :
 ∃ h', (stepG a x (gg m.L) = none ∧ E 51 [.ptr (some ⟨c, 0, 0⟩), .sl (.pos ⟨m.B, 0, 0⟩) P, .agg x.cells] h = some (.bool false, h') ∧ Old h h') ∨
  ∃ m', stepG a x (gg m.L) = some (gg m'.L) ∧ E 51 [.ptr (some ⟨c, 0, 0⟩), .sl (.pos ⟨m.B, 0, 0⟩) P, .agg x.cells] h = some (.bool true, h') ∧ HM h' m' P n ∧ m'.B = m.B ∧ (∀ b ∈ m'.own, b ∈ m.own ∨ h.length ≤ b) ∧ Kp (· ∈ m.own) h h' ∧ h.length ≤ h'.length := by
 have hsl := ok.sl
 obtain ⟨h1, s, u1, u2, u3, u4⟩ := uses_ok (R.old o) (by have := okx.1; omega)
 have us : (usesL x).length ≤ (x.a :: x.b :: x.args).length := List.length_filter_le _ _
 have ul := used_ok (o.trans u2 _ _ C) (A.old (o.trans u2)) ok (H.old u2) hn hP u3 (by have := okx.1; simp only [List.length_cons] at us; omega) (fun r hr => by have := okx.uses r hr; omega)
 have ck := calls_ok x.op h1
 unfold VI.cells at *
 rw [e51, u1, Option.bind_some, gL_of, ul, Option.bind_some, gB_of]
 cases hu : useG a (gg m.L) (usesL x) with
 | false =>
  rw [if_pos (by simp)]
  exact ⟨h1, .inl ⟨by unfold stepG; rw [hu, if_neg (by simp)], rfl, u2⟩⟩
 | true =>
  rw [if_neg (by simp), ck, Option.bind_some, gB_of]
  have sg : stepG a x (gg m.L) = some (setG a x (if isCall x.op = true then callG (gg m.L) else gg m.L)) := by unfold stepG; rw [hu, if_pos rfl]
  rw [sg]
  cases hc : isCall x.op with
  | false =>
   rw [if_neg (show ¬ (false = true) by simp), if_neg (show ¬ (false = true) by simp)]
   obtain ⟨h', m', s1, s2, s3, s4, s5, s6, s7⟩ := set_ok (o.trans u2 _ _ C) (A.old (o.trans u2)) ok (H.old u2) hn hn8 h0n hP okx
   refine ⟨h', .inr ⟨m', by rw [s7], s1, s2, s3, fun b hb => ?_, fun q z hq hno => s5 q z (u2 q z hq) hno, ?_⟩⟩
   · have := u2.le
     rcases s4 b hb with h | h
     · exact .inl h
     · exact .inr (by omega)
   · have := u2.le; omega
  | true =>
   rw [if_pos rfl, if_pos rfl]
   clear sg
   obtain ⟨h2, L2, c1, c2, c3, c4, c5⟩ := clr_loop (h0 := h1) (m0 := m) h0n (by omega) (some ⟨c, 0, 0⟩) x (Q51x11 mk0 E) 10 1 (by omega) (by omega) h1 m.L (Kp.refl _ _) rfl (H.old u2)
   rw [show (((1 : Nat) : Int)) = 1 from rfl] at c1
   have o2 : Old h0 h2 := c2.base (o.trans u2) sep
   rw [c1, X51x11xe0]
   obtain ⟨h', m', s1, s2, s3, s4, s5, s6, s7⟩ := set_ok (o2 _ _ C) (A.old o2) ok c4 hn hn8 h0n hP okx
   have e : gg L2 = callG (gg m.L) := funext fun q => funext fun s => by rw [c5]; rfl
   have s7' : gg m'.L = setG a x (gg L2) := s7
   have ul := u2.le
   refine ⟨h', .inr ⟨m', by rw [s7', e], s1, s2, s3, fun b hb => ?_, fun q z hq hno => s5 q z (c2 q z (u2 q z hq) hno) hno, by omega⟩⟩
   rcases s4 b hb with h | h
   · exact .inl h
   · exact .inr (by omega)
def runG (a : VA) : List VI → (Nat → Nat → Bool) → Option (Nat → Nat → Bool)
 | [], g => some g
 | x :: xs, g => (stepG a x g).bind (runG a xs)
theorem insns_loop {h0 : Heap} {c : Nat} {f : VF} {a : VA} (C : CK h0 c f a) (A : a.R h0) {x : VB} (R : x.R h0) {regs : Int} (ok : a.ok regs) {P n : Nat} (hn : ((n : Nat) : Int) = regs) (hn8 : n ≤ 8192) (h0n : 0 < n) (hP : ((P : Nat) : Int) = 11 + a.slots) (okx : ∀ y ∈ x.ins, y.okR n) (hl : x.ins.length ≤ 1000000)
 (i2x0 : Int) (s2x1 : SA) (n2x1 : Nat) (i2x2 : Int) (s2x3 : SA) (n2x3 : Nat) (s8 : SA) (n8 : Nat) (s11 : SA) (n11 : Nat) (i12 : Int) (Q : Kont (AV × Heap)) :
 ∀ (k j : Nat), j + k = x.ins.length → ∀ (h : Heap) (m : Mt), Old h0 h → HM h m P n → (∀ b ∈ m.own, h0.length ≤ b) →
  ∃ h', (runG a (x.ins.drop j) (gg m.L) = none ∧ L16x37 mk0 E i2x0 s2x1 n2x1 i2x2 s2x3 n2x3 (some ⟨c, 0, 0⟩) s8 n8 s11 n11 i12 (.pos ⟨m.B, 0, 0⟩) P x.s x.ins.length ((x.ins.length : Nat) : Int) ((j : Nat) : Int) h Q = Q .ret (S16xr 14 h') ∧ Old h0 h') ∨
   ∃ m', runG a (x.ins.drop j) (gg m.L) = some (gg m'.L) ∧ L16x37 mk0 E i2x0 s2x1 n2x1 i2x2 s2x3 n2x3 (some ⟨c, 0, 0⟩) s8 n8 s11 n11 i12 (.pos ⟨m.B, 0, 0⟩) P x.s x.ins.length ((x.ins.length : Nat) : Int) ((j : Nat) : Int) h Q = Q (.exit 4) (S16xe4 i2x0 s2x1 n2x1 i2x2 s2x3 n2x3 (some ⟨c, 0, 0⟩) s8 n8 s11 n11 i12 (.pos ⟨m.B, 0, 0⟩) P h') ∧
    HM h' m' P n ∧ m'.B = m.B ∧ (∀ b ∈ m'.own, b ∈ m.own ∨ h.length ≤ b) ∧ Kp (· ∈ m.own) h h' ∧ h.length ≤ h'.length := by
 intro k
 induction k with
 | zero =>
  intro j hj h m o H sep
  rw [L16x37xeq, letK_eq, if_neg (by simp; omega), List.drop_eq_nil_of_le (by omega)]
  exact ⟨h, .inr ⟨m, rfl, rfl, H, rfl, fun b hb => .inl hb, Kp.refl _ _, Nat.le_refl _⟩⟩
 | succ k ih =>
  intro j hj h m o H sep
  obtain ⟨y, hy⟩ := at_lt (l := x.ins) (i := j) (by omega)
  have hym := List.mem_of_getElem? hy
  obtain ⟨b, hb, lb⟩ := vs_ld (vs_old R.i o) vi_flat j y hy
  have I := ins_ok C A (R.r y hym) o ok H sep hn hn8 h0n hP (okx y hym)
  unfold VI.cells at lb I
  rw [L16x37xeq, letK_eq, if_pos (by simp; omega), chk_of (by intro _; omega), hb, atP_of, Int.toNat_natCast, lb, gCells_of]
  simp only [List.getElem?_cons_zero, List.getElem?_cons_succ]
  rw [gI_of, gI_of, gI_of, gI_of, gI_of, gL_of, drop_at hy]
  obtain ⟨h1, ⟨i1, i2, i3⟩ | ⟨m1, i1, i2, i3, i4, i5, i6, i7⟩⟩ := I
  · rw [i2, Option.bind_some, gB_of, if_pos (by simp)]
    refine ⟨h1, .inl ⟨?_, rfl, o.trans i3⟩⟩
    show (stepG a y (gg m.L)).bind _ = none
    rw [i1]; rfl
  · rw [i2, Option.bind_some, gB_of, if_neg (by simp), letK_eq, wrap64 (by omega) (by omega), show ((j : Int) + 1) = ((j + 1 : Nat) : Int) by omega]
    have o1 : Old h0 h1 := i6.base o sep
    have le0 := o.le
    have rn : runG a (y :: x.ins.drop (j + 1)) (gg m.L) = runG a (x.ins.drop (j + 1)) (gg m1.L) := by
     show (stepG a y (gg m.L)).bind _ = _
     rw [i1]; rfl
    rw [rn, ← i4]
    obtain ⟨h', r⟩ := ih (j + 1) (by omega) h1 m1 o1 i3 (fun b hb => by
     rcases i5 b hb with h | h
     · exact sep b h
     · omega)
    refine ⟨h', ?_⟩
    rcases r with ⟨r1, r2, r3⟩ | ⟨m', r1, r2, r3, r4, r5, r6, r7⟩
    · exact .inl ⟨r1, r2, r3⟩
    · refine .inr ⟨m', r1, r2, r3, r4, fun b hb => ?_, i6.chain i5 r6, by omega⟩
      rcases r5 b hb with h | h
      · exact i5 b h
      · exact .inr (by omega)
end Go.Proofs.Ytnmdadadjneaiaa.D
