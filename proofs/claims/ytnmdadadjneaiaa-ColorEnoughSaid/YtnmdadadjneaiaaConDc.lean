/- alloccheck: what places hold, in memory. -/
import Derived.Test.YtnmdadadjneaiaaConDb
import Derived.Test.YtnmdadadjneaiaaDGen2
set_option linter.unusedVariables false
set_option linter.unusedSimpArgs false
namespace Go.Proofs.Ytnmdadadjneaiaa.D
open Go Go.Proofs.Ytnmdadadjneaiaa.Abs Go.Proofs
def Kp (S : Nat → Prop) (h h' : Heap) : Prop := ∀ (q : Nat) (x : Blk), h[q]? = some x → ¬ S q → h'[q]? = some x
theorem Kp.trans {S : Nat → Prop} {h1 h2 h3 : Heap} (x : Kp S h1 h2) (y : Kp S h2 h3) : Kp S h1 h3 := fun q z hq hn => y q z (x q z hq hn) hn
theorem Kp.mono {S T : Nat → Prop} {h1 h2 : Heap} (x : Kp S h1 h2) (st : ∀ q, S q → T q) : Kp T h1 h2 := fun q z hq hn => x q z hq fun hs => hn (st q hs)
theorem Old.kp {h h' : Heap} (x : Old h h') (S : Nat → Prop) : Kp S h h' := fun q z hq _ => x q z hq
theorem Kp.refl (S : Nat → Prop) (h : Heap) : Kp S h h := fun q z hq _ => hq
theorem kp_set (S : Nat → Prop) (b : Nat) (h : Heap) (x : Blk) (hb : S b) : Kp S h (h.set b x) := fun q z hq hn => by
 rw [set_other (fun e => hn (by subst e; exact hb))]; exact hq
theorem Kp.old {S : Nat → Prop} {h0 h h' : Heap} (x : Kp S h h') (o : Old h0 h) (hs : ∀ q, q < h0.length → ¬ S q) : Old h0 h' := fun q z hq => x q z (o q z hq) (hs q (List.getElem?_eq_some_iff.1 hq).1)
def bitsV (v : Nat) (l : List Bool) : Blk := .cells (l.map .bool) (.grow 1) v
def gg (L : List (List Bool)) (p r : Nat) : Bool := (L.getD p []).getD r false
theorem bitsV_get {h : Heap} {b v : Nat} {l : List Bool} (hb : h[b]? = some (bitsV v l)) {i : Nat} {x : Bool} (hi : l[i]? = some x) : ld1 h ⟨b, v, 0 + i * 1⟩ = some (.bool x) :=
 ld1_at hb (by rw [Nat.zero_add, Nat.mul_one, List.getElem?_map, hi]; rfl) rfl
theorem gg_set {L : List (List Bool)} {p r : Nat} {M : List Bool} (h : L[p]? = some M) (hr : r < M.length) (v : Bool) (q s : Nat) : gg (L.set p (M.set r v)) q s = if q = p ∧ s = r then v else gg L q s := by
 have hp := (List.getElem?_eq_some_iff.1 h).1
 unfold gg
 rw [getD_set L p q _ hp]
 by_cases e : p = q
 · subst e
   rw [if_pos rfl]
   by_cases e2 : r = s
   · subst e2; simp [List.getD, hr]
   · have : ¬ s = r := fun e => e2 e.symm
     simp [List.getD, e2, this, h]
 · have : ¬ q = p := fun x => e x.symm
   simp [e, this]
structure Mt where
 B : Nat
 qs : List (Nat × Nat)
 L : List (List Bool)
def Mt.own (m : Mt) : List Nat := m.B :: m.qs.map Prod.fst
structure HM (h : Heap) (m : Mt) (P n : Nat) : Prop where
 hd : h[m.B]? = some (.cells (m.qs.map fun q => .sl (.pos ⟨q.1, q.2, 0⟩) n) (.grow 1) 0)
 lq : m.qs.length = P
 ll : m.L.length = P
 cell : ∀ (j : Nat) (q : Nat × Nat) (M : List Bool), m.qs[j]? = some q → m.L[j]? = some M → h[q.1]? = some (bitsV q.2 M) ∧ M.length = n
 nd : m.own.Nodup
theorem HM.kp {S : Nat → Prop} {h h' : Heap} {m : Mt} {P n : Nat} (H : HM h m P n) (k : Kp S h h') (hs : ∀ b ∈ m.own, ¬ S b) : HM h' m P n :=
 ⟨k _ _ H.hd (hs _ (.head _)), H.lq, H.ll, fun j q M hq hM => ⟨k _ _ (H.cell j q M hq hM).1 (hs _ (.tail _ (List.mem_map.2 ⟨q, List.mem_of_getElem? hq, rfl⟩))), (H.cell j q M hq hM).2⟩, H.nd⟩
theorem HM.old {h h' : Heap} {m : Mt} {P n : Nat} (H : HM h m P n) (k : Old h h') : HM h' m P n := H.kp (k.kp fun _ => False) fun _ _ h => h
theorem HM.lt {h : Heap} {m : Mt} {P n : Nat} (H : HM h m P n) : ∀ b ∈ m.own, b < h.length := by
 intro b hb
 rcases List.mem_cons.1 hb with rfl | hb
 · exact (List.getElem?_eq_some_iff.1 H.hd).1
 · obtain ⟨q, hq, rfl⟩ := List.mem_map.1 hb
   obtain ⟨j, hj, he⟩ := List.getElem_of_mem hq
   have h1 := H.lq
   have h2 := H.ll
   obtain ⟨M, hM⟩ := at_lt (l := m.L) (i := j) (by omega)
   exact (List.getElem?_eq_some_iff.1 (H.cell j q M (by rw [List.getElem?_eq_getElem hj, he]) hM).1).1
theorem HM.row {h : Heap} {m : Mt} {P n : Nat} (H : HM h m P n) {j : Nat} (hj : j < P) : ∃ q M, m.qs[j]? = some q ∧ m.L[j]? = some M ∧ h[q.1]? = some (bitsV q.2 M) ∧ M.length = n ∧ ld1 h ⟨m.B, 0, 0 + j * 1⟩ = some (.sl (.pos ⟨q.1, q.2, 0⟩) n) ∧ q.1 ∈ m.own ∧ q.1 ≠ m.B := by
 have h1 := H.lq
 have h2 := H.ll
 obtain ⟨q, hq⟩ := at_lt (l := m.qs) (i := j) (by omega)
 obtain ⟨M, hM⟩ := at_lt (l := m.L) (i := j) (by omega)
 obtain ⟨c1, c2⟩ := H.cell j q M hq hM
 have hm : q.1 ∈ m.qs.map Prod.fst := List.mem_map.2 ⟨q, List.mem_of_getElem? hq, rfl⟩
 refine ⟨q, M, hq, hM, c1, c2, ld1_at H.hd (by rw [Nat.zero_add, Nat.mul_one, List.getElem?_map, hq]; rfl) rfl, .tail _ hm, fun e => ?_⟩
 have := (List.nodup_cons.1 H.nd).1
 exact this (e ▸ hm)
structure VA where
 s0 : SA
 reg : List Int
 s1 : SA
 slot : List Int
 slots : Int
def VA.cells (a : VA) : List AV := [.sl a.s0 a.reg.length, .sl a.s1 a.slot.length, .int .i64 a.slots]
structure VA.R (h : Heap) (a : VA) : Prop where
 r : VS intC 1 h a.s0 a.reg.length a.reg
 s : VS intC 1 h a.s1 a.slot.length a.slot
theorem VA.R.old {h h' : Heap} {a : VA} (H : a.R h) (o : Old h h') : a.R h' := ⟨vs_old H.r o, vs_old H.s o⟩
structure VA.ok (a : VA) (regs : Int) : Prop where
 lr : ((a.reg.length : Nat) : Int) = regs
 ls : ((a.slot.length : Nat) : Int) = regs
 sl : 0 ≤ a.slots ∧ a.slots ≤ 8192
 each : ∀ (i : Nat) (r s : Int), a.reg[i]? = some r → a.slot[i]? = some s → (-1 ≤ r ∧ r ≠ 0 ∧ r ≤ 10) ∧ (-1 ≤ s ∧ s < a.slots) ∧ ¬ (0 < r ∧ 0 ≤ s)
def placeV (a : VA) (r : Int) : Int :=
 if r = 0 then 0 else if 0 < a.reg.getD r.toNat 0 then a.reg.getD r.toNat 0 else if 0 ≤ a.slot.getD r.toNat 0 then 11 + a.slot.getD r.toNat 0 else 0
theorem VA.ok.place {a : VA} {regs : Int} (ok : a.ok regs) {r : Int} (h0 : 0 ≤ r) (h1 : r < regs) : 0 ≤ placeV a r ∧ placeV a r < 11 + a.slots := by
 have hsl := ok.sl
 have h2 := ok.lr
 have h3 := ok.ls
 obtain ⟨x, hx⟩ := at_lt (l := a.reg) (i := r.toNat) (by omega)
 obtain ⟨y, hy⟩ := at_lt (l := a.slot) (i := r.toNat) (by omega)
 have := ok.each _ x y hx hy
 unfold placeV
 simp only [List.getD, hx, hy, Option.getD_some]
 split
 · omega
 · split
   · omega
   · split <;> omega
end Go.Proofs.Ytnmdadadjneaiaa.D
/- alloccheck: new, copied and met matrices. -/
set_option linter.unusedVariables false
set_option linter.unusedSimpArgs false
namespace Go.Proofs.Ytnmdadadjneaiaa.D
open Go Go.Proofs.Ytnmdadadjneaiaa.Abs Go.Proofs
theorem flat_bools (l : List Bool) : flatL (l.map AV.bool) = true := by
 induction l with
 | nil => rfl
 | cons x l ih => simpa [flatL, flatA] using ih
theorem cloneB_ok {h : Heap} {q v n : Nat} {M : List Bool} (hb : h[q]? = some (bitsV v M)) (hM : M.length = n) (h0 : 0 < n) (hn : n ≤ 8192) :
 E 80 [.sl (.pos ⟨q, v, 0⟩) n] h = some (.sl (.pos ⟨h.length, 1, 0⟩) n, h ++ [bitsV 1 M]) := by
 have rd : ldSl (h ++ [.cells [] (.grow 1) 0]) (.pos ⟨q, v, 0⟩) (n * 1) = some (M.map .bool) := by
  rw [Nat.mul_one]
  exact ldSl_at (app_old hb) (by rw [List.length_map]; exact hM) (flat_bools M)
 have ap : apnd (h ++ [.cells [] (.grow 1) 0]) (.sl (.pos ⟨h.length, 0, 0⟩) 0) 1 1 (M.map .bool) n = some (.sl (.pos ⟨h.length, 1, 0⟩) n, h ++ [bitsV 1 M]) := by
  obtain ⟨k, rfl⟩ : ∃ k, n = k + 1 := ⟨n - 1, by omega⟩
  simp only [apnd, last_get]
  rw [if_pos ⟨trivial, trivial, by simp, by omega⟩, if_neg (by simp), if_pos (by simp [flatL]), set_last]
  simp [bitsV]
 rw [e80, if_neg (by simp [SA.isNil]), newK_eq, rd, Option.bind_some, ap, Option.bind_some, gL_of]
def hdq (n : Nat) (q : Nat × Nat) : AV := .sl (.pos ⟨q.1, q.2, 0⟩) n
structure Part (h : Heap) (B : Nat) (qs : List (Nat × Nat)) (L : List (List Bool)) (k n : Nat) : Prop where
 hd : h[B]? = some (.cells (qs.map (hdq n) ++ List.replicate k (.sl .nil 0)) (.grow 1) 0)
 ll : L.length = qs.length
 cell : ∀ (j : Nat) (q : Nat × Nat) (M : List Bool), qs[j]? = some q → L[j]? = some M → h[q.1]? = some (bitsV q.2 M) ∧ M.length = n
 lt : ∀ q ∈ qs, B < q.1 ∧ q.1 < h.length
 nd : (qs.map Prod.fst).Nodup
theorem Part.done {h : Heap} {B : Nat} {qs : List (Nat × Nat)} {L : List (List Bool)} {n P : Nat} (H : Part h B qs L 0 n) (hP : qs.length = P) : HM h ⟨B, qs, L⟩ P n :=
 ⟨by rw [H.hd, List.replicate_zero, List.append_nil]; rfl, hP, by have := H.ll; exact this.trans hP, H.cell, List.nodup_cons.2 ⟨fun hm => by
  obtain ⟨q, hq, e⟩ := List.mem_map.1 hm
  have := (H.lt q hq).1
  have e' : q.1 = B := e
  omega, H.nd⟩⟩
theorem Part.add {h : Heap} {B : Nat} {qs : List (Nat × Nat)} {L : List (List Bool)} {k n : Nat} (H : Part h B qs L (k + 1) n) (v : Nat) (M : List Bool) (hM : M.length = n) :
 ∃ h', st1 (h ++ [bitsV v M]) ⟨B, 0, 0 + qs.length * 1⟩ (.sl (.pos ⟨h.length, v, 0⟩) n) = some h' ∧ (∀ (q : Nat) (x : Blk), h[q]? = some x → q ≠ B → h'[q]? = some x) ∧ Part h' B (qs ++ [(h.length, v)]) (L ++ [M]) k n := by
 have hBl : B < h.length := (List.getElem?_eq_some_iff.1 H.hd).1
 have hb2 : (h ++ [bitsV v M])[B]? = some (.cells (qs.map (hdq n) ++ List.replicate (k + 1) (.sl .nil 0)) (.grow 1) 0) := app_old H.hd
 have hset : (qs.map (hdq n) ++ List.replicate (k + 1) (AV.sl .nil 0)).set (0 + qs.length * 1) (.sl (.pos ⟨h.length, v, 0⟩) n) = (qs ++ [(h.length, v)]).map (hdq n) ++ List.replicate k (.sl .nil 0) := by
  rw [Nat.zero_add, Nat.mul_one, List.set_append_right _ _ (by rw [List.length_map]; omega), List.length_map, Nat.sub_self, List.replicate_succ, List.set_cons_zero, List.map_append]
  simp [hdq]
 have hll := H.ll
 refine ⟨_, by rw [st1_at hb2 (by simp) (by simp), hset], fun q x hq hne => by rw [set_other (fun e => hne e.symm)]; exact app_old hq, ⟨set_same hb2, by simp [hll], fun j q M' hq hM' => ?_, fun q hm => ?_, ?_⟩⟩
 · rw [List.getElem?_append] at hq hM'
   by_cases hj : j < qs.length
   · rw [if_pos hj] at hq
     rw [if_pos (by omega)] at hM'
     obtain ⟨c1, c2⟩ := H.cell j q M' hq hM'
     have := (H.lt q (List.mem_of_getElem? hq)).1
     exact ⟨by rw [set_other (by omega)]; exact app_old c1, c2⟩
   · rw [if_neg hj] at hq
     rw [if_neg (by omega)] at hM'
     have hj0 : j - qs.length = 0 := by have := (List.getElem?_eq_some_iff.1 hq).1; simpa using this
     rw [hj0] at hq
     rw [hll, hj0] at hM'
     cases hq; cases hM'
     exact ⟨by rw [set_other (by omega)]; exact last_get _ _, hM⟩
 · rw [List.length_set, List.length_append]
   rcases List.mem_append.1 hm with hm | hm
   · have := H.lt q hm; exact ⟨this.1, by omega⟩
   · rw [List.mem_singleton] at hm; subst hm
     exact ⟨hBl, by simp⟩
 · rw [List.map_append]
   refine List.nodup_append.2 ⟨H.nd, by simp, fun x hx y hy => ?_⟩
   simp only [List.map_cons, List.map_nil, List.mem_singleton] at hy
   obtain ⟨q, hq, rfl⟩ := List.mem_map.1 hx
   have := (H.lt q hq).2
   omega
theorem gg_zero {P n p r : Nat} : gg (List.replicate P (List.replicate n false)) p r = false := by
 unfold gg
 by_cases hp : p < P
 · by_cases hr : r < n
   · simp [List.getD, List.getElem?_replicate, hp, hr]
   · simp [List.getD, List.getElem?_replicate, hp, hr]
 · simp [List.getD, List.getElem?_replicate, hp]
end Go.Proofs.Ytnmdadadjneaiaa.D
/- alloccheck: an instruction on a matrix. -/
set_option linter.unusedVariables false
set_option linter.unusedSimpArgs false
namespace Go.Proofs.Ytnmdadadjneaiaa.D
open Go Go.Proofs.Ytnmdadadjneaiaa.Abs Go.Proofs
def defG (g : Nat → Nat → Bool) (p r : Nat) (A : Nat → Bool) : Nat → Nat → Bool := fun q s => if p ≠ 0 ∧ q = p then (decide (s = r) || A s) else (!decide (s = r) && g q s)
def useG (a : VA) (g : Nat → Nat → Bool) (l : List Int) : Bool := l.all fun r => !decide (placeV a r = 0) && g (placeV a r).toNat r.toNat
def CK (h : Heap) (c : Nat) (f : VF) (a : VA) : Prop := h[c]? = some (.cells (f.cells ++ a.cells) .fix 0)
theorem CK.ld {h : Heap} {c : Nat} {f : VF} {a : VA} (H : CK h c f a) : ldN h (Ad.add ⟨c, 0, 0⟩ 4) 3 = some a.cells := by
 unfold CK at H
 simp only [ldN, Ad.add, H]
 rfl
def isCall (op : Int) : Bool := decide (op = 101) || decide (op = 102)
theorem calls_ok (op : Int) (h : Heap) : E 21 [.int .i64 op] h = some (.bool (isCall op), h) := by
 rw [e21]
 simp only [letK_eq, isCall]
 by_cases h1 : op = 101 <;> by_cases h2 : op = 102 <;> simp [h1, h2]
def callG (g : Nat → Nat → Bool) : Nat → Nat → Bool := fun q s => if 1 ≤ q ∧ q ≤ 10 then false else g q s
def mvG (a : VA) (x : VI) (g : Nat → Nat → Bool) : Nat → Bool := if x.op = 100 ∧ x.a ≠ 0 then fun s => g (placeV a x.a).toNat s else fun _ => false
def setG (a : VA) (x : VI) (g : Nat → Nat → Bool) : Nat → Nat → Bool := if defR x.op x.d = 0 then g else defG g (placeV a (defR x.op x.d)).toNat (defR x.op x.d).toNat (mvG a x g)
def stepG (a : VA) (x : VI) (g : Nat → Nat → Bool) : Option (Nat → Nat → Bool) :=
 if useG a g (usesL x) = true then some (setG a x (if isCall x.op = true then callG g else g)) else none
end Go.Proofs.Ytnmdadadjneaiaa.D
/- alloccheck: the instructions of a block on a matrix. -/
set_option linter.unusedVariables false
set_option linter.unusedSimpArgs false
namespace Go.Proofs.Ytnmdadadjneaiaa.D
open Go Go.Proofs.Ytnmdadadjneaiaa.Abs Go.Proofs
theorem Kp.base {A : List Nat} {h0 h h' : Heap} (x : Kp (· ∈ A) h h') (o : Old h0 h) (hs : ∀ b ∈ A, h0.length ≤ b) : Old h0 h' := x.old o fun q hq hA => by have := hs q hA; omega
def runG (a : VA) : List VI → (Nat → Nat → Bool) → Option (Nat → Nat → Bool)
 | [], g => some g
 | x :: xs, g => (stepG a x g).bind (runG a xs)
end Go.Proofs.Ytnmdadadjneaiaa.D
