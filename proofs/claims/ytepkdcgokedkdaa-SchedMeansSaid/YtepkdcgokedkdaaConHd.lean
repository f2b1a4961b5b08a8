/- sched: what depends. -/
import Derived.Test.YtepkdcgokedkdaaHCyc
import Derived.Test.YtepkdcgokedkdaaHGen3
import Derived.Test.YtepkdcgokedkdaaHPipe
set_option linter.unusedVariables false
set_option linter.unusedSimpArgs false
namespace Go.Proofs.Ytepkdcgokedkdaa.H
open Go Go.Proofs.Ytepkdcgokedkdaa.Abs Go.Proofs

def bar (op : Int) : Bool := decide (op = 14 ∨ op = 15 ∨ op = 23 ∨ op = 4 ∨ op = 5)
def mem (op : Int) : Bool := decide (op = 12 ∨ op = 13)

theorem bar_ok (op : Int) (h : Heap) : E 33 [.int .i64 op] h = some (.bool (bar op), h) := by
  rw [e33]
  simp only [letK_eq, bar]
  by_cases a : op = 14 <;> by_cases b : op = 15 <;> by_cases c : op = 23 <;> by_cases d : op = 4 <;> by_cases e : op = 5 <;> simp [a, b, c, d, e]

theorem mem_ok (op : Int) (h : Heap) : E 36 [.int .i64 op] h = some (.bool (mem op), h) := by
  rw [e36]
  simp only [letK_eq, mem]
  by_cases a : op = 12 <;> by_cases b : op = 13 <;> simp [a, b]

/-- Must the second one stay behind the first one? -/
def depB (x y : Ins) : Bool :=
  if bar x.op || bar y.op then true
  else if !decide (wr x.op x.d = 0) && decide (wr x.op x.d = wr y.op y.d) then true
  else if decide (wr x.op x.d ∈ rd y.op y.a y.b) then true
  else if decide (wr y.op y.d ∈ rd x.op x.a x.b) then true
  else mem x.op && mem y.op

theorem dep_l1 {h : Heap} {s : SA} {n : Nat} {l : List Int} (H : VS intC 1 h s n l) (hn : n < 1000) (x y : Ins) (v w : Int) : ∀ (k j : Nat), j + k = n →
    L23x15 mk0 E x.op x.d x.a x.b x.n y.op y.d y.a y.b y.n v w s n ((n : Nat) : Int) ((j : Nat) : Int) h (Q23x15 mk0 E) =
      if decide (v ∈ l.drop j) = true then some (.bool true, h) else Q23x15 mk0 E (.exit 0) (S23xe0 x.op x.d x.a x.b x.n y.op y.d y.a y.b y.n w h) := by
  intro k
  have hl := H.1
  induction k with
  | zero =>
    intro j hj
    rw [L23x15xeq, letK_eq, if_neg (by simp; omega), List.drop_eq_nil_of_le (by omega)]
    simp
  | succ k ih =>
    intro j hj
    obtain ⟨z, hz⟩ : ∃ z, l[j]? = some z := ⟨l[j]'(by omega), List.getElem?_eq_getElem (by omega)⟩
    obtain ⟨a, ha, la⟩ := vs_ld1 (g := AV.int .i64) H (fun _ => rfl) j _ hz
    rw [L23x15xeq, letK_eq, if_pos (by simp; omega), chk_of (by intro _; omega), ha, atP_of, Int.toNat_natCast, la, gI_of, letK_eq, drop_get hz]
    by_cases e : z = v
    · rw [if_pos (by simpa using e), X23x15xr, if_pos (by simp [e])]
    · rw [if_neg (by simpa using e), letK_eq, wrap64 (by omega) (by omega), show ((j : Int) + 1) = ((j + 1 : Nat) : Int) by omega, ih (j + 1) (by omega)]
      have : decide (v ∈ z :: l.drop (j + 1)) = decide (v ∈ l.drop (j + 1)) := by
        apply decide_eq_decide.2
        simp only [List.mem_cons]
        exact ⟨fun h => h.resolve_left (fun h => e h.symm), .inr⟩
      rw [this]

theorem dep_l2 {h : Heap} {s : SA} {n : Nat} {l : List Int} (H : VS intC 1 h s n l) (hn : n < 1000) (x y : Ins) (w : Int) : ∀ (k j : Nat), j + k = n →
    L23x30 mk0 E x.op x.d x.a x.b x.n y.op y.d y.a y.b y.n w s n ((n : Nat) : Int) ((j : Nat) : Int) h (Q23x30 mk0 E) =
      if decide (w ∈ l.drop j) = true then some (.bool true, h) else Q23x30 mk0 E (.exit 2) (S23xe2 x.op x.d x.a x.b x.n y.op y.d y.a y.b y.n h) := by
  intro k
  have hl := H.1
  induction k with
  | zero =>
    intro j hj
    rw [L23x30xeq, letK_eq, if_neg (by simp; omega), List.drop_eq_nil_of_le (by omega)]
    simp
  | succ k ih =>
    intro j hj
    obtain ⟨z, hz⟩ : ∃ z, l[j]? = some z := ⟨l[j]'(by omega), List.getElem?_eq_getElem (by omega)⟩
    obtain ⟨a, ha, la⟩ := vs_ld1 (g := AV.int .i64) H (fun _ => rfl) j _ hz
    rw [L23x30xeq, letK_eq, if_pos (by simp; omega), chk_of (by intro _; omega), ha, atP_of, Int.toNat_natCast, la, gI_of, letK_eq, drop_get hz]
    by_cases e : z = w
    · rw [if_pos (by simpa using e), X23x30xr, if_pos (by simp [e])]
    · rw [if_neg (by simpa using e), letK_eq, wrap64 (by omega) (by omega), show ((j : Int) + 1) = ((j + 1 : Nat) : Int) by omega, ih (j + 1) (by omega)]
      have : decide (w ∈ z :: l.drop (j + 1)) = decide (w ∈ l.drop (j + 1)) := by
        apply decide_eq_decide.2
        simp only [List.mem_cons]
        exact ⟨fun h => h.resolve_left (fun h => e h.symm), .inr⟩
      rw [this]

theorem dep_ok (x y : Ins) (h : Heap) : ∃ h', E 23 [.agg x.cells, .agg y.cells] h = some (.bool (depB x y), h') ∧ Old h h' := by
  show ∃ h', E 23 [.agg [.int .i64 x.op, .int .i64 x.d, .int .i64 x.a, .int .i64 x.b, .int .i64 x.n], .agg [.int .i64 y.op, .int .i64 y.d, .int .i64 y.a, .int .i64 y.b, .int .i64 y.n]] h = _ ∧ _
  have hbar : ∃ h', (callO (!(bar x.op)) (E 33 [.int .i64 y.op] h) (.bool false) h) = some (.bool (!(bar x.op) && bar y.op), h') ∧ h' = h := by
    rw [bar_ok, callO_bool]; exact ⟨h, rfl, rfl⟩
  obtain ⟨_, hb, rfl⟩ := hbar
  rw [e23, bar_ok, Option.bind_some, gB_of, gI_any, hb, Option.bind_some, gB_any, letK_eq]
  unfold depB
  by_cases c1 : (bar x.op || bar y.op) = true
  · rw [if_pos (by cases hx : bar x.op <;> simp_all), if_pos c1]
    exact ⟨_, rfl, Old.refl _⟩
  · rw [if_neg (by cases hx : bar x.op <;> simp_all), if_neg c1, writes_ok, Option.bind_some, gI_of, writes_ok, Option.bind_some, gI_of, letK_eq, letK_eq, letK_eq]
    by_cases c2 : (!decide (wr x.op x.d = 0) && decide (wr x.op x.d = wr y.op y.d)) = true
    · rw [if_pos (by cases hx : decide (wr x.op x.d = 0) <;> simp_all), if_pos c2]
      exact ⟨_, rfl, Old.refl _⟩
    · rw [if_neg (by cases hx : decide (wr x.op x.d = 0) <;> simp_all), if_neg c2]
      obtain ⟨h1, s1, n1, r1, r2, r3⟩ := reads_ok y.op y.d y.a y.b y.n ‹Heap›
      have e1 := r3.1
      have l1 := rd_len y.op y.a y.b
      have d1 := dep_l1 r3 (by omega) x y (wr x.op x.d) (wr y.op y.d) n1 0 (by omega)
      rw [show (((0 : Nat) : Int)) = 0 from rfl, List.drop_zero] at d1
      dsimp only
      rw [r1, Option.bind_some, gL_of, d1]
      by_cases c3 : decide (wr x.op x.d ∈ rd y.op y.a y.b) = true
      · rw [if_pos c3, if_pos c3]
        exact ⟨h1, rfl, r2⟩
      · rw [if_neg c3, if_neg c3, X23x15xe0]
        obtain ⟨h2, s2, n2, q1, q2, q3⟩ := reads_ok x.op x.d x.a x.b x.n h1
        have e2 := q3.1
        have l2 := rd_len x.op x.a x.b
        have d2 := dep_l2 q3 (by omega) x y (wr y.op y.d) n2 0 (by omega)
        rw [show (((0 : Nat) : Int)) = 0 from rfl, List.drop_zero] at d2
        rw [q1, Option.bind_some, gL_of, d2]
        by_cases c4 : decide (wr y.op y.d ∈ rd x.op x.a x.b) = true
        · rw [if_pos c4, if_pos c4]
          exact ⟨h2, rfl, r2.trans q2⟩
        · rw [if_neg c4, if_neg c4, X23x30xe2, mem_ok, Option.bind_some, gB_of, gI_any, mem_ok, callO_bool, Option.bind_some, gB_any, letK_eq]
          refine ⟨h2, ?_, r2.trans q2⟩
          cases mem x.op <;> rfl

/-- The same, by the places in a list. -/
def D (l : List Ins) (q p : Nat) : Bool := match l[q]?, l[p]? with
  | some x, some y => depB x y
  | _, _ => false

theorem D_of {l : List Ins} {q p : Nat} {x y : Ins} (hq : l[q]? = some x) (hp : l[p]? = some y) : D l q p = depB x y := by
  unfold D; rw [hq, hp]

end Go.Proofs.Ytepkdcgokedkdaa.H

/- sched: the graph that build makes. -/
set_option linter.unusedVariables false
set_option linter.unusedSimpArgs false
namespace Go.Proofs.Ytepkdcgokedkdaa.H
open Go Go.Proofs.Ytepkdcgokedkdaa.Abs Go.Proofs

theorem gs_set {h : Heap} {t : SA} {n es k : Nat} {cs : List AV} (H : GS h t n es cs) (hk : ¬ inS t k) (x : Blk) : GS (h.set k x) t n es cs := by
  obtain ⟨h1, h2, h3 | ⟨b, v, rfl, hb⟩⟩ := H
  · exact ⟨h1, h2, .inl h3⟩
  · exact ⟨h1, h2, .inr ⟨b, v, rfl, by rw [set_other (fun e => hk ⟨_, rfl, e.symm⟩)]; exact hb⟩⟩

theorem gs_old {h h' : Heap} {t : SA} {n es : Nat} {cs : List AV} (H : GS h t n es cs) (ho : Old h h') : GS h' t n es cs := by
  obtain ⟨h1, h2, h3 | ⟨b, v, rfl, hb⟩⟩ := H
  · exact ⟨h1, h2, .inl h3⟩
  · exact ⟨h1, h2, .inr ⟨b, v, rfl, ho _ _ hb⟩⟩

def slC (x : SA × Nat) : AV := .sl x.1 x.2

/-- The lists of the graph, in memory. -/
structure AI (base A n : Nat) (h : Heap) (ss : List (SA × Nat)) (af : Nat → List Int) : Prop where
  len : ss.length = n
  blk : h[A]? = some (.cells (ss.map slC) (.grow 1) 0)
  gs : ∀ (q : Nat) (x : SA × Nat), ss[q]? = some x → GS h x.1 x.2 1 ((af q).map (.int .i64))
  lo : ∀ (q : Nat) (x : SA × Nat) (b : Nat), ss[q]? = some x → inS x.1 b → base ≤ b
  dj : ∀ (q q' : Nat) (x x' : SA × Nat) (b : Nat), ss[q]? = some x → ss[q']? = some x' → q ≠ q' → inS x.1 b → ¬ inS x'.1 b

structure BI (h0 h : Heap) (n : Nat) (op : Nat → Nat) (af : Nat → List Int) (ss : List (SA × Nat)) (fs : List Int) : Prop where
  old : Old h0 h
  le : h0.length + 3 ≤ h.length
  o : h[h0.length]? = some (.cells ((List.range n).map fun p => .int .i64 (op p)) (.grow 1) 0)
  a : AI (h0.length + 3) (h0.length + 1) n h ss af
  fl : fs.length = n
  f : h[h0.length + 2]? = some (.cells (fs.map (.int .i64)) (.grow 1) 0)
  fb : ∀ (p : Nat) (x : Int), fs[p]? = some x → 0 ≤ x ∧ x ≤ 8 * ((n : Int) - p)

theorem AI.oldH {base A n : Nat} {h h' : Heap} {ss : List (SA × Nat)} {af : Nat → List Int} (H : AI base A n h ss af) (ho : Old h h') : AI base A n h' ss af :=
  ⟨H.len, ho _ _ H.blk, fun q x hq => gs_old (H.gs q x hq) ho, H.lo, H.dj⟩

theorem BI.oldH {h0 h h' : Heap} {n : Nat} {op : Nat → Nat} {af : Nat → List Int} {ss : List (SA × Nat)} {fs : List Int} (H : BI h0 h n op af ss fs) (ho : Old h h') : BI h0 h' n op af ss fs := by
  have := ho.le
  have := H.le
  exact ⟨H.old.trans ho, by omega, ho _ _ H.o, H.a.oldH ho, H.fl, ho _ _ H.f, H.fb⟩

/-- The graph with one more edge, from i to k. -/
def upO (op : Nat → Nat) (k : Nat) : Nat → Nat := fun p => if p = k then op k + 1 else op p
def upA (af : Nat → List Int) (i k : Nat) : Nat → List Int := fun q => if q = i then af i ++ [(k : Int)] else af q

theorem AI.push {base A n : Nat} {h h4 : Heap} {ss : List (SA × Nat)} {af : Nat → List Int} (H : AI base A n h ss af) {i k : Nat} {x : SA × Nat} (hx : ss[i]? = some x) (hbase : base ≤ h.length) (hA : A < base) {t : SA} {m : Nat} (B : Blk)
    (w : GS h4 t m 1 ((af i).map (.int .i64) ++ [.int .i64 (k : Int)])) (kp : ∀ b y, (h ++ [B])[b]? = some y → ¬ inS x.1 b → h4[b]? = some y) (nw : ∀ b, inS t b → inS x.1 b ∨ (h ++ [B]).length ≤ b) :
    AI base A n (h4.set A (.cells ((ss.map slC).set i (.sl t m)) (.grow 1) 0)) (ss.set i (t, m)) (upA af i k) := by
  have hxl := (List.getElem?_eq_some_iff.1 hx).1
  have hAx : ¬ inS x.1 A := fun hh => by have := H.lo i x A hx hh; omega
  have hAb : h4[A]? = some (.cells (ss.map slC) (.grow 1) 0) := kp _ _ (app_old H.blk) hAx
  have tlo : ∀ b, inS t b → base ≤ b := by
    intro b hb
    rcases nw b hb with hh | hh
    · exact H.lo i x b hx hh
    · rw [List.length_append] at hh; omega
  have hget : ∀ (q : Nat) (y : SA × Nat), (ss.set i (t, m))[q]? = some y → (q = i ∧ y = (t, m)) ∨ (q ≠ i ∧ ss[q]? = some y) := by
    intro q y hq
    rw [List.getElem?_set] at hq
    by_cases e : i = q
    · subst e
      rw [if_pos rfl, if_pos hxl] at hq
      exact .inl ⟨rfl, by cases hq; rfl⟩
    · rw [if_neg e] at hq
      exact .inr ⟨fun h => e h.symm, hq⟩
  refine ⟨by rw [List.length_set]; exact H.len, by rw [set_same hAb, List.map_set]; rfl, ?_, ?_, ?_⟩
  · intro q y hq
    rcases hget q y hq with ⟨rfl, rfl⟩ | ⟨hne, hq⟩
    · dsimp only
      refine gs_set ?_ (fun hh => by have := tlo A hh; omega) _
      unfold upA
      rw [if_pos rfl, List.map_append]
      exact w
    · unfold upA
      rw [if_neg hne]
      refine gs_set ?_ (fun hh => by have := H.lo q y A hq hh; omega) _
      exact gs_keep (gs_app (H.gs q y hq)) kp fun b hb => H.dj q i y x b hq hx hne hb
  · intro q y b hq hb
    rcases hget q y hq with ⟨rfl, rfl⟩ | ⟨hne, hq⟩
    · exact tlo b hb
    · exact H.lo q y b hq hb
  · intro q q' y y' b hq hq' hne hb hb'
    rcases hget q y hq with ⟨rfl, rfl⟩ | ⟨h1, hq1⟩ <;> rcases hget q' y' hq' with ⟨rfl, rfl⟩ | ⟨h2, hq2⟩
    · exact hne rfl
    · rcases nw b hb with hh | hh
      · exact H.dj q q' x y' b hx hq2 hne hh hb'
      · have := gs_lt (H.gs q' y' hq2) hb'
        rw [List.length_append] at hh; omega
    · rcases nw b hb' with hh | hh
      · exact H.dj q q' y x b hq1 hx hne hb hh
      · have := gs_lt (H.gs q y hq1) hb
        rw [List.length_append] at hh; omega
    · exact H.dj q q' y y' b hq1 hq2 hne hb hb'

theorem AI.setO {base A n k : Nat} {h : Heap} {ss : List (SA × Nat)} {af : Nat → List Int} (H : AI base A n h ss af) (hk : k < base) (hne : k ≠ A) (x : Blk) : AI base A n (h.set k x) ss af :=
  ⟨H.len, by rw [set_other hne]; exact H.blk, fun q y hq => gs_set (H.gs q y hq) (fun hh => by have := H.lo q y k hq hh; omega) _, H.lo, H.dj⟩

theorem ins_op (e : Ins) : e.cells[0]? = some (.int .i64 e.op) := rfl

theorem vs_ld_op {h : Heap} {s : SA} {n : Nat} {l : List Ins} (H : VS Ins.cells 5 h s n l) (i : Nat) (x : Ins) (hi : l[i]? = some x) : ∃ a, adP s = some a ∧ ldN h (Ad.add a (i * 5)) 5 = some x.cells ∧ ld1 h (Ad.add (Ad.add a (i * 5)) 0) = some (.int .i64 x.op) := by
  obtain ⟨hl, H | ⟨b, v, o, c, m, rfl, hb, hc⟩⟩ := H
  · have := (List.getElem?_eq_some_iff.1 hi).1
    omega
  · obtain ⟨h1, h2⟩ := hc i x hi
    refine ⟨_, rfl, ?_, ?_⟩
    · simp only [ldN, Ad.add, hb]
      rw [if_pos ⟨trivial, h1, by rw [h2]; exact ins_flat x⟩, h2]
    · have : c[o + i * 5]? = some (.int .i64 x.op) := by
        have e1 := congrArg (fun t => t[0]?) h2
        simp only [List.getElem?_take, List.getElem?_drop] at e1
        simpa [Ins.cells] using e1
      exact ld1_at hb (by simpa [Ad.add] using this) rfl

/-- One pair of instructions. -/
theorem build_pair {h0 h : Heap} {s0 : SA} {n i k : Nat} {l : List Ins} {op : Nat → Nat} {af : Nat → List Int} {ss : List (SA × Nat)} {fs : List Int} (H : VS Ins.cells 5 h0 s0 n l) (I : BI h0 h n op af ss fs) (hn : n ≤ 60) (hi : i < k) (hk : k < n) (ho : op k < 90000) (hal : (af i).length ≤ 1000) (Q : Kont (AV × Heap)) :
    ∃ h' ss' fs', L49x15 mk0 E s0 n .nil 0 .nil 0 .nil 0 (.pos ⟨h0.length, 0, 0⟩) n (.pos ⟨h0.length + 1, 0, 0⟩) n (.pos ⟨h0.length + 2, 0, 0⟩) n ((i : Nat) : Int) ((k : Nat) : Int) h Q = L49x15 mk0 E s0 n .nil 0 .nil 0 .nil 0 (.pos ⟨h0.length, 0, 0⟩) n (.pos ⟨h0.length + 1, 0, 0⟩) n (.pos ⟨h0.length + 2, 0, 0⟩) n ((i : Nat) : Int) ((k + 1 : Nat) : Int) h' Q ∧
      BI h0 h' n (if D l i k = true then upO op k else op) (if D l i k = true then upA af i k else af) ss' fs' := by
  have hl := H.1
  obtain ⟨x, hx⟩ : ∃ x, l[i]? = some x := ⟨l[i]'(by omega), List.getElem?_eq_getElem (by omega)⟩
  obtain ⟨y, hy⟩ : ∃ y, l[k]? = some y := ⟨l[k]'(by omega), List.getElem?_eq_getElem (by omega)⟩
  obtain ⟨a1, ha1, la1⟩ := vs_ld (vs_old H I.old) ins_flat i x hx
  obtain ⟨a2, ha2, la2⟩ := vs_ld (vs_old H I.old) ins_flat k y hy
  have wk : IntKind.wrap .i64 ((k : Int) + 1) = ((k + 1 : Nat) : Int) := by rw [wrap64 (by omega) (by omega)]; omega
  obtain ⟨h1, d1, d2⟩ := dep_ok x y h
  have I1 := I.oldH d2
  rw [D_of hx hy]
  rw [L49x15xeq, letK_eq, if_pos (by simp; omega), chk_of (by intro _; omega), ha1, atP_of, Int.toNat_natCast, la1, gCells_of]
  simp only [Ins.cells, List.getElem?_cons_zero, List.getElem?_cons_succ]
  rw [gI_of, gI_of, gI_of, gI_of, gI_of, chk_of (by intro _; omega), atP_of, Int.toNat_natCast]
  rw [ha1] at ha2
  cases ha2
  rw [la2, gCells_of]
  simp only [Ins.cells, List.getElem?_cons_zero, List.getElem?_cons_succ]
  rw [gI_of, gI_of, gI_of, gI_of, gI_of]
  rw [show [AV.int .i64 x.op, .int .i64 x.d, .int .i64 x.a, .int .i64 x.b, .int .i64 x.n] = x.cells from rfl, show [AV.int .i64 y.op, .int .i64 y.d, .int .i64 y.a, .int .i64 y.b, .int .i64 y.n] = y.cells from rfl, d1, Option.bind_some, gB_of]
  cases hd : depB x y with
  | false =>
    rw [if_neg (by simp), J49x26xeq, letK_eq, wk]
    exact ⟨h1, ss, fs, rfl, I1⟩
  | true =>
    rw [if_pos rfl, chk_of (by intro _; omega), adP_pos, atP_of, add_mk]
    have hsl := I1.a.len
    obtain ⟨sx, hsx⟩ : ∃ sx, ss[i]? = some sx := ⟨ss[i]'(by omega), List.getElem?_eq_getElem (by omega)⟩
    have l1 : ld1 h1 ⟨h0.length + 1, 0, 0 + i * 1⟩ = some (.sl sx.1 sx.2) := ld1_at I1.a.blk (by rw [Nat.zero_add, Nat.mul_one, List.getElem?_map, hsx]; rfl) rfl
    dsimp only
    rw [l1, gL_of, newK_eq, show ldSl (h1 ++ [Blk.cells [AV.int .i64 ((k : Nat) : Int)] (.grow 1) 0]) (.pos ⟨h1.length, 0, 0⟩) (1 * 1) = some [.int .i64 ((k : Nat) : Int)] from ldSl_at (last_get _ _) rfl rfl, Option.bind_some]
    have g := I1.a.gs i sx hsx
    have gl := g.1
    rw [List.length_map, Nat.mul_one] at gl
    obtain ⟨t, h4, e5, w5, le5, kp5, nw5⟩ := apnd_GS (m := 1) (bytes := 8) (ys := [AV.int .i64 ((k : Nat) : Int)]) (gs_app (l := [Blk.cells [AV.int .i64 ((k : Nat) : Int)] (.grow 1) 0]) g) (by omega) (by omega) rfl rfl (by have := flat_ints (af i ++ [(k : Int)]); simpa using this) (by omega)
    rw [e5, Option.bind_some, gL_of, chk_of (by intro _; omega), atP_of, add_mk]
    have lo := fun b hb => I1.a.lo i sx b hsx hb
    have nO : ¬ inS sx.1 h0.length := fun hh => by have := lo _ hh; omega
    have nA : ¬ inS sx.1 (h0.length + 1) := fun hh => by have := lo _ hh; omega
    have nF : ¬ inS sx.1 (h0.length + 2) := fun hh => by have := lo _ hh; omega
    have bA : h4[h0.length + 1]? = some (.cells (ss.map slC) (.grow 1) 0) := kp5 _ _ (app_old I1.a.blk) nA
    have bO := kp5 _ _ (app_old I1.o) nO
    have bF := kp5 _ _ (app_old I1.f) nF
    have hle := I1.le
    dsimp only
    rw [st1_at bA (by simp) (by simp [hsl]; omega), Option.bind_some]
    have A2 := I1.a.push hsx (by omega) (by omega) (Blk.cells [AV.int .i64 ((k : Nat) : Int)] (.grow 1) 0) w5 kp5 nw5
    rw [show 0 + i * 1 = i by omega]
    generalize hh5 : h4.set (h0.length + 1) (.cells ((ss.map slC).set i (.sl t (sx.2 + 1))) (.grow 1) 0) = h5 at A2 ⊢
    have cO := (show h5[h0.length]? = h4[h0.length]? by rw [← hh5, set_other (by omega)]).trans bO
    have cF := (show h5[h0.length + 2]? = h4[h0.length + 2]? by rw [← hh5, set_other (by omega)]).trans bF
    have lO : ld1 h5 ⟨h0.length, 0, 0 + k * 1⟩ = some (.int .i64 ((op k : Nat) : Int)) := ld1_at cO (by rw [Nat.zero_add, Nat.mul_one, range_get hk]) rfl
    rw [chk_of (by intro _; omega), adP_pos, atP_of, add_mk, lO, gI_of, letK_eq, wrap64 (by omega) (by omega), chk_of (by intro _; omega), atP_of, add_mk, st1_at cO (by simp) (by simp; omega), Option.bind_some, show 0 + k * 1 = k by omega, range_set]
    have A3 := A2.setO (k := h0.length) (by omega) (by omega) (.cells ((List.range n).map fun p => if p = k then .int .i64 (((op k : Nat) : Int) + 1) else .int .i64 (op p)) (.grow 1) 0)
    generalize hh6 : h5.set h0.length (.cells ((List.range n).map fun p => if p = k then AV.int .i64 (((op k : Nat) : Int) + 1) else .int .i64 (op p)) (.grow 1) 0) = h6 at A3 ⊢
    have dF := (show h6[h0.length + 2]? = h5[h0.length + 2]? by rw [← hh6, set_other (by omega)]).trans cF
    have dO : h6[h0.length]? = some (.cells ((List.range n).map fun p => if p = k then AV.int .i64 (((op k : Nat) : Int) + 1) else .int .i64 (op p)) (.grow 1) 0) := by rw [← hh6]; exact set_same cO
    have hfl := I1.fl
    obtain ⟨fi, hfi⟩ : ∃ fi, fs[i]? = some fi := ⟨fs[i]'(by omega), List.getElem?_eq_getElem (by omega)⟩
    obtain ⟨fk, hfk⟩ : ∃ fk, fs[k]? = some fk := ⟨fs[k]'(by omega), List.getElem?_eq_getElem (by omega)⟩
    have bi := I1.fb i fi hfi
    have bk := I1.fb k fk hfk
    have lFi : ld1 h6 ⟨h0.length + 2, 0, 0 + i * 1⟩ = some (.int .i64 fi) := ld1_at dF (by rw [Nat.zero_add, Nat.mul_one, List.getElem?_map, hfi]; rfl) rfl
    have lFk : ld1 h6 ⟨h0.length + 2, 0, 0 + k * 1⟩ = some (.int .i64 fk) := ld1_at dF (by rw [Nat.zero_add, Nat.mul_one, List.getElem?_map, hfk]; rfl) rfl
    -- the old heap still stands
    have oldB : ∀ (b : Nat) (z : Blk), h0[b]? = some z → h6[b]? = some z := by
      intro b z hb
      have hbl := (List.getElem?_eq_some_iff.1 hb).1
      rw [← hh6, set_other (by omega), ← hh5, set_other (by omega)]
      exact kp5 _ _ (app_old (I1.old _ _ hb)) fun hh => by have := lo _ hh; omega
    have O6 : Old h0 h6 := oldB
    obtain ⟨a3, ha3, _, la3⟩ := vs_ld_op (vs_old H O6) i x hx
    rw [ha1] at ha3
    cases ha3
    have lb := lat_bd x.op
    rw [chk_of (by intro _; omega), adP_pos, atP_of, add_mk, lFi, gI_of, chk_of (by intro _; omega), atP_of, la3, gI_of, chk_of (by intro _; omega), atP_of, add_mk, lFk, gI_of, lat_ok, Option.bind_some, gI_of, chkC_of (by intro _; rfl), chkC_of (by intro _; rfl), letK_eq, wrap64 (by omega) (by omega), letK_eq, mm_max, chk_of (by intro _; omega), atP_of, add_mk]
    dsimp only
    rw [st1_at dF (by simp) (by simp [hfl]; omega), Option.bind_some, J49x26xeq, letK_eq, wk, if_pos rfl, if_pos rfl, show 0 + i * 1 = i by omega]
    refine ⟨_, ss.set i (t, sx.2 + 1), fs.set i (max fi (lat x.op + fk)), rfl, ?_, ?_, ?_, A3.setO (by omega) (by omega) _, by rw [List.length_set]; exact hfl, ?_, ?_⟩
    · intro b z hb
      have hbl := (List.getElem?_eq_some_iff.1 hb).1
      rw [set_other (by omega)]
      exact oldB b z hb
    · rw [List.length_set, ← hh6, List.length_set, ← hh5, List.length_set]
      rw [List.length_append] at le5
      omega
    · rw [set_other (by omega), dO]
      congr 2
      apply List.map_congr_left
      intro p hp
      unfold upO
      by_cases e : p = k
      · rw [if_pos e, if_pos e]; rfl
      · rw [if_neg e, if_neg e]
    · rw [set_same dF, List.map_set]
    · intro p z hz
      rw [List.getElem?_set] at hz
      by_cases e : i = p
      · subst e
        rw [if_pos rfl, if_pos (by omega)] at hz
        cases hz
        omega
      · rw [if_neg e] at hz
        exact I1.fb p z hz

end Go.Proofs.Ytepkdcgokedkdaa.H

/- sched: build. -/
set_option linter.unusedVariables false
set_option linter.unusedSimpArgs false
namespace Go.Proofs.Ytepkdcgokedkdaa.H
open Go Go.Proofs.Ytepkdcgokedkdaa.Abs Go.Proofs

def castN (l : List Nat) : List Int := List.map (fun p : Nat => (p : Int)) l

/-- How many from i on an instruction waits for. -/
def opO (l : List Ins) (i p : Nat) : Nat := ((List.range p).filter fun q => decide (i ≤ q) && D l q p).length
/-- Who waits for an instruction, if it is one from i on. -/
def afL (l : List Ins) (n q : Nat) : List Nat := (List.range n).filter fun p => decide (q < p) && D l q p
def afO (l : List Ins) (n i q : Nat) : List Int := if i ≤ q then castN (afL l n q) else []

theorem D_lt {l : List Ins} {q p : Nat} (h : D l q p = true) : q < l.length ∧ p < l.length := by
  unfold D at h
  cases hq : l[q]? with
  | none => rw [hq] at h; cases h
  | some x =>
    cases hp : l[p]? with
    | none => rw [hq, hp] at h; cases h
    | some y => exact ⟨(List.getElem?_eq_some_iff.1 hq).1, (List.getElem?_eq_some_iff.1 hp).1⟩

theorem count_from (g : Nat → Bool) (i : Nat) : ∀ p, ((List.range p).filter fun q => decide (i ≤ q) && g q).length = ((List.range p).filter fun q => decide (i + 1 ≤ q) && g q).length + (if i < p ∧ g i = true then 1 else 0) := by
  intro p
  induction p with
  | zero => simp
  | succ p ih =>
    rw [List.range_succ, List.filter_append, List.filter_append, List.length_append, List.length_append, ih]
    simp only [List.filter_cons, List.filter_nil]
    by_cases h1 : p = i
    · subst h1
      rw [if_neg (by omega : ¬ (p < p ∧ g p = true))]
      cases hg : g p <;> simp [hg]
    · by_cases h2 : i < p
      · have a : decide (i ≤ p) = true := by simp; omega
        have b : decide (i + 1 ≤ p) = true := by simp; omega
        rw [a, b]
        cases hgp : g p <;> cases hgi : g i <;> simp [h2, show i < p + 1 by omega] <;> omega
      · have a : decide (i ≤ p) = false := by simp; omega
        have b : decide (i + 1 ≤ p) = false := by simp; omega
        rw [a, b]
        simp [h2, show ¬ i < p + 1 by omega]

theorem opO_step (l : List Ins) (i p : Nat) : opO l i p = opO l (i + 1) p + (if i < p ∧ D l i p = true then 1 else 0) := count_from (fun q => D l q p) i p

def opI (l : List Ins) (i k p : Nat) : Nat := opO l (i + 1) p + (if i < p ∧ p < k ∧ D l i p = true then 1 else 0)
def afI (l : List Ins) (n i k q : Nat) : List Int := if q = i then castN ((List.range k).filter fun p => decide (i < p) && D l i p) else afO l n (i + 1) q

theorem opI_step (l : List Ins) (i k : Nat) (hi : i < k) : (if D l i k = true then upO (opI l i k) k else opI l i k) = opI l i (k + 1) := by
  by_cases hd : D l i k = true
  · rw [if_pos hd]
    funext p
    unfold upO
    by_cases e : p = k
    · subst e
      rw [if_pos rfl]
      unfold opI
      rw [if_neg (by omega), if_pos ⟨hi, by omega, hd⟩]
    · rw [if_neg e]
      unfold opI
      congr 1
      by_cases h : i < p ∧ p < k ∧ D l i p = true
      · rw [if_pos h, if_pos ⟨h.1, by omega, h.2.2⟩]
      · rw [if_neg h, if_neg (fun hh => h ⟨hh.1, by omega, hh.2.2⟩)]
  · rw [if_neg hd]
    funext p
    unfold opI
    congr 1
    by_cases e : p = k
    · subst e
      rw [if_neg (by omega), if_neg (fun hh => hd hh.2.2)]
    · by_cases h : i < p ∧ p < k ∧ D l i p = true
      · rw [if_pos h, if_pos ⟨h.1, by omega, h.2.2⟩]
      · rw [if_neg h, if_neg (fun hh => h ⟨hh.1, by omega, hh.2.2⟩)]

theorem afI_step (l : List Ins) (n i k : Nat) (hi : i < k) : (if D l i k = true then upA (afI l n i k) i k else afI l n i k) = afI l n i (k + 1) := by
  have key : castN ((List.range (k + 1)).filter fun p => decide (i < p) && D l i p) = castN ((List.range k).filter fun p => decide (i < p) && D l i p) ++ (if D l i k = true then [(k : Int)] else []) := by
    unfold castN
    rw [List.range_succ, List.filter_append, List.map_append]
    congr 1
    simp only [List.filter_cons, List.filter_nil, decide_eq_true hi, Bool.true_and]
    by_cases hd : D l i k = true <;> simp [hd]
  by_cases hd : D l i k = true
  · rw [if_pos hd]
    rw [if_pos hd] at key
    funext q
    unfold upA
    by_cases e : q = i
    · subst e
      rw [if_pos rfl]
      unfold afI
      rw [if_pos rfl, if_pos rfl, key]
    · rw [if_neg e]
      unfold afI
      rw [if_neg e, if_neg e]
  · rw [if_neg hd]
    rw [if_neg hd, List.append_nil] at key
    funext q
    unfold afI
    rw [key]

theorem inner_build {h0 : Heap} {s0 : SA} {n i : Nat} {l : List Ins} (H : VS Ins.cells 5 h0 s0 n l) (hn : n ≤ 60) (hin : i < n) (Q : Kont (AV × Heap)) : ∀ (j k : Nat), k + j = n → i < k → ∀ (h : Heap) (ss : List (SA × Nat)) (fs : List Int), BI h0 h n (opI l i k) (afI l n i k) ss fs →
    ∃ h' ss' fs', L49x15 mk0 E s0 n .nil 0 .nil 0 .nil 0 (.pos ⟨h0.length, 0, 0⟩) n (.pos ⟨h0.length + 1, 0, 0⟩) n (.pos ⟨h0.length + 2, 0, 0⟩) n ((i : Nat) : Int) ((k : Nat) : Int) h Q = Q (.exit 2) (S49xe2 s0 n .nil 0 .nil 0 .nil 0 (.pos ⟨h0.length, 0, 0⟩) n (.pos ⟨h0.length + 1, 0, 0⟩) n (.pos ⟨h0.length + 2, 0, 0⟩) n ((i : Nat) : Int) h') ∧
      BI h0 h' n (opI l i n) (afI l n i n) ss' fs' := by
  intro j
  induction j with
  | zero =>
    intro k hk hik h ss fs I
    obtain rfl : k = n := by omega
    exact ⟨h, ss, fs, by rw [L49x15xeq, letK_eq, if_neg (by simp)], I⟩
  | succ j ih =>
    intro k hk hik h ss fs I
    have b1 : opI l i k k ≤ k := by
      unfold opI
      rw [if_neg (by omega)]
      unfold opO
      refine Nat.le_trans (List.length_filter_le _ _) ?_
      simp
    have b2 : (afI l n i k i).length ≤ k := by
      unfold afI castN
      rw [if_pos rfl, List.length_map]
      refine Nat.le_trans (List.length_filter_le _ _) ?_
      simp
    obtain ⟨h1, ss1, fs1, e1, I1⟩ := build_pair H I hn hik (by omega) (by omega) (by omega) Q
    rw [opI_step l i k hik, afI_step l n i k hik] at I1
    rw [e1]
    exact ih (k + 1) (by omega) (by omega) h1 ss1 fs1 I1

theorem BI.setF {h0 h : Heap} {n i : Nat} {op : Nat → Nat} {af : Nat → List Int} {ss : List (SA × Nat)} {fs : List Int} (H : BI h0 h n op af ss fs) (hi : i < n) (v : Int) (h0' : 0 ≤ v) (h1 : v ≤ 8) : BI h0 (h.set (h0.length + 2) (.cells ((fs.map (.int .i64)).set i (.int .i64 v)) (.grow 1) 0)) n op af ss (fs.set i v) := by
  refine ⟨H.old.set (by omega) _, by rw [List.length_set]; exact H.le, by rw [set_other (by omega)]; exact H.o, H.a.setO (by omega) (by omega) _, by rw [List.length_set]; exact H.fl, by rw [set_same H.f, List.map_set], ?_⟩
  intro p z hz
  have hfl := H.fl
  rw [List.getElem?_set] at hz
  by_cases e : i = p
  · subst e
    rw [if_pos rfl, if_pos (by omega)] at hz
    cases hz
    omega
  · rw [if_neg e] at hz
    exact H.fb p z hz

theorem opI_end {l : List Ins} {n : Nat} (hl : l.length = n) (i : Nat) : opI l i n = opO l i := by
  funext p
  rw [opO_step]
  unfold opI
  congr 1
  by_cases h : i < p ∧ D l i p = true
  · rw [if_pos ⟨h.1, by have := (D_lt h.2).2; omega, h.2⟩, if_pos h]
  · rw [if_neg (fun hh => h ⟨hh.1, hh.2.2⟩), if_neg h]

theorem afI_end (l : List Ins) (n i : Nat) : afI l n i n = afO l n i := by
  funext q
  unfold afI afO
  by_cases e : q = i
  · subst e
    rw [if_pos rfl, if_pos (Nat.le_refl _)]
    rfl
  · rw [if_neg e]
    by_cases h : i ≤ q
    · rw [if_pos h, if_pos (by omega)]
    · rw [if_neg h, if_neg (by omega)]

theorem opI_start (l : List Ins) (i : Nat) : opI l i (i + 1) = opO l (i + 1) := by
  funext p
  unfold opI
  rw [if_neg (by omega)]
  rfl

theorem afI_start (l : List Ins) (n i : Nat) : afI l n i (i + 1) = afO l n (i + 1) := by
  funext q
  unfold afI afO castN
  by_cases e : q = i
  · subst e
    rw [if_pos rfl, if_neg (by omega)]
    have : (List.range (q + 1)).filter (fun p => decide (q < p) && D l q p) = [] := by
      rw [List.filter_eq_nil_iff]
      intro p hp
      have := List.mem_range.1 hp
      simp; omega
    rw [this]; rfl
  · rw [if_neg e]

theorem outer_build {h0 : Heap} {s0 : SA} {n : Nat} {l : List Ins} (H : VS Ins.cells 5 h0 s0 n l) (hn : n ≤ 60) : ∀ (i : Nat), i ≤ n → ∀ (h : Heap) (ss : List (SA × Nat)) (fs : List Int), BI h0 h n (opO l i) (afO l n i) ss fs →
    ∃ h' ss' fs', L49x5 mk0 E s0 n .nil 0 .nil 0 .nil 0 (.pos ⟨h0.length, 0, 0⟩) n (.pos ⟨h0.length + 1, 0, 0⟩) n (.pos ⟨h0.length + 2, 0, 0⟩) n (((i : Nat) : Int) - 1) h (Q49x5 mk0 E) = some (.agg [.sl (.pos ⟨h0.length, 0, 0⟩) n, .sl (.pos ⟨h0.length + 1, 0, 0⟩) n, .sl (.pos ⟨h0.length + 2, 0, 0⟩) n], h') ∧
      BI h0 h' n (opO l 0) (afO l n 0) ss' fs' := by
  have hl := H.1
  intro i
  induction i with
  | zero =>
    intro _ h ss fs I
    exact ⟨h, ss, fs, by rw [L49x5xeq, letK_eq, if_neg (by simp), X49x5xe0], I⟩
  | succ i ih =>
    intro hi h ss fs I
    obtain ⟨x, hx⟩ : ∃ x, l[i]? = some x := ⟨l[i]'(by omega), List.getElem?_eq_getElem (by omega)⟩
    obtain ⟨a, ha, _, la⟩ := vs_ld_op (vs_old H I.old) i x hx
    have lb := lat_bd x.op
    have hfl := I.fl
    have I1 := I.setF (i := i) (by omega) (lat x.op) (by omega) (by omega)
    rw [L49x5xeq, show ((((i + 1 : Nat) : Int)) - 1) = ((i : Nat) : Int) by omega, letK_eq, if_pos (by simp), chk_of (by intro _; omega), ha, atP_of, Int.toNat_natCast, la, gI_of, lat_ok, Option.bind_some, gI_of, chk_of (by intro _; omega), adP_pos, atP_of, add_mk]
    dsimp only
    rw [st1_at I.f (by simp) (by simp [hfl]; omega), Option.bind_some, letK_eq, wrap64 (by omega) (by omega), show 0 + i * 1 = i by omega, show (((i : Nat) : Int) + 1) = ((i + 1 : Nat) : Int) by omega]
    rw [← opI_start, ← afI_start] at I1
    obtain ⟨h2, ss2, fs2, e2, I2⟩ := inner_build H hn (by omega) (Q49x15 mk0 E (Q49x5 mk0 E)) (n - (i + 1)) (i + 1) (by omega) (by omega) _ ss _ I1
    rw [e2, X49x15xe2, letK_eq, wrap64 (by omega) (by omega)]
    rw [opI_end hl, afI_end] at I2
    exact ih (by omega) h2 ss2 fs2 I2

theorem build_ok {h : Heap} {s0 : SA} {n : Nat} {l : List Ins} (H : VS Ins.cells 5 h s0 n l) (hn : n ≤ 60) : ∃ h' ss fs, E 49 [.sl s0 n] h = some (.agg [.sl (.pos ⟨h.length, 0, 0⟩) n, .sl (.pos ⟨h.length + 1, 0, 0⟩) n, .sl (.pos ⟨h.length + 2, 0, 0⟩) n], h') ∧ BI h h' n (opO l 0) (afO l n 0) ss fs := by
  have hl := H.1
  have z1 : ∀ p, opO l n p = 0 := by
    intro p
    unfold opO
    rw [List.length_eq_zero_iff, List.filter_eq_nil_iff]
    intro q hq hh
    rw [Bool.and_eq_true] at hh
    have h1 : n ≤ q := by simpa using hh.1
    have := (D_lt hh.2).1
    omega
  have z2 : ∀ q, afO l n n q = [] := by
    intro q
    unfold afO castN afL
    split
    · rename_i hq
      have : (List.range n).filter (fun p => decide (q < p) && D l q p) = [] := by
        rw [List.filter_eq_nil_iff]
        intro p hp hh
        rw [Bool.and_eq_true] at hh
        have := (D_lt hh.2).1
        omega
      rw [this]; rfl
    · rfl
  have r1 : repl (Int.toNat ((n : Nat) : Int)) [AV.int .i64 0] = (List.range n).map fun p => .int .i64 ((opO l n p : Nat) : Int) := by
    rw [Int.toNat_natCast]
    show List.replicate n (AV.int .i64 0) = _
    apply List.ext_getElem
    · simp
    · intro i h1 h2
      simp [z1]
  have r2 : repl (Int.toNat ((n : Nat) : Int)) [AV.sl .nil 0] = (List.replicate n ((SA.nil, 0) : SA × Nat)).map slC := by
    rw [Int.toNat_natCast]
    show List.replicate n (AV.sl .nil 0) = _
    rw [List.map_replicate]; rfl
  have r3 : repl (Int.toNat ((n : Nat) : Int)) [AV.int .i64 0] = (List.replicate n (0 : Int)).map (.int .i64) := by
    rw [Int.toNat_natCast]
    show List.replicate n (AV.int .i64 0) = _
    rw [List.map_replicate]
  rw [e49, chk_of (by omega), newK_eq, letK_eq, chk_of (by omega), newK_eq, letK_eq, chk_of (by omega), newK_eq, letK_eq, letK_eq, wrap64 (by omega) (by omega)]
  have L1 : (h ++ [Blk.cells (repl (Int.toNat ((n : Nat) : Int)) [AV.int .i64 0]) (.grow 1) 0]).length = h.length + 1 := by simp
  have L2 : (h ++ [Blk.cells (repl (Int.toNat ((n : Nat) : Int)) [AV.int .i64 0]) (.grow 1) 0] ++ [Blk.cells (repl (Int.toNat ((n : Nat) : Int)) [AV.sl .nil 0]) (.grow 1) 0]).length = h.length + 2 := by simp
  rw [L1, L2, Int.toNat_natCast]
  rw [show repl n [AV.sl .nil 0] = (List.replicate n ((SA.nil, 0) : SA × Nat)).map slC by rw [← r2, Int.toNat_natCast]]
  refine outer_build H hn n (Nat.le_refl _) _ (List.replicate n (.nil, 0)) (List.replicate n 0) ⟨((old_app _ _).app _).app _, by simp, ?_, ⟨by simp, ?_, ?_, ?_, ?_⟩, by simp, ?_, ?_⟩
  · refine app_old (app_old ?_)
    rw [last_get, ← r1, Int.toNat_natCast]
  · have : (h ++ [Blk.cells (repl n [AV.int .i64 0]) (.grow 1) 0]).length = h.length + 1 := by simp
    rw [← this]
    exact app_old (last_get _ _)
  · intro q x hq
    have : x = (.nil, 0) := (List.mem_replicate.1 (List.mem_of_getElem? hq)).2
    subst this
    rw [z2]
    exact ⟨rfl, rfl, .inl ⟨rfl, rfl⟩⟩
  · intro q x b hq hb
    have : x = (.nil, 0) := (List.mem_replicate.1 (List.mem_of_getElem? hq)).2
    subst this
    obtain ⟨a, ha, _⟩ := hb
    cases ha
  · intro q q' x x' b hq _ _ hb
    have : x = (.nil, 0) := (List.mem_replicate.1 (List.mem_of_getElem? hq)).2
    subst this
    obtain ⟨a, ha, _⟩ := hb
    cases ha
  · have : (h ++ [Blk.cells (repl n [AV.int .i64 0]) (.grow 1) 0] ++ [Blk.cells ((List.replicate n ((SA.nil, 0) : SA × Nat)).map slC) (.grow 1) 0]).length = h.length + 2 := by simp
    rw [← this, last_get, ← r3, Int.toNat_natCast]
  · intro p x hp
    have hp' := (List.getElem?_eq_some_iff.1 hp).1
    rw [List.length_replicate] at hp'
    have : x = 0 := (List.mem_replicate.1 (List.mem_of_getElem? hp)).2
    omega

end Go.Proofs.Ytepkdcgokedkdaa.H

/- sched: pick. -/
set_option linter.unusedVariables false
set_option linter.unusedSimpArgs false
namespace Go.Proofs.Ytepkdcgokedkdaa.H
open Go Go.Proofs.Ytepkdcgokedkdaa.Abs Go.Proofs

theorem gL_any {R : Type} (s : SA) (n : Nat) (bc : Bool) (K : SA → Nat → Option R) : gL (some (AV.sl s n)) bc K = K s n := by cases bc <;> rfl
theorem atP_any {R : Type} (a : Ad) (bc : Bool) (K : Ad → Option R) : atP (some a) bc K = K a := by cases bc <;> rfl

def gtB (bs : List Bool) (i : Nat) : Bool := bs.getD i false

/-- Not done, and waits for nothing. -/
def rdy (bs : List Bool) (op : Nat → Int) (p : Nat) : Prop := gtB bs p = false ∧ op p ≤ 0

theorem pick_loop {h1 : Heap} {s0 s5 sa : SA} {n O F B n5 na : Nat} {l : List Ins} {op : Nat → Int} {fs : List Int} {bs : List Bool} {t : TS} {K : Int} (H : VS Ins.cells 5 h1 s0 n l) (hv : ∀ e ∈ l, e.ok) (hn : n ≤ 60)
    (hO : h1[O]? = some (.cells ((List.range n).map fun p => .int .i64 (op p)) (.grow 1) 0)) (hF : h1[F]? = some (.cells (fs.map (.int .i64)) (.grow 1) 0)) (hfl : fs.length = n)
    (hB : h1[B]? = some (.cells (bs.map .bool) (.grow 1) 0)) (hbl : bs.length = n) (ok : TOk t K) (hr : TR h1 t s5 n5) (hn5 : n5 ≤ 10000) (hK : K < 10000000) : ∀ (k j : Nat), j + k = n →
    ∀ (h : Heap) (best start : Int), Old h1 h → ((best = -1 ∧ ∀ p, p < j → ¬ rdy bs op p) ∨ ∃ b : Nat, b < n ∧ best = b ∧ rdy bs op b) →
    ∃ h' r, L50x5 mk0 E (.pos ⟨B, 0, 0⟩) n (.pos ⟨O, 0, 0⟩) n sa na (.pos ⟨F, 0, 0⟩) n (tc t s5 n5) best start s0 n ((n : Nat) : Int) ((j : Nat) : Int) h (Q50x5 mk0 E) = some (.int .i64 r, h') ∧ Old h1 h' ∧ ((r = -1 ∧ ∀ p, p < n → ¬ rdy bs op p) ∨ ∃ b : Nat, b < n ∧ r = b ∧ rdy bs op b) := by
  intro k
  have hl := H.1
  induction k with
  | zero =>
    intro j hj h best start ho hb
    obtain rfl : j = n := by omega
    exact ⟨h, best, by rw [L50x5xeq, letK_eq, if_neg (by simp), X50x5xe0], ho, hb⟩
  | succ k ih =>
    intro j hj h best start ho hb
    obtain ⟨x, hx⟩ : ∃ x, l[j]? = some x := ⟨l[j]'(by omega), List.getElem?_eq_getElem (by omega)⟩
    obtain ⟨a, ha, la⟩ := vs_ld (vs_old H ho) ins_flat j x hx
    have hbj : bs[j]? = some (gtB bs j) := by
      rw [List.getElem?_eq_getElem (by omega)]
      simp [gtB, List.getD, show j < bs.length by omega]
    have lb : ld1 h ⟨B, 0, 0 + j * 1⟩ = some (.bool (gtB bs j)) := ld1_at (ho _ _ hB) (by rw [Nat.zero_add, Nat.mul_one, List.getElem?_map, hbj]; rfl) rfl
    have lO : ld1 h ⟨O, 0, 0 + j * 1⟩ = some (.int .i64 (op j)) := ld1_at (ho _ _ hO) (by rw [Nat.zero_add, Nat.mul_one, range_get (by omega)]) rfl
    have wj : IntKind.wrap .i64 ((j : Int) + 1) = ((j + 1 : Nat) : Int) := by rw [wrap64 (by omega) (by omega)]; omega
    have next : ∀ (h2 : Heap) (b2 s2 : Int), Old h1 h2 → ((b2 = -1 ∧ ∀ p, p < j + 1 → ¬ rdy bs op p) ∨ ∃ b : Nat, b < n ∧ b2 = b ∧ rdy bs op b) → ∃ h' r, J50x21 mk0 E (.pos ⟨B, 0, 0⟩) n (.pos ⟨O, 0, 0⟩) n sa na (.pos ⟨F, 0, 0⟩) n (tc t s5 n5) b2 s2 s0 n ((n : Nat) : Int) ((j : Nat) : Int) h2 (Q50x5 mk0 E) = some (.int .i64 r, h') ∧ Old h1 h' ∧ ((r = -1 ∧ ∀ p, p < n → ¬ rdy bs op p) ∨ ∃ b : Nat, b < n ∧ r = b ∧ rdy bs op b) := by
      intro h2 b2 s2 o2 hb2
      rw [J50x21xeq, letK_eq, wj]
      exact ih (j + 1) (by omega) h2 b2 s2 o2 hb2
    have skip : ¬ rdy bs op j → ((best = -1 ∧ ∀ p, p < j + 1 → ¬ rdy bs op p) ∨ ∃ b : Nat, b < n ∧ best = b ∧ rdy bs op b) := by
      intro hnr
      rcases hb with ⟨e, hp⟩ | hb
      · refine .inl ⟨e, fun p hpj => ?_⟩
        by_cases hpe : p = j
        · subst hpe; exact hnr
        · exact hp p (by omega)
      · exact .inr hb
    rw [L50x5xeq, letK_eq, if_pos (by simp; omega), chk_of (by intro _; omega), ha, atP_of, Int.toNat_natCast, la, gCells_of]
    simp only [Ins.cells, List.getElem?_cons_zero, List.getElem?_cons_succ]
    rw [gI_of, gI_of, gI_of, gI_of, gI_of, chk_of (by intro _; omega), adP_pos, atP_of, add_mk, lb, gB_of, gL_any, chk_of (by intro _; omega), adP_pos, atP_any, atP_any, add_mk, lO, gI_any, letK_eq, letK_eq]
    cases hd : gtB bs j with
    | true =>
      rw [if_pos (by simp)]
      exact next h best start ho (skip fun hr => by rw [hr.1] at hd; cases hd)
    | false =>
      by_cases hop : 0 < op j
      · rw [if_pos (by simp; omega)]
        exact next h best start ho (skip fun hr => by have := hr.2; omega)
      · rw [if_neg (by simp; omega), chk_of (by rw [tc_len ok.len]; intro _; omega), tc_all ok.len]
        obtain ⟨h2, s', n', i1, i2, i3, i4, i5⟩ := issue_ok (ex := 0) ok (vs_old hr ho : TR h t s5 n5) hn5 hK (hv x (List.mem_of_getElem? hx)).1 (by omega) (by omega)
        obtain ⟨sk, -⟩ := step_ok (op := x.op) (d := x.d) (a := x.a) (b := x.b) (ex := 0) ok (by omega)
        have l20' := tc_len (t := (step t x.op x.d x.a x.b 0).1) (s := s') (n := n') sk.len
        have hrd : rdy bs op j := ⟨hd, by omega⟩
        have o2 := ho.trans i2
        obtain ⟨fj, hfj⟩ : ∃ fj, fs[j]? = some fj := ⟨fs[j]'(by omega), List.getElem?_eq_getElem (by omega)⟩
        have lF : ∀ (p : Nat), p < n → ∃ v, ld1 h2 ⟨F, 0, 0 + p * 1⟩ = some (.int .i64 v) := by
          intro p hp
          exact ⟨_, ld1_at (x := .int .i64 (fs[p]'(by omega))) (o2 _ _ hF) (by rw [Nat.zero_add, Nat.mul_one, List.getElem?_map, List.getElem?_eq_getElem (by omega)]; rfl) rfl⟩
        have hbt : best.toNat < n ∧ (0 ≤ best → best < n) := by
          rcases hb with ⟨e, _⟩ | ⟨b, hb1, hb2, _⟩
          · subst e; exact ⟨by show 0 < n; omega, fun h => by omega⟩
          · subst hb2; exact ⟨by simpa using hb1, fun _ => by omega⟩
        obtain ⟨v1, hv1⟩ := lF j (by omega)
        obtain ⟨v2, hv2⟩ := lF best.toNat hbt.1
        rw [i1, Option.bind_some, gT3_of]
        simp only [List.getD_cons_zero, List.getD_cons_succ]
        rw [gA_of, chk_of (by intro _; exact l20'), gI_of, gI_of, chk_of ⟨l20', flat_tc _ _ _, by omega⟩, letK_eq, letK_eq, letK_eq, letK_eq, letK_eq]
        generalize hw : (if decide (best < 0) = true then true else decide ((step t x.op x.d x.a x.b 0).2 < start)) = w
        generalize decide ((step t x.op x.d x.a x.b 0).2 = start) = w2
        have hbw : w = false → 0 ≤ best := by
          intro e
          rw [e] at hw
          by_cases hneg : best < 0
          · rw [decide_eq_true hneg, if_pos rfl] at hw; cases hw
          · omega
        rw [gL_any, chk_of (by intro _; omega), adP_pos, atP_any, atP_any, add_mk, hv1, gI_any, gL_any, chk_of (by
          intro hh
          have hwf : w = false := by cases w <;> simp_all [andB]
          have := hbw hwf
          exact ⟨this, hbt.2 this⟩), adP_pos, atP_any, atP_any, add_mk, hv2, gI_any, letK_eq, letK_eq, letK_eq]
        by_cases hc : (if w = true then true else (if w2 = true then decide (v2 < v1) else false)) = true
        · rw [if_pos hc, J50x20xeq]
          exact next h2 _ _ o2 (.inr ⟨j, by omega, rfl, hrd⟩)
        · rw [if_neg hc, J50x20xeq]
          have hwf : w = false := by cases w <;> simp_all
          have := hbw hwf
          refine next h2 best start o2 ?_
          rcases hb with ⟨e, _⟩ | hb
          · omega
          · exact .inr hb

theorem pick_ok {h : Heap} {s0 s5 sa : SA} {n O F B n5 na : Nat} {l : List Ins} {op : Nat → Int} {fs : List Int} {bs : List Bool} {t : TS} {K : Int} (H : VS Ins.cells 5 h s0 n l) (hv : ∀ e ∈ l, e.ok) (hn : n ≤ 60)
    (hO : h[O]? = some (.cells ((List.range n).map fun p => .int .i64 (op p)) (.grow 1) 0)) (hF : h[F]? = some (.cells (fs.map (.int .i64)) (.grow 1) 0)) (hfl : fs.length = n)
    (hB : h[B]? = some (.cells (bs.map .bool) (.grow 1) 0)) (hbl : bs.length = n) (ok : TOk t K) (hr : TR h t s5 n5) (hn5 : n5 ≤ 10000) (hK : K < 10000000) :
    ∃ h' r, E 50 [.sl s0 n, .agg [.sl (.pos ⟨O, 0, 0⟩) n, .sl sa na, .sl (.pos ⟨F, 0, 0⟩) n], .agg (tc t s5 n5), .sl (.pos ⟨B, 0, 0⟩) n] h = some (.int .i64 r, h') ∧ Old h h' ∧ ((r = -1 ∧ ∀ p, p < n → ¬ rdy bs op p) ∨ ∃ b : Nat, b < n ∧ r = b ∧ rdy bs op b) := by
  obtain ⟨h', r, e, o, p⟩ := pick_loop (sa := sa) (na := na) H hv hn hO hF hfl hB hbl ok hr hn5 hK n 0 (by omega) h (-1) 0 (Old.refl _) (.inl ⟨rfl, fun p hp => by omega⟩)
  refine ⟨h', r, ?_, o, p⟩
  rw [e50]
  exact e

end Go.Proofs.Ytepkdcgokedkdaa.H

/- sched: order (the inner one). -/
set_option linter.unusedVariables false
set_option linter.unusedSimpArgs false
namespace Go.Proofs.Ytepkdcgokedkdaa.H
open Go Go.Proofs.Ytepkdcgokedkdaa.Abs Go.Proofs

/-- How many that are not done an instruction waits for. -/
def opU (l : List Ins) (bs : List Bool) (p : Nat) : Nat := ((List.range p).filter fun q => D l q p && !gtB bs q).length

theorem gtB_set {bs : List Bool} {b q : Nat} (hb : b < bs.length) : gtB (bs.set b true) q = (decide (q = b) || gtB bs q) := by
  unfold gtB
  by_cases h : q = b
  · subst h
    simp [List.getD, hb]
  · have h' : ¬ b = q := fun e => h e.symm
    simp [List.getD, List.getElem?_set, h, h']

theorem cnt_set (g : Nat → Bool) {bs : List Bool} {b : Nat} (hb : b < bs.length) (hf : gtB bs b = false) : ∀ p, ((List.range p).filter fun q => g q && !gtB bs q).length = ((List.range p).filter fun q => g q && !gtB (bs.set b true) q).length + (if b < p ∧ g b = true then 1 else 0) := by
  intro p
  induction p with
  | zero => simp
  | succ p ih =>
    rw [List.range_succ, List.filter_append, List.filter_append, List.length_append, List.length_append, ih]
    simp only [List.filter_cons, List.filter_nil, gtB_set hb]
    by_cases h1 : p = b
    · subst h1
      rw [if_neg (by omega : ¬ (p < p ∧ g p = true))]
      cases hg : g p <;> simp [hg, hf]
    · have e : decide (p = b) = false := by simp [h1]
      rw [e, Bool.false_or]
      by_cases h2 : b < p
      · cases g b <;> cases (g p && !gtB bs p) <;> simp [h2, show b < p + 1 by omega] <;> omega
      · simp [h2, show ¬ b < p + 1 by omega]

theorem opU_start (l : List Ins) (n p : Nat) : opU l (List.replicate n false) p = opO l 0 p := by
  unfold opU opO
  congr 1
  apply List.filter_congr
  intro q _
  have : gtB (List.replicate n false) q = false := by
    unfold gtB
    simp only [List.getD, List.getElem?_replicate]
    split <;> rfl
  simp [this]

theorem first_open {bs : List Bool} : ∀ p, gtB bs p = false → ∃ p', p' ≤ p ∧ gtB bs p' = false ∧ ∀ q, q < p' → gtB bs q = true := by
  intro p
  induction p using Nat.strongRecOn with
  | _ p ih =>
    intro hp
    by_cases h : ∃ q, q < p ∧ gtB bs q = false
    · obtain ⟨q, h1, h2⟩ := h
      obtain ⟨p', a, b, c⟩ := ih q h1 h2
      exact ⟨p', by omega, b, c⟩
    · refine ⟨p, Nat.le_refl _, hp, fun q hq => ?_⟩
      cases hg : gtB bs q with
      | true => rfl
      | false => exact absurd ⟨q, hq, hg⟩ h

theorem opU_zero {l : List Ins} {bs : List Bool} {p : Nat} (h : ∀ q, q < p → gtB bs q = true) : opU l bs p = 0 := by
  unfold opU
  rw [List.length_eq_zero_iff, List.filter_eq_nil_iff]
  intro q hq
  rw [h q (List.mem_range.1 hq)]
  simp

/-- Where nothing is waited for, all that must come first is done. -/
theorem opU_done {l : List Ins} {bs : List Bool} {p : Nat} (h : opU l bs p = 0) {q : Nat} (hq : q < p) (hd : D l q p = true) : gtB bs q = true := by
  unfold opU at h
  rw [List.length_eq_zero_iff, List.filter_eq_nil_iff] at h
  have := h q (List.mem_range.2 hq)
  rw [hd] at this
  simpa using this

structure OutI (l : List Ins) (n : Nat) (bs : List Bool) (out : List Nat) : Prop where
  bl : bs.length = n
  mem : ∀ p, gtB bs p = true ↔ p ∈ out
  lt : ∀ e ∈ out, e < n
  nd : out.Nodup
  cnt : ((List.range n).filter fun q => !gtB bs q).length + out.length = n
  ord : ∀ (idx b : Nat), out[idx]? = some b → ∀ q, q < b → D l q b = true → q ∈ out.take idx

theorem outI_start (l : List Ins) (n : Nat) : OutI l n (List.replicate n false) [] := by
  have hg : ∀ q, gtB (List.replicate n false) q = false := by
    intro q
    unfold gtB
    simp only [List.getD, List.getElem?_replicate]
    split <;> rfl
  refine ⟨by simp, fun p => by rw [hg]; simp, by simp, List.nodup_nil, ?_, by simp⟩
  rw [List.filter_eq_self.2 (fun q _ => by rw [hg]; rfl)]
  simp

theorem OutI.next {l : List Ins} {n b : Nat} {bs : List Bool} {out : List Nat} (I : OutI l n bs out) (hb : b < n) (hf : gtB bs b = false) (h0 : opU l bs b = 0) : OutI l n (bs.set b true) (out ++ [b]) := by
  have hbl : b < bs.length := by rw [I.bl]; exact hb
  have hno : b ∉ out := fun h => by rw [(I.mem b).2 h] at hf; cases hf
  refine ⟨by rw [List.length_set]; exact I.bl, fun p => ?_, fun e he => ?_, ?_, ?_, ?_⟩
  · rw [gtB_set hbl, Bool.or_eq_true, decide_eq_true_eq, I.mem p, List.mem_append, List.mem_singleton]
    exact ⟨fun h => h.symm, fun h => h.symm⟩
  · rcases List.mem_append.1 he with h | h
    · exact I.lt e h
    · obtain rfl : e = b := by simpa using h
      exact hb
  · rw [List.nodup_append]
    refine ⟨I.nd, by simp, fun x hx y hy => ?_⟩
    obtain rfl : y = b := by simpa using hy
    exact fun e => hno (e ▸ hx)
  · have c := cnt_set (fun _ => true) hbl hf n
    simp only [Bool.true_and, and_true] at c
    rw [if_pos hb] at c
    have := I.cnt
    rw [List.length_append, List.length_singleton]
    omega
  · intro idx e he q hq hd
    rw [List.getElem?_append] at he
    split at he
    · rename_i hlt
      rw [List.take_append_of_le_length (by omega)]
      exact I.ord idx e he q hq hd
    · rename_i hge
      have hidx : idx - out.length = 0 := by
        have := (List.getElem?_eq_some_iff.1 he).1
        simp at this
        omega
      rw [hidx] at he
      cases he
      rw [List.take_append_of_le_length (by omega), List.take_of_length_le (by omega)]
      exact (I.mem q).1 (opU_done h0 hq hd)

theorem OutI.some {l : List Ins} {n : Nat} {bs : List Bool} {out : List Nat} (I : OutI l n bs out) (h : out.length < n) : ∃ p, p < n ∧ gtB bs p = false ∧ opU l bs p = 0 := by
  have c := I.cnt
  obtain ⟨p, hp⟩ : ∃ p, p ∈ (List.range n).filter fun q => !gtB bs q := by
    cases e : (List.range n).filter fun q => !gtB bs q with
    | nil => rw [e] at c; simp at c; omega
    | cons x r => exact ⟨x, List.mem_cons_self⟩
  obtain ⟨h1, h2⟩ := List.mem_filter.1 hp
  have h1 := List.mem_range.1 h1
  obtain ⟨p', a, b, c⟩ := first_open p (by simpa using h2)
  exact ⟨p', by omega, b, opU_zero c⟩

theorem dec_loop {hb : Heap} {O B n : Nat} {s41 : SA} {n41 : Nat} {ks : List Nat} {op : Nat → Int} (H : VS intC 1 hb s41 n41 (castN ks)) (hs : ¬ inS s41 O) (hk : ∀ k ∈ ks, k < n) (nd : ks.Nodup) (hn41 : n41 ≤ 1000) (hop : ∀ p, -1000 ≤ op p ∧ op p ≤ 1000) (s0 sA sF sB s6 : SA) (n0 nA nF nB n6 : Nat) (l5 : List AV) (i7 i16 i17 : Int) (Q : Kont (AV × Heap)) : ∀ (k j : Nat), j + k = n41 →
    ∀ (h : Heap), But O hb h → h[O]? = some (.cells ((List.range n).map fun p => .int .i64 (op p - (if p ∈ ks.take j then 1 else 0))) (.grow 1) 0) →
    ∃ h', L32x21 mk0 E s0 n0 (.pos ⟨O, 0, 0⟩) n sA nA sF nF sB nB l5 s6 n6 i7 i16 i17 s41 n41 ((n41 : Nat) : Int) ((j : Nat) : Int) h Q = Q (.exit 2) (S32xe2 s0 n0 (.pos ⟨O, 0, 0⟩) n sA nA sF nF sB nB l5 s6 n6 i7 i16 i17 h') ∧
      But O h h' ∧ h'[O]? = some (.cells ((List.range n).map fun p => .int .i64 (op p - (if p ∈ ks then 1 else 0))) (.grow 1) 0) := by
  intro k
  have hl := H.1
  have hkl : ks.length = n41 := by rw [← hl]; simp [castN]
  induction k with
  | zero =>
    intro j hj h hbt hO
    refine ⟨h, by rw [L32x21xeq, letK_eq, if_neg (by simp; omega)], fun _ _ h _ => h, ?_⟩
    rw [List.take_of_length_le (by omega)] at hO
    exact hO
  | succ k ih =>
    intro j hj h hbt hO
    obtain ⟨q, hq⟩ : ∃ q, ks[j]? = some q := ⟨ks[j]'(by omega), List.getElem?_eq_getElem (by omega)⟩
    have hqn := hk q (List.mem_of_getElem? hq)
    have hx : (castN ks)[j]? = some ((q : Nat) : Int) := by simp [castN, hq]
    obtain ⟨a, ha, la⟩ := vs_ld1 (g := AV.int .i64) (vs_but H hbt hs) (fun _ => rfl) j _ hx
    have hnt : q ∉ ks.take j := by
      intro hm
      have e1 : ks = ks.take j ++ q :: ks.drop (j + 1) := by
        rw [← drop_get hq, List.take_append_drop]
      rw [e1, List.nodup_append] at nd
      exact nd.2.2 q hm q List.mem_cons_self rfl
    have lO : ld1 h ⟨O, 0, 0 + q * 1⟩ = some (.int .i64 (op q)) := ld1_at hO (by rw [Nat.zero_add, Nat.mul_one, range_get hqn, if_neg hnt]; congr 2; omega) rfl
    have hb := hop q
    rw [L32x21xeq, letK_eq, if_pos (by simp; omega), chk_of (by intro _; omega), ha, atP_of, Int.toNat_natCast, la, gI_of, chk_of (by intro _; omega), adP_pos, atP_of, add_mk, Int.toNat_natCast, lO, gI_of, letK_eq, wrap64 (by omega) (by omega), chk_of (by intro _; omega), atP_of, add_mk, st1_at hO (by simp) (by simp; omega), Option.bind_some, letK_eq, wrap64 (by omega) (by omega), show ((j : Int) + 1) = ((j + 1 : Nat) : Int) by omega, show 0 + q * 1 = q by omega, range_set]
    obtain ⟨h', e, b', o'⟩ := ih (j + 1) (by omega) (h.set O (.cells ((List.range n).map fun p => if p = q then AV.int .i64 (op q - 1) else .int .i64 (op p - (if p ∈ ks.take j then 1 else 0))) (.grow 1) 0)) (hbt.trans (but_set O _ _)) (by
      rw [set_same hO]
      congr 2
      apply List.map_congr_left
      intro p hp
      rw [List.take_add_one, hq]
      by_cases e : p = q
      · subst e
        rw [if_pos rfl, if_pos (by simp)]
      · rw [if_neg e]
        have : (p ∈ ks.take j ++ (some q).toList) ↔ p ∈ ks.take j := by simp [e]
        simp only [this])
    exact ⟨h', e, (but_set O _ _).trans b', o'⟩

end Go.Proofs.Ytepkdcgokedkdaa.H

/- sched: order (the inner one), the loop. -/
set_option linter.unusedVariables false
set_option linter.unusedSimpArgs false
namespace Go.Proofs.Ytepkdcgokedkdaa.H
open Go Go.Proofs.Ytepkdcgokedkdaa.Abs Go.Proofs

theorem afL_mem {l : List Ins} {n b p : Nat} (hl : l.length = n) : p ∈ afL l n b ↔ b < p ∧ D l b p = true := by
  unfold afL
  rw [List.mem_filter, Bool.and_eq_true, decide_eq_true_eq, List.mem_range]
  exact ⟨fun h => h.2, fun h => ⟨by have := (D_lt h.2).2; omega, h⟩⟩

theorem afL_nd (l : List Ins) (n b : Nat) : (afL l n b).Nodup := List.Nodup.sublist List.filter_sublist List.nodup_range

theorem opU_step {l : List Ins} {n b p : Nat} {bs : List Bool} (hl : l.length = n) (hb : b < bs.length) (hf : gtB bs b = false) : ((opU l (bs.set b true) p : Nat) : Int) = ((opU l bs p : Nat) : Int) - (if p ∈ afL l n b then 1 else 0) := by
  have c := cnt_set (fun q => D l q p) hb hf p
  have e : opU l bs p = ((List.range p).filter fun q => D l q p && !gtB bs q).length := rfl
  have e' : opU l (bs.set b true) p = ((List.range p).filter fun q => D l q p && !gtB (bs.set b true) q).length := rfl
  rw [← e, ← e'] at c
  by_cases h : p ∈ afL l n b
  · have := (afL_mem hl).1 h
    rw [if_pos this] at c
    rw [if_pos h]
    omega
  · have : ¬ (b < p ∧ D l b p = true) := fun hh => h ((afL_mem hl).2 hh)
    rw [if_neg this] at c
    rw [if_neg h]
    omega

theorem order_loop {h0 hb : Heap} {s0 : SA} {n : Nat} {l : List Ins} {ss : List (SA × Nat)} {fs : List Int} (H : VS Ins.cells 5 h0 s0 n l) (hv : ∀ e ∈ l, e.ok) (hn : n ≤ 60) (I : BI h0 hb n (opO l 0) (afO l n 0) ss fs) : ∀ (k m : Nat), m + k = n →
    ∀ (h : Heap) (bs : List Bool) (out : List Nat) (t : TS) (s5 s6 : SA) (n5 : Nat), But h0.length hb h → hb.length < h.length → h[h0.length]? = some (.cells ((List.range n).map fun p => .int .i64 ((opU l bs p : Nat) : Int)) (.grow 1) 0) → h[hb.length]? = some (.cells (bs.map .bool) (.grow 1) 0) →
      OutI l n bs out → out.length = m → TOk t (8 * m) → TR h t s5 n5 → n5 ≤ m → GS h s6 m 1 ((castN out).map (.int .i64)) → (∀ q, inS s5 q → hb.length < q) → (∀ q, inS s6 q → hb.length < q) → (∀ q, inS s5 q → ¬ inS s6 q) →
    ∃ (h' : Heap) (s' : SA) (bs' : List Bool) (out' : List Nat), L32x8 mk0 E s0 n (.pos ⟨h0.length, 0, 0⟩) n (.pos ⟨h0.length + 1, 0, 0⟩) n (.pos ⟨h0.length + 2, 0, 0⟩) n (.pos ⟨hb.length, 0, 0⟩) n (tc t s5 n5) s6 m ((n : Nat) : Int) ((m : Nat) : Int) h (Q32x8 mk0 E) = some (.sl s' n, h') ∧ But h0.length hb h' ∧ GS h' s' n 1 ((castN out').map (.int .i64)) ∧ OutI l n bs' out' ∧ out'.length = n ∧ (∀ q, inS s' q → hb.length < q) := by
  intro k
  have hl := H.1
  have hble := I.le
  have hfl := I.fl
  have hsl := I.a.len
  induction k with
  | zero =>
    intro m hm h bs out t s5 s6 n5 hbt hlt hO hB hI hout ok hr hn5 hg f5 f6 d56
    obtain rfl : m = n := by omega
    exact ⟨h, s6, bs, out, by rw [L32x8xeq, letK_eq, if_neg (by simp), X32x8xe0], hbt, hg, hI, hout, f6⟩
  | succ k ih =>
    intro m hm h bs out t s5 s6 n5 hbt hlt hO hB hI hout ok hr hn5 hg f5 f6 d56
    -- what the graph's lists say now
    have H' : ∀ hh, But h0.length hb hh → VS Ins.cells 5 hh s0 n l := by
      intro hh hbt'
      refine vs_old H fun q x hq => hbt' q x (I.old q x hq) ?_
      have := (List.getElem?_eq_some_iff.1 hq).1
      omega
    have F' : ∀ hh, But h0.length hb hh → hh[h0.length + 2]? = some (.cells (fs.map (.int .i64)) (.grow 1) 0) := fun hh hbt' => hbt' _ _ I.f (by omega)
    have A' : ∀ hh, But h0.length hb hh → hh[h0.length + 1]? = some (.cells (ss.map slC) (.grow 1) 0) := fun hh hbt' => hbt' _ _ I.a.blk (by omega)
    have l20 := tc_len (t := t) (s := s5) (n := n5) ok.len
    obtain ⟨h1, r, p1, p2, p3⟩ := pick_ok (sa := .pos ⟨h0.length + 1, 0, 0⟩) (na := n) (op := fun p => ((opU l bs p : Nat) : Int)) (H' h hbt) hv hn hO (F' h hbt) hfl hB hI.bl ok hr (by omega) (by omega)
    obtain ⟨b, hbn, rfl, hrdy⟩ : ∃ b : Nat, b < n ∧ r = b ∧ rdy bs (fun p => ((opU l bs p : Nat) : Int)) b := by
      rcases p3 with ⟨_, hno⟩ | h
      · obtain ⟨p, a1, a2, a3⟩ := hI.some (by omega)
        exact absurd ⟨a2, by show ((opU l bs p : Nat) : Int) ≤ 0; rw [a3]; exact Int.le_refl _⟩ (hno p a1)
      · exact h
    obtain ⟨hdf, hop0⟩ := hrdy
    have hop0 : ((opU l bs b : Nat) : Int) ≤ 0 := hop0
    have hop0' : opU l bs b = 0 := by omega
    have hbl : b < bs.length := by rw [hI.bl]; exact hbn
    have bt1 : But h0.length hb h1 := fun q x hq hne => p2 q x (hbt q x hq hne)
    have hB1 := p2 _ _ hB
    have hO1 := p2 _ _ hO
    have le1 := p2.le
    rw [L32x8xeq, letK_eq, if_pos (by simp; omega), chk_of (by rw [l20]; intro _; omega), tc_all ok.len, p1, Option.bind_some, gI_of, chk_of (by intro _; omega), adP_pos, atP_of, add_mk, Int.toNat_natCast]
    dsimp only
    rw [st1_at hB1 (by simp) (by simp [hI.bl]; omega), Option.bind_some, show 0 + b * 1 = b by omega, ← List.map_set]
    -- done is set
    generalize hh2 : h1.set hb.length (.cells ((bs.set b true).map .bool) (.grow 1) 0) = h2
    have bt2 : But h0.length hb h2 := fun q x hq hne => by
      have := (List.getElem?_eq_some_iff.1 hq).1
      rw [← hh2, set_other (by omega)]
      exact bt1 q x hq hne
    have hO2 := (show h2[h0.length]? = h1[h0.length]? by rw [← hh2, set_other (by omega)]).trans hO1
    have hB2 : h2[hb.length]? = some (.cells ((bs.set b true).map .bool) (.grow 1) 0) := by rw [← hh2]; exact set_same hB1
    have le2 : h2.length = h1.length := by rw [← hh2]; simp
    have g2 : GS h2 s6 m 1 ((castN out).map (.int .i64)) := by rw [← hh2]; exact gs_set (gs_old hg p2) (fun hi => by have := f6 _ hi; omega) _
    have r2 : TR h2 t s5 n5 := by
      rw [← hh2]
      exact vs_but (b := hb.length) (vs_old hr p2 : TR h1 t s5 n5) (but_set _ _ _) (fun hi => by have := f5 _ hi; omega)
    obtain ⟨x, hx⟩ : ∃ x, l[b]? = some x := ⟨l[b]'(by omega), List.getElem?_eq_getElem (by omega)⟩
    obtain ⟨a, ha, la⟩ := vs_ld (H' h2 bt2) ins_flat b x hx
    rw [chk_of (by rw [l20]; intro _; omega), chk_of (by intro _; omega), ha, atP_of, la, gCells_of]
    simp only [Ins.cells, List.getElem?_cons_zero, List.getElem?_cons_succ]
    obtain ⟨h3, s', n', i1, i2, i3, i4, i5⟩ := issue_ok (ex := 0) ok r2 (by omega) (by omega) (hv x (List.mem_of_getElem? hx)).1 (by omega) (by omega)
    obtain ⟨sk, -⟩ := step_ok (op := x.op) (d := x.d) (a := x.a) (b := x.b) (ex := 0) ok (by omega)
    have l20' := tc_len (t := (step t x.op x.d x.a x.b 0).1) (s := s') (n := n') sk.len
    have le3 := i2.le
    have bt3 : But h0.length hb h3 := fun q z hq hne => i2 q z (bt2 q z hq hne)
    obtain ⟨sx, hsx⟩ : ∃ sx, ss[b]? = some sx := ⟨ss[b]'(by omega), List.getElem?_eq_getElem (by omega)⟩
    have lA : ld1 h3 ⟨h0.length + 1, 0, 0 + b * 1⟩ = some (.sl sx.1 sx.2) := ld1_at (A' h3 bt3) (by rw [Nat.zero_add, Nat.mul_one, List.getElem?_map, hsx]; rfl) rfl
    rw [gI_of, gI_of, gI_of, gI_of, gI_of, i1, Option.bind_some, gT3_of]
    simp only [List.getD_cons_zero, List.getD_cons_succ]
    rw [gA_of, chk_of (by intro _; exact l20'), gI_of, gI_of, chk_of ⟨l20', flat_tc _ _ _, by rw [l20]; omega⟩, letK_eq, splice_all _ _ (by rw [l20, l20']), chk_of (by intro _; omega), adP_pos, atP_of, add_mk, lA, gL_of]
    -- those that wait for it
    have gx := I.a.gs b sx hsx
    have hafl : afO l n 0 b = castN (afL l n b) := by unfold afO; rw [if_pos (Nat.zero_le _)]
    rw [hafl] at gx
    have lsx := gx.1
    rw [List.length_map, Nat.mul_one] at lsx
    have nx : ¬ inS sx.1 h0.length := fun hi => by have := I.a.lo b sx _ hsx hi; omega
    have vx : VS intC 1 hb sx.1 sx.2 (castN (afL l n b)) := by
      have e1 : ((castN (afL l n b)).map (AV.int .i64)) = (castN (afL l n b)).flatMap intC := (rows_one _ _).symm
      rw [e1] at gx
      exact vs_GS (f := intC) (es := 1) (fun _ => rfl) lsx gx
    have hafn : (afL l n b).length ≤ n := by
      unfold afL
      refine Nat.le_trans (List.length_filter_le _ _) ?_
      simp
    have opb : ∀ p, p < n → opU l bs p ≤ n := by
      intro p hp
      unfold opU
      refine Nat.le_trans (List.length_filter_le _ _) ?_
      simp; omega
    have vx3 := vs_but vx bt3 nx
    obtain ⟨h4, d1, d2, d3⟩ := dec_loop (hb := h3) (O := h0.length) (B := hb.length) (op := fun p => ((min (opU l bs p) 100 : Nat) : Int)) vx3 nx (fun q hq => (List.mem_range.1 (List.mem_filter.1 hq).1)) (afL_nd l n b) (by rw [← lsx]; simp [castN]; omega) (fun p => by omega)
      s0 (.pos ⟨h0.length + 1, 0, 0⟩) (.pos ⟨h0.length + 2, 0, 0⟩) (.pos ⟨hb.length, 0, 0⟩) s6 n n n n m (tc (step t x.op x.d x.a x.b 0).1 s' n') ((b : Nat) : Int) ((n : Nat) : Int) ((m : Nat) : Int) (Q32x21 mk0 E (Q32x8 mk0 E)) sx.2 0 (by omega) h3 (fun _ _ h _ => h) (by
        rw [i2 _ _ hO2]
        congr 2
        apply List.map_congr_left
        intro p hp
        have := opb p (List.mem_range.1 hp)
        simp only [List.take_zero, List.not_mem_nil, if_false]
        congr 1
        omega)
    rw [show (((0 : Nat) : Int)) = 0 from rfl] at d1
    have hbl4 : h3.length ≤ h4.length := by
      cases hc : h3.length with
      | zero => omega
      | succ z =>
        by_cases hz : z = h0.length
        · have := (List.getElem?_eq_some_iff.1 d3).1
          omega
        · have := d2 z (h3[z]'(by omega)) (List.getElem?_eq_getElem (by omega)) hz
          have := (List.getElem?_eq_some_iff.1 this).1
          omega
    rw [d1, X32x21xe2, newK_eq, show ldSl (h4 ++ [Blk.cells [AV.int .i64 ((b : Nat) : Int)] (.grow 1) 0]) (.pos ⟨h4.length, 0, 0⟩) (1 * 1) = some [.int .i64 ((b : Nat) : Int)] from ldSl_at (last_get _ _) rfl rfl, Option.bind_some]
    have g4 : GS h4 s6 m 1 ((castN out).map (.int .i64)) := by
      have g3 := gs_old g2 i2
      obtain ⟨q1, q2, q3 | ⟨bb, v, q3, q4⟩⟩ := g3
      · exact ⟨q1, q2, .inl q3⟩
      · refine ⟨q1, q2, .inr ⟨bb, v, q3, d2 _ _ q4 ?_⟩⟩
        have := f6 bb ⟨_, q3, rfl⟩
        omega
    obtain ⟨tt, h5, e5, w5, le5, kp5, nw5⟩ := apnd_GS (m := 1) (bytes := 8) (ys := [AV.int .i64 ((b : Nat) : Int)]) (gs_app (l := [Blk.cells [AV.int .i64 ((b : Nat) : Int)] (.grow 1) 0]) g4) (by omega) (by omega) rfl rfl (by have := flat_ints (castN out ++ [(b : Int)]); simpa using this) (by omega)
    rw [List.length_append, List.length_singleton] at le5
    rw [e5, Option.bind_some, gL_of, letK_eq, wrap64 (by omega) (by omega), show ((m : Int) + 1) = ((m + 1 : Nat) : Int) by omega]
    dsimp only
    have kp : ∀ (q : Nat) (z : Blk), q ≤ hb.length → h4[q]? = some z → h5[q]? = some z := fun q z hq hz => kp5 _ _ (app_old hz) fun hi => by have := f6 q hi; omega
    have s'fresh : ∀ q, inS s' q → h2.length ≤ q := fun q hq => (i5 q hq).1
    refine ih (m + 1) (by omega) h5 (bs.set b true) (out ++ [b]) (step t x.op x.d x.a x.b 0).1 s' tt n' ?_ (by omega) ?_ ?_ (hI.next hbn hdf hop0') (by simp [hout]) (sk.wide (by omega)) ?_ (by omega) ?_ (fun q hq => by have := s'fresh q hq; omega) ?_ ?_
    · intro q z hq hne
      have := (List.getElem?_eq_some_iff.1 hq).1
      exact kp q z (by omega) (d2 q z (bt3 q z hq hne) hne)
    · refine (kp _ _ (by omega) d3).trans ?_
      congr 2
      apply List.map_congr_left
      intro p hp
      have := opb p (List.mem_range.1 hp)
      rw [opU_step hl hbl hdf]
      rw [Nat.min_eq_left (by omega)]
    · exact kp _ _ (Nat.le_refl _) (d2 _ _ (i2 _ _ hB2) (by omega))
    · -- the state's writes
      have v4 := vs_but (b := h0.length) (i3 : VS intC 1 h3 s' n' (step t x.op x.d x.a x.b 0).1.ws) d2 (fun hi => by have := s'fresh _ hi; omega)
      have v4' := vs_old v4 (old_app h4 [Blk.cells [AV.int .i64 ((b : Nat) : Int)] (.grow 1) 0])
      obtain ⟨z1, z2 | ⟨bb, v, o, c, md, z3, z4, z5⟩⟩ := v4'
      · exact ⟨z1, .inl z2⟩
      · refine ⟨z1, .inr ⟨bb, v, o, c, md, z3, kp5 _ _ z4 ?_, z5⟩⟩
        intro hi
        have a1 := s'fresh bb ⟨_, z3, rfl⟩
        have a2 := gs_lt hg hi
        omega
    · have : (castN (out ++ [b])) = castN out ++ [(b : Int)] := by simp [castN]
      rw [this, List.map_append]
      exact w5
    · intro q hq
      rcases nw5 q hq with hh | hh
      · exact f6 q hh
      · rw [List.length_append] at hh; omega
    · intro q hq hq'
      have a1 := s'fresh q hq
      rcases nw5 q hq' with hh | hh
      · have := gs_lt hg hh
        omega
      · rw [List.length_append] at hh
        have := (i5 q hq).2
        omega

end Go.Proofs.Ytepkdcgokedkdaa.H

/- sched: Order and Schedule. -/
set_option linter.unusedVariables false
set_option linter.unusedSimpArgs false
namespace Go.Proofs.Ytepkdcgokedkdaa.H
open Go Go.Proofs.Ytepkdcgokedkdaa.Abs Go.Proofs

/-- An order in which nothing comes ahead of what it depends on. -/
structure OutOK (l : List Ins) (n : Nat) (out : List Nat) : Prop where
  len : out.length = n
  lt : ∀ e ∈ out, e < n
  nd : out.Nodup
  all : ∀ p, p < n → p ∈ out
  ord : ∀ (idx b : Nat), out[idx]? = some b → ∀ q, q < b → D l q b = true → q ∈ out.take idx

theorem OutI.fin {l : List Ins} {n : Nat} {bs : List Bool} {out : List Nat} (I : OutI l n bs out) (h : out.length = n) : OutOK l n out := by
  refine ⟨h, I.lt, I.nd, fun p hp => ?_, I.ord⟩
  have c := I.cnt
  have : (List.range n).filter (fun q => !gtB bs q) = [] := List.length_eq_zero_iff.1 (by omega)
  rw [List.filter_eq_nil_iff] at this
  have := this p (List.mem_range.2 hp)
  exact (I.mem p).1 (by simpa using this)

theorem order_ok {h : Heap} {s0 : SA} {n : Nat} {l : List Ins} (H : VS Ins.cells 5 h s0 n l) (hv : ∀ e ∈ l, e.ok) (hn : n ≤ 60) :
    ∃ (h' : Heap) (s' : SA) (out : List Nat), E 32 [.sl s0 n] h = some (.sl s' n, h') ∧ Old h h' ∧ GS h' s' n 1 ((castN out).map (.int .i64)) ∧ OutOK l n out ∧ (∀ q, inS s' q → h.length ≤ q) := by
  obtain ⟨hb, ss, fs, b1, b2⟩ := build_ok H hn
  have hle := b2.le
  rw [e32, b1, Option.bind_some, gA_of, chk_of (by intro _; rfl)]
  simp only [List.getElem?_cons_zero, List.getElem?_cons_succ]
  rw [gL_of, gL_of, gL_of, chk_of (by omega), newK_eq, letK_eq]
  have r0 : repl (Int.toNat ((n : Nat) : Int)) [AV.bool false] = (List.replicate n false).map .bool := by
    rw [Int.toNat_natCast]
    show List.replicate n (AV.bool false) = _
    rw [List.map_replicate]
  have old1 : But h.length hb (hb ++ [Blk.cells ((List.replicate n false).map .bool) (.grow 1) 0]) := (old_app _ _).but _
  obtain ⟨h', s', bs', out, g1, g2, g3, g4, g5, g6⟩ := order_loop H hv hn b2 n 0 (by omega) (hb ++ [Blk.cells ((List.replicate n false).map .bool) (.grow 1) 0]) (List.replicate n false) [] TS.zero .nil .nil 0 old1 (by simp) (by
      rw [app_old b2.o]
      congr 2
      apply List.map_congr_left
      intro p _
      rw [opU_start]) (last_get _ _) (outI_start l n) rfl (zero_ok.wide (by omega)) ⟨rfl, .inl rfl⟩ (Nat.le_refl _) ⟨rfl, rfl, .inl ⟨rfl, rfl⟩⟩ (by rintro q ⟨a, ha, _⟩; cases ha) (by rintro q ⟨a, ha, _⟩; cases ha) (by rintro q ⟨a, ha, _⟩; cases ha)
  rw [show (((0 : Nat) : Int)) = 0 from rfl] at g1
  rw [r0, Int.toNat_natCast]
  refine ⟨h', s', out, g1, fun q x hq => ?_, g3, g4.fin g5, fun q hq => by have := g6 q hq; omega⟩
  have := (List.getElem?_eq_some_iff.1 hq).1
  exact g2 q x (b2.old q x hq) (by omega)

/-- The instructions in another order. -/
def perm (l : List Ins) (out : List Nat) : List Ins := out.filterMap fun b => l[b]?

theorem perm_mem {l : List Ins} {out : List Nat} : ∀ e ∈ perm l out, e ∈ l := by
  intro e he
  obtain ⟨b, _, hb⟩ := List.mem_filterMap.1 he
  exact List.mem_of_getElem? hb

theorem perm_len {l : List Ins} : ∀ {out : List Nat}, (∀ e ∈ out, e < l.length) → (perm l out).length = out.length := by
  intro out
  induction out with
  | nil => intro _; rfl
  | cons b out ih =>
    intro h
    unfold perm at *
    have hb := h b List.mem_cons_self
    rw [List.filterMap_cons, List.getElem?_eq_getElem hb]
    simp only [List.length_cons]
    rw [ih fun e he => h e (List.mem_cons_of_mem _ he)]

theorem perm_take {l : List Ins} {out : List Nat} {j b : Nat} {x : Ins} (hb : out[j]? = some b) (hx : l[b]? = some x) : perm l (out.take (j + 1)) = perm l (out.take j) ++ [x] := by
  unfold perm
  rw [List.take_add_one, hb, List.filterMap_append]
  simp [hx]

theorem perm_range (l : List Ins) : perm l (List.range l.length) = l := by
  have key : ∀ j, j ≤ l.length → perm l (List.range j) = l.take j := by
    intro j
    induction j with
    | zero => intro _; simp [perm]
    | succ j ih =>
      intro hj
      have hx : l[j]? = some l[j] := List.getElem?_eq_getElem (by omega)
      rw [List.range_succ]
      unfold perm at *
      rw [List.filterMap_append, ih (by omega), List.take_add_one, hx]
      simp [hx]
  rw [key l.length (Nat.le_refl _), List.take_length]

theorem ops_loop {h1 : Heap} {s0 s26 : SA} {n : Nat} {l : List Ins} {out : List Nat} (H : VS Ins.cells 5 h1 s0 n l) (HO : VS intC 1 h1 s26 n (castN out)) (hlt : ∀ e ∈ out, e < n) (hn : n ≤ 60) (s6 : SA) (n6 : Nat) (i4 : Int) : ∀ (k j : Nat), j + k = n →
    ∀ (h : Heap) (s7 : SA), Old h1 h → GS h s7 j 5 ((perm l (out.take j)).flatMap Ins.cells) → (∀ q, inS s7 q → h1.length ≤ q) →
    ∃ h' s', L22x17 mk0 E s0 n i4 s6 n6 s7 j s26 n ((n : Nat) : Int) ((j : Nat) : Int) h (Q22x17 mk0 E) = Q22x17 mk0 E (.exit 0) (S22xe0 i4 s6 n6 s' n h') ∧ Old h1 h' ∧ GS h' s' n 5 ((perm l out).flatMap Ins.cells) := by
  intro k
  have hl := H.1
  have hol : out.length = n := by have := HO.1; simpa [castN] using this
  induction k with
  | zero =>
    intro j hj h s7 ho hg hi
    obtain rfl : j = n := by omega
    rw [List.take_of_length_le (by omega)] at hg
    exact ⟨h, s7, by rw [L22x17xeq, letK_eq, if_neg (by simp)], ho, hg⟩
  | succ k ih =>
    intro j hj h s7 ho hg hi
    obtain ⟨b, hb⟩ : ∃ b, out[j]? = some b := ⟨out[j]'(by omega), List.getElem?_eq_getElem (by omega)⟩
    have hbn := hlt b (List.mem_of_getElem? hb)
    obtain ⟨x, hx⟩ : ∃ x, l[b]? = some x := ⟨l[b]'(by omega), List.getElem?_eq_getElem (by omega)⟩
    have hc : (castN out)[j]? = some ((b : Nat) : Int) := by simp [castN, hb]
    obtain ⟨a, ha, la⟩ := vs_ld1 (g := AV.int .i64) (vs_old HO ho) (fun _ => rfl) j _ hc
    obtain ⟨a2, ha2, la2⟩ := vs_ld (vs_old H ho) ins_flat b x hx
    rw [L22x17xeq, letK_eq, if_pos (by simp; omega), chk_of (by intro _; omega), ha, atP_of, Int.toNat_natCast, la, gI_of, chk_of (by intro _; omega), ha2, atP_of, Int.toNat_natCast, la2, gCells_of]
    simp only [Ins.cells, List.getElem?_cons_zero, List.getElem?_cons_succ]
    rw [gI_of, gI_of, gI_of, gI_of, gI_of, newK_eq]
    rw [show ldSl (h ++ [Blk.cells [.int .i64 x.op, .int .i64 x.d, .int .i64 x.a, .int .i64 x.b, .int .i64 x.n] (.grow 5) 0]) (.pos ⟨h.length, 0, 0⟩) (1 * 5) = some x.cells from ldSl_at (last_get _ _) rfl rfl, Option.bind_some]
    obtain ⟨t, h4, e5, w5, le5, kp5, nw5⟩ := apnd_GS (m := 1) (bytes := 40) (ys := x.cells) (gs_app (l := [Blk.cells [.int .i64 x.op, .int .i64 x.d, .int .i64 x.a, .int .i64 x.b, .int .i64 x.n] (.grow 5) 0]) hg) (by omega) (by omega) rfl rfl (by have := rows_flat ins_flat (perm l (out.take j) ++ [x]); simpa using this) (by omega)
    rw [e5, Option.bind_some, gL_of, letK_eq, wrap64 (by omega) (by omega), show ((j : Int) + 1) = ((j + 1 : Nat) : Int) by omega]
    dsimp only
    refine ih (j + 1) (by omega) h4 t ?_ ?_ ?_
    · intro q y hq
      have hb := (List.getElem?_eq_some_iff.1 hq).1
      exact kp5 _ _ (app_old (ho _ _ hq)) fun hh => by have := hi q hh; omega
    · rw [perm_take hb hx]
      simpa using w5
    · intro q hq
      have := ho.le
      rcases nw5 q hq with h | h
      · exact hi q h
      · rw [List.length_append] at h; omega

theorem ops_loop2 {h1 : Heap} {s0 s26 : SA} {n : Nat} {l : List Ins} {out : List Nat} (H : VS Ins.cells 5 h1 s0 n l) (HO : VS intC 1 h1 s26 n (castN out)) (hlt : ∀ e ∈ out, e < n) (hn : n ≤ 60) : ∀ (k j : Nat), j + k = n →
    ∀ (h : Heap) (s7 : SA), Old h1 h → GS h s7 j 5 ((perm l (out.take j)).flatMap Ins.cells) → (∀ q, inS s7 q → h1.length ≤ q) →
    ∃ h' s', L24x11 mk0 E s0 n s7 j s26 n ((n : Nat) : Int) ((j : Nat) : Int) h (Q24x11 mk0 E) = some (.tup [.sl s' n, .int .i64 0], h') ∧ Old h1 h' ∧ GS h' s' n 5 ((perm l out).flatMap Ins.cells) := by
  intro k
  have hl := H.1
  have hol : out.length = n := by have := HO.1; simpa [castN] using this
  induction k with
  | zero =>
    intro j hj h s7 ho hg hi
    obtain rfl : j = n := by omega
    rw [List.take_of_length_le (by omega)] at hg
    exact ⟨h, s7, by rw [L24x11xeq, letK_eq, if_neg (by simp), X24x11xe0], ho, hg⟩
  | succ k ih =>
    intro j hj h s7 ho hg hi
    obtain ⟨b, hb⟩ : ∃ b, out[j]? = some b := ⟨out[j]'(by omega), List.getElem?_eq_getElem (by omega)⟩
    have hbn := hlt b (List.mem_of_getElem? hb)
    obtain ⟨x, hx⟩ : ∃ x, l[b]? = some x := ⟨l[b]'(by omega), List.getElem?_eq_getElem (by omega)⟩
    have hc : (castN out)[j]? = some ((b : Nat) : Int) := by simp [castN, hb]
    obtain ⟨a, ha, la⟩ := vs_ld1 (g := AV.int .i64) (vs_old HO ho) (fun _ => rfl) j _ hc
    obtain ⟨a2, ha2, la2⟩ := vs_ld (vs_old H ho) ins_flat b x hx
    rw [L24x11xeq, letK_eq, if_pos (by simp; omega), chk_of (by intro _; omega), ha, atP_of, Int.toNat_natCast, la, gI_of, chk_of (by intro _; omega), ha2, atP_of, Int.toNat_natCast, la2, gCells_of]
    simp only [Ins.cells, List.getElem?_cons_zero, List.getElem?_cons_succ]
    rw [gI_of, gI_of, gI_of, gI_of, gI_of, newK_eq]
    rw [show ldSl (h ++ [Blk.cells [.int .i64 x.op, .int .i64 x.d, .int .i64 x.a, .int .i64 x.b, .int .i64 x.n] (.grow 5) 0]) (.pos ⟨h.length, 0, 0⟩) (1 * 5) = some x.cells from ldSl_at (last_get _ _) rfl rfl, Option.bind_some]
    obtain ⟨t, h4, e5, w5, le5, kp5, nw5⟩ := apnd_GS (m := 1) (bytes := 40) (ys := x.cells) (gs_app (l := [Blk.cells [.int .i64 x.op, .int .i64 x.d, .int .i64 x.a, .int .i64 x.b, .int .i64 x.n] (.grow 5) 0]) hg) (by omega) (by omega) rfl rfl (by have := rows_flat ins_flat (perm l (out.take j) ++ [x]); simpa using this) (by omega)
    rw [e5, Option.bind_some, gL_of, letK_eq, wrap64 (by omega) (by omega), show ((j : Int) + 1) = ((j + 1 : Nat) : Int) by omega]
    dsimp only
    refine ih (j + 1) (by omega) h4 t ?_ ?_ ?_
    · intro q y hq
      have hb := (List.getElem?_eq_some_iff.1 hq).1
      exact kp5 _ _ (app_old (ho _ _ hq)) fun hh => by have := hi q hh; omega
    · rw [perm_take hb hx]
      simpa using w5
    · intro q hq
      have := ho.le
      rcases nw5 q hq with h | h
      · exact hi q h
      · rw [List.length_append] at h; omega

theorem ident_loop {b v n : Nat} {out : List Nat} (hol : out.length = n) (hn : n ≤ 60) : ∀ (k j : Nat), j + k = n → ∀ (h : Heap), h[b]? = some (.cells ((List.range n).map fun p => .int .i64 (if p < j then (p : Int) else ((out.getD p 0 : Nat) : Int))) (.grow 1) v) →
    ∃ h', L22x34 mk0 E (.pos ⟨b, v, 0⟩) n ((n : Nat) : Int) ((j : Nat) : Int) h (Q22x34 mk0 E) = some (.tup [.sl (.pos ⟨b, v, 0⟩) n, .int .i64 0], h') ∧ But b h h' ∧ h'[b]? = some (.cells ((castN (List.range n)).map (.int .i64)) (.grow 1) v) := by
  intro k
  induction k with
  | zero =>
    intro j hj h hb
    refine ⟨h, by rw [L22x34xeq, letK_eq, if_neg (by simp; omega), X22x34xe2], fun _ _ h _ => h, ?_⟩
    rw [hb]
    congr 2
    unfold castN
    rw [List.map_map]
    apply List.map_congr_left
    intro p hp
    rw [if_pos (by have := List.mem_range.1 hp; omega)]
    rfl
  | succ k ih =>
    intro j hj h hb
    rw [L22x34xeq, letK_eq, if_pos (by simp; omega), chk_of (by intro _; omega), adP_pos, atP_of, add_mk, Int.toNat_natCast, st1_at hb (by simp) (by simp; omega), Option.bind_some, letK_eq, wrap64 (by omega) (by omega), show ((j : Int) + 1) = ((j + 1 : Nat) : Int) by omega, show 0 + j * 1 = j by omega, range_set]
    obtain ⟨h', e1, e2, e3⟩ := ih (j + 1) (by omega) (h.set b (.cells ((List.range n).map fun p => if p = j then AV.int .i64 ((j : Nat) : Int) else .int .i64 (if p < j then (p : Int) else ((out.getD p 0 : Nat) : Int))) (.grow 1) v)) (by
      rw [set_same hb]
      congr 2
      apply List.map_congr_left
      intro p hp
      by_cases e : p = j
      · subst e
        rw [if_pos rfl, if_pos (by omega)]
      · rw [if_neg e]
        by_cases h : p < j
        · rw [if_pos h, if_pos (by omega)]
        · rw [if_neg h, if_neg (by omega)])
    exact ⟨h', e1, (but_set b _ _).trans e2, e3⟩

theorem out_range {l : List Ins} {n : Nat} : OutOK l n (List.range n) := by
  refine ⟨by simp, fun e he => List.mem_range.1 he, List.nodup_range, fun p hp => List.mem_range.2 hp, fun idx b hb q hq _ => ?_⟩
  obtain ⟨h1, h2⟩ := List.getElem?_eq_some_iff.1 hb
  simp at h1 h2
  subst h2
  rw [List.take_range]
  rw [List.mem_range]
  omega

theorem Order_ok {h : Heap} {s0 : SA} {n : Nat} {l : List Ins} (H : VS Ins.cells 5 h s0 n l) (hv : ∀ e ∈ l, e.ok) (hn : n ≤ 60) :
    ∃ (h' : Heap) (s' : SA) (out : List Nat), E 22 [.sl s0 n] h = some (.tup [.sl s' n, .int .i64 0], h') ∧ Old h h' ∧ VS intC 1 h' s' n (castN out) ∧ OutOK l n out ∧ (runL TS.zero (perm l out)).dn ≤ (runL TS.zero l).dn := by
  have hl := H.1
  obtain ⟨h1, c1, c2⟩ := cycles_ok H hv (by omega)
  obtain ⟨h2, s, out, o1, o2, o3, o4, o5⟩ := order_ok (vs_old H c2) hv hn
  have old2 := c2.trans o2
  have vout : VS intC 1 h2 s n (castN out) := by
    have e1 : ((castN out).map (AV.int .i64)) = (castN out).flatMap intC := (rows_one _ _).symm
    have h1 := o3.1
    rw [List.length_map, Nat.mul_one] at h1
    rw [e1] at o3
    exact vs_GS (f := intC) (es := 1) (fun _ => rfl) h1 o3
  obtain ⟨h3, s7, p1, p2, p3⟩ := ops_loop (vs_old H old2) vout o4.lt hn s n (runL TS.zero l).dn n 0 (by omega) h2 .nil (Old.refl _) ⟨rfl, rfl, .inl ⟨rfl, rfl⟩⟩ (by rintro q ⟨a, ha, _⟩; cases ha)
  rw [show (((0 : Nat) : Int)) = 0 from rfl] at p1
  have plen : (perm l out).length = n := by rw [perm_len (by rw [hl]; exact o4.lt), o4.len]
  obtain ⟨h4, d1, d2⟩ := cycles_ok (vs_GS ins_len plen p3) (fun e he => hv e (perm_mem e he)) (by omega)
  rw [e22, c1, Option.bind_some, gT2_of]
  simp only [List.getD_cons_zero, List.getD_cons_succ]
  rw [gI_of, gI_of, letK_eq, if_neg (by simp), letK_eq, if_neg (by simp; omega), o1, Option.bind_some, gL_of, p1, X22x17xe0, d1, Option.bind_some, gT2_of]
  simp only [List.getD_cons_zero, List.getD_cons_succ]
  rw [gI_of, gI_of, letK_eq]
  have old4 := (old2.trans p2).trans d2
  by_cases hlt : (runL TS.zero (perm l out)).dn < (runL TS.zero l).dn
  · rw [if_pos (by simpa using hlt)]
    exact ⟨h4, s, out, rfl, old4, vs_old vout (p2.trans d2), o4, by omega⟩
  · rw [if_neg (by simpa using hlt)]
    have pr : (runL TS.zero (perm l (List.range n))).dn ≤ (runL TS.zero l).dn := by
      rw [← hl, perm_range]; exact Int.le_refl _
    obtain ⟨q1, q2, q3 | ⟨b, v, rfl, q4⟩⟩ := o3
    · obtain ⟨rfl, rfl⟩ := q3
      exact ⟨h4, .nil, List.range 0, by rw [show (((0 : Nat) : Int)) = 0 from rfl, L22x34xeq, letK_eq, if_neg (by simp), X22x34xe2], old4, ⟨rfl, .inl rfl⟩, out_range, pr⟩
    · have hb4 := d2 _ _ (p2 _ _ q4)
      obtain ⟨h5, f1, f2, f3⟩ := ident_loop (v := v) o4.len hn n 0 (by omega) h4 (by
        rw [hb4]
        congr 2
        unfold castN
        rw [List.map_map]
        apply List.ext_getElem
        · simp [o4.len]
        · intro i a1 a2
          simp at a1 a2
          simp [List.getD, a1])
      rw [show (((0 : Nat) : Int)) = 0 from rfl] at f1
      refine ⟨h5, _, List.range n, f1, fun q x hq => f2 q x (old4 q x hq) ?_, ?_, out_range, pr⟩
      · have h1 := (List.getElem?_eq_some_iff.1 hq).1
        have h2 := o5 b ⟨_, rfl, rfl⟩
        have h3 := c2.le
        omega
      · have e1 : ((castN (List.range n)).map (AV.int .i64)) = (castN (List.range n)).flatMap intC := (rows_one _ _).symm
        rw [e1] at f3
        have := vs_blk (f := intC) (es := 1) (fun _ => rfl) f3
        have e2 : (castN (List.range n)).length = n := by simp [castN]
        rw [e2] at this
        exact this

theorem schedule_ok {h : Heap} {s0 : SA} {n : Nat} {l : List Ins} (H : VS Ins.cells 5 h s0 n l) (hv : ∀ e ∈ l, e.ok) (hn : n ≤ 60) :
    ∃ (h' : Heap) (s' : SA) (out : List Nat), E 24 [.sl s0 n] h = some (.tup [.sl s' n, .int .i64 0], h') ∧ Old h h' ∧ VS Ins.cells 5 h' s' n (perm l out) ∧ OutOK l n out ∧ (runL TS.zero (perm l out)).dn ≤ (runL TS.zero l).dn := by
  have hl := H.1
  obtain ⟨h1, s, out, o1, o2, o3, o4, o5⟩ := Order_ok H hv hn
  obtain ⟨h2, s', p1, p2, p3⟩ := ops_loop2 (vs_old H o2) o3 o4.lt hn n 0 (by omega) h1 .nil (Old.refl _) ⟨rfl, rfl, .inl ⟨rfl, rfl⟩⟩ (by rintro q ⟨a, ha, _⟩; cases ha)
  rw [show (((0 : Nat) : Int)) = 0 from rfl] at p1
  have plen : (perm l out).length = n := by rw [perm_len (by rw [hl]; exact o4.lt), o4.len]
  rw [e24, o1, Option.bind_some, gT2_of]
  simp only [List.getD_cons_zero, List.getD_cons_succ]
  rw [gL_of, gI_of, letK_eq, if_neg (by simp), p1]
  exact ⟨h2, s', out, rfl, o2.trans p2, vs_GS ins_len plen p3, o4, o5⟩

theorem sfact_ok (h : Heap) : ∃ h', E 21 [] h = some (.bool true, h') ∧ Old h h' := by
  rw [e21, newK_eq]
  have H : VS Ins.cells 5 (h ++ [.cells [.int .i64 11, .int .i64 1, .int .i64 0, .int .i64 0, .int .i64 0] (.grow 5) 0]) (.pos ⟨h.length, 0, 0⟩) 1 [⟨11, 1, 0, 0, 0⟩] :=
    vs_blk (l := [⟨11, 1, 0, 0, 0⟩]) ins_len (last_get _ _)
  obtain ⟨h1, s, out, o1, o2, o3, o4, o5⟩ := Order_ok H (by
    intro e he
    obtain rfl : e = ⟨11, 1, 0, 0, 0⟩ := by simpa using he
    exact ⟨by decide, by decide⟩) (by omega)
  have hout : out = [0] := by
    have h1 := o4.len
    have h2 := o4.all 0 (by omega)
    match out, h1, h2 with
    | [x], _, h2 =>
      have : 0 = x := by simpa using h2
      subst this; rfl
  subst hout
  obtain ⟨a, ha, la⟩ := vs_ld1 (g := AV.int .i64) (l := castN [0]) o3 (fun _ => rfl) 0 0 rfl
  obtain ⟨h2, d1, d2⟩ := dep_ok ⟨11, 1, 0, 0, 0⟩ ⟨11, 1, 0, 0, 0⟩ h1
  have d1' : E 23 [.agg [.int .i64 11, .int .i64 1, .int .i64 0, .int .i64 0, .int .i64 0], .agg [.int .i64 11, .int .i64 1, .int .i64 0, .int .i64 0, .int .i64 0]] h1 = some (.bool true, h2) := d1
  rw [o1, Option.bind_some, gT2_of]
  simp only [List.getD_cons_zero, List.getD_cons_succ]
  rw [gL_of, gI_of, letK_eq, letK_eq, letK_eq, show (if decide ((0 : Int) = 0) = true then decide ((((1 : Nat) : Int) : Int) = 1) else false) = true from rfl, chk_of (by intro _; omega), ha, atP_of, atP_of]
  rw [show Int.toNat 0 * 1 = 0 * 1 from rfl, la, gI_of, letK_eq, letK_eq]
  simp only [decide_true, if_true]
  rw [callO_true, d1', Option.bind_some, gB_of, letK_eq]
  exact ⟨h2, rfl, ((old_app _ _).trans o2).trans d2⟩

end Go.Proofs.Ytepkdcgokedkdaa.H
