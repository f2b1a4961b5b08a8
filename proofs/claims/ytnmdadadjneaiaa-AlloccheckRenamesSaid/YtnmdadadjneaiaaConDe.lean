/- Small functions; remainders; renamed allocations. -/
import Derived.Test.YtnmdadadjneaiaaConDd
set_option linter.unusedVariables false
set_option linter.unusedSimpArgs false
namespace Go.Proofs.Ytnmdadadjneaiaa.D
open Go Go.Proofs.Ytnmdadadjneaiaa.Abs Go.Proofs

theorem modulo_ok (n m : Int) (h : Heap) (h1 : 0 < m) (h2 : m ≤ 1000000000) : E 33 [.int .i64 n, .int .i64 m] h = some (.int .i64 (n % m), h) := by
  rw [e33]
  have hne : ¬ m = 0 := by omega
  rw [chk_of (fun _ => hne)]
  simp only [letK_eq, decide_eq_true_eq]
  have key : n % m = if n.tmod m < 0 then n.tmod m + m else n.tmod m := by
    have e := Int.tmod_def n m
    by_cases hn : n < 0
    · have e1 : n.tmod m = -((-n) % m) := by
        have := Int.neg_tmod n m
        rw [Int.tmod_eq_emod_of_nonneg (by omega : 0 ≤ -n)] at this
        omega
      have p1 := Int.emod_nonneg (-n) hne
      have p2 := Int.emod_lt_of_pos (-n) h1
      have p3 := Int.emod_nonneg n hne
      have p4 := Int.emod_lt_of_pos n h1
      have q1 := Int.emod_add_mul_ediv n m
      have q2 := Int.emod_add_mul_ediv (-n) m
      by_cases hz : (-n) % m = 0
      · have : n % m = 0 := by
          have := Int.dvd_of_emod_eq_zero hz
          exact Int.emod_eq_zero_of_dvd ((Int.dvd_neg).1 this)
        rw [if_neg (by omega), e1, hz, this]; rfl
      · rw [if_pos (by omega), e1]
        have hs : m * (n / m) + m * (-n / m) = -(n % m) - (-n) % m := by omega
        rw [← Int.mul_add] at hs
        have hr : n / m + -n / m = -1 := by
          have a1 : -2 * m < m * (n / m + -n / m) := by omega
          have a2 : m * (n / m + -n / m) < 0 := by omega
          have a3 : -2 < n / m + -n / m := by
            apply Int.lt_of_mul_lt_mul_left (a := m) _ (by omega)
            rw [Int.mul_comm m (-2)]; exact a1
          have a4 : n / m + -n / m < 0 := by
            apply Int.lt_of_mul_lt_mul_left (a := m) _ (by omega)
            rw [Int.mul_zero]; exact a2
          omega
        rw [hr] at hs
        omega
    · have hn : 0 ≤ n := by omega
      rw [Int.tmod_eq_emod_of_nonneg hn, if_neg (by have := Int.emod_nonneg n hne; omega)]
  have p3 := Int.emod_nonneg n hne
  have p4 := Int.emod_lt_of_pos n h1
  split
  · rename_i hlt
    rw [if_pos hlt] at key
    rw [wrap64 (by omega) (by omega), key]
  · rename_i hlt
    rw [if_neg hlt] at key
    rw [key]

theorem rest_ok (n m : Int) (h : Heap) (h1 : 0 < m) (h2 : m ≤ 1000000000) : E 11 [.int .i64 n, .int .i64 m] h = some (.int .i64 (n % m), h) := by
  rw [e11, modulo_ok n m h h1 h2, Option.bind_some, gI_of]

theorem small_loop {h : Heap} {f : VF} (R : f.R h) (B : f.B) (Q : Kont (AV × Heap)) : ∀ (k j : Nat), j + k = f.blocks.length → ∀ (i3 : Int),
    ∃ i : Int, L10x5 mk0 E f.nm f.sp f.params.length f.regs f.sb f.blocks.length i3 f.sb f.blocks.length ((f.blocks.length : Nat) : Int) ((j : Nat) : Int) h Q = Q (.exit 0) (S10xe0 f.nm f.sp f.params.length f.regs f.sb f.blocks.length i h) ∧
      ∀ m : Nat, i3 = ((m : Nat) : Int) → m + sumI (f.blocks.drop j) ≤ 4096 → i = ((m + sumI (f.blocks.drop j) : Nat) : Int) := by
  have bb := B.b
  intro k
  induction k with
  | zero =>
    intro j hj i3
    rw [L10x5xeq, letK_eq, if_neg (by simp; omega), List.drop_eq_nil_of_le (by omega)]
    exact ⟨i3, rfl, fun m h _ => by rw [h]; rfl⟩
  | succ k ih =>
    intro j hj i3
    obtain ⟨x, hx⟩ := at_lt (l := f.blocks) (i := j) (by omega)
    obtain ⟨a, ha, la⟩ := vs_ld R.b vb_flat j x hx
    simp only [VB.cells, VE.cells] at la
    have sm : sumI (f.blocks.drop j) = x.ins.length + sumI (f.blocks.drop (j + 1)) := by rw [drop_at hx]; rfl
    rw [L10x5xeq, letK_eq, if_pos (by simp; omega), chk_of (by intro _; omega), ha, atP_of, Int.toNat_natCast, la, gCells_of]
    simp only [List.getElem?_cons_zero, List.getElem?_cons_succ]
    rw [gL_of, gI_of, gI_of, gI_of, gI_of, gI_of, gL_of, letK_eq, letK_eq, wrap64 (x := ((j : Nat) : Int) + 1) (by omega) (by omega), show ((j : Int) + 1) = ((j + 1 : Nat) : Int) by omega]
    obtain ⟨i, r1, r2⟩ := ih (j + 1) (by omega) (IntKind.wrap .i64 (i3 + ((x.ins.length : Nat) : Int)))
    refine ⟨i, r1, fun m hm hs => ?_⟩
    have := r2 (m + x.ins.length) (by rw [hm, wrap64 (by omega) (by omega)]; omega) (by omega)
    rw [this, sm]; omega

theorem small_ok {h : Heap} {f : VF} (R : f.R h) (B : f.B) : ∃ h', ∃ b : Bool, E 10 [.agg f.cells] h = some (.bool b, h') ∧ Old h h' ∧ (b = true → f.ok ∧ f.regs ≤ 60 ∧ f.blocks.length ≤ 20 ∧ sumI f.blocks ≤ 100) := by
  obtain ⟨i, l1, l2⟩ := small_loop R B (Q10x5 mk0 E) f.blocks.length 0 (by omega) 0
  rw [show (((0 : Nat) : Int)) = 0 from rfl] at l1
  obtain ⟨h', e, c1, c2, c3⟩ := check_ok R B
  unfold VF.cells at *
  rw [e10, l1, X10x5xe0, letK_eq, gL_any, letK_eq, letK_eq, letK_eq, letK_eq]
  generalize hb : (if (if decide (f.regs ≤ 60) = true then decide ((((f.blocks.length : Nat) : Int) : Int) ≤ 20) else false) = true then decide (i ≤ 100) else false) = b
  rw [chk_of (by intro _; omega), gI_any, gL_any, gI_any, gL_any, c1]
  cases b with
  | false =>
    rw [callO_false, Option.bind_some, gI_any, letK_eq, letK_eq]
    exact ⟨h, false, rfl, Old.refl _, fun h => by cases h⟩
  | true =>
    rw [callO_true, Option.bind_some, gI_any, letK_eq, letK_eq]
    refine ⟨h', _, rfl, c2, fun he => ?_⟩
    have e0 : e = 0 := by simpa using he
    have fo := c3.1 e0
    have h60 : f.regs ≤ 60 ∧ f.blocks.length ≤ 20 ∧ i ≤ 100 := by
      by_cases h1 : f.regs ≤ 60
      · by_cases h2 : (((f.blocks.length : Nat) : Int) : Int) ≤ 20
        · by_cases h3 : i ≤ 100
          · exact ⟨h1, by omega, h3⟩
          · simp [h1, h2, h3] at hb
        · simp [h1, h2] at hb
      · simp [h1] at hb
    have := l2 0 rfl (by rw [List.drop_zero]; have := fo.sum; omega)
    rw [List.drop_zero] at this
    exact ⟨fo, h60.1, h60.2.1, by omega⟩

/-! ### Renamed places -/

structure Ren (π σ : Nat → Nat) : Prop where
  l : ∀ p, σ (π p) = p
  r : ∀ p, π (σ p) = p
  z : π 0 = 0
  c : ∀ p, (1 ≤ π p ∧ π p ≤ 10) ↔ (1 ≤ p ∧ p ≤ 10)

def RenA (π : Nat → Nat) (a b : VA) (n : Nat) : Prop := ∀ r : Int, 0 ≤ r → r < (n : Int) → 0 ≤ placeV a r ∧ 0 ≤ placeV b r ∧ (placeV b r).toNat = π (placeV a r).toNat

theorem Ren.z' {π σ : Nat → Nat} (R : Ren π σ) (p : Nat) : π p = 0 ↔ p = 0 := by
  constructor
  · intro h
    have := R.l p
    rw [h, ← R.z, R.l] at this
    exact this.symm
  · rintro rfl; exact R.z

theorem Ren.sz {π σ : Nat → Nat} (R : Ren π σ) (q : Nat) : σ q = 0 ↔ q = 0 := by
  constructor
  · intro h
    have := R.r q
    rw [h, R.z] at this; exact this.symm
  · rintro rfl
    have := R.l 0
    rw [R.z] at this; exact this

theorem RenA.zero {π σ : Nat → Nat} (R : Ren π σ) {a b : VA} {n : Nat} (H : RenA π a b n) {r : Int} (h0 : 0 ≤ r) (h1 : r < (n : Int)) : placeV b r = 0 ↔ placeV a r = 0 := by
  obtain ⟨p1, p2, p3⟩ := H r h0 h1
  have := R.z' (placeV a r).toNat
  omega

theorem ren_use {π σ : Nat → Nat} (R : Ren π σ) {a b : VA} {n : Nat} (H : RenA π a b n) (g : Nat → Nat → Bool) : ∀ (l : List Int), (∀ r ∈ l, 0 ≤ r ∧ r < (n : Int)) → useG b (fun q s => g (σ q) s) l = useG a g l
  | [], _ => rfl
  | r :: l, hl => by
    have ih := ren_use R H g l fun r hr => hl r (.tail _ hr)
    obtain ⟨h0, h1⟩ := hl r (.head _)
    have z := H.zero R h0 h1
    obtain ⟨p1, p2, p3⟩ := H r h0 h1
    unfold useG at *
    rw [List.all_cons, List.all_cons, ih, p3]
    dsimp only
    rw [R.l, decide_eq_decide.2 z]

theorem ren_call {π σ : Nat → Nat} (R : Ren π σ) (g : Nat → Nat → Bool) : callG (fun q s => g (σ q) s) = fun q s => callG g (σ q) s := by
  funext q s
  unfold callG
  have := R.c (σ q)
  rw [R.r] at this
  by_cases h : 1 ≤ q ∧ q ≤ 10
  · rw [if_pos h, if_pos (this.1 h)]
  · rw [if_neg h, if_neg (fun e => h (this.2 e))]

theorem ren_def {π σ : Nat → Nat} (R : Ren π σ) (g : Nat → Nat → Bool) (p r : Nat) (A : Nat → Bool) : defG (fun q s => g (σ q) s) (π p) r A = fun q s => defG g p r A (σ q) s := by
  funext q s
  unfold defG
  have e1 : π p ≠ 0 ∧ q = π p ↔ p ≠ 0 ∧ σ q = p := by
    rw [Ne, Ne, R.z' p]
    constructor
    · rintro ⟨h1, rfl⟩; exact ⟨h1, R.l p⟩
    · rintro ⟨h1, rfl⟩; exact ⟨h1, (R.r q).symm⟩
  by_cases h : p ≠ 0 ∧ σ q = p
  · rw [if_pos h, if_pos (e1.2 h)]
  · rw [if_neg h, if_neg (fun e => h (e1.1 e))]

theorem ren_step {π σ : Nat → Nat} (R : Ren π σ) {a b : VA} {n : Nat} (H : RenA π a b n) (g : Nat → Nat → Bool) {x : VI} (ok : x.okR n) : stepG b x (fun q s => g (σ q) s) = (stepG a x g).map fun g' q s => g' (σ q) s := by
  unfold stepG
  rw [ren_use R H g _ ok.uses]
  by_cases hu : useG a g (usesL x) = true
  · rw [if_pos hu, if_pos hu, Option.map_some]
    congr 1
    have key : ∀ k : Nat → Nat → Bool, setG b x (fun q s => k (σ q) s) = fun q s => setG a x k (σ q) s := by
      intro k
      unfold setG
      have dr := ok.def
      by_cases hd : defR x.op x.d = 0
      · rw [if_pos hd, if_pos hd]
      · rw [if_neg hd, if_neg hd, (H _ dr.1 dr.2).2.2]
        have e : mvG b x (fun q s => k (σ q) s) = mvG a x k := by
          unfold mvG
          by_cases hm : x.op = 100 ∧ x.a ≠ 0
          · have ra := ok.2 x.a (by unfold insL; simp)
            rw [if_pos hm, if_pos hm, (H _ ra.1 ra.2).2.2]
            dsimp only
            rw [R.l]
          · rw [if_neg hm, if_neg hm]
        rw [e, ren_def R]
    by_cases hc : isCall x.op = true
    · rw [if_pos hc, if_pos hc, ren_call R, key]
    · rw [if_neg hc, if_neg hc, key]
  · rw [if_neg hu, if_neg hu]; rfl

theorem ren_run {π σ : Nat → Nat} (R : Ren π σ) {a b : VA} {n : Nat} (H : RenA π a b n) : ∀ (xs : List VI) (g : Nat → Nat → Bool), (∀ x ∈ xs, x.okR n) → runG b xs (fun q s => g (σ q) s) = (runG a xs g).map fun g' q s => g' (σ q) s
  | [], g, _ => rfl
  | x :: xs, g, ok => by
    simp only [runG]
    rw [ren_step R H g (ok x (.head _))]
    cases stepG a x g with
    | none => rfl
    | some g1 => exact ren_run R H xs g1 fun y hy => ok y (.tail _ hy)

theorem ren_init {π σ : Nat → Nat} (R : Ren π σ) {a b : VA} {n : Nat} (H : RenA π a b n) : ∀ (l : List Int) (g : Nat → Nat → Bool), (∀ r ∈ l, 0 ≤ r ∧ r < (n : Int)) → l.foldl (stepI b) (fun q s => g (σ q) s) = fun q s => l.foldl (stepI a) g (σ q) s
  | [], g, _ => rfl
  | r :: l, g, hl => by
    obtain ⟨h0, h1⟩ := hl r (.head _)
    rw [List.foldl_cons, List.foldl_cons]
    have : stepI b (fun q s => g (σ q) s) r = fun q s => stepI a g r (σ q) s := by
      unfold stepI
      rw [(H r h0 h1).2.2, ren_def R]
    rw [this]
    exact ren_init R H l _ fun r hr => hl r (.tail _ hr)

theorem ren_accepts {π σ : Nat → Nat} (R : Ren π σ) {f : VF} {a b : VA} (fo : f.ok) (H : RenA π a b f.regs.toNat) (hA : accepts f a) : accepts f b := by
  obtain ⟨T, S, A⟩ := hA
  have fr := fo.regs
  have okB := okB_of fr.1 fo.blk fo.sum
  refine ⟨T, fun i q s => S i (σ q) s, A.t0, fun q s hq => ?_, fun i x hi hx => ?_⟩
  · have h1 := A.i0 (σ q) s hq
    have e : initG f b = fun q s => initG f a (σ q) s := ren_init R H f.params (fun _ _ => false) fun r hr => by
      obtain ⟨i, hi, e⟩ := List.getElem_of_mem hr
      have := (fo.par i r (by rw [List.getElem?_eq_getElem hi, e])).1
      omega
    rw [e]; exact h1
  · obtain ⟨g', r1, r2, r3⟩ := A.stp i x hi hx
    have ob := okB x (List.mem_of_getElem? hx)
    refine ⟨fun q s => g' (σ q) s, ?_, ?_, fun t ht => ⟨(r3 t ht).1, fun q s h => (r3 t ht).2 (σ q) s h⟩⟩
    · rw [ren_run R H x.ins (S i) ob.ins, r1]; rfl
    · rw [ren_use R H g' _ ob.e]; exact r2

/-- The machine registers shifted by B, the slots (K of them) by S. -/
def shf (B S K : Nat) (p : Nat) : Nat := if p = 0 then 0 else if p ≤ 10 then 1 + (p - 1 + B) % 10 else if p < 11 + K then 11 + (p - 11 + S) % K else p

theorem shf_inv {B B' S S' K : Nat} (hB : (B + B') % 10 = 0) (hS : (S + S') % K = 0) (p : Nat) : shf B' S' K (shf B S K p) = p := by
  unfold shf
  by_cases h0 : p = 0
  · rw [if_pos h0, if_pos rfl, h0]
  · rw [if_neg h0]
    by_cases h1 : p ≤ 10
    · rw [if_pos h1, if_neg (by omega), if_pos (by omega)]
      omega
    · rw [if_neg h1]
      by_cases h2 : p < 11 + K
      · have hK : 0 < K := by omega
        have m1 := Nat.mod_lt (p - 11 + S) hK
        rw [if_pos h2, if_neg (by omega), if_neg (by omega), if_pos (by omega)]
        have e : 11 + (p - 11 + S) % K - 11 + S' = (p - 11 + S) % K + S' := by omega
        rw [e, Nat.mod_add_mod, Nat.add_assoc, Nat.add_mod, hS, Nat.add_zero, Nat.mod_mod, Nat.mod_eq_of_lt (by omega)]
        omega
      · rw [if_neg h2, if_neg h0, if_neg h1, if_neg h2]

theorem shf_ren {B B' S S' K : Nat} (hB : (B + B') % 10 = 0) (hS : (S + S') % K = 0) : Ren (shf B S K) (shf B' S' K) := by
  refine ⟨shf_inv hB hS, shf_inv (by rw [Nat.add_comm]; exact hB) (by rw [Nat.add_comm]; exact hS), by simp [shf], fun p => ?_⟩
  unfold shf
  by_cases h0 : p = 0
  · rw [if_pos h0]; omega
  · rw [if_neg h0]
    by_cases h1 : p ≤ 10
    · rw [if_pos h1]; omega
    · rw [if_neg h1]
      split <;> omega

end Go.Proofs.Ytnmdadadjneaiaa.D

/- AlloccheckRenames. -/
set_option linter.unusedVariables false
set_option linter.unusedSimpArgs false
namespace Go.Proofs.Ytnmdadadjneaiaa.D
open Go Go.Proofs.Ytnmdadadjneaiaa.Abs Go.Proofs

def ren1 (b x : Int) : Int := if 0 < x then 1 + (x - 1 + b % 10) % 10 else x
def ren2 (s K y : Int) : Int := if 0 ≤ y then (y + s % K) % K else y

theorem ints_set {h : Heap} {b v : Nat} {l : List Int} (hb : h[b]? = some (.cells (l.map (.int .i64)) (.grow 1) v)) (i : Nat) (hi : i < l.length) (y : Int) :
    st1 h ⟨b, v, 0 + i * 1⟩ (.int .i64 y) = some (h.set b (.cells ((l.set i y).map (.int .i64)) (.grow 1) v)) := by
  rw [Nat.zero_add, Nat.mul_one, st1_at hb (by simp) (by rw [List.length_map]; exact hi), List.map_set]

theorem ints_get {h : Heap} {b v : Nat} {l : List Int} (hb : h[b]? = some (.cells (l.map (.int .i64)) (.grow 1) v)) {i : Nat} {x : Int} (hi : l[i]? = some x) : ld1 h ⟨b, v, 0 + i * 1⟩ = some (.int .i64 x) :=
  ld1_at hb (by rw [Nat.zero_add, Nat.mul_one, List.getElem?_map, hi]; rfl) rfl

theorem map_step {f : Int → Int} {l : List Int} {j : Nat} {x : Int} (hx : l[j]? = some x) : ((l.take j).map f ++ l.drop j).set j (f x) = (l.take (j + 1)).map f ++ l.drop (j + 1) := by
  have hj := (List.getElem?_eq_some_iff.1 hx).1
  rw [List.set_append_right _ _ (by rw [List.length_map, List.length_take]; omega), List.length_map, List.length_take, Nat.min_eq_left (by omega), Nat.sub_self, drop_at hx, List.set_cons_zero, List.take_add_one, hx, List.map_append]
  simp

theorem map_at {f : Int → Int} {l : List Int} {j : Nat} {x : Int} (hx : l[j]? = some x) : ((l.take j).map f ++ l.drop j)[j]? = some x := by
  have hj := (List.getElem?_eq_some_iff.1 hx).1
  rw [List.getElem?_append_right (by rw [List.length_map, List.length_take]; omega), List.length_map, List.length_take, Nat.min_eq_left (by omega), Nat.sub_self, drop_at hx]
  rfl

theorem ren_loop {h0 : Heap} {f : VF} {a : VA} {regs : Int} (ok : a.ok regs) (hr : regs ≤ 8192) {n R0 v0 S0 v1 : Nat} (hn : a.reg.length = n) (hs : a.slot.length = n) (hne : R0 ≠ S0) (by_ sl : Int) (Q : Kont (AV × Heap)) :
    ∀ (k j : Nat), j + k = n → ∀ (h : Heap), Kp (fun b => b = R0 ∨ b = S0) h0 h → h[R0]? = some (.cells (((a.reg.take j).map (ren1 by_) ++ a.reg.drop j).map (.int .i64)) (.grow 1) v0) → h[S0]? = some (.cells (((a.slot.take j).map (ren2 sl a.slots) ++ a.slot.drop j).map (.int .i64)) (.grow 1) v1) →
      ∃ h', L6x15 mk0 E by_ sl f.nm f.sp f.params.length f.regs f.sb f.blocks.length a.s0 a.reg.length a.s1 a.slot.length a.slots (.pos ⟨R0, v0, 0⟩) n (.pos ⟨S0, v1, 0⟩) n a.slots ((n : Nat) : Int) ((j : Nat) : Int) h Q = Q (.exit 0) (S6xe0 f.nm f.sp f.params.length f.regs f.sb f.blocks.length a.s0 a.reg.length a.s1 a.slot.length a.slots (.pos ⟨R0, v0, 0⟩) n (.pos ⟨S0, v1, 0⟩) n a.slots h') ∧
        Kp (fun b => b = R0 ∨ b = S0) h0 h' ∧ h'[R0]? = some (.cells ((a.reg.map (ren1 by_)).map (.int .i64)) (.grow 1) v0) ∧ h'[S0]? = some (.cells ((a.slot.map (ren2 sl a.slots)).map (.int .i64)) (.grow 1) v1) := by
  have osl := ok.sl
  have h2 := ok.lr
  intro k
  induction k with
  | zero =>
    intro j hj h kp c1 c2
    rw [L6x15xeq, letK_eq, if_neg (by simp; omega)]
    rw [List.take_of_length_le (by omega), List.drop_eq_nil_of_le (by omega), List.append_nil] at c1 c2
    exact ⟨h, rfl, kp, c1, c2⟩
  | succ k ih =>
    intro j hj h kp c1 c2
    obtain ⟨x, hx⟩ := at_lt (l := a.reg) (i := j) (by omega)
    obtain ⟨y, hy⟩ := at_lt (l := a.slot) (i := j) (by omega)
    have hk := ok.each _ x y hx hy
    have lx := ints_get c1 (map_at (f := ren1 by_) hx)
    have ly := ints_get c2 (map_at (f := ren2 sl a.slots) hy)
    have b1 := Int.emod_nonneg by_ (show (10 : Int) ≠ 0 by omega)
    have b2 := Int.emod_lt_of_pos by_ (show (0 : Int) < 10 by omega)
    -- the second half: the slot
    have tl : ∀ (h1 : Heap), Kp (fun b => b = R0 ∨ b = S0) h0 h1 → h1[R0]? = some (.cells (((a.reg.take (j + 1)).map (ren1 by_) ++ a.reg.drop (j + 1)).map (.int .i64)) (.grow 1) v0) → h1[S0]? = some (.cells (((a.slot.take j).map (ren2 sl a.slots) ++ a.slot.drop j).map (.int .i64)) (.grow 1) v1) →
        ∃ h', J6x26 mk0 E by_ sl f.nm f.sp f.params.length f.regs f.sb f.blocks.length a.s0 a.reg.length a.s1 a.slot.length a.slots (.pos ⟨R0, v0, 0⟩) n (.pos ⟨S0, v1, 0⟩) n a.slots ((j : Nat) : Int) ((n : Nat) : Int) ((j : Nat) : Int) h1 Q = Q (.exit 0) (S6xe0 f.nm f.sp f.params.length f.regs f.sb f.blocks.length a.s0 a.reg.length a.s1 a.slot.length a.slots (.pos ⟨R0, v0, 0⟩) n (.pos ⟨S0, v1, 0⟩) n a.slots h') ∧
          Kp (fun b => b = R0 ∨ b = S0) h0 h' ∧ h'[R0]? = some (.cells ((a.reg.map (ren1 by_)).map (.int .i64)) (.grow 1) v0) ∧ h'[S0]? = some (.cells ((a.slot.map (ren2 sl a.slots)).map (.int .i64)) (.grow 1) v1) := by
      intro h1 kp1 d1 d2
      have ly1 := ints_get d2 (map_at (f := ren2 sl a.slots) hy)
      rw [J6x26xeq, chk_of (by intro _; omega), adP_pos, atP_of, Int.toNat_natCast, add_mk, ly1, gI_of, letK_eq]
      by_cases hy0 : 0 ≤ y
      · have m1 := Int.emod_nonneg sl (show a.slots ≠ 0 by omega)
        have m2 := Int.emod_lt_of_pos sl (show 0 < a.slots by omega)
        have e2 : ren2 sl a.slots y = (y + sl % a.slots) % a.slots := by unfold ren2; rw [if_pos hy0]
        rw [if_pos (by simp [hy0]), chk_of (by intro _; omega), atP_of, add_mk, ly1, gI_of, rest_ok _ _ _ (by omega) (by omega), Option.bind_some, gI_of, chkC_of (fun _ => rfl), letK_eq, wrap64 (by omega) (by omega), rest_ok _ _ _ (by omega) (by omega), Option.bind_some, gI_of, chk_of (by intro _; omega), atP_of, add_mk, ← e2,
          ints_set d2 j (by simp; omega), Option.bind_some, J6x29xeq, letK_eq, wrap64 (by omega) (by omega), show ((j : Int) + 1) = ((j + 1 : Nat) : Int) by omega]
        exact ih (j + 1) (by omega) _ (kp1.trans (kp_set _ _ _ _ (.inr rfl))) (by rw [set_other (fun e => hne e.symm)]; exact d1) (by rw [set_same d2, map_step hy])
      · have e2 : ren2 sl a.slots y = y := by unfold ren2; rw [if_neg hy0]
        rw [if_neg (by simp [hy0]), J6x29xeq, letK_eq, wrap64 (by omega) (by omega), show ((j : Int) + 1) = ((j + 1 : Nat) : Int) by omega]
        refine ih (j + 1) (by omega) h1 kp1 d1 ?_
        rw [d2, List.take_add_one, hy, drop_at hy, List.map_append]
        simp [e2]
    rw [L6x15xeq, letK_eq, if_pos (by simp; omega), chk_of (by intro _; omega), adP_pos, atP_of, Int.toNat_natCast, add_mk, lx, gI_of, letK_eq]
    by_cases hx0 : 0 < x
    · have e1 : ren1 by_ x = 1 + (x - 1 + by_ % 10) % 10 := by unfold ren1; rw [if_pos hx0]
      rw [if_pos (by simp [hx0]), chk_of (by intro _; omega), atP_of, add_mk, lx, gI_of, letK_eq, wrap64 (x := x - 1) (by omega) (by omega), rest_ok _ _ _ (by omega) (by omega), Option.bind_some, gI_of, chkC_of (fun _ => rfl), letK_eq, wrap64 (by omega) (by omega), rest_ok _ _ _ (by omega) (by omega), Option.bind_some, gI_of, letK_eq, wrap64 (by omega) (by omega), chk_of (by intro _; omega), atP_of, add_mk, ← e1,
        ints_set c1 j (by simp; omega), Option.bind_some]
      exact tl _ (kp.trans (kp_set _ _ _ _ (.inl rfl))) (by rw [set_same c1, map_step hx]) (by rw [set_other hne]; exact c2)
    · have e1 : ren1 by_ x = x := by unfold ren1; rw [if_neg hx0]
      rw [if_neg (by simp [hx0])]
      refine tl h kp ?_ c2
      rw [c1, List.take_add_one, hx, drop_at hx, List.map_append]
      simp [e1]

theorem ren_place {a b : VA} {regs : Int} (ok : a.ok regs) {by_ sl : Int} (e1 : b.reg = a.reg.map (ren1 by_)) (e2 : b.slot = a.slot.map (ren2 sl a.slots)) (e3 : b.slots = a.slots) :
    b.ok regs ∧ ∃ B S : Nat, B < 10 ∧ S ≤ a.slots.toNat ∧ RenA (shf B S a.slots.toNat) a b regs.toNat := by
  have osl := ok.sl
  have o1 := ok.lr
  have o2 := ok.ls
  have b1 := Int.emod_nonneg by_ (show (10 : Int) ≠ 0 by omega)
  have b2 := Int.emod_lt_of_pos by_ (show (0 : Int) < 10 by omega)
  have sm : ∀ y, 0 ≤ y → y < a.slots → 0 ≤ sl % a.slots ∧ sl % a.slots < a.slots ∧ 0 ≤ (y + sl % a.slots) % a.slots ∧ (y + sl % a.slots) % a.slots < a.slots := fun y h1 h2 =>
    ⟨Int.emod_nonneg sl (by omega), Int.emod_lt_of_pos sl (by omega), Int.emod_nonneg _ (by omega), Int.emod_lt_of_pos _ (by omega)⟩
  refine ⟨⟨by rw [e1, List.length_map]; exact o1, by rw [e2, List.length_map]; exact o2, by rw [e3]; exact osl, fun i r s hr hs => ?_⟩, (by_ % 10).toNat, (if a.slots = 0 then 0 else sl % a.slots).toNat, by omega, ?_, fun r h0 h1 => ?_⟩
  · rw [e1, List.getElem?_map, Option.map_eq_some_iff] at hr
    rw [e2, List.getElem?_map, Option.map_eq_some_iff] at hs
    obtain ⟨x, hx, rfl⟩ := hr
    obtain ⟨y, hy, rfl⟩ := hs
    have hk := ok.each i x y hx hy
    rw [e3]
    unfold ren1 ren2
    by_cases hx0 : 0 < x
    · have hy0 : ¬ 0 ≤ y := fun h => hk.2.2 ⟨hx0, h⟩
      rw [if_pos hx0, if_neg hy0]
      refine ⟨by omega, by omega, by omega⟩
    · rw [if_neg hx0]
      by_cases hy0 : 0 ≤ y
      · have := sm y hy0 (by omega)
        rw [if_pos hy0]
        refine ⟨by omega, by omega, by omega⟩
      · rw [if_neg hy0]
        refine ⟨by omega, by omega, by omega⟩
  · by_cases hz : a.slots = 0
    · rw [if_pos hz]; simp
    · rw [if_neg hz]
      have := Int.emod_lt_of_pos sl (show 0 < a.slots by omega)
      omega
  · obtain ⟨x, hx⟩ := at_lt (l := a.reg) (i := r.toNat) (by omega)
    obtain ⟨y, hy⟩ := at_lt (l := a.slot) (i := r.toNat) (by omega)
    have hk := ok.each _ x y hx hy
    unfold placeV
    rw [e1, e2]
    simp only [List.getD, List.getElem?_map, hx, hy, Option.map_some, Option.getD_some]
    by_cases hr : r = 0
    · rw [if_pos hr, if_pos hr]; simp [shf]
    · rw [if_neg hr, if_neg hr]
      unfold ren1 ren2
      by_cases hx0 : 0 < x
      · rw [if_pos hx0, if_pos hx0, if_pos (by omega)]
        refine ⟨by omega, by omega, ?_⟩
        unfold shf
        rw [if_neg (by omega), if_pos (by omega)]
        omega
      · rw [if_neg hx0, if_neg hx0, if_neg hx0]
        by_cases hy0 : 0 ≤ y
        · have hm := sm y hy0 (by omega)
          rw [if_pos hy0, if_pos hy0, if_pos hm.2.2.1]
          refine ⟨by omega, by omega, ?_⟩
          unfold shf
          rw [if_neg (show ¬ a.slots = 0 by omega), if_neg (by omega), if_neg (by omega), if_pos (by omega)]
          have e : ((11 + y).toNat - 11 + (sl % a.slots).toNat) % a.slots.toNat = ((y + sl % a.slots) % a.slots).toNat := by
            have h3 : (((11 + y).toNat - 11 + (sl % a.slots).toNat : Nat) : Int) = y + sl % a.slots := by omega
            have h4 : ((((11 + y).toNat - 11 + (sl % a.slots).toNat) % a.slots.toNat : Nat) : Int) = (y + sl % a.slots) % a.slots := by
              rw [Int.natCast_emod, h3, show ((a.slots.toNat : Nat) : Int) = a.slots by omega]
            omega
          rw [e]
          omega
        · rw [if_neg hy0, if_neg hy0, if_neg (by omega)]
          simp [shf]

theorem fact8 (h : Heap) : E 8 [] h = some (.bool true, h) := by
  have : E 8 [] h = factP [] h := EV_prim (by unfold T0; rfl) [] h
  rw [this]; rfl

theorem renames_ok {h : Heap} {f : VF} {a : VA} (R : f.R h) (B : f.B) (A : a.R h) (by_ sl : Int) : ∃ h', E 6 [.agg f.cells, .agg a.cells, .int .i64 by_, .int .i64 sl] h = some (.bool true, h') := by
  obtain ⟨h1, b, s1, s2, s3⟩ := small_ok R B
  obtain ⟨h2, e, c1, c2, c3⟩ := acheck_ok (R.old s2) B (A.old s2)
  unfold VF.cells VA.cells at *
  rw [e6, fact8, Option.bind_some, gB_of, if_neg (by simp), s1, Option.bind_some, gB_of]
  cases b with
  | false =>
    rw [chk_of (by intro _; omega), gI_any, gL_any, gI_any, gL_any, chk_of (by intro _; omega), gL_any, gL_any, gI_any, Bool.not_not, callO_false, Option.bind_some, gI_any, letK_eq, letK_eq, if_pos (by simp)]
    exact ⟨h1, rfl⟩
  | true =>
    rw [chk_of (by intro _; omega), gI_any, gL_any, gI_any, gL_any, chk_of (by intro _; omega), gL_any, gL_any, gI_any, Bool.not_not, callO_true, c1, Option.bind_some, gI_any, letK_eq, letK_eq]
    by_cases he : e = 0
    case neg =>
      rw [if_pos (by simp [he])]
      exact ⟨h2, rfl⟩
    obtain ⟨fo, ok⟩ := c3.1 he
    have fr := fo.regs
    have o1 := ok.lr
    have o2 := ok.ls
    have A2 := (A.old s2).old c2
    obtain ⟨h3, s3', d1, d2, d3⟩ := cloneI_ok A2.r (by omega)
    obtain ⟨h4, s4', f1, f2, f3⟩ := cloneI_ok (A2.old d2).s (by omega)
    rcases d3 with d3 | ⟨v0, rfl, d4⟩
    · omega
    rcases f3 with f3 | ⟨v1, rfl, f4⟩
    · omega
    have lt3 : h2.length < h3.length := (List.getElem?_eq_some_iff.1 d4).1
    have lt4 : h3.length < h4.length := (List.getElem?_eq_some_iff.1 f4).1
    have o24 : Old h2 h4 := d2.trans f2
    obtain ⟨h5, l1, l2, l3, l4⟩ := ren_loop (h0 := h4) (f := f) ok fr.2 (n := a.reg.length) (R0 := h2.length) (v0 := v0) (S0 := h3.length) (v1 := v1) rfl (by omega) (by omega) by_ sl (Q6x15 mk0 E) a.reg.length 0 (by omega) h4 (Kp.refl _ _) (by simpa using f2 _ _ d4) (by simpa using f4)
    rw [show (((0 : Nat) : Int)) = 0 from rfl] at l1
    have es : a.slot.length = a.reg.length := by omega
    rw [if_neg (by simp [he]), d1, Option.bind_some, gL_of, f1, Option.bind_some, gL_of]
    rw [es] at l1 ⊢
    rw [l1, X6x15xe0]
    have o25 : Old h2 h5 := l2.old o24 fun q hq hh => by omega
    have oA : Old h h5 := (s2.trans c2).trans o25
    obtain ⟨h6, e1, g1, g2, g3, g4⟩ := accept_ok (R.old oA) B (A.old oA)
    have V1 : VS intC 1 h5 (.pos ⟨h2.length, v0, 0⟩) (a.reg.map (ren1 by_)).length (a.reg.map (ren1 by_)) := vs_blk1 (g := AV.int .i64) l3
    have V2 : VS intC 1 h5 (.pos ⟨h3.length, v1, 0⟩) (a.slot.map (ren2 sl a.slots)).length (a.slot.map (ren2 sl a.slots)) := vs_blk1 (g := AV.int .i64) l4
    obtain ⟨bok, Bn, Sn, n1, n2, n3⟩ := ren_place (b := ⟨.pos ⟨h2.length, v0, 0⟩, a.reg.map (ren1 by_), .pos ⟨h3.length, v1, 0⟩, a.slot.map (ren2 sl a.slots), a.slots⟩) ok rfl rfl rfl
    obtain ⟨h7, e2, k1, k2, k3, k4⟩ := accept_ok ((R.old oA).old g2) B (a := ⟨.pos ⟨h2.length, v0, 0⟩, a.reg.map (ren1 by_), .pos ⟨h3.length, v1, 0⟩, a.slot.map (ren2 sl a.slots), a.slots⟩) ⟨vs_old V1 g2, vs_old V2 g2⟩
    unfold VF.cells VA.cells at g1 k1
    simp only [List.length_map] at k1
    rw [es] at g1 k1
    rw [g1, Option.bind_some, gI_of, k1, Option.bind_some, gI_of, letK_eq]
    have Rn := shf_ren (B := Bn) (B' := 10 - Bn) (S := Sn) (S' := a.slots.toNat - Sn) (K := a.slots.toNat) (by omega) (by rw [show Sn + (a.slots.toNat - Sn) = a.slots.toNat by omega]; exact Nat.mod_self _)
    have Rn' : Ren (shf (10 - Bn) (a.slots.toNat - Sn) a.slots.toNat) (shf Bn Sn a.slots.toNat) := shf_ren (by omega) (by rw [show a.slots.toNat - Sn + Sn = a.slots.toNat by omega]; exact Nat.mod_self _)
    have back : RenA (shf (10 - Bn) (a.slots.toNat - Sn) a.slots.toNat) ⟨.pos ⟨h2.length, v0, 0⟩, a.reg.map (ren1 by_), .pos ⟨h3.length, v1, 0⟩, a.slot.map (ren2 sl a.slots), a.slots⟩ a f.regs.toNat := fun r h0 h1 => by
      obtain ⟨q1, q2, q3⟩ := n3 r h0 h1
      exact ⟨q2, q1, by rw [q3, Rn.l]⟩
    have iff : e1 = 0 ↔ e2 = 0 := by
      rw [g3, k3]
      constructor
      · rintro ⟨_, _, h⟩; exact ⟨fo, bok, ren_accepts Rn fo n3 h⟩
      · rintro ⟨_, _, h⟩; exact ⟨fo, ok, ren_accepts Rn' fo back h⟩
    have := g4 ⟨fo, ok⟩
    have := k4 ⟨fo, bok⟩
    have ee : e1 = e2 := by omega
    rw [ee]
    exact ⟨h7, by simp⟩

end Go.Proofs.Ytnmdadadjneaiaa.D
