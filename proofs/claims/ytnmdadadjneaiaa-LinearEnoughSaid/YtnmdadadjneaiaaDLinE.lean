/- The law LinearEnough. -/
import Derived.Test.YtnmdadadjneaiaaConDp
import Derived.Test.YtnmdadadjneaiaaConDe
import Derived.Test.YtnmdadadjneaiaaDGen8
set_option linter.unusedVariables false
set_option linter.unusedSimpArgs false
namespace Go.Proofs.Ytnmdadadjneaiaa.D
open Go Go.Proofs.Ytnmdadadjneaiaa.Abs Go.Proofs
def common (b : Int) (y : Rg) : Bool := decide (y.b ≤ b) && decide (b ≤ y.e)
theorem lcnt_loop {h : Heap} {s : SA} {l : List Rg} (V : VS rgC 4 h s l.length l) (hl : l.length ≤ 10000) (i1 i2x0 : Int) (s2x1 : SA) (n2x1 : Nat) (i2x2 : Int) (s2x3 : SA) (n2x3 : Nat) (s5 : SA) (n5 : Nat) (i7 i9x0 b : Int) (i9x2 : Int) (b9x3 : Bool) (s28 : SA) (n28 : Nat) (i29 i30 : Int) (Q : Kont (AV × Heap)) :
 ∀ (k j : Nat), j + k = l.length → ∀ (c : Int), 0 ≤ c ∧ c ≤ (j : Int) →
  L3x28 mk0 E i1 i2x0 s2x1 n2x1 i2x2 s2x3 n2x3 s5 n5 i7 i9x0 b i9x2 b9x3 c s28 n28 i29 i30 s l.length ((l.length : Nat) : Int) ((j : Nat) : Int) h Q = Q (.exit 2) (S3xe2 i1 i2x0 s2x1 n2x1 i2x2 s2x3 n2x3 s5 n5 i7 i9x0 b i9x2 b9x3 (c + (((l.drop j).filter (common b)).length : Nat)) s28 n28 i29 i30 h) := by
 intro k
 induction k with
 | zero =>
  intro j hj c hc
  rw [L3x28xeq, letK_eq, if_neg (by simp; omega), List.drop_eq_nil_of_le (by omega), List.filter_nil, List.length_nil, show c + ((0 : Nat) : Int) = c by omega]
 | succ k ih =>
  intro j hj c hc
  obtain ⟨y, hy⟩ := at_lt (l := l) (i := j) (by omega)
  obtain ⟨a, ha, la⟩ := vs_ld V rg_flat j y hy
  unfold rgC at la
  have hb : (if decide (y.b ≤ b) = true then decide (b ≤ y.e) else false) = common b y := by
   unfold common
   by_cases c1 : y.b ≤ b <;> simp [c1]
  rw [L3x28xeq, letK_eq, if_pos (by simp; omega), chk_of (by intro _; omega), ha, atP_of, Int.toNat_natCast, la, gCells_of]
  simp only [List.getElem?_cons_zero, List.getElem?_cons_succ]
  rw [gI_of, gI_of, gI_of, gB_of, letK_eq, gI_any, gI_any, letK_eq, letK_eq, hb, drop_at hy]
  cases hcm : common b y with
  | true =>
   rw [if_pos rfl, letK_eq, wrap64 (x := c + 1) (by omega) (by omega), J3x38xeq, letK_eq, wrap64 (x := (j : Int) + 1) (by omega) (by omega), show ((j : Int) + 1) = ((j + 1 : Nat) : Int) by omega, ih (j + 1) (by omega) (c + 1) (by omega), List.filter_cons_of_pos hcm, List.length_cons, show c + 1 + (((l.drop (j + 1)).filter (common b)).length : Nat) = c + ((((l.drop (j + 1)).filter (common b)).length + 1 : Nat) : Int) by omega]
  | false =>
   rw [if_neg (show ¬ (false = true) from fun h => by cases h), J3x38xeq, letK_eq, wrap64 (x := (j : Int) + 1) (by omega) (by omega), show ((j : Int) + 1) = ((j + 1 : Nat) : Int) by omega, ih (j + 1) (by omega) c (by omega), List.filter_cons_of_neg (by rw [hcm]; exact fun h => by cases h)]
theorem lmost_loop {h : Heap} {s : SA} {l : List Rg} (V : VS rgC 4 h s l.length l) (hl : l.length ≤ 10000) (i1 i2x0 : Int) (s2x1 : SA) (n2x1 : Nat) (i2x2 : Int) (s2x3 : SA) (n2x3 : Nat) :
 ∀ (k j : Nat), j + k = l.length → ∀ (m : Int), 0 ≤ m ∧ m ≤ 10000 → (∀ x ∈ l.take j, x.s = false ∧ (((l.filter (common x.b)).length : Nat) : Int) ≤ m) →
  (L3x16 mk0 E i1 i2x0 s2x1 n2x1 i2x2 s2x3 n2x3 s l.length m s l.length ((l.length : Nat) : Int) ((j : Nat) : Int) h (Q3x16 mk0 E) = some (.bool true, h)) ∨
  ∃ m', L3x16 mk0 E i1 i2x0 s2x1 n2x1 i2x2 s2x3 n2x3 s l.length m s l.length ((l.length : Nat) : Int) ((j : Nat) : Int) h (Q3x16 mk0 E) = Q3x16 mk0 E (.exit 0) (S3xe0 i1 i2x0 s2x1 n2x1 i2x2 s2x3 n2x3 m' h) ∧ (0 ≤ m' ∧ m' ≤ 10000) ∧ (∀ x ∈ l, x.s = false ∧ (((l.filter (common x.b)).length : Nat) : Int) ≤ m') := by
 intro k
 induction k with
 | zero =>
  intro j hj m hm hh
  rw [L3x16xeq, letK_eq, if_neg (by simp; omega)]
  rw [List.take_of_length_le (by omega)] at hh
  exact .inr ⟨m, rfl, hm, hh⟩
 | succ k ih =>
  intro j hj m hm hh
  obtain ⟨x, hx⟩ := at_lt (l := l) (i := j) (by omega)
  obtain ⟨a, ha, la⟩ := vs_ld V rg_flat j x hx
  unfold rgC at la
  have cl := lcnt_loop V hl i1 i2x0 s2x1 n2x1 i2x2 s2x3 n2x3 s l.length m x.r x.b x.e x.s s l.length ((l.length : Nat) : Int) ((j : Nat) : Int) (Q3x28 mk0 E (Q3x16 mk0 E)) l.length 0 (by omega) 0 (by omega)
  rw [show (((0 : Nat) : Int)) = 0 from rfl, List.drop_zero, Int.zero_add] at cl
  obtain ⟨C, eC⟩ : ∃ C : Int, C = (((l.filter (common x.b)).length : Nat) : Int) := ⟨_, rfl⟩
  have fl := List.length_filter_le (common x.b) l
  rw [← eC] at cl
  obtain ⟨m2, em2⟩ : ∃ m2, m2 = foldMM true m [C] := ⟨_, rfl⟩
  have mm : m ≤ m2 ∧ C ≤ m2 ∧ m2 ≤ 10000 := by
   rw [em2]
   simp only [foldMM]
   split <;> omega
  rw [L3x16xeq, letK_eq, if_pos (by simp; omega), chk_of (by intro _; omega), ha, atP_of, Int.toNat_natCast, la, gCells_of]
  simp only [List.getElem?_cons_zero, List.getElem?_cons_succ]
  rw [gI_of, gI_of, gI_of, gB_of, cl, X3x28xe2, letK_eq, ← em2]
  cases hs : x.s with
  | true =>
   rw [if_pos rfl, X3x16xr]
   exact .inl rfl
  | false =>
   rw [if_neg (show ¬ (false = true) from fun h => by cases h), letK_eq, wrap64 (x := (j : Int) + 1) (by omega) (by omega), show ((j : Int) + 1) = ((j + 1 : Nat) : Int) by omega]
   refine ih (j + 1) (by omega) m2 (by omega) fun y hy => ?_
   rw [List.take_add_one, hx] at hy
   rcases List.mem_append.1 hy with hy | hy
   · have := hh y hy
     exact ⟨this.1, by omega⟩
   · have : y = x := by simpa using hy
     rw [this]
     exact ⟨hs, by omega⟩
theorem lfp_one {f : VF} {L L' : List (List Bool)} (H : f.lfp L) (H' : f.lfp L') : L = L' := by
 have h1 := H.2 L' H'.1
 have h2 := H'.2 L H.1
 apply List.ext_getElem?
 intro i
 by_cases hi : i < L.length
 · obtain ⟨x, hx⟩ := at_lt hi
   obtain ⟨y, hy⟩ := at_lt (l := L') (i := i) (by have := h1.1; omega)
   have e1 := h1.2 i
   have e2 := h2.2 i
   simp only [List.getD, hx, hy, Option.getD_some] at e1 e2
   rw [hx, hy, e1.anti e2]
 · rw [List.getElem?_eq_none (by omega), List.getElem?_eq_none (by have := h1.1; omega)]
theorem linearEnough_ok {h : Heap} {f : VF} (R : f.R h) (B : f.B) (regs : Int) : ∃ h', E 3 [.agg f.cells, .int .i64 regs] h = some (.bool true, h') := by
 rcases ranges_ok R B with ⟨nf, h1, e, e0, c1, c2⟩ | ⟨fo, h1, b, l, L, c1, c2, c3, c4, c5, c6⟩
 · obtain ⟨h2, b, s1, s2, s3⟩ := small_ok (R.old c2) B
   unfold VF.cells at *
   rw [e3, fact8, Option.bind_some, gB_of, if_neg (by simp), c1, Option.bind_some, gT_of (n := 2) [_, _] rfl]
   simp only [List.getD_cons_zero, List.getD_cons_succ]
   rw [gL_of, gI_of, s1, Option.bind_some, gB_of, letK_eq, letK_eq, if_pos (by cases b <;> simp [e0])]
   exact ⟨h2, rfl⟩
 · obtain ⟨h2, sm, s1, s2, s3⟩ := small_ok (R.old c2) B
   have fr := fo.regs
   cases sm with
   | false =>
    unfold VF.cells at *
    rw [e3, fact8, Option.bind_some, gB_of, if_neg (by simp), c1, Option.bind_some, gT_of (n := 2) [_, _] rfl]
    simp only [List.getD_cons_zero, List.getD_cons_succ]
    rw [gL_of, gI_of, s1, Option.bind_some, gB_of, letK_eq, letK_eq, if_pos (by simp)]
    exact ⟨h2, rfl⟩
   | true =>
    have ll : l.length ≤ 10000 := by
     have e1 := c5.length_eq
     have e2 := List.length_filter_le (fun x => !unused x) (rFin f L)
     have e4 := (ri_fin f L).n
     omega
    have V1 : VS rgC 4 h1 (.pos ⟨b, 0, 0⟩) l.length l := rs_vs rg_len rfl c3.m
    have start : ∀ {X}, L3x16 mk0 E regs f.nm f.sp f.params.length f.regs f.sb f.blocks.length (.pos ⟨b, 0, 0⟩) l.length 0 (.pos ⟨b, 0, 0⟩) l.length ((l.length : Nat) : Int) 0 h2 (Q3x16 mk0 E) = X → E 3 [.agg f.cells, .int .i64 regs] h = X := fun {X} hX => by
     unfold VF.cells at *
     rw [e3, fact8, Option.bind_some, gB_of, if_neg (by simp), c1, Option.bind_some, gT_of (n := 2) [_, _] rfl]
     simp only [List.getD_cons_zero, List.getD_cons_succ]
     rw [gL_of, gI_of, s1, Option.bind_some, gB_of, letK_eq, letK_eq, if_neg (by simp), hX]
    have ml := lmost_loop (vs_old V1 s2) ll regs f.nm f.sp f.params.length f.regs f.sb f.blocks.length l.length 0 (by omega) 0 (by omega) (fun x hx => by cases hx)
    rw [show (((0 : Nat) : Int)) = 0 from rfl] at ml
    rcases ml with m1 | ⟨m, m1, m2, m3⟩
    · exact ⟨h2, start m1⟩
    · rw [X3x16xe0, letK_eq] at m1
      by_cases hm : 10 < m
      · rw [if_pos (decide_eq_true hm)] at m1
        exact ⟨h2, start m1⟩
      · obtain ⟨q, eq⟩ : ∃ q, q = foldMM true m [1] := ⟨_, rfl⟩
        have hq : m ≤ q ∧ 1 ≤ q ∧ q ≤ 10 := by
         rw [eq]
         simp only [foldMM]
         split <;> omega
        have r0 := Int.emod_nonneg regs (b := 11 - q) (by omega)
        have r1 := Int.emod_lt_of_pos regs (b := 11 - q) (by omega)
        rw [if_neg (by simpa using hm), letK_eq, letK_eq, letK_eq, ← eq, wrap64 (x := 11 - q) (by omega) (by omega), rest_ok regs (11 - q) h2 (by omega) (by omega), Option.bind_some, gI_of, letK_eq, wrap64 (x := q + regs % (11 - q)) (by omega) (by omega)] at m1
        obtain ⟨K, eK⟩ : ∃ K : Nat, ((K : Nat) : Int) = q + regs % (11 - q) := ⟨(q + regs % (11 - q)).toNat, by omega⟩
        rw [← eK] at m1
        rcases ranges_ok (R.old (c2.trans s2)) B with ⟨nf, _⟩ | ⟨_, h3, b', l', L', d1, d2, d3, d4, d5, d6⟩
        · exact absurd fo nf
        have eL := lfp_one d4 c4
        subst eL
        have pl : l'.Perm l := d5.trans c5.symm
        have ll' : l'.length ≤ 10000 := by rw [pl.length_eq]; exact ll
        have V3 : VS rgC 4 h3 (.pos ⟨b', 0, 0⟩) l'.length l' := rs_vs rg_len rfl d3.m
        obtain ⟨h4, t1, t2, Rr, T, A, Es, bd, k1, k2, k3, k4, k5⟩ := lalloc_ok (K := K) (by omega) d1 V3 d6 ll' fr (Ev := True) (fun _ => ⟨fun x hx => (m3 x (pl.mem_iff.1 hx)).1, fun x hx => by
         have h1 := (m3 x (pl.mem_iff.1 hx)).2
         have h2 : (l'.filter (common x.b)).length = (l.filter (common x.b)).length := (pl.filter _).length_eq
         show (l'.filter (common x.b)).length ≤ K
         omega⟩)
        have en := k5.en trivial
        rw [en] at k1
        refine ⟨h4, start ?_⟩
        rw [m1]
        unfold VF.cells at k1
        rw [k1, Option.bind_some, gT_of (n := 2) [_, _] rfl]
        simp only [List.getD_cons_zero, List.getD_cons_succ]
        rw [gA_of, chk_of (by intro _; rfl)]
        simp only [List.getElem?_cons_zero, List.getElem?_cons_succ]
        rw [gL_of, gL_of, gI_of, gI_of, letK_eq, gI_any, letK_eq, letK_eq]
        rfl
end Go.Proofs.Ytnmdadadjneaiaa.D
