/- link: LinkAgain. -/
import Derived.Test.YtmfmnbldngfelaaLFact
import Derived.Test.YtmfmnbldngfelaaLGen3
set_option linter.unusedVariables false
set_option linter.unusedSimpArgs false
namespace Go.Proofs.Ytmfmnbldngfelaa.I
open Go Go.Proofs.Ytmfmnbldngfelaa.Abs Go.Proofs

/-! ### The first ones of the classes -/

def reps (cl : List Int) : Nat → List Nat
  | 0 => []
  | j + 1 => if at_ cl j = j then reps cl j ++ [j] else reps cl j

theorem reps_len (cl : List Int) : ∀ j, (reps cl j).length ≤ j
  | 0 => Nat.le_refl _
  | j + 1 => by
    have := reps_len cl j
    unfold reps
    split
    · rw [List.length_append]; simp; omega
    · omega

theorem reps_mem (cl : List Int) : ∀ j r, r ∈ reps cl j → r < j ∧ at_ cl r = r
  | 0, r, h => by cases h
  | j + 1, r, h => by
    unfold reps at h
    split at h
    · rename_i e
      rcases List.mem_append.1 h with h | h
      · have := reps_mem cl j r h; exact ⟨by omega, this.2⟩
      · rw [List.mem_singleton.1 h]; exact ⟨by omega, e⟩
    · have := reps_mem cl j r h; exact ⟨by omega, this.2⟩

theorem reps_at (cl : List Int) {r : Nat} (e : at_ cl r = r) : ∀ d, (reps cl (r + 1 + d))[(reps cl r).length]? = some r
  | 0 => by
    rw [Nat.add_zero, reps, if_pos e, List.getElem?_append_right (Nat.le_refl _), Nat.sub_self]; rfl
  | d + 1 => by
    have ih := reps_at cl e d
    rw [← Nat.add_assoc, reps]
    split
    · rw [List.getElem?_append_left (List.getElem?_eq_some_iff.1 ih).1, ih]
    · exact ih

theorem reps_pos (cl : List Int) : ∀ j p r, (reps cl j)[p]? = some r → (reps cl r).length = p
  | 0, p, r, h => by cases h
  | j + 1, p, r, h => by
    unfold reps at h
    split at h
    · rw [List.getElem?_append] at h
      split at h
      · exact reps_pos cl j p r h
      · rename_i hp
        have : p - (reps cl j).length = 0 := by
          have := (List.getElem?_eq_some_iff.1 h).1
          simp at this; omega
        rw [this] at h
        simp at h
        subst h
        omega
    · exact reps_pos cl j p r h

/-- A reference, to the number of the class. -/
def rnm (cl : List Int) (c : Int × Int) : Int × Int := (c.1, ((reps cl (at_ cl c.2.toNat).toNat).length : Int))

def dft : Fn := ⟨0, 0, .nil, .nil, .nil, [], [], []⟩
def fnAt (l : List Fn) (i : Nat) : Fn := (l[i]?).getD dft
def fsts (l : List Fn) (cl : List Int) (j : Nat) : List Fn := (reps cl j).map (fnAt l)

theorem first_loop2 {h0 : Heap} {s0 s3 : SA} {n : Nat} {l : List Fn} {cl : List Int} (HL : VS Fn.cells 5 h0 s0 n l) (HC : VS intC 1 h0 s3 n cl) (C : Can n cl) (hn : n ≤ 12) {q5 : Nat} (hq5 : h0.length ≤ q5) : ∀ (k j : Nat), j + k = n → ∀ (h : Heap) (s6 : SA), Old h0 h →
    h[q5]? = some (.cells ((List.range n).map fun i => .int .i64 (if i < j ∧ at_ cl i = i then ((reps cl i).length : Int) else 0)) (.grow 1) 0) → GS h s6 (reps cl j).length 5 ((fsts l cl j).flatMap Fn.cells) → (∀ q, inS s6 q → h0.length ≤ q ∧ q ≠ q5) →
    ∃ h' s6', L12x23 mk0 E s0 n s3 n (.pos ⟨q5, 0, 0⟩) n s6 (reps cl j).length ((n : Nat) : Int) ((j : Nat) : Int) h (Q12x23 mk0 E) = Q12x23 mk0 E (.exit 0) (S12xe0 s3 n (.pos ⟨q5, 0, 0⟩) n s6' (reps cl n).length h') ∧ Old h0 h' ∧
      h'[q5]? = some (.cells ((List.range n).map fun i => .int .i64 (if at_ cl i = i then ((reps cl i).length : Int) else 0)) (.grow 1) 0) ∧ GS h' s6' (reps cl n).length 5 ((fsts l cl n).flatMap Fn.cells) ∧ (∀ q, inS s6' q → h0.length ≤ q ∧ q ≠ q5) := by
  have hl := HL.1
  have hcl := HC.1
  intro k
  induction k with
  | zero =>
    intro j hj h s6 ho hb g hs
    have : j = n := by omega
    subst this
    rw [L12x23xeq, letK_eq, if_neg (by simp)]
    refine ⟨h, s6, rfl, ho, ?_, g, hs⟩
    rw [hb]
    congr 2
    apply List.map_congr_left
    intro i hi
    have := List.mem_range.1 hi
    by_cases e : at_ cl i = i
    · rw [if_pos ⟨this, e⟩, if_pos e]
    · rw [if_neg (fun hh => e hh.2), if_neg e]
  | succ k ih =>
    intro j hj h s6 ho hb g hs
    obtain ⟨f, hf⟩ := at_lt (l := l) (i := j) (by omega)
    have g1 := at_get (l := cl) (i := j) (by omega)
    have c1 := C.lo j (by omega)
    have c2 := C.hi j (by omega)
    obtain ⟨a, ha, la⟩ := vs_ld1 (g := AV.int .i64) (vs_old HC ho) (fun _ => rfl) j _ g1
    have d1 : decide (at_ cl j < 0) = false := decide_eq_false (by omega)
    have d2 : decide ((j : Int) < at_ cl j) = false := decide_eq_false (by omega)
    have hrl := reps_len cl j
    rw [L12x23xeq, letK_eq, if_pos (by simp; omega), chk_of (by intro _; omega), ha, atP_of, Int.toNat_natCast, la, gI_of, letK_eq, chk_of (by intro _; omega), atP_any, atP_any, la, gI_any, letK_eq, letK_eq, d1, d2, if_neg (by simp), chk_of (by intro _; omega), atP_of, la, gI_of, letK_eq]
    by_cases e : at_ cl j = j
    · generalize hh2 : h.set q5 (Blk.cells ((List.range n).map fun i => if i = j then AV.int .i64 ((reps cl j).length : Int) else .int .i64 (if i < j ∧ at_ cl i = i then ((reps cl i).length : Int) else 0)) (.grow 1) 0) = h2
      have ho2 : Old h0 h2 := by rw [← hh2]; exact ho.set hq5 _
      have hb2 : h2[q5]? = some (.cells ((List.range n).map fun i => .int .i64 (if i < j + 1 ∧ at_ cl i = i then ((reps cl i).length : Int) else 0)) (.grow 1) 0) := by
        rw [← hh2, set_same hb]
        congr 2
        apply List.map_congr_left
        intro i _
        by_cases e1 : i = j
        · rw [if_pos e1, e1, if_pos ⟨by omega, e⟩]
        · rw [if_neg e1]
          by_cases e2 : i < j ∧ at_ cl i = i
          · rw [if_pos e2, if_pos ⟨by omega, e2.2⟩]
          · rw [if_neg e2, if_neg (fun hh => e2 ⟨by omega, hh.2⟩)]
      have g2 : GS h2 s6 (reps cl j).length 5 ((fsts l cl j).flatMap Fn.cells) := by rw [← hh2]; exact gs_set g (fun hh => (hs _ hh).2 rfl) _
      obtain ⟨a2, ha2, la2⟩ := vs_ld (vs_old HL ho2) fn_flat j f hf
      obtain ⟨s', h3, p1, p2, p3, p4, p5, p6⟩ := push (bytes := 88) f.cells g2 (by omega) (fn_len f) (fn_flat f) (by omega)
      have p1' : ldSl (h2 ++ [.cells [.int .i64 f.nm, .sl f.sI f.its.length, .sl f.sC f.cls.length, .sl f.sM f.mps.length, .int .i64 f.size] (.grow 5) 0]) (.pos ⟨h2.length, 0, 0⟩) (1 * 5) = some f.cells := p1
      have p2' : apnd (h2 ++ [.cells [.int .i64 f.nm, .sl f.sI f.its.length, .sl f.sC f.cls.length, .sl f.sM f.mps.length, .int .i64 f.size] (.grow 5) 0]) (.sl s6 (reps cl j).length) 5 88 f.cells 1 = some (.sl s' ((reps cl j).length + 1), h3) := p2
      have hle2 := (List.getElem?_eq_some_iff.1 hb2).1
      rw [if_pos (by simp [e]), chk_of (by intro _; omega), adP_pos, atP_of, add_mk, st1_at hb (by simp) (by simp; omega), Option.bind_some, show 0 + j * 1 = j by omega, range_set, hh2, chk_of (by intro _; omega), ha2, atP_of, la2, gCells_of]
      simp only [Fn.cells, List.getElem?_cons_zero, List.getElem?_cons_succ]
      rw [gI_of, gL_of, gL_of, gL_of, gI_of, newK_eq, p1', Option.bind_some, p2', Option.bind_some, gL_of, J12x39xeq, letK_eq, wrap64 (by omega) (by omega), show ((j : Int) + 1) = ((j + 1 : Nat) : Int) by omega]
      have er : reps cl (j + 1) = reps cl j ++ [j] := by rw [reps, if_pos e]
      have ef : fsts l cl (j + 1) = fsts l cl j ++ [f] := by
        unfold fsts
        rw [er, List.map_append]
        congr 1
        show [fnAt l j] = [f]
        unfold fnAt
        rw [hf]; rfl
      have hrl' : (reps cl j).length + 1 = (reps cl (j + 1)).length := by rw [er, List.length_append]; rfl
      rw [hrl']
      refine ih (j + 1) (by omega) h3 s' (fun q y hy => p5 q y (ho2 q y hy) fun hh => by have := (hs q hh).1; have := (List.getElem?_eq_some_iff.1 hy).1; omega) (p5 _ _ hb2 fun hh => (hs _ hh).2 rfl) ?_ ?_
      · rw [← hrl', ef, List.flatMap_append]
        have : [f].flatMap Fn.cells = f.cells := by simp
        rw [this]
        exact p3
      · intro q hq
        rcases p6 q hq with h5 | h5
        · exact hs q h5
        · have := ho2.le; exact ⟨by omega, by omega⟩
    · rw [if_neg (by simpa using e), J12x39xeq, letK_eq, wrap64 (by omega) (by omega), show ((j : Int) + 1) = ((j + 1 : Nat) : Int) by omega]
      have er : reps cl (j + 1) = reps cl j := by rw [reps, if_neg e]
      have ef : fsts l cl (j + 1) = fsts l cl j := by unfold fsts; rw [er]
      rw [← er]
      refine ih (j + 1) (by omega) h s6 ho ?_ (by rw [er, ef]; exact g) hs
      rw [hb]
      congr 2
      apply List.map_congr_left
      intro i _
      by_cases e2 : i < j ∧ at_ cl i = i
      · rw [if_pos e2, if_pos ⟨by omega, e2.2⟩]
      · rw [if_neg e2, if_neg]
        rintro ⟨h3, h4⟩
        by_cases e3 : i = j
        · subst e3; exact e h4
        · exact e2 ⟨by omega, h4⟩

theorem take_drop_map {α β : Type} {f : α → β} {l : List α} {j : Nat} {x : α} (hx : l[j]? = some x) (g : α → β) : (l.take j).map g ++ (l.drop j).map f = (l.take j).map g ++ f x :: (l.drop (j + 1)).map f := by
  rw [drop_at hx, List.map_cons]

/-- The references of one function, renamed. -/
theorem calls_ren {h0 : Heap} {N : Nat} {s3 : SA} {n : Nat} {cl : List Int} (HC : ∀ h, Fr N h0 h → VS intC 1 h s3 n cl) (C : Can n cl) (hn : n ≤ 12) {q5 : Nat} (hq5 : q5 < N) (hb5 : h0[q5]? = some (.cells ((List.range n).map fun i => .int .i64 (if at_ cl i = i then ((reps cl i).length : Int) else 0)) (.grow 1) 0))
    {cls : List (Int × Int)} (hcls : ∀ c ∈ cls, 0 ≤ c.2 ∧ c.2 < n) (hm : cls.length ≤ 16384) {s9 : SA} (h9 : ∀ q, inS s9 q → N ≤ q) (i8 : Int) (s6 : SA) (n6 : Nat) (i77 i78 : Int) (Q : Kont (AV × Heap)) :
    ∀ (k j : Nat), j + k = cls.length → ∀ (h : Heap), Fr N h0 h → GS h s9 cls.length 2 (((cls.take j).map (rnm cl) ++ cls.drop j).flatMap clC) →
    ∃ h', L12x55 mk0 E s3 n (.pos ⟨q5, 0, 0⟩) n s6 n6 i8 s9 cls.length i77 i78 ((cls.length : Nat) : Int) ((j : Nat) : Int) h Q = Q (.exit 4) (S12xe4 s3 n (.pos ⟨q5, 0, 0⟩) n s6 n6 i8 s9 cls.length i77 i78 h') ∧ (∀ q y, ¬ inS s9 q → h[q]? = some y → h'[q]? = some y) ∧ GS h' s9 cls.length 2 ((cls.map (rnm cl)).flatMap clC) := by
  have hcl := (HC h0 (Fr.refl _ _)).1
  intro k
  induction k with
  | zero =>
    intro j hj h ho g
    rw [L12x55xeq, letK_eq, if_neg (by simp; omega)]
    refine ⟨h, rfl, fun q y _ hy => hy, ?_⟩
    rw [List.take_of_length_le (by omega), List.drop_eq_nil_of_le (by omega), List.append_nil] at g
    exact g
  | succ k ih =>
    intro j hj h ho g
    obtain ⟨c, hx⟩ := at_lt (l := cls) (i := j) (by omega)
    obtain ⟨b1, b2⟩ := hcls c (List.mem_of_getElem? hx)
    obtain ⟨i2, hi2⟩ := Int.eq_ofNat_of_zero_le b1
    have c1 := C.lo i2 (by omega)
    have c2 := C.hi i2 (by omega)
    have c3 := C.fx i2 (by omega)
    obtain ⟨r, hr⟩ := Int.eq_ofNat_of_zero_le c1
    rw [hr, Int.toNat_natCast] at c3
    have g1 := at_get (l := cl) (i := i2) (by omega)
    rw [hr] at g1
    obtain ⟨bq, vq, rfl, hbq⟩ : ∃ b v, s9 = .pos ⟨b, v, 0⟩ ∧ h[b]? = some (.cells (((cls.take j).map (rnm cl) ++ cls.drop j).flatMap clC) (.grow 2) v) := by
      obtain ⟨_, _, ⟨_, q⟩ | q⟩ := g
      · omega
      · exact q
    have hat : ((cls.take j).map (rnm cl) ++ cls.drop j)[j]? = some c := by
      rw [List.getElem?_append_right (by simp; omega), List.length_map, List.length_take, Nat.min_eq_left (by omega), Nat.sub_self, drop_at hx]; rfl
    have rd : ld1 h ⟨bq, vq, 0 + j * 2 + 1⟩ = some (.int .i64 c.2) := ld1_at hbq (by
      rw [show 0 + j * 2 + 1 = j * 2 + 1 by omega, rows_get clC_len (by omega) hat]; rfl) rfl
    obtain ⟨a, ha, la⟩ := vs_ld1 (g := AV.int .i64) (HC h ho) (fun _ => rfl) i2 _ g1
    have r5 : ld1 h ⟨q5, 0, 0 + r * 1⟩ = some (.int .i64 ((reps cl r).length : Int)) := ld1_at (ho _ _ hq5 hb5) (by rw [show 0 + r * 1 = r by omega, range_get (by omega), if_pos c3]) rfl
    rw [L12x55xeq, letK_eq, if_pos (by simp; omega), chk_of (by intro _; omega), adP_pos, atP_of, Int.toNat_natCast, add_mk, add_mk, rd, gI_of, chk_of (by intro _; omega), ha, atP_of, hi2, Int.toNat_natCast, la, gI_of, chk_of (by intro _; omega), adP_pos, atP_of, Int.toNat_natCast, add_mk q5, r5, gI_of, chk_of (by intro _; omega), atP_of, add_mk, add_mk]
    have hst : st1 h ⟨bq, vq, 0 + j * 2 + 1⟩ (.int .i64 ((reps cl r).length : Int)) = some (h.set bq (.cells (((cls.take (j + 1)).map (rnm cl) ++ cls.drop (j + 1)).flatMap clC) (.grow 2) vq)) := by
      rw [st1_at hbq (by simp) (by rw [rows_len clC_len]; simp; omega), show 0 + j * 2 + 1 = j * 2 + 1 by omega, rows_set clC_len (by omega) hat (y := rnm cl c) (by unfold rnm; rw [hi2, Int.toNat_natCast, hr, Int.toNat_natCast]; rfl)]
      congr 5
      apply List.ext_getElem?
      intro q
      rw [List.getElem?_set]
      by_cases e : j = q
      · subst e
        rw [if_pos rfl, if_pos (by simp; omega), List.getElem?_append_left (by simp; omega), List.getElem?_map, List.getElem?_take, if_pos (by omega), hx]
        rfl
      · rw [if_neg e]
        by_cases e1 : q < j
        · rw [List.getElem?_append_left (by simp; omega), List.getElem?_append_left (by simp; omega), List.getElem?_map, List.getElem?_map, List.getElem?_take, List.getElem?_take, if_pos e1, if_pos (by omega)]
        · rw [List.getElem?_append_right (by simp; omega), List.getElem?_append_right (by simp; omega)]
          simp only [List.length_map, List.length_take, List.getElem?_drop]
          congr 1
          omega
    rw [hst, Option.bind_some, letK_eq, wrap64 (by omega) (by omega), show ((j : Int) + 1) = ((j + 1 : Nat) : Int) by omega]
    have hin : inS (.pos ⟨bq, vq, 0⟩) bq := ⟨_, rfl, rfl⟩
    obtain ⟨h', e1, e2, e3⟩ := ih (j + 1) (by omega) _ (ho.trans fun q y hq hy => by have := h9 bq hin; rw [set_other (by omega)]; exact hy) ⟨by rw [rows_len clC_len]; simp; omega, rows_flat cl_flat _, .inr ⟨bq, vq, rfl, set_same hbq⟩⟩
    refine ⟨h', e1, fun q y hq hy => e2 q y hq ?_, e3⟩
    rw [set_other (fun e => hq (by rw [← e]; exact hin))]
    exact hy

theorem vs_keep {α : Type} {f : α → List AV} {es n : Nat} {h h' : Heap} {s : SA} {l : List α} (H : VS f es h s n l) (k : ∀ q y, inS s q → h[q]? = some y → h'[q]? = some y) : VS f es h' s n l := by
  obtain ⟨hl, H | ⟨b, v, o, c, m, rfl, hb, hc⟩⟩ := H
  · exact ⟨hl, .inl H⟩
  · exact ⟨hl, .inr ⟨b, v, o, c, m, rfl, k _ _ ⟨_, rfl, rfl⟩ hb, hc⟩⟩

/-- All but one slice stands. -/
def KB (s6 : SA) (h0 h : Heap) : Prop := ∀ q y, ¬ inS s6 q → h0[q]? = some y → h[q]? = some y

def ren (cl : List Int) (f : Fn) (s : SA) : Fn := { f with sC := s, cls := f.cls.map (rnm cl) }

/-- A function, its references renamed. -/
def Ren (cl : List Int) (s6 : SA) (h : Heap) (y f : Fn) : Prop := ∃ s, y = ren cl f s ∧ VS clC 2 h s f.cls.length (f.cls.map (rnm cl)) ∧ ∀ q, inS s q → ¬ inS s6 q

theorem Ren.keep {cl : List Int} {s6 : SA} {h h' : Heap} {y f : Fn} (H : Ren cl s6 h y f) (k : ∀ q z, ¬ inS s6 q → h[q]? = some z → h'[q]? = some z) : Ren cl s6 h' y f := by
  obtain ⟨s, h1, h2, h3⟩ := H
  exact ⟨s, h1, vs_keep h2 fun q z hq hz => k q z (h3 q hq) hz, h3⟩

theorem ren_loop {h0 : Heap} {s3 s6 : SA} {n n6 : Nat} {cl : List Int} {fs : List Fn} (HC : ∀ h, KB s6 h0 h → VS intC 1 h s3 n cl) (C : Can n cl) (hn : n ≤ 12) {q5 : Nat} (hq5 : ¬ inS s6 q5) (hb5 : h0[q5]? = some (.cells ((List.range n).map fun i => .int .i64 (if at_ cl i = i then ((reps cl i).length : Int) else 0)) (.grow 1) 0))
    (RK : ∀ h, KB s6 h0 h → ∀ f ∈ fs, f.R h) (hcls : ∀ f ∈ fs, ∀ c ∈ f.cls, 0 ≤ c.2 ∧ c.2 < n) (hm : ∀ f ∈ fs, f.cls.length ≤ 16384) (hfl : fs.length = n6) (hn6 : n6 ≤ 12) : ∀ (k i : Nat), i + k = n6 → ∀ (h : Heap) (ys : List Fn), KB s6 h0 h → h0.length ≤ h.length → GS h s6 n6 5 (ys.flatMap Fn.cells) → ys.length = n6 →
    (∀ (p : Nat) y f, ys[p]? = some y → fs[p]? = some f → if p < i then Ren cl s6 h y f else y = f) →
    ∃ (h' : Heap) (ys' : List Fn), L12x43 mk0 E s3 n (.pos ⟨q5, 0, 0⟩) n s6 n6 ((n6 : Nat) : Int) ((i : Nat) : Int) h (Q12x43 mk0 E) = Q12x43 mk0 E (.exit 2) (S12xe2 s6 n6 h') ∧ KB s6 h0 h' ∧ GS h' s6 n6 5 (ys'.flatMap Fn.cells) ∧ ys'.length = n6 ∧ (∀ (p : Nat) y f, ys'[p]? = some y → fs[p]? = some f → Ren cl s6 h' y f) := by
  intro k
  induction k with
  | zero =>
    intro i hi h ys kb hle g hl H
    rw [L12x43xeq, letK_eq, if_neg (by simp; omega)]
    refine ⟨h, ys, rfl, kb, g, hl, fun p y f hy hf => ?_⟩
    have := H p y f hy hf
    rw [if_pos (by have := (List.getElem?_eq_some_iff.1 hy).1; omega)] at this
    exact this
  | succ k ih =>
    intro i hi h ys kb hle g hl H
    obtain ⟨f, hf⟩ := at_lt (l := fs) (i := i) (by omega)
    have hfm := List.mem_of_getElem? hf
    obtain ⟨y, hy⟩ := at_lt (l := ys) (i := i) (by omega)
    have hyf := H i y f hy hf
    rw [if_neg (by omega)] at hyf
    subst hyf
    obtain ⟨b6, v6, rfl, hb6⟩ : ∃ b v, s6 = .pos ⟨b, v, 0⟩ ∧ h[b]? = some (.cells (ys.flatMap Fn.cells) (.grow 5) v) := by
      obtain ⟨_, _, ⟨_, q⟩ | q⟩ := g
      · omega
      · exact q
    have hin6 : inS (.pos ⟨b6, v6, 0⟩) b6 := ⟨_, rfl, rfl⟩
    have hb6l := (List.getElem?_eq_some_iff.1 hb6).1
    have rd : ld1 h ⟨b6, v6, 0 + i * 5 + 2⟩ = some (.sl y.sC y.cls.length) := ld1_at hb6 (by rw [show 0 + i * 5 + 2 = i * 5 + 2 by omega, rows_get fn_len (by omega) hy]; rfl) rfl
    obtain ⟨h1, s9, c1, c2, c3, c4⟩ := cloneC_ok (RK h kb y hfm).c (hm y hfm)
    have kb1 : KB (.pos ⟨b6, v6, 0⟩) h0 h1 := fun q z hq hz => c2 q z (kb q z hq hz)
    have n9 : ∀ q, inS s9 q → ¬ inS (.pos ⟨b6, v6, 0⟩) q := fun q hq hh => by
      have := c4 q hq
      obtain ⟨a, ha, e⟩ := hh
      cases ha
      have e' : b6 = q := e
      omega
    have h0q := (List.getElem?_eq_some_iff.1 hb5).1
    obtain ⟨h2, e1, e2, e3⟩ := calls_ren (h0 := h1) (N := h.length) (fun hh hf => HC hh fun q z hq hz => hf q z (by have := (List.getElem?_eq_some_iff.1 hz).1; omega) (kb1 q z hq hz)) C hn (q5 := q5) (by omega) (kb1 _ _ hq5 hb5) (hcls y hfm) (hm y hfm) (s9 := s9) c4 ((i : Nat) : Int) (.pos ⟨b6, v6, 0⟩) n6 ((n6 : Nat) : Int) ((i : Nat) : Int) (Q12x55 mk0 E (Q12x43 mk0 E)) y.cls.length 0 (by omega) h1 (Fr.refl _ _) (by simpa using c3)
    have e1' : L12x55 mk0 E s3 n (.pos ⟨q5, 0, 0⟩) n (.pos ⟨b6, v6, 0⟩) n6 ((i : Nat) : Int) s9 y.cls.length ((n6 : Nat) : Int) ((i : Nat) : Int) ((y.cls.length : Nat) : Int) 0 h1 (Q12x55 mk0 E (Q12x43 mk0 E)) = _ := e1
    have hb62 : h2[b6]? = some (.cells (ys.flatMap Fn.cells) (.grow 5) v6) := e2 _ _ (fun hh => by have := c4 _ hh; omega) (c2 _ _ hb6)
    have hst : st1 h2 ⟨b6, v6, 0 + i * 5 + 2⟩ (.sl s9 y.cls.length) = some (h2.set b6 (.cells ((ys.set i (ren cl y s9)).flatMap Fn.cells) (.grow 5) v6)) := by
      rw [st1_at hb62 (by simp) (by rw [rows_len fn_len]; omega), show 0 + i * 5 + 2 = i * 5 + 2 by omega, rows_set fn_len (by omega) hy (y := ren cl y s9) (by unfold ren Fn.cells; dsimp only; rw [List.length_map]; rfl)]
    rw [L12x43xeq, letK_eq, if_pos (by simp; omega), chk_of (by intro _; omega), adP_pos, atP_of, Int.toNat_natCast, add_mk, add_mk b6 v6, rd, gL_of, c1, Option.bind_some, gL_of, e1', X12x55xe4, chk_of (by intro _; omega), adP_pos, atP_of, Int.toNat_natCast, add_mk, add_mk b6 v6, hst, Option.bind_some, letK_eq, wrap64 (by omega) (by omega), show ((i : Int) + 1) = ((i + 1 : Nat) : Int) by omega]
    have kp : ∀ q z, ¬ inS (.pos ⟨b6, v6, 0⟩) q → ¬ inS s9 q → h[q]? = some z → (h2.set b6 (.cells ((ys.set i (ren cl y s9)).flatMap Fn.cells) (.grow 5) v6))[q]? = some z := by
      intro q z hq h9 hz
      rw [set_other (fun e => hq (by rw [← e]; exact hin6))]
      exact e2 q z h9 (c2 q z hz)
    refine ih (i + 1) (by omega) _ (ys.set i (ren cl y s9)) (fun q z hq hz => kp q z hq (fun hh => by have := c4 q hh; have := (List.getElem?_eq_some_iff.1 hz).1; omega) (kb q z hq hz)) ?_ ⟨by rw [rows_len fn_len, List.length_set, hl], rows_flat fn_flat _, .inr ⟨b6, v6, rfl, set_same hb62⟩⟩ (by rw [List.length_set]; exact hl) ?_
    · rw [List.length_set]
      have := c2.le
      have : h1.length ≤ h2.length := by
        rcases Nat.lt_or_ge h2.length h1.length with hlt | hge
        · exfalso
          -- the last block of h1 would be gone
          have hz : h1[h1.length - 1]? = some (h1[h1.length - 1]'(by omega)) := List.getElem?_eq_getElem (by omega)
          by_cases hi9 : inS s9 (h1.length - 1)
          · have := gs_lt e3 hi9; omega
          · have := (List.getElem?_eq_some_iff.1 (e2 _ _ hi9 hz)).1; omega
        · exact hge
      omega
    · intro p z g' hz hg'
      rw [List.getElem?_set] at hz
      by_cases e : i = p
      · subst e
        rw [if_pos rfl, if_pos (by omega)] at hz
        injection hz with hz
        rw [hf] at hg'
        injection hg' with hg'
        subst hg'
        rw [if_pos (by omega)]
        refine ⟨s9, hz.symm, ?_, n9⟩
        have g9 := gs_set e3 (q := b6) (fun hh => by have := c4 _ hh; omega) (.cells ((ys.set i (ren cl y s9)).flatMap Fn.cells) (.grow 5) v6)
        exact vs_GS clC_len (by simp) g9
      · rw [if_neg e] at hz
        have := H p z g' hz hg'
        by_cases hp : p < i
        · rw [if_pos hp] at this
          rw [if_pos (by omega)]
          obtain ⟨s, q1, q2, q3⟩ := this
          exact ⟨s, q1, vs_keep q2 fun q w hq hw => kp q w (q3 q hq) (fun hh => by have := c4 q hh; have := (List.getElem?_eq_some_iff.1 hw).1; omega) hw, q3⟩
        · rw [if_neg hp] at this
          rw [if_neg (by omega)]
          exact this

/-! ### Merged again, nothing is merged -/

theorem again_id {l ys : List Fn} {n : Nat} {cl cl' : List Int} (hl : l.length = n) (hok : ∀ f ∈ l, fnOk n f) (M : Mrg l cl) (M' : Mrg ys cl') (hys : ys.length = (reps cl n).length) (H : ∀ (p : Nat) y f, ys[p]? = some y → (fsts l cl n)[p]? = some f → ∃ s, y = ren cl f s) : ∀ i, i < ys.length → at_ cl' i = i := by
  have C := M.can
  rw [hl] at C
  have C' := M'.can
  -- the renamed first one of a class
  have rep : ∀ i f, l[i]? = some f → ∃ r fr y, at_ cl i = ((r : Nat) : Int) ∧ at_ cl r = r ∧ l[r]? = some fr ∧ ys[(reps cl r).length]? = some y ∧ (∃ s, y = ren cl fr s) ∧ r < n := by
    intro i f hf
    have hi := (List.getElem?_eq_some_iff.1 hf).1
    have c1 := C.lo i (by omega)
    have c2 := C.hi i (by omega)
    have c3 := C.fx i (by omega)
    obtain ⟨r, hr⟩ := Int.eq_ofNat_of_zero_le c1
    rw [hr, Int.toNat_natCast] at c3
    obtain ⟨fr, hfr⟩ := at_lt (l := l) (i := r) (by omega)
    have h1 := reps_at cl c3 (n - (r + 1))
    rw [show r + 1 + (n - (r + 1)) = n by omega] at h1
    have h2 : (fsts l cl n)[(reps cl r).length]? = some fr := by
      unfold fsts
      rw [List.getElem?_map, h1]
      show some (fnAt l r) = _
      unfold fnAt
      rw [hfr]; rfl
    obtain ⟨y, hy⟩ := at_lt (l := ys) (i := (reps cl r).length) (by rw [hys]; exact (List.getElem?_eq_some_iff.1 h1).1)
    exact ⟨r, fr, y, hr, c3, hfr, hy, H _ _ _ hy h2, by omega⟩
  let c : Nat → Int := fun p => at_ cl' (reps cl (at_ cl p).toNat).length
  have key := M.co c fun i k f g hf hg hc => by
    obtain ⟨r, fr, y, r1, r2, r3, r4, ⟨s, r5⟩, r6⟩ := rep i f hf
    obtain ⟨q, fq, z, q1, q2, q3, q4, ⟨t, q5⟩, q6⟩ := rep k g hg
    have hc' : at_ cl' (reps cl r).length = at_ cl' (reps cl q).length := by
      have : at_ cl' (reps cl (at_ cl i).toNat).length = at_ cl' (reps cl (at_ cl k).toNat).length := hc
      rw [r1, q1, Int.toNat_natCast, Int.toNat_natCast] at this
      exact this
    have s1 := M.st i r f fr hf r3 (by rw [r1, r2])
    have s2 := M.st k q g fq hg q3 (by rw [q1, q2])
    have s3 := M'.st _ _ y z r4 q4 hc'
    rw [r5, q5] at s3
    unfold sig at s1 s2 s3
    rw [Prod.mk.injEq, Prod.mk.injEq, Prod.mk.injEq] at s1 s2 s3
    obtain ⟨a1, a2, a3, a4⟩ := s1
    obtain ⟨b1, b2, b3, b4⟩ := s2
    obtain ⟨d1, d2, d3, d4⟩ := s3
    have thr : ∀ (u v : List (Int × Int)), u.map (cv cl) = v.map (cv cl) → u.map (fun x => (x.1, c x.2.toNat)) = v.map (fun x => (x.1, c x.2.toNat)) := by
      intro u v huv
      refine map_through (β := Int × Int) (γ := Int × Int) (u := cv cl) (v := fun y => y) (δ := Int) (fun x _ w _ he => ?_) huv
      unfold cv at he
      injection he with e1 e2
      have e2' : at_ cl x.2.toNat = at_ cl w.2.toNat := e2
      show (x.1, at_ cl' (reps cl (at_ cl x.2.toNat).toNat).length) = (w.1, at_ cl' (reps cl (at_ cl w.2.toNat).toNat).length)
      rw [e1, e2']
    refine ⟨a1.trans (d1.trans b1.symm), a2.trans (d2.trans b2.symm), a3.trans (d3.trans b3.symm), (thr _ _ a4).trans (Eq.trans ?_ (thr _ _ b4).symm)⟩
    have dd : (fr.cls.map (rnm cl)).map (cv cl') = (fq.cls.map (rnm cl)).map (cv cl') := d4
    rw [List.map_map, List.map_map] at dd
    exact dd
  intro i hi
  have h1 := C'.lo i hi
  have h2 := C'.hi i hi
  have h3 := C'.fx i hi
  obtain ⟨j, hj⟩ := Int.eq_ofNat_of_zero_le h1
  rw [hj, Int.toNat_natCast] at h3
  obtain ⟨r, hr⟩ := at_lt (l := reps cl n) (i := i) (by omega)
  obtain ⟨q, hq⟩ := at_lt (l := reps cl n) (i := j) (by omega)
  have r1 := reps_mem cl n r (List.mem_of_getElem? hr)
  have q1 := reps_mem cl n q (List.mem_of_getElem? hq)
  have r2 := reps_pos cl n i r hr
  have q2 := reps_pos cl n j q hq
  have := key r q (by omega) (by omega) (by
    show at_ cl' (reps cl (at_ cl r).toNat).length = at_ cl' (reps cl (at_ cl q).toNat).length
    rw [r1.2, q1.2, Int.toNat_natCast, Int.toNat_natCast, r2, q2, hj, h3])
  rw [r1.2, q1.2] at this
  have hrq : r = q := by omega
  subst hrq
  rw [hj]
  omega

theorem again_loop {h : Heap} {s6 s11 : SA} {n6 : Nat} {cl' : List Int} (H : VS intC 1 h s11 n6 cl') (hi : ∀ i, i < n6 → at_ cl' i = i) (hn : n6 ≤ 256) : ∀ (k j : Nat), j + k = n6 →
    L12x67 mk0 E 0 s6 n6 s11 n6 s11 n6 ((n6 : Nat) : Int) ((j : Nat) : Int) h (Q12x67 mk0 E) = some (.bool true, h) := by
  have hl := H.1
  intro k
  induction k with
  | zero =>
    intro j hj
    rw [L12x67xeq, letK_eq, if_neg (by simp; omega), X12x67xe6, letK_eq, letK_eq, letK_eq]
    simp
  | succ k ih =>
    intro j hj
    have g := at_get (l := cl') (i := j) (by omega)
    rw [hi j (by omega)] at g
    obtain ⟨a, ha, la⟩ := vs_ld1 (g := AV.int .i64) H (fun _ => rfl) j _ g
    rw [L12x67xeq, letK_eq, if_pos (by simp; omega), chk_of (by intro _; omega), ha, atP_of, Int.toNat_natCast, la, gI_of, letK_eq, if_neg (by simp), letK_eq, wrap64 (by omega) (by omega), show ((j : Int) + 1) = ((j + 1 : Nat) : Int) by omega]
    exact ih (j + 1) (by omega)

theorem ren_ok {l : List Fn} {n : Nat} {cl : List Int} (hl : l.length = n) (hok : ∀ f ∈ l, fnOk n f) (C : Can n cl) {f : Fn} (hf : f ∈ l) (s : SA) : fnOk (reps cl n).length (ren cl f s) := by
  obtain ⟨h1, h2, h3, h4, h5, h6, h7⟩ := hok f hf
  refine ⟨h1, h2, h3, h4, h5, ?_, h7⟩
  have key : ∀ (r : List (Int × Int)) (last : Int), callsOk f.its n last r → callsOk f.its (reps cl n).length last (r.map (rnm cl)) := by
    intro r
    induction r with
    | nil => intro last _; trivial
    | cons c r ih =>
      intro last h
      have c1 := C.lo c.2.toNat (by have := h.2.2.1; have := h.2.2.2.1; omega)
      have c2 := C.hi c.2.toNat (by have := h.2.2.1; have := h.2.2.2.1; omega)
      have c3 := C.fx c.2.toNat (by have := h.2.2.1; have := h.2.2.2.1; omega)
      obtain ⟨r', hr⟩ := Int.eq_ofNat_of_zero_le c1
      rw [hr, Int.toNat_natCast] at c3
      have h8 := reps_at cl c3 (n - (r' + 1))
      rw [show r' + 1 + (n - (r' + 1)) = n by have := h.2.2.1; have := h.2.2.2.1; omega] at h8
      have h9 := (List.getElem?_eq_some_iff.1 h8).1
      refine ⟨h.1, h.2.1, ?_, ?_, h.2.2.2.2.1, ih _ h.2.2.2.2.2⟩
      · show (0 : Int) ≤ ((reps cl (at_ cl c.2.toNat).toNat).length : Int)
        omega
      · show ((reps cl (at_ cl c.2.toNat).toNat).length : Int) < _
        rw [hr, Int.toNat_natCast]; omega
  exact key f.cls (-1) h6

theorem linkAgain_ok {h : Heap} {s0 : SA} {n0 : Nat} {l : List Fn} (HL : VS Fn.cells 5 h s0 n0 l) (R : ∀ f ∈ l, f.R h) : ∃ h', E 12 [.sl s0 n0] h = some (.bool true, h') := by
  obtain ⟨h1, f1, o1⟩ := linkFact_ok h
  have hmin : (min (n0 : Int) 12).toNat = min n0 12 := by omega
  rw [e12, f1, Option.bind_some, gB_of, if_neg (by simp), letK_eq, mm_min, chkC_of (by intro _; exact ⟨by omega, .inl (by omega)⟩), letK_eq, hmin]
  have HL1 := vs_take (vs_old HL o1) (min n0 12) (Nat.min_le_left _ _)
  have R1 : ∀ f ∈ l.take (min n0 12), f.R h1 := fun f hf => (R f (List.mem_of_mem_take hf)).old o1
  have hn : min n0 12 ≤ 12 := Nat.min_le_right _ _
  generalize min n0 12 = n at *
  generalize l.take n = m at *
  have hml := HL1.1
  by_cases ok : n ≤ 256 ∧ ∀ f ∈ m, fnOk n f
  · obtain ⟨h2, s3, cl, e2, o2, HC, M⟩ := merge_ok HL1 R1 ok.1 ok.2
    have C := M.can
    rw [hml] at C
    rw [e2, Option.bind_some, gT2_of]
    simp only [List.getD_cons_zero, List.getD_cons_succ]
    have r0 : repl n [AV.int .i64 0] = (List.range n).map fun i => .int .i64 (if i < 0 ∧ at_ cl i = i then ((reps cl i).length : Int) else 0) := by
      show List.replicate n (AV.int .i64 0) = _
      apply List.ext_getElem
      · simp
      · intro i a b; simp
    rw [gL_of, gI_of, letK_eq, if_neg (by simp), letK_eq, if_neg (by simp), chk_of (by omega), newK_eq, letK_eq, Int.toNat_natCast, r0]
    have HL2 := vs_old HL1 o2
    obtain ⟨h3, s6, e3, o3, b5, g6, d6⟩ := first_loop2 HL2 HC C hn (q5 := h2.length) (Nat.le_refl _) n 0 (by omega) (h2 ++ [.cells ((List.range n).map fun i => .int .i64 (if i < 0 ∧ at_ cl i = i then ((reps cl i).length : Int) else 0)) (.grow 1) 0]) .nil (old_app _ _) (last_get _ _) ⟨rfl, rfl, .inl ⟨rfl, rfl⟩⟩ (fun q hq => by obtain ⟨a, ha, _⟩ := hq; cases ha)
    have e3' : L12x23 mk0 E s0 n s3 n (.pos ⟨h2.length, 0, 0⟩) n .nil 0 ((n : Nat) : Int) 0 _ (Q12x23 mk0 E) = _ := e3
    have hrl := reps_len cl n
    have hfl : (fsts m cl n).length = (reps cl n).length := by unfold fsts; rw [List.length_map]
    have hfm : ∀ f ∈ fsts m cl n, f ∈ m := by
      intro f hf
      unfold fsts at hf
      obtain ⟨r, hr, rfl⟩ := List.mem_map.1 hf
      have := (reps_mem cl n r hr).1
      obtain ⟨g, hg⟩ := at_lt (l := m) (i := r) (by omega)
      unfold fnAt
      rw [hg]
      exact List.mem_of_getElem? hg
    have kO : ∀ hh, KB s6 h3 hh → Old h2 hh := fun hh kb q y hy => kb q y (fun hi => by have := (d6 q hi).1; have := (List.getElem?_eq_some_iff.1 hy).1; omega) (o3 q y hy)
    obtain ⟨h4, ys, e4, k4, g4, l4, r4⟩ := ren_loop (h0 := h3) (s6 := s6) (fs := fsts m cl n) (fun hh kb => vs_old HC (kO hh kb)) C hn (q5 := h2.length) (fun hi => (d6 _ hi).2 rfl) b5
      (fun hh kb f hf => ((R1 f (hfm f hf)).old o2).old (kO hh kb)) (fun f hf c hc => by obtain ⟨_, q2, q3, q4, q5, _⟩ := callsOk_bd (by omega) (ok.2 f (hfm f hf)).2.2.2.2.2.1 c hc; exact ⟨q4, q5⟩)
      (fun f hf => by have h5 := ok.2 f (hfm f hf); have := callsOk_len (by omega : (-1 : Int) ≤ -1) h5.2.2.2.2.2.1; have := h5.1.1; omega) hfl (by omega) (reps cl n).length 0 (by omega) h3 (fsts m cl n) (fun q y _ hy => hy) (Nat.le_refl _) g6 hfl (fun p y f hy hf => by rw [if_neg (by omega)]; rw [hy] at hf; injection hf)
    have e4' : L12x43 mk0 E s3 n (.pos ⟨h2.length, 0, 0⟩) n s6 (reps cl n).length (((reps cl n).length : Nat) : Int) 0 h3 (Q12x43 mk0 E) = _ := e4
    have HY : VS Fn.cells 5 h4 s6 (reps cl n).length ys := vs_GS fn_len l4 g4
    have hof : ∀ y ∈ ys, ∃ f ∈ fsts m cl n, Ren cl s6 h4 y f := by
      intro y hy
      obtain ⟨p, hp⟩ := List.mem_iff_getElem?.1 hy
      obtain ⟨f, hf⟩ := at_lt (l := fsts m cl n) (i := p) (by have := (List.getElem?_eq_some_iff.1 hp).1; omega)
      exact ⟨f, List.mem_of_getElem? hf, r4 p y f hp hf⟩
    have RY : ∀ y ∈ ys, y.R h4 := by
      intro y hy
      obtain ⟨f, hf, s, rfl, hv, _⟩ := hof y hy
      have F := ((R1 f (hfm f hf)).old o2).old (kO h4 k4)
      exact ⟨F.i, by show VS clC 2 h4 s (f.cls.map (rnm cl)).length _; rw [List.length_map]; exact hv, F.m, F.s, F.bi, by show (f.cls.map (rnm cl)).length < _; rw [List.length_map]; exact F.bc, F.bm⟩
    have okY : ∀ y ∈ ys, fnOk (reps cl n).length y := by
      intro y hy
      obtain ⟨f, hf, s, rfl, _, _⟩ := hof y hy
      exact ren_ok hml ok.2 C (hfm f hf) s
    obtain ⟨h5, s11, cl', e5, o5, HC', M'⟩ := merge_ok HY RY (by omega) okY
    have idd := again_id hml ok.2 M M' l4 fun p y f hy hf => by obtain ⟨s, q1, _⟩ := r4 p y f hy hf; exact ⟨s, q1⟩
    rw [l4] at idd
    have fin := again_loop (s6 := s6) HC' idd (by omega) (reps cl n).length 0 (by omega)
    have fin' : L12x67 mk0 E 0 s6 (reps cl n).length s11 (reps cl n).length s11 (reps cl n).length (((reps cl n).length : Nat) : Int) 0 h5 (Q12x67 mk0 E) = _ := fin
    rw [e3', X12x23xe0, e4', X12x43xe2, e5, Option.bind_some, gT2_of]
    simp only [List.getD_cons_zero, List.getD_cons_succ]
    rw [gL_of, gI_of, fin']
    exact ⟨h5, rfl⟩
  · obtain ⟨e, m1, m2⟩ := merge_bad HL1 R1 ok
    rw [m1, Option.bind_some, gT2_of]
    simp only [List.getD_cons_zero, List.getD_cons_succ]
    rw [gL_of, gI_of, letK_eq, if_pos (by simp [m2]), letK_eq]
    exact ⟨h1, rfl⟩

end Go.Proofs.Ytmfmnbldngfelaa.I
