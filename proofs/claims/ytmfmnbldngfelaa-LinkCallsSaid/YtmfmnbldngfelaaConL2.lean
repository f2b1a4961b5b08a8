/- link: stack maps, and the image. -/
import Derived.Test.YtmfmnbldngfelaaConL
set_option linter.unusedVariables false
set_option linter.unusedSimpArgs false
namespace Go.Proofs.Ytmfmnbldngfelaa.I
open Go Go.Proofs.Ytmfmnbldngfelaa.Abs Go.Proofs

theorem vs_ldSl {α : Type} {f : α → List AV} {es : Nat} (he : 0 < es) (hf : ∀ x, (f x).length = es) (ff : ∀ x, flatL (f x) = true) {h : Heap} {s : SA} {n : Nat} {l : List α} (H : VS f es h s n l) : ldSl h s (n * es) = some (l.flatMap f) := by
  obtain ⟨hl, H | ⟨b, v, o, c, m, rfl, hb, hc⟩⟩ := H
  · subst H
    have : l = [] := List.length_eq_zero_iff.1 hl
    subst this
    rw [Nat.zero_mul]; rfl
  · have key : ∀ (l : List α) (o : Nat), (∀ i x, l[i]? = some x → o + i * es + es ≤ c.length ∧ (c.drop (o + i * es)).take es = f x) → (o ≤ c.length ∨ l ≠ [] → o + l.length * es ≤ c.length) ∧ (c.drop o).take (l.length * es) = l.flatMap f := by
      intro l
      induction l with
      | nil => intro o _; exact ⟨fun h => by rcases h with h | h; simpa using h; exact absurd rfl h, by simp⟩
      | cons x l ih =>
        intro o H
        obtain ⟨h1, h2⟩ := H 0 x rfl
        rw [Nat.zero_mul, Nat.add_zero] at h1 h2
        obtain ⟨i1, i2⟩ := ih (o + es) fun i y hy => by
          have := H (i + 1) y (by simpa using hy)
          rw [Nat.add_mul, Nat.one_mul] at this
          rw [show o + es + i * es = o + (i * es + es) by omega]
          exact this
        have e1 : (x :: l).length * es = es + l.length * es := by rw [List.length_cons, Nat.add_mul]; omega
        refine ⟨fun _ => ?_, ?_⟩
        · have := i1 (.inl h1); omega
        · rw [e1, List.take_add, h2, List.drop_drop, i2, List.flatMap_cons]
    obtain ⟨k1, k2⟩ := key l o hc
    cases n with
    | zero =>
      have : l = [] := List.length_eq_zero_iff.1 hl
      subst this
      rw [Nat.zero_mul]; rfl
    | succ n =>
      have hne : l ≠ [] := by intro e; rw [e] at hl; simp at hl
      have k3 := k1 (.inr hne)
      rw [hl] at k2 k3
      have hpos : 0 < (n + 1) * es := Nat.mul_pos (by omega) he
      obtain ⟨w, hw⟩ : ∃ w, (n + 1) * es = w + 1 := ⟨(n + 1) * es - 1, by omega⟩
      rw [hw] at k2 k3 ⊢
      show ldN h ⟨b, v, o⟩ (w + 1) = _
      unfold ldN
      rw [hb]
      dsimp only
      rw [if_pos ⟨rfl, k3, by rw [k2]; exact rows_flat ff l⟩, k2]

theorem vs_drop {α : Type} {f : α → List AV} {es : Nat} {h : Heap} {s : SA} {n : Nat} {l : List α} (H : VS f es h s n l) (k m : Nat) (hk : k + m ≤ n) : VS f es h (adS s (k * es) m) m ((l.drop k).take m) := by
  obtain ⟨hl, H⟩ := H
  refine ⟨by rw [List.length_take, List.length_drop]; omega, ?_⟩
  cases m with
  | zero => exact .inl rfl
  | succ m =>
    rcases H with H | ⟨b, v, o, c, md, rfl, hb, hc⟩
    · omega
    · refine .inr ⟨b, v, o + k * es, c, md, rfl, hb, fun i x hx => ?_⟩
      rw [List.getElem?_take] at hx
      split at hx
      · rw [List.getElem?_drop] at hx
        have := hc (k + i) x hx
        rw [Nat.add_mul] at this
        rw [show o + k * es + i * es = o + (k * es + i * es) by omega]
        exact this
      · cases hx

/-- A copy of a list. -/
theorem clone_aux {α : Type} {f : α → List AV} {es bytes : Nat} (he : 0 < es) (hf : ∀ x, (f x).length = es) (ff : ∀ x, flatL (f x) = true) {h : Heap} {s : SA} {l : List α} (H : VS f es h s l.length l) (hb : l.length * bytes ≤ 140737488355328) :
    ∃ h' s', ldSl (h ++ [.cells [] (.grow es) 0]) s (l.length * es) = some (l.flatMap f) ∧ apnd (h ++ [.cells [] (.grow es) 0]) (.sl (.pos ⟨h.length, 0, 0⟩) 0) es bytes (l.flatMap f) l.length = some (.sl s' l.length, h') ∧ Old h h' ∧ GS h' s' l.length es (l.flatMap f) ∧ ∀ q, inS s' q → h.length ≤ q := by
  have ho := old_app h [.cells [] (.grow es) 0]
  have g0 : GS (h ++ [.cells [] (.grow es) 0]) (.pos ⟨h.length, 0, 0⟩) 0 es [] := ⟨by simp, rfl, .inr ⟨_, _, rfl, last_get _ _⟩⟩
  cases hl : l.length with
  | zero =>
    have : l = [] := List.length_eq_zero_iff.1 hl
    subst this
    exact ⟨_, .pos ⟨h.length, 0, 0⟩, by rw [Nat.zero_mul]; rfl, rfl, ho, g0, fun q hq => by obtain ⟨a, ha, rfl⟩ := hq; cases ha; exact Nat.le_refl _⟩
  | succ m =>
    rw [← hl]
    obtain ⟨s', h', a1, a2, a3, a4, a5⟩ := apnd_GS (m := l.length) (bytes := bytes) (ys := l.flatMap f) g0 (by omega) he (rows_len hf l) (rows_flat ff l) (rows_flat ff l) (by rw [Nat.zero_add]; exact hb)
    rw [Nat.zero_add] at a1 a2
    refine ⟨h', s', vs_ldSl he hf ff (vs_old H ho), a1, fun q y hy => a4 q y (app_old hy) fun hh => ?_, a2, fun q hq => ?_⟩
    · obtain ⟨a, ha, e⟩ := hh
      cases ha
      have := (List.getElem?_eq_some_iff.1 hy).1
      have : h.length = q := e
      omega
    · rcases a5 q hq with hh | hh
      · obtain ⟨a, ha, e⟩ := hh
        cases ha
        exact Nat.le_of_eq e
      · rw [List.length_append] at hh; omega

theorem intC_len (x : Int) : (intC x).length = 1 := rfl
theorem intC_flat (x : Int) : flatL (intC x) = true := rfl
theorem clC_len (x : Int × Int) : (clC x).length = 2 := rfl

theorem cloneI_ok {h : Heap} {s : SA} {l : List Int} (H : VS intC 1 h s l.length l) (hb : l.length < big) : ∃ h' s', E 59 [.sl s l.length] h = some (.sl s' l.length, h') ∧ Old h h' ∧ VS intC 1 h' s' l.length l := by
  have hbig : big = 17592186044416 := rfl
  rw [e59]
  by_cases e : s.isNil = true
  · rw [if_pos e]
    have hn : l = [] := by
      rcases H.2 with h1 | ⟨b, v, o, c, m, rfl, _⟩
      · exact List.length_eq_zero_iff.1 h1
      · cases e
    subst hn
    exact ⟨h, .nil, rfl, Old.refl _, rfl, .inl rfl⟩
  · rw [if_neg e, newK_eq]
    obtain ⟨h', s', c1, c2, c3, c4, c5⟩ := clone_aux (f := intC) (bytes := 8) (by omega) intC_len intC_flat H (by omega)
    rw [c1, Option.bind_some, c2, Option.bind_some, gL_of]
    exact ⟨h', s', rfl, c3, vs_GS intC_len rfl c4⟩

theorem cloneC_ok {h : Heap} {s : SA} {l : List (Int × Int)} (H : VS clC 2 h s l.length l) (hb : l.length ≤ 16384) : ∃ h' s', E 34 [.sl s l.length] h = some (.sl s' l.length, h') ∧ Old h h' ∧ GS h' s' l.length 2 (l.flatMap clC) ∧ (∀ q, inS s' q → h.length ≤ q) := by
  rw [e34]
  by_cases e : s.isNil = true
  · rw [if_pos e]
    have hn : l = [] := by
      rcases H.2 with h1 | ⟨b, v, o, c, m, rfl, _⟩
      · exact List.length_eq_zero_iff.1 h1
      · cases e
    subst hn
    exact ⟨h, .nil, rfl, Old.refl _, ⟨rfl, rfl, .inl ⟨rfl, rfl⟩⟩, fun q hq => by obtain ⟨a, ha, _⟩ := hq; cases ha⟩
  · rw [if_neg e, newK_eq]
    obtain ⟨h', s', c1, c2, c3, c4, c5⟩ := clone_aux (f := clC) (bytes := 16) (by omega) clC_len cl_flat H (by omega)
    rw [c1, Option.bind_some, c2, Option.bind_some, gL_of]
    exact ⟨h', s', rfl, c3, c4, c5⟩

theorem mapsOk_len {ni : Nat} : ∀ {r : List Mp} {last : Int}, -1 ≤ last → mapsOk ni last r → (r.length : Int) + last + 1 ≤ max (ni : Int) (last + 1)
  | [], last, _, _ => by simp; omega
  | m :: r, last, h0, h => by
    have h1 := h.1
    have := mapsOk_len (by omega : -1 ≤ m.item) h.2.2.2
    have h2 := h.2.1
    rw [List.length_cons]
    omega

theorem callsOk_len {its : List It} {many : Nat} : ∀ {r : List (Int × Int)} {last : Int}, -1 ≤ last → callsOk its many last r → (r.length : Int) + last + 1 ≤ max (its.length : Int) (last + 1)
  | [], last, _, _ => by simp; omega
  | c :: r, last, h0, h => by
    have h1 := h.1
    have := callsOk_len (by omega : -1 ≤ c.1) h.2.2.2.2.2
    have h2 := h.2.1
    rw [List.length_cons]
    omega

theorem mapsOk_mem {ni : Nat} : ∀ {r : List Mp} {last : Int}, -1 ≤ last → mapsOk ni last r → ∀ m ∈ r, 0 ≤ m.item ∧ m.item < ni ∧ (m.aft = true → m.item + 1 < ni)
  | [], _, _, _, m, hm => by cases hm
  | x :: r, last, h0, h, m, hm => by
    rcases List.mem_cons.1 hm with rfl | hm
    · exact ⟨by have := h.1; omega, h.2.1, h.2.2.1⟩
    · exact mapsOk_mem (by have := h.1; omega) h.2.2.2 m hm

theorem ldN_one {h : Heap} {a : Ad} {x : AV} (e : ld1 h a = some x) : ldN h a 1 = some [x] := by
  unfold ld1 at e
  unfold ldN
  split at e
  · rename_i c m v hbk
    split at e
    · rename_i hv
      split at e
      · rename_i z hz
        split at e
        · rename_i hfl
          injection e with e
          subst e
          obtain ⟨hlt, hz2⟩ := List.getElem?_eq_some_iff.1 hz
          have e2 : (c.drop a.o).take 1 = [z] := by
            rw [List.drop_eq_getElem_cons hlt, hz2]; rfl
          rw [e2, if_pos ⟨hv, by omega, by unfold flatL; rw [hfl]; rfl⟩]
        · cases e
      · cases e
    · cases e
  · cases e

theorem smaps_loop {h0 : Heap} {f : Fn} (F : f.R h0) {s1 : SA} {n1 : Nat} {ps : List Int} (HP : VS intC 1 h0 s1 n1 ps) (hn1 : n1 ≤ 16384) (hm : ∀ m ∈ f.mps, 0 ≤ m.item ∧ m.item < n1 ∧ (m.aft = true → m.item + 1 < n1)) (hl : f.mps.length ≤ 16384) :
    ∀ (k j : Nat), j + k = f.mps.length → ∀ (h : Heap) (s5 : SA) (cs : List AV), Old h0 h → GS h s5 j 4 cs → (∀ q, inS s5 q → h0.length ≤ q) →
      ∃ h' s' cs', L58x5 mk0 E s1 n1 f.nm f.sI f.its.length f.sC f.cls.length f.sM f.mps.length f.size s5 j f.sM f.mps.length ((f.mps.length : Nat) : Int) ((j : Nat) : Int) h (Q58x5 mk0 E) = some (.sl s' f.mps.length, h') ∧ Old h0 h' ∧ GS h' s' f.mps.length 4 cs' ∧ (∀ q, inS s' q → h0.length ≤ q) := by
  have hpl := HP.1
  intro k
  induction k with
  | zero =>
    intro j hj h s5 cs ho g hs
    have : j = f.mps.length := by omega
    subst this
    rw [L58x5xeq, letK_eq, if_neg (by simp), X58x5xe0]
    exact ⟨h, s5, cs, rfl, ho, g, hs⟩
  | succ k ih =>
    intro j hj h s5 cs ho g hs
    obtain ⟨x, hx⟩ := at_lt (l := f.mps) (i := j) (by omega)
    obtain ⟨a, ha, la⟩ := vs_ld (vs_old F.m ho) mp_flat j x hx
    obtain ⟨m1, m2, m3⟩ := hm x (List.mem_of_getElem? hx)
    obtain ⟨i1, hi1⟩ := Int.eq_ofNat_of_zero_le m1
    obtain ⟨u, hu⟩ := at_lt (l := ps) (i := i1) (by omega)
    obtain ⟨a1, ha1, la1⟩ := vs_ld1 (g := AV.int .i64) (vs_old HP ho) (fun _ => rfl) i1 u hu
    obtain ⟨xs1, xs2⟩ := (F.s x (List.mem_of_getElem? hx)).old ho
    obtain ⟨h2, s', c1, c2, c3⟩ := cloneI_ok xs1 xs2
    have ho2 := ho.trans c2
    obtain ⟨a1', ha1', la1'⟩ := vs_ld1 (g := AV.int .i64) (vs_old HP ho2) (fun _ => rfl) i1 u hu
    rw [ha1] at ha1'
    injection ha1' with ha1'
    subst ha1'
    have fin : ∀ pc : Int, ∃ h' s'' cs', J58x17 mk0 E s1 n1 f.nm f.sI f.its.length f.sC f.cls.length f.sM f.mps.length f.size s5 j pc f.size s' x.slots.length x.regs f.sM f.mps.length ((f.mps.length : Nat) : Int) ((j : Nat) : Int) h2 (Q58x5 mk0 E) = some (.sl s'' f.mps.length, h') ∧ Old h0 h' ∧ GS h' s'' f.mps.length 4 cs' ∧ (∀ q, inS s'' q → h0.length ≤ q) := by
      intro pc
      have g2 : GS h2 s5 j 4 cs := gs_keep (s := .nil) g (fun b y hy _ => c2 b y hy) (fun b _ hb => by obtain ⟨a, ha, _⟩ := hb; cases ha)
      obtain ⟨t, h3, p1, p2, p3, p4, p5, p6⟩ := push (bytes := 48) [.int .i64 pc, .int .i64 f.size, .sl s' x.slots.length, .int .i64 x.regs] g2 (by omega) rfl rfl (by omega)
      obtain ⟨h', s'', cs', r1, r2, r3, r4⟩ := ih (j + 1) (by omega) h3 t _ (fun q y hy => p5 q y (ho2 q y hy) fun hh => by have := hs q hh; have := (List.getElem?_eq_some_iff.1 hy).1; omega) p3 (fun q hq => by
        rcases p6 q hq with h5 | h5
        · exact hs q h5
        · have := ho2.le; omega)
      rw [J58x17xeq, newK_eq, p1, Option.bind_some, p2, Option.bind_some, gL_of, letK_eq, wrap64 (by omega) (by omega), show ((j : Int) + 1) = ((j + 1 : Nat) : Int) by omega]
      exact ⟨h', s'', cs', r1, r2, r3, r4⟩
    rw [L58x5xeq, letK_eq, if_pos (by simp; omega), chk_of (by intro _; omega), ha, atP_of, Int.toNat_natCast, la, gCells_of]
    simp only [Mp.cells, List.getElem?_cons_zero, List.getElem?_cons_succ]
    rw [gI_of, gB_of, gL_of, gI_of, chk_of (by intro _; omega), ha1, atP_of, hi1, Int.toNat_natCast, la1, gI_of, c1, Option.bind_some, gL_of, chkC_of (by intro _; dsimp only; rw [ldN_one la1, ldN_one la1'])]
    cases haft : x.aft with
    | true =>
      have m3' := m3 haft
      obtain ⟨u2, hu2⟩ := at_lt (l := ps) (i := i1 + 1) (by omega)
      obtain ⟨a2, ha2, la2⟩ := vs_ld1 (g := AV.int .i64) (vs_old HP ho2) (fun _ => rfl) _ u2 hu2
      rw [ha1] at ha2
      injection ha2 with ha2
      subst ha2
      rw [if_pos rfl, letK_eq, wrap64 (by omega) (by omega), chk_of (by intro _; omega), atP_of, show ((i1 : Int) + 1) = ((i1 + 1 : Nat) : Int) by omega, Int.toNat_natCast]
      dsimp only
      rw [la2, gI_of]
      exact fin u2
    | false =>
      rw [if_neg (by simp)]
      exact fin u

theorem smaps_ok {h : Heap} {f : Fn} (F : f.R h) {s1 : SA} {n1 : Nat} {ps : List Int} (HP : VS intC 1 h s1 n1 ps) (hn1 : n1 ≤ 16384) (hm : ∀ m ∈ f.mps, 0 ≤ m.item ∧ m.item < n1 ∧ (m.aft = true → m.item + 1 < n1)) (hl : f.mps.length ≤ 16384) :
    ∃ h' s' cs', E 58 [.agg [.int .i64 f.nm, .sl f.sI f.its.length, .sl f.sC f.cls.length, .sl f.sM f.mps.length, .int .i64 f.size], .sl s1 n1] h = some (.sl s' f.mps.length, h') ∧ Old h h' ∧ GS h' s' f.mps.length 4 cs' ∧ (∀ q, inS s' q → h.length ≤ q) := by
  rw [e58]
  exact smaps_loop F HP hn1 hm hl f.mps.length 0 (by omega) h .nil [] (Old.refl _) ⟨rfl, rfl, .inl ⟨rfl, rfl⟩⟩ (fun q hq => by obtain ⟨a, ha, _⟩ := hq; cases ha)

end Go.Proofs.Ytmfmnbldngfelaa.I

/- link: the image. -/
set_option linter.unusedVariables false
set_option linter.unusedSimpArgs false
namespace Go.Proofs.Ytmfmnbldngfelaa.I
open Go Go.Proofs.Ytmfmnbldngfelaa.Abs Go.Proofs

def patch (P : Nat → Int) (A : List (Int × Int)) (W : List Int) : List Int := A.foldl (fun W x => W.set (P x.1.toNat + 1).toNat (2 * P x.2.toNat + 1)) W
def stL (cl : List Int) (Pb : Nat → Int) (j : Nat) : List Int := ((List.range j).filter fun i => decide (at_ cl i = i)).map Pb

theorem patch_len (P : Nat → Int) : ∀ (A : List (Int × Int)) (W : List Int), (patch P A W).length = W.length
  | [], W => rfl
  | x :: A, W => by
    show (patch P A _).length = _
    rw [patch_len P A, List.length_set]

theorem stL_len (cl : List Int) (Pb : Nat → Int) (j : Nat) : (stL cl Pb j).length ≤ j := by
  unfold stL
  rw [List.length_map]
  exact Nat.le_trans (List.length_filter_le _ _) (by simp)

theorem stL_succ (cl : List Int) (Pb : Nat → Int) (j : Nat) : stL cl Pb (j + 1) = if at_ cl j = j then stL cl Pb j ++ [Pb j] else stL cl Pb j := by
  unfold stL
  rw [List.range_succ, List.filter_append, List.map_append]
  by_cases e : at_ cl j = j
  · rw [if_pos e]; simp [e]
  · rw [if_neg e]; simp [e]

theorem rencode_large {h : Heap} {s : SA} {n : Nat} {all : Bool} (hn : 16384 < n) : E 30 [.sl s n, .bool all] h = some (.tup [.sl .nil 0, .sl .nil 0, .int .i64 2], h) := by
  have e : E 44 [.sl s n] h = some (.int .i64 2, h) := by
    rw [e44, letK_eq, if_pos (by simp; omega)]
  have e' : E 31 [.sl s n] h = some (.tup [.sl .nil 0, .int .i64 2], h) := by
    rw [e31, e, Option.bind_some, gI_of, letK_eq, if_pos (by simp)]
  rw [e30, e', Option.bind_some, gT2_of]
  simp only [List.getD_cons_zero, List.getD_cons_succ]
  rw [gL_of, gI_of, letK_eq, if_pos (by simp)]

/-- What the image is made of. -/
structure Img (l : List Fn) (n : Nat) (cl bgs : List Int) (F : List It) (A : List (Int × Int)) : Prop where
  nl : l.length = n
  n256 : n ≤ 256
  ok : ∀ f ∈ l, fnOk n f
  can : Can n cl
  bl : bgs.length = n
  bg : ∀ i f, l[i]? = some f → at_ cl i = i → 0 ≤ at_ bgs i ∧ at_ bgs i + f.its.length ≤ F.length
  ad : ∀ x ∈ A, ∃ k t : Nat, x = ((k : Int), (t : Int)) ∧ t < F.length ∧ ∃ it, F[k]? = some it ∧ it.to < 0 ∧ it.n = 1048576
  ai : A.length ≤ 10000000
  okF : ∀ x ∈ F, It.ok F.length x

theorem at_get {l : List Int} {i : Nat} (h : i < l.length) : l[i]? = some (at_ l i) := by simp [at_, List.getD, h]

variable {h0 : Heap}

theorem image_loop {l : List Fn} {n : Nat} {cl bgs : List Int} {F : List It} {A : List (Int × Int)} (I : Img l n cl bgs F A) {lb : Nat} {sI sB sA s1 s2 sc : SA} {wl p n0 : Nat} {cs : List Bool} (hF : F.length ≤ 16384)
    (H : LK h0 lb n0 sI sB sA F bgs A) (HL : VS Fn.cells 5 h0 s1 n l) (R : ∀ f ∈ l, f.R h0) (HC : VS intC 1 h0 s2 n cl) (hp : h0[p]? = some (.cells ((posL cs F.length).map (.int .i64)) (.grow 1) 0)) :
    ∀ (k j : Nat), j + k = n → ∀ (h : Heap) (sS sM : SA) (kM : Nat) (cM : List AV) (g : Nat → Int), Old h0 h → h[h0.length]? = some (.cells ((List.range n).map fun q => .int .i64 (g q)) (.grow 1) 0) → (∀ q, q < j → g q = pos cs (at_ bgs (at_ cl q).toNat).toNat) →
      GS h sS (stL cl (fun i => pos cs (at_ bgs i).toNat) j).length 1 ((stL cl (fun i => pos cs (at_ bgs i).toNat) j).map (.int .i64)) → GS h sM kM 4 cM → kM ≤ j * 16384 → (∀ q, inS sS q → h0.length < q ∧ ¬ inS sM q) → (∀ q, inS sM q → h0.length < q) →
      ∃ h' sS' sM' kM', L49x23 mk0 E (some ⟨lb, 0, 0⟩) s2 n .nil 0 0 .nil 0 .nil 0 .nil 0 (.pos ⟨p, 0, 0⟩) F.length sc wl 0 sS (stL cl (fun i => pos cs (at_ bgs i).toNat) j).length sM kM .nil 0 (.pos ⟨h0.length, 0, 0⟩) n s1 n ((n : Nat) : Int) ((j : Nat) : Int) h (Q49x23 mk0 E) =
          some (.tup [.agg [.sl sc wl, .int .i64 0, .sl sS' (stL cl (fun i => pos cs (at_ bgs i).toNat) n).length, .sl sM' kM', .sl .nil 0], .sl (.pos ⟨h0.length, 0, 0⟩) n, .int .i64 0], h') ∧ Old h0 h' ∧
        h'[h0.length]? = some (.cells ((List.range n).map fun q => .int .i64 (pos cs (at_ bgs (at_ cl q).toNat).toNat)) (.grow 1) 0) ∧ GS h' sS' (stL cl (fun i => pos cs (at_ bgs i).toNat) n).length 1 ((stL cl (fun i => pos cs (at_ bgs i).toNat) n).map (.int .i64)) := by
  have hn := I.n256
  intro k
  induction k with
  | zero =>
    intro j hj h sS sM kM cM g ho hb hg gS gM hkM dS dM
    have : j = n := by omega
    subst this
    rw [L49x23xeq, letK_eq, if_neg (by simp), X49x23xe2]
    refine ⟨h, sS, sM, kM, rfl, ho, ?_, gS⟩
    rw [hb]
    congr 2
    apply List.map_congr_left
    intro q hq
    rw [hg q (List.mem_range.1 hq)]
  | succ k ih =>
    intro j hj h sS sM kM cM g ho hb hg gS gM hkM dS dM
    have hjn : j < n := by omega
    obtain ⟨f, hf⟩ := at_lt (l := l) (i := j) (by rw [I.nl]; omega)
    have ok := I.ok f (List.mem_of_getElem? hf)
    have C := I.can
    have c1 := C.lo j hjn
    have c2 := C.hi j hjn
    have c3 := C.fx j hjn
    obtain ⟨r, hr⟩ := Int.eq_ofNat_of_zero_le c1
    rw [hr, Int.toNat_natCast] at c3
    obtain ⟨fr, hfr⟩ := at_lt (l := l) (i := r) (by rw [I.nl]; omega)
    obtain ⟨b1, b2⟩ := I.bg r fr hfr (by rw [c3])
    obtain ⟨bg, hbg⟩ := Int.eq_ofNat_of_zero_le b1
    have okr := I.ok fr (List.mem_of_getElem? hfr)
    have okr1 := okr.2.1
    rw [hbg] at b2
    have hcr := at_get (l := cl) (i := j) (by rw [C.len]; omega)
    rw [hr] at hcr
    have hbr := at_get (l := bgs) (i := r) (by rw [I.bl]; omega)
    rw [hbg] at hbr
    have HBv : ∀ {hh : Heap}, Old h0 hh → VS intC 1 hh sB bgs.length bgs := fun o => by
      have := H.b
      rw [← rows_one] at this
      exact vs_old (vs_GS (f := intC) (fun _ => rfl) rfl this) o
    have lc := H.c
    obtain ⟨a, ha, la⟩ := vs_ld (vs_old HL ho) fn_flat j f hf
    obtain ⟨a2, ha2, la2⟩ := vs_ld1 (g := AV.int .i64) (vs_old HC ho) (fun _ => rfl) j _ hcr
    obtain ⟨a3, ha3, la3⟩ := vs_ld1 (g := AV.int .i64) (HBv ho) (fun _ => rfl) r _ hbr
    have rd1 : ld1 h ⟨lb, 0, 0 + 1⟩ = some (.sl sB bgs.length) := ld1_at (ho _ _ lc) rfl rfl
    have rp : ∀ {hh : Heap}, Old h0 hh → ∀ i, i < F.length → ld1 hh ⟨p, 0, 0 + i * 1⟩ = some (.int .i64 (pos cs i)) := fun o i hi => ld1_at (o _ _ hp) (by unfold posL; rw [Nat.zero_add, Nat.mul_one, List.getElem?_map, range_get (by omega)]; rfl) rfl
    rw [L49x23xeq, letK_eq, if_pos (by simp; omega), chk_of (by intro _; omega), ha, atP_of, Int.toNat_natCast, la, gCells_of]
    simp only [Fn.cells, List.getElem?_cons_zero, List.getElem?_cons_succ]
    rw [gI_of, gL_of, gL_of, gL_of, gI_of, atP_of, add_mk, rd1, gL_of, chk_of (by intro _; omega), ha2, atP_of, la2, gI_of, chk_of (by intro _; rw [I.bl]; omega), ha3, atP_of, Int.toNat_natCast, la3, gI_of, chk_of (by intro _; omega), adP_pos, atP_of, add_mk, Int.toNat_natCast, rp ho bg (by omega), gI_of, chk_of (by intro _; omega), adP_pos, atP_of, add_mk, st1_at hb (by simp) (by simp; omega), Option.bind_some, show 0 + j * 1 = j by omega, range_set]
    generalize hh2 : h.set h0.length (Blk.cells ((List.range n).map fun i => if i = j then AV.int .i64 (pos cs bg) else .int .i64 (g i)) (.grow 1) 0) = h2
    have ho2 : Old h0 h2 := by rw [← hh2]; exact ho.set (Nat.le_refl _) _
    have hb2 : h2[h0.length]? = some (.cells ((List.range n).map fun q => .int .i64 ((fun q => if q = j then pos cs bg else g q) q)) (.grow 1) 0) := by
      rw [← hh2, set_same hb]
      congr 2
      apply List.map_congr_left
      intro q _
      dsimp only
      split <;> rfl
    have hg2 : ∀ q, q < j + 1 → (fun q => if q = j then pos cs bg else g q) q = pos cs (at_ bgs (at_ cl q).toNat).toNat := by
      intro q hq
      dsimp only
      by_cases e : q = j
      · rw [if_pos e, e, hr, Int.toNat_natCast, hbg, Int.toNat_natCast]
      · rw [if_neg e]; exact hg q (by omega)
    have gS2 : GS h2 sS (stL cl (fun i => pos cs (at_ bgs i).toNat) j).length 1 ((stL cl (fun i => pos cs (at_ bgs i).toNat) j).map (.int .i64)) := by rw [← hh2]; exact gs_set gS (fun hh => by have := (dS _ hh).1; omega) _
    have gM2 : GS h2 sM kM 4 cM := by rw [← hh2]; exact gs_set gM (fun hh => by have := dM _ hh; omega) _
    obtain ⟨a2', ha2', la2'⟩ := vs_ld1 (g := AV.int .i64) (vs_old HC ho2) (fun _ => rfl) j _ hcr
    rw [ha2] at ha2'
    injection ha2' with ha2'
    subst ha2'
    have lc2 := ho2 _ _ lc
    have rd2 : ld1 h2 ⟨lb, 0, 0 + 1⟩ = some (.sl sB bgs.length) := ld1_at lc2 rfl rfl
    rw [chk_of (by intro _; omega), atP_of, la2', gI_of, letK_eq]
    by_cases e : (r : Int) = (j : Int)
    · have hrj : r = j := by omega
      subst hrj
      rw [hf] at hfr
      injection hfr with hfr
      subst hfr
      obtain ⟨a3', ha3', la3'⟩ := vs_ld1 (g := AV.int .i64) (HBv ho2) (fun _ => rfl) r _ hbr
      rw [ha3] at ha3'
      injection ha3' with ha3'
      subst ha3'
      have p1 := pos_lo cs bg
      have p2 := pos_hi cs bg
      have sl := stL_len cl (fun i => pos cs (at_ bgs i).toNat) r
      obtain ⟨sS', h3, q1, q2, q3, q4, q5, q6⟩ := push (bytes := 8) [.int .i64 (pos cs bg)] gS2 (by omega) rfl rfl (by omega)
      have hlt2 : h0.length < h2.length := (List.getElem?_eq_some_iff.1 hb2).1
      have ho3 : Old h0 h3 := fun q y hy => q5 q y (ho2 q y hy) fun hh => by have := (dS q hh).1; have := (List.getElem?_eq_some_iff.1 hy).1; omega
      have hb3 := q5 _ _ hb2 fun hh => by have := (dS _ hh).1; omega
      have gM3 : GS h3 sM kM 4 cM := gs_keep gM2 q5 fun q hq hh => (dS q hh).2 hq
      have hle3 : h0.length < h3.length := (List.getElem?_eq_some_iff.1 hb3).1
      rw [if_pos (by simp), atP_of, add_mk, rd2, gL_of, chk_of (by intro _; rw [I.bl]; omega), ha3, atP_of, la3', gI_of, chk_of (by intro _; omega), atP_of, add_mk, Int.toNat_natCast, rp ho2 bg (by omega), gI_of, newK_eq, q1, Option.bind_some, q2, Option.bind_some, gL_of, letK_eq, wrap64 (by omega) (by omega)]
      have hi1 : ((bg : Int) + (f.its.length : Int)) = ((bg + f.its.length : Nat) : Int) := by omega
      have es3 : esOk h3 (.pos ⟨p, 0, 0⟩) 1 := by
        intro b hb
        cases hb
        exact ⟨_, ho3 _ _ hp, fun c e v he => by cases he; rfl⟩
      have R3 : ∀ f ∈ l, f.R h3 := fun f hf => (R f hf).old ho3
      have HP : VS intC 1 h3 (.pos ⟨p, 0, 0⟩) F.length ((posL cs F.length).take F.length) := by
        have hv := vs_blk1 (g := AV.int .i64) (ho3 _ _ hp)
        exact vs_take hv F.length (by simp [posL])
      have HP' := vs_drop HP bg f.its.length (by omega)
      have ml := mapsOk_len (by omega : (-1 : Int) ≤ -1) ok.2.2.2.2.2.2
      have okl := ok.1.1
      obtain ⟨h4, sN, cN, m1, m2, m3, m4⟩ := smaps_ok (R3 f (List.mem_of_getElem? hf)) HP' (by omega) (fun m hm => mapsOk_mem (by omega) ok.2.2.2.2.2.2 m hm) (by omega)
      rw [chkC_of (by intro _; exact ⟨by omega, by omega, .inl (by omega), es3⟩), letK_eq, letK_eq, hi1, Int.toNat_natCast, Nat.add_sub_cancel_left]
      dsimp only
      rw [m1, Option.bind_some, gL_of]
      have ho4 := ho3.trans m2
      have hb4 := m2 _ _ hb3
      have gS4 : GS h4 sS' ((stL cl (fun i => pos cs (at_ bgs i).toNat) r).length + 1) 1 ((stL cl (fun i => pos cs (at_ bgs i).toNat) r).map (.int .i64) ++ [.int .i64 (pos cs bg)]) := gs_keep (s := .nil) q3 (fun b y hy _ => m2 b y hy) (fun b _ hb => by obtain ⟨a, ha, _⟩ := hb; cases ha)
      have gM4 : GS h4 sM kM 4 cM := gs_keep (s := .nil) gM3 (fun b y hy _ => m2 b y hy) (fun b _ hb => by obtain ⟨a, ha, _⟩ := hb; cases ha)
      have hst : stL cl (fun i => pos cs (at_ bgs i).toNat) (r + 1) = stL cl (fun i => pos cs (at_ bgs i).toNat) r ++ [pos cs bg] := by
        rw [stL_succ, if_pos (by rw [hr]), hbg, Int.toNat_natCast]
      have gS4' : GS h4 sS' (stL cl (fun i => pos cs (at_ bgs i).toNat) (r + 1)).length 1 ((stL cl (fun i => pos cs (at_ bgs i).toNat) (r + 1)).map (.int .i64)) := by
        rw [hst, List.length_append, List.map_append]
        exact gS4
      have hsl : (stL cl (fun i => pos cs (at_ bgs i).toNat) r).length + 1 = (stL cl (fun i => pos cs (at_ bgs i).toNat) (r + 1)).length := by rw [hst, List.length_append]; rfl
      have ldM : ldSl h4 sN (f.mps.length * 4) = some cN := by
        obtain ⟨w1, w2, ⟨rfl, w3⟩ | ⟨b, v, rfl, w3⟩⟩ := m3
        · rw [w3] at w1 ⊢
          have : cN = [] := List.length_eq_zero_iff.1 (by simpa using w1)
          rw [this]; rfl
        · exact ldSl_at w3 w1 w2
      rw [ldM, Option.bind_some]
      have dS' : ∀ q, inS sS' q → h0.length < q ∧ ¬ inS sM q := by
        intro q hq
        rcases q6 q hq with h5 | h5
        · exact dS q h5
        · refine ⟨by omega, fun hh => ?_⟩
          have := gs_lt gM2 hh; omega
      cases hmk : f.mps.length with
      | zero =>
        have ap : ∀ ys : List AV, apnd h4 (.sl sM kM) 4 48 ys 0 = some (.sl sM kM, h4) := fun _ => rfl
        rw [ap, Option.bind_some, gL_of, J49x36xeq, letK_eq, wrap64 (by omega) (by omega), show ((r : Int) + 1) = ((r + 1 : Nat) : Int) by omega, hsl]
        exact ih (r + 1) (by omega) h4 sS' sM kM cM _ ho4 hb4 hg2 gS4' gM4 (Nat.le_trans hkM (Nat.mul_le_mul_right _ (Nat.le_succ _))) dS' dM
      | succ w =>
        rw [hmk] at m3
        obtain ⟨t, h5, a1, a2, a3, a4, a5⟩ := apnd_GS (m := w + 1) (bytes := 48) (ys := cN) gM4 (by omega) (by omega) m3.1 m3.2.1 (flatL_app gM4.2.1 m3.2.1) (by omega)
        have hb5 := a4 _ _ hb4 fun hh => by have := dM _ hh; omega
        rw [a1, Option.bind_some, gL_of, J49x36xeq, letK_eq, wrap64 (by omega) (by omega), show ((r : Int) + 1) = ((r + 1 : Nat) : Int) by omega, hsl]
        refine ih (r + 1) (by omega) h5 sS' t (kM + (w + 1)) _ _ (fun q y hy => a4 q y (ho4 q y hy) fun hh => by have := dM q hh; have := (List.getElem?_eq_some_iff.1 hy).1; omega) hb5 hg2 (gs_keep gS4' a4 fun q hq hh => (dS' q hq).2 hh) a2 (by omega) (fun q hq => ⟨(dS' q hq).1, fun hh => ?_⟩) (fun q hq => ?_)
        · rcases a5 q hh with h6 | h6
          · exact (dS' q hq).2 h6
          · have := gs_lt gS4 hq; omega
        · rcases a5 q hq with h6 | h6
          · exact dM q h6
          · have := m2.le; omega
    · rw [if_neg (by simpa using e), J49x36xeq, letK_eq, wrap64 (by omega) (by omega), show ((j : Int) + 1) = ((j + 1 : Nat) : Int) by omega]
      have hst : stL cl (fun i => pos cs (at_ bgs i).toNat) (j + 1) = stL cl (fun i => pos cs (at_ bgs i).toNat) j := by rw [stL_succ, if_neg (by rw [hr]; exact e)]
      rw [← hst] at gS2 ⊢
      exact ih (j + 1) (by omega) h2 sS sM kM cM _ ho2 hb2 hg2 gS2 gM2 (Nat.le_trans hkM (Nat.mul_le_mul_right _ (Nat.le_succ _))) dS dM

end Go.Proofs.Ytmfmnbldngfelaa.I

/- link: Link, walked. -/
set_option linter.unusedVariables false
set_option linter.unusedSimpArgs false
namespace Go.Proofs.Ytmfmnbldngfelaa.I
open Go Go.Proofs.Ytmfmnbldngfelaa.Abs Go.Proofs

theorem LK.setB {h : Heap} {lb n0 : Nat} {sI sB sA : SA} {its : List It} {bgs : List Int} {ads : List (Int × Int)} (H : LK h lb n0 sI sB sA its bgs ads) {k : Nat} (hk : k < bgs.length) (u : Int) :
    ∃ b v h2, sB = .pos ⟨b, v, 0⟩ ∧ st1 h ⟨b, v, 0 + k * 1⟩ (.int .i64 u) = some h2 ∧ LK h2 lb n0 sI sB sA its (bgs.set k u) ads ∧ Fr n0 h h2 := by
  obtain ⟨b, v, rfl, hb⟩ : ∃ b v, sB = .pos ⟨b, v, 0⟩ ∧ h[b]? = some (.cells (bgs.map (.int .i64)) (.grow 1) v) := by
    obtain ⟨_, _, ⟨rfl, q⟩ | q⟩ := H.b
    · omega
    · exact q
  have hin : inS (.pos ⟨b, v, 0⟩) b := ⟨_, rfl, rfl⟩
  obtain ⟨d1, d2, d3⟩ := H.db b hin
  refine ⟨b, v, h.set b (.cells ((bgs.set k u).map (.int .i64)) (.grow 1) v), rfl, ?_, ⟨?_, gs_set H.i (fun hh => (H.di b hh).2.2.1 hin) _, ?_, gs_set H.a d3 _, H.di, H.db, H.da, H.l⟩, ?_⟩
  · rw [st1_at hb (by simp) (by simp; omega), show 0 + k * 1 = k by omega, List.map_set]
  · rw [set_other d2, List.length_set]; exact H.c
  · rw [List.length_set]
    exact ⟨by simp, flat_ints _, .inr ⟨b, v, rfl, set_same hb⟩⟩
  · intro q z hq hz
    rw [set_other (by omega)]
    exact hz

/-! ### What is laid out -/

def head2 : List It := [⟨20, 0, 0, 0, 0, 0⟩, ⟨0, 0, 0, 0, 0, -1⟩]

def lay (l : List Fn) (cl : List Int) : Nat → List It × List Int
  | 0 => (head2, [])
  | i + 1 => match l[i]? with
    | some f => if at_ cl i = i then ((lay l cl i).1 ++ f.its.map (shift (lay l cl i).1.length), (lay l cl i).2 ++ [((lay l cl i).1.length : Int)]) else ((lay l cl i).1, (lay l cl i).2 ++ [-1])
    | none => lay l cl i

def Rall (l : List Fn) (cl bgs : List Int) : Nat → List (Nat × Int)
  | 0 => []
  | i + 1 => Rall l cl bgs i ++ (match l[i]? with
    | some f => if at_ cl i = i then rs cl bgs (at_ bgs i).toNat f.cls else []
    | none => [])

theorem lay_len2 (l : List Fn) (cl : List Int) : ∀ i, i ≤ l.length → (lay l cl i).2.length = i
  | 0, _ => rfl
  | i + 1, h => by
    obtain ⟨f, hf⟩ := at_lt (l := l) (i := i) (by omega)
    have ih := lay_len2 l cl i (by omega)
    unfold lay
    rw [hf]
    dsimp only
    split <;> simp [ih]

theorem lay_len1 (l : List Fn) (cl : List Int) (hf : ∀ f ∈ l, f.its.length ≤ 16384) : ∀ i, (lay l cl i).1.length ≤ 2 + i * 16384
  | 0 => Nat.le_refl 2
  | i + 1 => by
    have ih := lay_len1 l cl hf i
    have up : (lay l cl i).1.length ≤ 2 + (i + 1) * 16384 := Nat.le_trans ih (Nat.add_le_add_left (Nat.mul_le_mul_right _ (Nat.le_succ i)) 2)
    unfold lay
    split
    · rename_i f hfi
      have := hf f (List.mem_of_getElem? hfi)
      split
      · rw [List.length_append, List.length_map, Nat.add_mul i 1 16384]; omega
      · exact up
    · exact up

theorem classes_loop {h0 : Heap} {s0 s1 : SA} {n : Nat} {cl : List Int} (HC : VS intC 1 h0 s1 n cl) (C : Can n cl) (hn : n ≤ 256) (mi : Int) (lg : Bool) : ∀ (k j : Nat), j + k = n →
    L35x15 mk0 E s0 n s1 n mi lg .nil 0 0 .nil 0 .nil 0 .nil 0 s1 n ((n : Nat) : Int) ((j : Nat) : Int) h0 (Q35x15 mk0 E) = Q35x15 mk0 E (.exit 0) (S35xe0 s0 n s1 n mi lg .nil 0 0 .nil 0 .nil 0 .nil 0 h0) := by
  have hl := HC.1
  intro k
  induction k with
  | zero =>
    intro j hj
    rw [L35x15xeq, letK_eq, if_neg (by simp; omega)]
  | succ k ih =>
    intro j hj
    have c1 := C.lo j (by omega)
    have c2 := C.hi j (by omega)
    have c3 := C.fx j (by omega)
    obtain ⟨r, hr⟩ := Int.eq_ofNat_of_zero_le c1
    rw [hr, Int.toNat_natCast] at c3
    have g1 := at_get (l := cl) (i := j) (by omega)
    rw [hr] at g1
    have g2 := at_get (l := cl) (i := r) (by omega)
    rw [c3] at g2
    obtain ⟨a, ha, la⟩ := vs_ld1 (g := AV.int .i64) HC (fun _ => rfl) j _ g1
    obtain ⟨a', ha', la'⟩ := vs_ld1 (g := AV.int .i64) HC (fun _ => rfl) r _ g2
    rw [ha] at ha'
    injection ha' with ha'
    subst ha'
    have d1 : decide ((r : Int) < 0) = false := decide_eq_false (by omega)
    have d2 : decide ((j : Int) < (r : Int)) = false := decide_eq_false (by omega)
    rw [L35x15xeq, letK_eq, if_pos (by simp; omega), chk_of (by intro _; omega), ha, atP_of, Int.toNat_natCast, la, gI_of, letK_eq, letK_eq, letK_eq, d1, d2]
    rw [chk_of (by intro _; omega), atP_any, atP_any, Int.toNat_natCast, la', gI_any, letK_eq, letK_eq, if_neg (by simp), letK_eq, wrap64 (by omega) (by omega), show ((j : Int) + 1) = ((j + 1 : Nat) : Int) by omega]
    exact ih (j + 1) (by omega)

theorem lay_loop {h0 : Heap} {s0 s1 : SA} {n : Nat} {l : List Fn} {cl : List Int} (HL : VS Fn.cells 5 h0 s0 n l) (R : ∀ f ∈ l, f.R h0) (ok : ∀ f ∈ l, fnOk n f) (HC : VS intC 1 h0 s1 n cl) (hn : n ≤ 256) (mi : Int) (lg : Bool) (lb : Nat) : ∀ (k j : Nat), j + k = n → ∀ (h : Heap) (sI sB sA : SA), Old h0 h →
    LK h lb h0.length sI sB sA (lay l cl j).1 (lay l cl j).2 [] →
    ∃ h' sI' sB' sA', L35x36 mk0 E s0 n s1 n mi lg .nil 0 0 .nil 0 .nil 0 .nil 0 (some ⟨lb, 0, 0⟩) s0 n ((n : Nat) : Int) ((j : Nat) : Int) h (Q35x36 mk0 E) = Q35x36 mk0 E (.exit 2) (S35xe2 s0 n s1 n mi lg .nil 0 0 .nil 0 .nil 0 .nil 0 (some ⟨lb, 0, 0⟩) h') ∧
      Old h0 h' ∧ LK h' lb h0.length sI' sB' sA' (lay l cl n).1 (lay l cl n).2 [] := by
  have hl := HL.1
  have hcl := HC.1
  intro k
  induction k with
  | zero =>
    intro j hj h sI sB sA ho H
    have : j = n := by omega
    subst this
    rw [L35x36xeq, letK_eq, if_neg (by simp)]
    exact ⟨h, sI, sB, sA, rfl, ho, H⟩
  | succ k ih =>
    intro j hj h sI sB sA ho H
    obtain ⟨f, hf⟩ := at_lt (l := l) (i := j) (by omega)
    have okf := ok f (List.mem_of_getElem? hf)
    obtain ⟨a, ha, la⟩ := vs_ld (vs_old HL ho) fn_flat j f hf
    have l2 := lay_len2 l cl j (by omega)
    have l1 := lay_len1 l cl (fun f hf => (ok f hf).1.1) j
    have lj : j * 16384 ≤ 256 * 16384 := Nat.mul_le_mul_right _ (by omega)
    have lj' : (256 * 16384 : Nat) = 4194304 := rfl
    obtain ⟨s', h1, h2, a1, a2, a3, a4, a5⟩ := H.pushB (-1) (by omega)
    have rd1 : ld1 h ⟨lb, 0, 0 + 1⟩ = some (.sl sB (lay l cl j).2.length) := ld1_at H.c rfl rfl
    have ho2 := ho.fr a5
    have g1 := at_get (l := cl) (i := j) (by omega)
    obtain ⟨a', ha', la'⟩ := vs_ld1 (g := AV.int .i64) (vs_old HC ho2) (fun _ => rfl) j _ g1
    have next : ∀ (h3 : Heap) (sI3 sB3 sA3 : SA), Old h0 h3 → LK h3 lb h0.length sI3 sB3 sA3 (lay l cl (j + 1)).1 (lay l cl (j + 1)).2 [] →
        ∃ h' sI' sB' sA', J35x48 mk0 E s0 n s1 n mi lg .nil 0 0 .nil 0 .nil 0 .nil 0 (some ⟨lb, 0, 0⟩) s0 n ((n : Nat) : Int) ((j : Nat) : Int) h3 (Q35x36 mk0 E) = Q35x36 mk0 E (.exit 2) (S35xe2 s0 n s1 n mi lg .nil 0 0 .nil 0 .nil 0 .nil 0 (some ⟨lb, 0, 0⟩) h') ∧
          Old h0 h' ∧ LK h' lb h0.length sI' sB' sA' (lay l cl n).1 (lay l cl n).2 [] := by
      intro h3 sI3 sB3 sA3 o3 H3
      rw [J35x48xeq, letK_eq, wrap64 (by omega) (by omega), show ((j : Int) + 1) = ((j + 1 : Nat) : Int) by omega]
      exact ih (j + 1) (by omega) h3 sI3 sB3 sA3 o3 H3
    rw [L35x36xeq, letK_eq, if_pos (by simp; omega), chk_of (by intro _; omega), ha, atP_of, Int.toNat_natCast, la, gCells_of]
    simp only [Fn.cells, List.getElem?_cons_zero, List.getElem?_cons_succ]
    rw [gI_of, gL_of, gL_of, gL_of, gI_of, atP_of, add_mk, rd1, gL_of, newK_eq, a1, Option.bind_some, a2, Option.bind_some, gL_of, atP_of, add_mk, a3, Option.bind_some, chk_of (by intro _; omega), ha', atP_of, la', gI_of, letK_eq]
    by_cases e : at_ cl j = j
    · obtain ⟨b, v, h3, rfl, b1, b2, b3⟩ := a4.setB (k := j) (by rw [List.length_append, l2]; simp) ((lay l cl j).1.length : Int)
      have rd2 : ld1 h2 ⟨lb, 0, 0 + 1⟩ = some (.sl (.pos ⟨b, v, 0⟩) ((lay l cl j).2 ++ [-1]).length) := ld1_at a4.c rfl rfl
      have rd3 : ld1 h2 ⟨lb, 0, 0 + 0⟩ = some (.sl sI (lay l cl j).1.length) := ld1_at a4.c rfl rfl
      have ho3 := ho2.fr b3
      obtain ⟨h4, sI4, c1, c2, c3⟩ := add_ok (R f (List.mem_of_getElem? hf)) (fun x hx => by have := (okf.1.2 x hx).2.2.1; have := okf.1.1; omega) okf.1.1 (lb := lb) ho3 (by omega) b2
      rw [if_pos (by simp [e]), atP_of, add_mk, rd2, gL_of, atP_of, add_mk, rd3, gL_of, chk_of (by intro _; rw [List.length_append, l2]; simp only [List.length_cons, List.length_nil]; omega), adP_pos, atP_of, add_mk, b1, Option.bind_some, c1, Option.bind_some, gT0_of]
      refine next h4 sI4 (.pos ⟨b, v, 0⟩) sA (ho3.fr c3) ?_
      have : lay l cl (j + 1) = ((lay l cl j).1 ++ f.its.map (shift (lay l cl j).1.length), (lay l cl j).2 ++ [((lay l cl j).1.length : Int)]) := by
        rw [lay, hf]
        dsimp only
        rw [if_pos e]
      rw [this]
      dsimp only
      have hs : ((lay l cl j).2 ++ [-1]).set j ((lay l cl j).1.length : Int) = (lay l cl j).2 ++ [((lay l cl j).1.length : Int)] := by
        rw [List.set_append_right _ _ (by omega), l2, Nat.sub_self]; rfl
      rw [hs] at c2
      exact c2
    · rw [if_neg (by simpa using e)]
      refine next h2 sI s' sA ho2 ?_
      have : lay l cl (j + 1) = ((lay l cl j).1, (lay l cl j).2 ++ [-1]) := by
        rw [lay, hf]
        dsimp only
        rw [if_neg e]
      rw [this]
      exact a4

end Go.Proofs.Ytmfmnbldngfelaa.I

/- link: what the linker's items are in the end (plain). -/
set_option linter.unusedVariables false
set_option linter.unusedSimpArgs false
namespace Go.Proofs.Ytmfmnbldngfelaa.I
open Go Go.Proofs.Ytmfmnbldngfelaa.Abs Go.Proofs

/-! ### References, one after the other -/

theorem fold_len : ∀ (R : List (Nat × Int)) (S : List It × List (Int × Int)), (R.foldl rstep S).1.length = S.1.length
  | [], S => rfl
  | r :: R, S => by rw [List.foldl_cons, fold_len R, rstep_len]

theorem fold_ads : ∀ (R : List (Nat × Int)) (S : List It × List (Int × Int)), (R.foldl rstep S).2.length ≤ S.2.length + R.length
  | [], S => Nat.le_refl _
  | r :: R, S => by
    have h1 := fold_ads R (rstep S r)
    have h2 := rstep_ads S r
    rw [List.foldl_cons, List.length_cons]
    omega

theorem rstep_other (S : List It × List (Int × Int)) (r : Nat × Int) {k : Nat} (h : r.1 ≠ k) : (rstep S r).1[k]? = S.1[k]? := by
  unfold rstep
  split
  · dsimp only
    rw [List.getElem?_set, if_neg h]
  · rfl

theorem fold_out : ∀ (R : List (Nat × Int)) (S : List It × List (Int × Int)) {k : Nat}, (∀ r ∈ R, r.1 ≠ k) → (R.foldl rstep S).1[k]? = S.1[k]?
  | [], S, k, _ => rfl
  | r :: R, S, k, h => by rw [List.foldl_cons, fold_out R _ fun r' hr' => h r' (.tail _ hr'), rstep_other S r (h r (.head _))]

theorem fold_in : ∀ (R : List (Nat × Int)) (S : List It × List (Int × Int)), R.Pairwise (fun a b => a.1 < b.1) → ∀ {r : Nat × Int}, r ∈ R → ∀ {x : It}, S.1[r.1]? = some x → (R.foldl rstep S).1[r.1]? = some (upItem x r.2)
  | [], S, _, r, hr, _, _ => by cases hr
  | r0 :: R, S, hp, r, hr, x, hx => by
    rw [List.foldl_cons]
    rw [List.pairwise_cons] at hp
    rcases List.mem_cons.1 hr with rfl | hr
    · rw [fold_out R _ fun r' hr' => by have := hp.1 r' hr'; omega]
      unfold rstep
      rw [hx]
      dsimp only
      rw [List.getElem?_set_self (List.getElem?_eq_some_iff.1 hx).1]
    · have hlt := hp.1 r hr
      exact fold_in R _ hp.2 hr (by rw [rstep_other S r0 (by omega)]; exact hx)

theorem fold_mem : ∀ (R : List (Nat × Int)) (S : List It × List (Int × Int)), R.Pairwise (fun a b => a.1 < b.1) → ∀ {a : Int × Int}, a ∈ (R.foldl rstep S).2 → a ∈ S.2 ∨ ∃ r ∈ R, a = ((r.1 : Int), r.2) ∧ ∃ x, S.1[r.1]? = some x ∧ x.op ≠ 20
  | [], S, _, a, ha => .inl ha
  | r0 :: R, S, hp, a, ha => by
    rw [List.foldl_cons] at ha
    rw [List.pairwise_cons] at hp
    rcases fold_mem R _ hp.2 ha with h | ⟨r, hr, e, x, hx, hop⟩
    · unfold rstep at h
      split at h
      · rename_i x hx
        dsimp only at h
        split at h
        · exact .inl h
        · rename_i hop
          rcases List.mem_append.1 h with h | h
          · exact .inl h
          · exact .inr ⟨r0, .head _, by simpa using h, x, hx, hop⟩
      · exact .inl h
    · have hlt := hp.1 r hr
      rw [rstep_other S r0 (by omega)] at hx
      exact .inr ⟨r, .tail _ hr, e, x, hx, hop⟩

theorem fold_keep : ∀ (R : List (Nat × Int)) (S : List It × List (Int × Int)) {a : Int × Int}, a ∈ S.2 → a ∈ (R.foldl rstep S).2
  | [], S, a, h => h
  | r :: R, S, a, h => by
    rw [List.foldl_cons]
    refine fold_keep R _ ?_
    unfold rstep
    split
    · dsimp only
      split
      · exact h
      · exact List.mem_append_left _ h
    · exact h

theorem fold_has : ∀ (R : List (Nat × Int)) (S : List It × List (Int × Int)), R.Pairwise (fun a b => a.1 < b.1) → ∀ {r : Nat × Int}, r ∈ R → ∀ {x : It}, S.1[r.1]? = some x → x.op ≠ 20 → ((r.1 : Int), r.2) ∈ (R.foldl rstep S).2
  | [], S, _, r, hr, _, _, _ => by cases hr
  | r0 :: R, S, hp, r, hr, x, hx, hop => by
    rw [List.foldl_cons]
    rw [List.pairwise_cons] at hp
    rcases List.mem_cons.1 hr with rfl | hr
    · refine fold_keep R _ ?_
      unfold rstep
      rw [hx]
      dsimp only
      rw [if_neg hop]
      exact List.mem_append_right _ (.head _)
    · have hlt := hp.1 r hr
      exact fold_has R _ hp.2 hr (by rw [rstep_other S r0 (by omega)]; exact hx) hop

/-! ### The laid items -/

theorem lay_rep {l : List Fn} {cl : List Int} {i : Nat} {f : Fn} (hf : l[i]? = some f) (e : at_ cl i = i) : lay l cl (i + 1) = ((lay l cl i).1 ++ f.its.map (shift (lay l cl i).1.length), (lay l cl i).2 ++ [((lay l cl i).1.length : Int)]) := by
  rw [lay, hf]
  dsimp only
  rw [if_pos e]

theorem lay_not {l : List Fn} {cl : List Int} {i : Nat} {f : Fn} (hf : l[i]? = some f) (e : at_ cl i ≠ i) : lay l cl (i + 1) = ((lay l cl i).1, (lay l cl i).2 ++ [-1]) := by
  rw [lay, hf]
  dsimp only
  rw [if_neg e]

theorem lay_le {l : List Fn} {cl : List Int} {i : Nat} (hi : i < l.length) : (lay l cl i).1.length ≤ (lay l cl (i + 1)).1.length ∧ ∀ k, k < (lay l cl i).1.length → (lay l cl (i + 1)).1[k]? = (lay l cl i).1[k]? := by
  obtain ⟨f, hf⟩ := at_lt hi
  by_cases e : at_ cl i = i
  · rw [lay_rep hf e]
    exact ⟨by simp, fun k hk => List.getElem?_append_left hk⟩
  · rw [lay_not hf e]
    exact ⟨Nat.le_refl _, fun k hk => rfl⟩

theorem lay_mono {l : List Fn} {cl : List Int} {i : Nat} : ∀ (d : Nat), i + d ≤ l.length → (lay l cl i).1.length ≤ (lay l cl (i + d)).1.length ∧ ∀ k, k < (lay l cl i).1.length → (lay l cl (i + d)).1[k]? = (lay l cl i).1[k]?
  | 0, _ => ⟨Nat.le_refl _, fun _ _ => rfl⟩
  | d + 1, h => by
    obtain ⟨h1, h2⟩ := lay_mono (l := l) (cl := cl) (i := i) d (by omega)
    obtain ⟨h3, h4⟩ := lay_le (l := l) (cl := cl) (i := i + d) (by omega)
    refine ⟨by rw [← Nat.add_assoc]; omega, fun k hk => ?_⟩
    rw [← Nat.add_assoc, h4 k (by omega), h2 k hk]

theorem lay_two (l : List Fn) (cl : List Int) {i : Nat} (hi : i ≤ l.length) : 2 ≤ (lay l cl i).1.length := by
  have := (lay_mono (l := l) (cl := cl) (i := 0) i (by omega)).1
  rw [Nat.zero_add] at this
  exact this

theorem lay_bg {l : List Fn} {cl : List Int} {i : Nat} : ∀ (d : Nat), i + 1 + d ≤ l.length → at_ (lay l cl (i + 1 + d)).2 i = if at_ cl i = i then ((lay l cl i).1.length : Int) else -1
  | 0, h => by
    obtain ⟨f, hf⟩ := at_lt (l := l) (i := i) (by omega)
    have hl := lay_len2 l cl i (by omega)
    rw [Nat.add_zero]
    by_cases e : at_ cl i = i
    · rw [lay_rep hf e, if_pos e]
      unfold at_
      dsimp only
      rw [List.getD_eq_getElem?_getD, List.getElem?_append_right (by omega), hl, Nat.sub_self]
      rfl
    · rw [lay_not hf e, if_neg e]
      unfold at_
      dsimp only
      rw [List.getD_eq_getElem?_getD, List.getElem?_append_right (by omega), hl, Nat.sub_self]
      rfl
  | d + 1, h => by
    have ih := lay_bg (l := l) (cl := cl) (i := i) d (by omega)
    obtain ⟨f, hf⟩ := at_lt (l := l) (i := i + 1 + d) (by omega)
    have hl := lay_len2 l cl (i + 1 + d) (by omega)
    rw [← ih, ← Nat.add_assoc]
    by_cases e : at_ cl (i + 1 + d) = ((i + 1 + d : Nat) : Int)
    · rw [lay_rep hf e]
      unfold at_
      dsimp only
      rw [List.getD_eq_getElem?_getD, List.getElem?_append_left (by omega), ← List.getD_eq_getElem?_getD]
    · rw [lay_not hf e]
      unfold at_
      dsimp only
      rw [List.getD_eq_getElem?_getD, List.getElem?_append_left (by omega), ← List.getD_eq_getElem?_getD]

theorem lay_at {l : List Fn} {cl : List Int} {i j m : Nat} {f : Fn} (hf : l[i]? = some f) (e : at_ cl i = i) (hij : i < j) (hj : j ≤ l.length) {x : It} (hx : f.its[m]? = some x) :
    (lay l cl j).1[(lay l cl i).1.length + m]? = some (shift (lay l cl i).1.length x) ∧ (lay l cl i).1.length + f.its.length ≤ (lay l cl j).1.length := by
  obtain ⟨h1, h2⟩ := lay_mono (l := l) (cl := cl) (i := i + 1) (j - (i + 1)) (by omega)
  rw [show i + 1 + (j - (i + 1)) = j by omega] at h1 h2
  rw [lay_rep hf e] at h1 h2
  rw [List.length_append, List.length_map] at h1 h2
  have hm := (List.getElem?_eq_some_iff.1 hx).1
  refine ⟨?_, h1⟩
  rw [h2 _ (by omega), List.getElem?_append_right (by omega), Nat.add_sub_cancel_left, List.getElem?_map, hx]
  rfl

theorem lay_seg {l : List Fn} {cl : List Int} : ∀ (j : Nat), j ≤ l.length → ∀ k, 2 ≤ k → k < (lay l cl j).1.length → ∃ i f m x, i < j ∧ l[i]? = some f ∧ at_ cl i = i ∧ f.its[m]? = some x ∧ k = (lay l cl i).1.length + m
  | 0, _, k, h2, hk => by
    have : (lay l cl 0).1.length = 2 := rfl
    omega
  | j + 1, hj, k, h2, hk => by
    obtain ⟨f, hf⟩ := at_lt (l := l) (i := j) (by omega)
    by_cases hlt : k < (lay l cl j).1.length
    · obtain ⟨i, f', m, x, h3, h4⟩ := lay_seg j (by omega) k h2 hlt
      exact ⟨i, f', m, x, by omega, h4⟩
    · by_cases e : at_ cl j = j
      · rw [lay_rep hf e, List.length_append, List.length_map] at hk
        obtain ⟨x, hx⟩ := at_lt (l := f.its) (i := k - (lay l cl j).1.length) (by omega)
        exact ⟨j, f, k - (lay l cl j).1.length, x, by omega, hf, e, hx, by omega⟩
      · rw [lay_not hf e] at hk
        exact absurd hk hlt

/-! ### All references -/

theorem rs_mem {cl bgs : List Int} {base : Nat} {cls : List (Int × Int)} {r : Nat × Int} : r ∈ rs cl bgs base cls ↔ ∃ c ∈ cls, r = (base + c.1.toNat, at_ bgs (at_ cl c.2.toNat).toNat) := by
  unfold rs
  rw [List.mem_map]
  exact ⟨fun ⟨c, h1, h2⟩ => ⟨c, h1, h2.symm⟩, fun ⟨c, h1, h2⟩ => ⟨c, h1, h2.symm⟩⟩

theorem callsOk_bd {its : List It} {many : Nat} : ∀ {r : List (Int × Int)} {last : Int}, -1 ≤ last → callsOk its many last r → ∀ c ∈ r, last < c.1 ∧ 0 ≤ c.1 ∧ c.1 < its.length ∧ 0 ≤ c.2 ∧ c.2 < many ∧ (∀ x, its[c.1.toNat]? = some x → (x.op = 20 ∨ x.op = 11) ∧ x.to < 0 ∧ x.n = 0)
  | [], _, _, _, c, hc => by cases hc
  | x :: r, last, h0, h, c, hc => by
    rcases List.mem_cons.1 hc with rfl | hc
    · exact ⟨h.1, by have := h.1; omega, h.2.1, h.2.2.1, h.2.2.2.1, h.2.2.2.2.1⟩
    · have h1 := h.1
      obtain ⟨a, b⟩ := callsOk_bd (by omega) h.2.2.2.2.2 c hc
      exact ⟨by omega, b⟩

theorem rs_pw {its : List It} {many : Nat} (cl bgs : List Int) (base : Nat) : ∀ {r : List (Int × Int)} {last : Int}, -1 ≤ last → callsOk its many last r → (rs cl bgs base r).Pairwise fun a b => a.1 < b.1
  | [], _, _, _ => List.Pairwise.nil
  | x :: r, last, h0, h => by
    have h1 := h.1
    have e : rs cl bgs base (x :: r) = (base + x.1.toNat, at_ bgs (at_ cl x.2.toNat).toNat) :: rs cl bgs base r := rfl
    rw [e, List.pairwise_cons]
    refine ⟨fun a ha => ?_, rs_pw cl bgs base (by omega) h.2.2.2.2.2⟩
    obtain ⟨c, hc, rfl⟩ := rs_mem.1 ha
    have := callsOk_bd (by omega) h.2.2.2.2.2 c hc
    dsimp only
    omega

theorem Rall_succ {l : List Fn} {cl bgs : List Int} {i : Nat} {f : Fn} (hf : l[i]? = some f) : Rall l cl bgs (i + 1) = Rall l cl bgs i ++ if at_ cl i = i then rs cl bgs (at_ bgs i).toNat f.cls else [] := by
  rw [Rall, hf]

theorem Rall_mem {l : List Fn} {cl bgs : List Int} : ∀ {j : Nat}, j ≤ l.length → ∀ r, r ∈ Rall l cl bgs j ↔ ∃ i f, i < j ∧ l[i]? = some f ∧ at_ cl i = i ∧ r ∈ rs cl bgs (at_ bgs i).toNat f.cls
  | 0, _, r => by
    constructor
    · intro h; cases h
    · rintro ⟨i, f, h, _⟩; omega
  | j + 1, hj, r => by
    obtain ⟨f, hf⟩ := at_lt (l := l) (i := j) (by omega)
    rw [Rall_succ hf, List.mem_append, Rall_mem (by omega)]
    constructor
    · rintro (⟨i, f', h1, h2⟩ | h)
      · exact ⟨i, f', by omega, h2⟩
      · split at h
        · rename_i e
          exact ⟨j, f, by omega, hf, e, h⟩
        · cases h
    · rintro ⟨i, f', h1, h2, h3, h4⟩
      by_cases e : i = j
      · subst e
        rw [hf] at h2
        injection h2 with h2
        subst h2
        rw [if_pos h3]
        exact .inr h4
      · exact .inl ⟨i, f', by omega, h2, h3, h4⟩

/-- What is known of the classes and the beginnings. -/
structure Lay (l : List Fn) (n : Nat) (cl : List Int) : Prop where
  nl : l.length = n
  n256 : n ≤ 256
  ok : ∀ f ∈ l, fnOk n f
  can : Can n cl

def bgsOf (l : List Fn) (cl : List Int) : List Int := (lay l cl l.length).2

theorem bgs_at {l : List Fn} {n : Nat} {cl : List Int} (L : Lay l n cl) {i : Nat} (hi : i < n) : at_ (bgsOf l cl) i = if at_ cl i = i then ((lay l cl i).1.length : Int) else -1 := by
  have := lay_bg (l := l) (cl := cl) (i := i) (l.length - (i + 1)) (by rw [L.nl]; omega)
  rw [show i + 1 + (l.length - (i + 1)) = l.length by rw [L.nl]; omega] at this
  exact this

theorem Rall_bd {l : List Fn} {n : Nat} {cl : List Int} (L : Lay l n cl) {j : Nat} (hj : j ≤ n) : ∀ r ∈ Rall l cl (bgsOf l cl) j, 2 ≤ r.1 ∧ r.1 < (lay l cl j).1.length := by
  intro r hr
  obtain ⟨i, f, h1, h2, h3, h4⟩ := (Rall_mem (by rw [L.nl]; omega) r).1 hr
  obtain ⟨c, hc, rfl⟩ := rs_mem.1 h4
  have ok := L.ok f (List.mem_of_getElem? h2)
  obtain ⟨b1, b2, b3, _⟩ := callsOk_bd (by omega) ok.2.2.2.2.2.1 c hc
  rw [bgs_at L (by omega), if_pos h3, Int.toNat_natCast]
  obtain ⟨x, hx⟩ := at_lt (l := f.its) (i := c.1.toNat) (by omega)
  have := (lay_at h2 h3 h1 (by rw [L.nl]; omega) hx).2
  have := lay_two l cl (i := i) (by rw [L.nl]; omega)
  dsimp only
  omega

theorem Rall_pw {l : List Fn} {n : Nat} {cl : List Int} (L : Lay l n cl) : ∀ (j : Nat), j ≤ n → (Rall l cl (bgsOf l cl) j).Pairwise fun a b => a.1 < b.1
  | 0, _ => List.Pairwise.nil
  | j + 1, hj => by
    obtain ⟨f, hf⟩ := at_lt (l := l) (i := j) (by rw [L.nl]; omega)
    have ok := L.ok f (List.mem_of_getElem? hf)
    rw [Rall_succ hf, List.pairwise_append]
    refine ⟨Rall_pw L j (by omega), ?_, fun a ha b hb => ?_⟩
    · split
      · exact rs_pw cl _ _ (by omega) ok.2.2.2.2.2.1
      · exact List.Pairwise.nil
    · split at hb
      · rename_i e
        obtain ⟨c, hc, rfl⟩ := rs_mem.1 hb
        have := (Rall_bd L (by omega) a ha).2
        rw [bgs_at L (by omega), if_pos e, Int.toNat_natCast]
        dsimp only
        omega
      · cases hb

theorem Rall_len {l : List Fn} {n : Nat} {cl : List Int} (L : Lay l n cl) : ∀ (j : Nat), j ≤ n → (Rall l cl (bgsOf l cl) j).length ≤ j * 16384
  | 0, _ => Nat.zero_le _
  | j + 1, hj => by
    obtain ⟨f, hf⟩ := at_lt (l := l) (i := j) (by rw [L.nl]; omega)
    have ok := L.ok f (List.mem_of_getElem? hf)
    have ih := Rall_len L j (by omega)
    have hc := callsOk_len (by omega : (-1 : Int) ≤ -1) ok.2.2.2.2.2.1
    have hi := ok.1.1
    have hle : (if at_ cl j = j then rs cl (bgsOf l cl) (at_ (bgsOf l cl) j).toNat f.cls else []).length ≤ 16384 := by
      split
      · unfold rs; rw [List.length_map]; omega
      · exact Nat.zero_le _
    rw [Rall_succ hf, List.length_append, Nat.add_mul j 1 16384]
    omega

/-- The items ahead of the references, and behind them. -/
def its0 (l : List Fn) (cl : List Int) (mi : Nat) : List It := (lay l cl l.length).1.set 0 ⟨20, 0, 0, 0, 0, at_ (bgsOf l cl) (at_ cl mi).toNat⟩
def finS (l : List Fn) (cl : List Int) (mi : Nat) : List It × List (Int × Int) := (Rall l cl (bgsOf l cl) l.length).foldl rstep (its0 l cl mi, [])

theorem fin_len (l : List Fn) (cl : List Int) (mi : Nat) : (finS l cl mi).1.length = (lay l cl l.length).1.length := by
  unfold finS its0
  rw [fold_len, List.length_set]

/-- Where a class begins. -/
theorem rep_bg {l : List Fn} {n : Nat} {cl : List Int} (L : Lay l n cl) {i : Nat} (hi : i < n) : ∃ r f, at_ cl i = ((r : Nat) : Int) ∧ r ≤ i ∧ l[r]? = some f ∧ at_ cl r = r ∧ at_ (bgsOf l cl) r = ((lay l cl r).1.length : Int) ∧ (lay l cl r).1.length + f.its.length ≤ (lay l cl l.length).1.length ∧ f.its.length ≠ 0 := by
  have c1 := L.can.lo i hi
  have c2 := L.can.hi i hi
  have c3 := L.can.fx i hi
  obtain ⟨r, hr⟩ := Int.eq_ofNat_of_zero_le c1
  rw [hr, Int.toNat_natCast] at c3
  obtain ⟨f, hf⟩ := at_lt (l := l) (i := r) (by rw [L.nl]; omega)
  have ok := L.ok f (List.mem_of_getElem? hf)
  obtain ⟨x, hx⟩ := at_lt (l := f.its) (i := 0) (by have := ok.2.1; omega)
  exact ⟨r, f, hr, by omega, hf, c3, by rw [bgs_at L (by omega), if_pos c3], (lay_at hf c3 (by rw [L.nl]; omega) (Nat.le_refl _) hx).2, ok.2.1⟩

theorem its0_get {l : List Fn} {cl : List Int} {mi k : Nat} (hk : 2 ≤ k) : (its0 l cl mi)[k]? = (lay l cl l.length).1[k]? := by
  unfold its0
  rw [List.getElem?_set, if_neg (by omega)]

/-- An item that is not a reference. -/
theorem fin_plain {l : List Fn} {n : Nat} {cl : List Int} (L : Lay l n cl) (mi : Nat) {i m : Nat} {f : Fn} {x : It} (hf : l[i]? = some f) (e : at_ cl i = i) (hx : f.its[m]? = some x) (hn : ∀ c ∈ f.cls, c.1 ≠ m) :
    (finS l cl mi).1[(lay l cl i).1.length + m]? = some (shift (lay l cl i).1.length x) := by
  have hi := (List.getElem?_eq_some_iff.1 hf).1
  have h2 := lay_two l cl (i := i) (by omega)
  have hm := (List.getElem?_eq_some_iff.1 hx).1
  unfold finS
  rw [fold_out, its0_get (by omega), (lay_at hf e hi (Nat.le_refl _) hx).1]
  intro r hr heq
  obtain ⟨j, g, h3, h4, h5, h6⟩ := (Rall_mem (Nat.le_refl _) r).1 hr
  obtain ⟨c, hc, rfl⟩ := rs_mem.1 h6
  have okg := L.ok g (List.mem_of_getElem? h4)
  obtain ⟨b1, b2, b3, _⟩ := callsOk_bd (by omega) okg.2.2.2.2.2.1 c hc
  rw [bgs_at L (by rw [← L.nl]; omega), if_pos h5, Int.toNat_natCast] at heq
  dsimp only at heq
  obtain ⟨y, hy⟩ := at_lt (l := g.its) (i := c.1.toNat) (by omega)
  rcases Nat.lt_trichotomy i j with hij | hij | hij
  · have := (lay_at hf e hij (by omega) hx).2
    omega
  · subst hij
    rw [hf] at h4
    injection h4 with h4
    subst h4
    exact hn c hc (by omega)
  · have := (lay_at h4 h5 hij (by omega) hy).2
    omega

/-- An item that is a reference. -/
theorem fin_ref {l : List Fn} {n : Nat} {cl : List Int} (L : Lay l n cl) (mi : Nat) {i m : Nat} {f : Fn} {x : It} (hf : l[i]? = some f) (e : at_ cl i = i) (hx : f.its[m]? = some x) {c : Int × Int} (hc : c ∈ f.cls) (hm : c.1 = m) :
    (finS l cl mi).1[(lay l cl i).1.length + m]? = some (upItem (shift (lay l cl i).1.length x) (at_ (bgsOf l cl) (at_ cl c.2.toNat).toNat)) ∧ (x.op ≠ 20 → ((((lay l cl i).1.length + m : Nat) : Int), at_ (bgsOf l cl) (at_ cl c.2.toNat).toNat) ∈ (finS l cl mi).2) := by
  have hi := (List.getElem?_eq_some_iff.1 hf).1
  have h2 := lay_two l cl (i := i) (by omega)
  have hr : ((lay l cl i).1.length + m, at_ (bgsOf l cl) (at_ cl c.2.toNat).toNat) ∈ Rall l cl (bgsOf l cl) l.length := by
    rw [Rall_mem (Nat.le_refl _)]
    refine ⟨i, f, hi, hf, e, rs_mem.2 ⟨c, hc, ?_⟩⟩
    rw [bgs_at L (i := i) (by rw [← L.nl]; omega), if_pos e, Int.toNat_natCast, hm, Int.toNat_natCast]
  have pw := Rall_pw L l.length (by rw [L.nl]; omega)
  have h0 : (its0 l cl mi)[(lay l cl i).1.length + m]? = some (shift (lay l cl i).1.length x) := by rw [its0_get (by omega), (lay_at hf e hi (Nat.le_refl _) hx).1]
  refine ⟨fold_in _ (its0 l cl mi, []) pw hr h0, fun hop => fold_has _ (its0 l cl mi, []) pw hr h0 ?_⟩
  unfold shift
  split
  · exact hop
  · exact hop

theorem chk_addr {d a b : Int} (hc : chkV 11 d a b 0 = 0) {m : Int} (h0 : -2147483648 ≤ m) (h1 : m ≤ 2147483647) : chkV 11 d a b m = 0 := by
  have hm : inB m (-2147483648) 2147483647 = true := by simp [inB, h0, h1]
  have hz : inB 0 (-2147483648) 2147483647 = true := by decide
  have un : usN 11 = true := by decide
  have d9 : decide ((11 : Int) = 9) = false := by decide
  have d10 : decide ((11 : Int) = 10) = false := by decide
  have d14 : decide ((11 : Int) = 14) = false := by decide
  have d24 : decide ((11 : Int) = 24) = false := by decide
  unfold chkV at hc ⊢
  rw [hm]
  rw [hz] at hc
  simp only [un, d9, d10, d14, d24, Bool.not_true, Bool.false_and, Bool.or_false] at hc ⊢
  exact hc

theorem shift_ok {m N base : Nat} {x : It} (h : It.ok m x) (ht : x.to ≠ m) (hb : base + m ≤ N) : It.ok N (shift base x) := by
  obtain ⟨h1, h2, h3, h4⟩ := h
  unfold shift
  by_cases e : 0 ≤ x.to
  · rw [if_pos e]
    have h1' : chkV x.op x.d x.a x.b 0 = 0 := by unfold It.num at h1; rw [if_pos e] at h1; exact h1
    refine ⟨?_, by show -1 ≤ x.to + base; omega, by show x.to + base ≤ N; omega, fun _ => h4 e⟩
    unfold It.num
    dsimp only
    rw [if_pos (by omega)]
    exact h1'
  · rw [if_neg e]
    exact ⟨h1, h2, by omega, fun h => absurd h e⟩

theorem fin_ok {l : List Fn} {n : Nat} {cl : List Int} (L : Lay l n cl) {mi : Nat} (hmi : mi < n) : ∀ x ∈ (finS l cl mi).1, It.ok (finS l cl mi).1.length x := by
  intro y hy
  obtain ⟨k, hk⟩ := List.mem_iff_getElem?.1 hy
  have hkl := (List.getElem?_eq_some_iff.1 hk).1
  have hN := fin_len l cl mi
  have two : ∀ k, k < 2 → (finS l cl mi).1[k]? = (its0 l cl mi)[k]? := by
    intro k hk
    unfold finS
    exact fold_out _ _ fun r hr => by
      have := (Rall_bd L (j := l.length) (by rw [L.nl]; omega) r hr).1
      omega
  have hl2 := lay_two l cl (i := l.length) (Nat.le_refl _)
  have layk : ∀ k, k < 2 → (lay l cl l.length).1[k]? = head2[k]? := by
    intro k hk
    have := (lay_mono (l := l) (cl := cl) (i := 0) l.length (by omega)).2 k (by show k < 2; exact hk)
    rw [Nat.zero_add] at this
    exact this
  by_cases h0 : k = 0
  · subst h0
    rw [two 0 (by omega)] at hk
    unfold its0 at hk
    rw [List.getElem?_set_self (by omega)] at hk
    injection hk with hk
    subst hk
    obtain ⟨r, f, q1, q2, q3, q4, q5, q6, q7⟩ := rep_bg L hmi
    rw [q1, Int.toNat_natCast, q5]
    refine ⟨?_, by dsimp only; omega, by dsimp only; omega, fun _ => ⟨by show jmp 20 = true; decide, rfl⟩⟩
    unfold It.num
    dsimp only
    rw [if_pos (by omega)]
    decide
  · by_cases h1 : k = 1
    · subst h1
      rw [two 1 (by omega)] at hk
      unfold its0 at hk
      rw [List.getElem?_set, if_neg (by omega), layk 1 (by omega)] at hk
      injection hk with hk
      subst hk
      exact ⟨by decide, by decide, by dsimp only; omega, fun h => absurd h (by decide)⟩
    · obtain ⟨i, f, m, x, h3, h4, h5, h6, rfl⟩ := lay_seg (l := l) (cl := cl) l.length (Nat.le_refl _) k (by omega) (by omega)
      have okf := L.ok f (List.mem_of_getElem? h4)
      have okx := okf.1.2 x (List.mem_of_getElem? h6)
      have hto := okf.2.2.2.2.1 x (List.mem_of_getElem? h6)
      have hseg := (lay_at h4 h5 h3 (Nat.le_refl _) h6).2
      have oks := shift_ok okx hto (base := (lay l cl i).1.length) (N := (finS l cl mi).1.length) (by omega)
      by_cases hr : ∃ c ∈ f.cls, c.1 = m
      · obtain ⟨c, hc, hcm⟩ := hr
        rw [(fin_ref L mi h4 h5 h6 hc hcm).1] at hk
        injection hk with hk
        subst hk
        obtain ⟨b1, b2, b3, b4, b5, b6⟩ := callsOk_bd (by omega) okf.2.2.2.2.2.1 c hc
        obtain ⟨b7, b8, b9⟩ := b6 x (by rw [hcm, Int.toNat_natCast]; exact h6)
        have hsh : shift (lay l cl i).1.length x = x := by unfold shift; rw [if_neg (by omega)]
        obtain ⟨r, g, q1, q2, q3, q4, q5, q6, q7⟩ := rep_bg L (i := c.2.toNat) (by omega)
        rw [q1, Int.toNat_natCast, q5, hsh]
        have hck : chkV x.op x.d x.a x.b 0 = 0 := by
          have := okx.1
          unfold It.num at this
          rw [if_neg (by omega), b9] at this
          exact this
        unfold upItem
        by_cases e : x.op = 20
        · rw [if_pos e]
          refine ⟨?_, by dsimp only; omega, by dsimp only; omega, fun _ => ⟨by rw [show ({ x with to := ((lay l cl r).1.length : Int) } : It).op = x.op from rfl, e]; decide, b9⟩⟩
          unfold It.num
          dsimp only
          rw [if_pos (by omega)]
          exact hck
        · rw [if_neg e]
          have e11 : x.op = 11 := by rcases b7 with h | h; exact absurd h e; exact h
          refine ⟨?_, okx.2.1, by dsimp only; omega, fun h => absurd h (by dsimp only; omega)⟩
          unfold It.num
          dsimp only
          rw [if_neg (by omega), e11]
          rw [e11] at hck
          exact chk_addr hck (by omega) (by omega)
      · rw [fin_plain L mi h4 h5 h6 fun c hc hcm => hr ⟨c, hc, hcm⟩] at hk
        injection hk with hk
        subst hk
        exact oks

theorem fin_img {l : List Fn} {n : Nat} {cl : List Int} (L : Lay l n cl) {mi : Nat} (hmi : mi < n) : Img l n cl (bgsOf l cl) (finS l cl mi).1 (finS l cl mi).2 := by
  have pw := Rall_pw L l.length (by rw [L.nl]; omega)
  have hN := fin_len l cl mi
  refine ⟨L.nl, L.n256, L.ok, L.can, by unfold bgsOf; rw [lay_len2 l cl _ (Nat.le_refl _), L.nl], fun i f hf e => ?_, fun a ha => ?_, ?_, fin_ok L hmi⟩
  · have hi := (List.getElem?_eq_some_iff.1 hf).1
    have okf := L.ok f (List.mem_of_getElem? hf)
    obtain ⟨x, hx⟩ := at_lt (l := f.its) (i := 0) (by have := okf.2.1; omega)
    have := (lay_at hf e hi (Nat.le_refl _) hx).2
    rw [bgs_at L (by rw [← L.nl]; omega), if_pos e]
    omega
  · unfold finS at ha
    rcases fold_mem _ _ pw ha with h | ⟨r, hr, rfl, x, hx, hop⟩
    · cases h
    · obtain ⟨i, f, h3, h4, h5, h6⟩ := (Rall_mem (Nat.le_refl _) r).1 hr
      obtain ⟨c, hc, rfl⟩ := rs_mem.1 h6
      have okf := L.ok f (List.mem_of_getElem? h4)
      obtain ⟨b1, b2, b3, b4, b5, b6⟩ := callsOk_bd (by omega) okf.2.2.2.2.2.1 c hc
      obtain ⟨y, hy⟩ := at_lt (l := f.its) (i := c.1.toNat) (by omega)
      obtain ⟨b7, b8, b9⟩ := b6 y hy
      obtain ⟨q, g, q1, q2, q3, q4, q5, q6, q7⟩ := rep_bg L (i := c.2.toNat) (by omega)
      obtain ⟨r1, r2⟩ := fin_ref L mi h4 h5 hy hc (by omega)
      have hsh : shift (lay l cl i).1.length y = y := by unfold shift; rw [if_neg (by omega)]
      have h2 := lay_two l cl (i := i) (by omega)
      rw [bgs_at L (by rw [← L.nl]; omega), if_pos h5, Int.toNat_natCast] at hx ⊢
      dsimp only at hx
      rw [its0_get (by omega), (lay_at h4 h5 h3 (Nat.le_refl _) hy).1, hsh] at hx
      injection hx with hx
      subst hx
      rw [hsh] at r1
      refine ⟨(lay l cl i).1.length + c.1.toNat, (lay l cl q).1.length, ?_, by rw [hN]; omega, _, r1, ?_, ?_⟩
      · dsimp only
        rw [q1, Int.toNat_natCast, q5]
      · unfold upItem; rw [if_neg hop]; exact b8
      · unfold upItem; rw [if_neg hop]
  · have h1 := fold_ads (Rall l cl (bgsOf l cl) l.length) (its0 l cl mi, [])
    have h2 := Rall_len L l.length (by rw [L.nl]; omega)
    have h3 : l.length * 16384 ≤ 256 * 16384 := Nat.mul_le_mul_right _ (by rw [L.nl]; exact L.n256)
    unfold finS
    have h4 : (256 * 16384 : Nat) = 4194304 := rfl
    have h5 : ((its0 l cl mi, ([] : List (Int × Int))).2).length = 0 := rfl
    omega

end Go.Proofs.Ytmfmnbldngfelaa.I

/- link: what Link answers. -/
set_option linter.unusedVariables false
set_option linter.unusedSimpArgs false
namespace Go.Proofs.Ytmfmnbldngfelaa.I
open Go Go.Proofs.Ytmfmnbldngfelaa.Abs Go.Proofs

theorem refs_all {h0 : Heap} {s0 s1 : SA} {n : Nat} {l : List Fn} {cl : List Int} (HL : VS Fn.cells 5 h0 s0 n l) (R : ∀ f ∈ l, f.R h0) (HC : VS intC 1 h0 s1 n cl) (L : Lay l n cl) (mi : Nat) (lg : Bool) (lb : Nat) : ∀ (k j : Nat), j + k = n → ∀ (h : Heap) (sI sB sA : SA), Old h0 h →
    LK h lb h0.length sI sB sA ((Rall l cl (bgsOf l cl) j).foldl rstep (its0 l cl mi, [])).1 (bgsOf l cl) ((Rall l cl (bgsOf l cl) j).foldl rstep (its0 l cl mi, [])).2 →
    ∃ h' sI' sB' sA', L35x53 mk0 E s0 n s1 n lg .nil 0 0 .nil 0 .nil 0 .nil 0 (some ⟨lb, 0, 0⟩) s0 n ((n : Nat) : Int) ((j : Nat) : Int) h (Q35x53 mk0 E) = Q35x53 mk0 E (.exit 4) (S35xe4 s0 n s1 n lg .nil 0 0 .nil 0 .nil 0 .nil 0 (some ⟨lb, 0, 0⟩) h') ∧
      Old h0 h' ∧ LK h' lb h0.length sI' sB' sA' (finS l cl mi).1 (bgsOf l cl) (finS l cl mi).2 := by
  have hl := HL.1
  have hcl := HC.1
  have hn := L.n256
  have hbl : (bgsOf l cl).length = n := by unfold bgsOf; rw [lay_len2 l cl _ (Nat.le_refl _), L.nl]
  intro k
  induction k with
  | zero =>
    intro j hj h sI sB sA ho H
    have : j = n := by omega
    subst this
    rw [L35x53xeq, letK_eq, if_neg (by simp)]
    refine ⟨h, sI, sB, sA, rfl, ho, ?_⟩
    unfold finS
    rw [hl]
    exact H
  | succ k ih =>
    intro j hj h sI sB sA ho H
    obtain ⟨f, hf⟩ := at_lt (l := l) (i := j) (by omega)
    have okf := L.ok f (List.mem_of_getElem? hf)
    obtain ⟨a, ha, la⟩ := vs_ld (vs_old HL ho) fn_flat j f hf
    have g1 := at_get (l := cl) (i := j) (by omega)
    obtain ⟨a', ha', la'⟩ := vs_ld1 (g := AV.int .i64) (vs_old HC ho) (fun _ => rfl) j _ g1
    have next : ∀ (h3 : Heap) (sI3 sB3 sA3 : SA), Old h0 h3 → LK h3 lb h0.length sI3 sB3 sA3 ((Rall l cl (bgsOf l cl) (j + 1)).foldl rstep (its0 l cl mi, [])).1 (bgsOf l cl) ((Rall l cl (bgsOf l cl) (j + 1)).foldl rstep (its0 l cl mi, [])).2 →
        ∃ h' sI' sB' sA', J35x63 mk0 E s0 n s1 n lg .nil 0 0 .nil 0 .nil 0 .nil 0 (some ⟨lb, 0, 0⟩) s0 n ((n : Nat) : Int) ((j : Nat) : Int) h3 (Q35x53 mk0 E) = Q35x53 mk0 E (.exit 4) (S35xe4 s0 n s1 n lg .nil 0 0 .nil 0 .nil 0 .nil 0 (some ⟨lb, 0, 0⟩) h') ∧
          Old h0 h' ∧ LK h' lb h0.length sI' sB' sA' (finS l cl mi).1 (bgsOf l cl) (finS l cl mi).2 := by
      intro h3 sI3 sB3 sA3 o3 H3
      rw [J35x63xeq, letK_eq, wrap64 (by omega) (by omega), show ((j : Int) + 1) = ((j + 1 : Nat) : Int) by omega]
      exact ih (j + 1) (by omega) h3 sI3 sB3 sA3 o3 H3
    rw [L35x53xeq, letK_eq, if_pos (by simp; omega), chk_of (by intro _; omega), ha, atP_of, Int.toNat_natCast, la, gCells_of]
    simp only [Fn.cells, List.getElem?_cons_zero, List.getElem?_cons_succ]
    rw [gI_of, gL_of, gL_of, gL_of, gI_of, chk_of (by intro _; omega), ha', atP_of, la', gI_of, letK_eq]
    by_cases e : at_ cl j = j
    · have rd1 : ld1 h ⟨lb, 0, 0 + 1⟩ = some (.sl sB (bgsOf l cl).length) := ld1_at H.c rfl rfl
      have hbj := bgs_at L (i := j) (by omega)
      rw [if_pos e] at hbj
      have g2 := at_get (l := bgsOf l cl) (i := j) (by omega)
      rw [hbj] at g2
      have HB : VS intC 1 h sB (bgsOf l cl).length (bgsOf l cl) := by
        have := H.b
        rw [← rows_one] at this
        exact vs_GS (f := intC) (fun _ => rfl) rfl this
      obtain ⟨a2, ha2, la2⟩ := vs_ld1 (g := AV.int .i64) HB (fun _ => rfl) j _ g2
      obtain ⟨x, hx⟩ := at_lt (l := f.its) (i := 0) (by have := okf.2.1; omega)
      have hseg := (lay_at hf e (by omega : j < l.length) (Nat.le_refl _) hx).2
      have hlen := lay_len1 l cl (fun f hf => (L.ok f hf).1.1) l.length
      have hm : l.length * 16384 ≤ 256 * 16384 := Nat.mul_le_mul_right _ (by omega)
      have hm' : (256 * 16384 : Nat) = 4194304 := rfl
      have hi0 : (its0 l cl mi).length = (lay l cl l.length).1.length := by unfold its0; rw [List.length_set]
      have hfl := fold_len (Rall l cl (bgsOf l cl) j) (its0 l cl mi, [])
      have hfa := fold_ads (Rall l cl (bgsOf l cl) j) (its0 l cl mi, [])
      have hra := Rall_len L j (by omega)
      have hrb : j * 16384 ≤ 256 * 16384 := Nat.mul_le_mul_right _ (by omega)
      have hcl' := callsOk_len (by omega : (-1 : Int) ≤ -1) okf.2.2.2.2.2.1
      have hoi := okf.1.1
      have hz : ((its0 l cl mi, ([] : List (Int × Int))).2).length = 0 := rfl
      have hz' : ((its0 l cl mi, ([] : List (Int × Int))).1).length = (its0 l cl mi).length := rfl
      obtain ⟨h3, sI3, sB3, sA3, c1, c2, c3⟩ := refs_ok (lb := lb) (R f (List.mem_of_getElem? hf)) HC (base := (lay l cl j).1.length) (by omega) (bgs := bgsOf l cl) hoi
        (fun c hc => by obtain ⟨b1, b2, b3, b4, b5, _⟩ := callsOk_bd (by omega) okf.2.2.2.2.2.1 c hc; exact ⟨b2, b3, b4, b5⟩)
        (fun i hi => by have q1 := L.can.lo i hi; have q2 := L.can.hi i hi; exact ⟨q1, by omega⟩) (its := ((Rall l cl (bgsOf l cl) j).foldl rstep (its0 l cl mi, [])).1) (ads := ((Rall l cl (bgsOf l cl) j).foldl rstep (its0 l cl mi, [])).2) ho (by rw [hfl, hz']; omega) (by omega) H
      rw [if_pos (by simp [e]), atP_of, add_mk, rd1, gL_of, chk_of (by intro _; omega), ha2, atP_of, la2, gI_of, c1, Option.bind_some, gT0_of]
      refine next h3 sI3 sB3 sA3 (ho.fr c3) ?_
      rw [Rall_succ hf, if_pos e, List.foldl_append, hbj, Int.toNat_natCast]
      exact c2
    · rw [if_neg (by simpa using e)]
      refine next h sI sB sA ho ?_
      rw [Rall_succ hf, if_neg e, List.append_nil]
      exact H

theorem GS.vsI {h : Heap} {s : SA} {n : Nat} {l : List Int} (hn : l.length = n) (H : GS h s n 1 (l.map (.int .i64))) : VS intC 1 h s n l := by
  rw [← rows_one] at H
  exact vs_GS (f := intC) (fun _ => rfl) hn H

/-- What the image answers. -/
def ImgOut (h h' : Heap) (n : Nat) (cl bgs : List Int) (F : List It) (A : List (Int × Int)) (lg : Bool) (r : Option (AV × Heap)) : Prop :=
  (r = some (.tup [.agg [.sl .nil 0, .int .i64 0, .sl .nil 0, .sl .nil 0, .sl .nil 0], .sl .nil 0, .int .i64 2], h') ∧ (16384 < F.length ∨ ∃ bs, Final F bs ∧ 16384 < pos (lng F bs lg) F.length)) ∨
  (F.length ≤ 16384 ∧ ∃ bs, Final F bs ∧ pos (lng F bs lg) F.length ≤ 16384 ∧ ∃ sc sS sM kM sO W, r = some (.tup [.agg [.sl sc W.length, .int .i64 0, .sl sS (stL cl (fun i => pos (lng F bs lg) (at_ bgs i).toNat) n).length, .sl sM kM, .sl .nil 0], .sl sO n, .int .i64 0], h') ∧
    W = patch (pos (lng F bs lg)) A ((ents F (lng F bs lg)).flatMap Ent.words) ∧ VS intC 1 h' sc W.length W ∧ VS intC 1 h' sS (stL cl (fun i => pos (lng F bs lg) (at_ bgs i).toNat) n).length (stL cl (fun i => pos (lng F bs lg) (at_ bgs i).toNat) n) ∧
    VS intC 1 h' sO n ((List.range n).map fun q => pos (lng F bs lg) (at_ bgs (at_ cl q).toNat).toNat) ∧ esOk h' sc 1)

theorem words_total {F : List It} {bs : List Bool} {lg : Bool} (Fi : Final F bs) : ((((ents F (lng F bs lg)).flatMap Ent.words).length : Nat) : Int) = pos (lng F bs lg) F.length := by
  have := pos_words (all := lg) Fi F.length (Nat.le_refl _)
  have e : (ents F (lng F bs lg)).take F.length = ents F (lng F bs lg) := List.take_of_length_le (by unfold ents; simp)
  rw [e] at this
  exact this

theorem pos_mono (cs : List Bool) {i k : Nat} (h : i ≤ k) : pos cs i ≤ pos cs k := by
  have := pos_grow cs i (k - i)
  rw [show i + (k - i) = k by omega] at this
  omega

theorem image_ok {h0 h : Heap} {l : List Fn} {n : Nat} {cl bgs : List Int} {F : List It} {A : List (Int × Int)} (I : Img l n cl bgs F A) {lb n0 : Nat} {sI sB sA s1 s2 : SA} (lg : Bool) (H : LK h lb n0 sI sB sA F bgs A) (HL : VS Fn.cells 5 h s1 n l) (R : ∀ f ∈ l, f.R h) (HC : VS intC 1 h s2 n cl) :
    ∃ h', ImgOut h h' n cl bgs F A lg (E 49 [.ptr (some ⟨lb, 0, 0⟩), .sl s1 n, .sl s2 n, .bool lg] h) ∧ Old h h' := by
  have rd0 : ld1 h ⟨lb, 0, 0 + 0⟩ = some (.sl sI F.length) := ld1_at H.c rfl rfl
  have hn := I.n256
  rw [e49, atP_of, add_mk, rd0, gL_of]
  have HI : VS It.cells 6 h sI F.length F := vs_GS it_len rfl H.i
  by_cases hF : F.length ≤ 16384
  · obtain ⟨bs, Fi, ⟨hbig, h', e, o⟩ | ⟨hle, h2, sc, wl, p, e, o, g1, g2, g3, g4⟩⟩ := rencode_ok lg HI I.okF hF
    · rw [e, Option.bind_some, gT3_of]
      simp only [List.getD_cons_zero, List.getD_cons_succ]
      rw [gL_of, gL_of, gI_of, letK_eq, if_pos (by simp)]
      exact ⟨h', .inl ⟨rfl, .inr ⟨bs, Fi, hbig⟩⟩, o⟩
    · rw [e, Option.bind_some, gT3_of]
      simp only [List.getD_cons_zero, List.getD_cons_succ]
      have H2 := H.keep o
      have rd2 : ld1 h2 ⟨lb, 0, 0 + 2⟩ = some (.sl sA A.length) := ld1_at H2.c rfl rfl
      have lbl := (List.getElem?_eq_some_iff.1 H.c).1
      have hlp := (List.getElem?_eq_some_iff.1 g4).1
      rw [gL_of, gL_of, gI_of, letK_eq, if_neg (by simp), atP_of, add_mk, rd2, gL_of]
      have hwt := words_total (lg := lg) Fi
      have hwl : (((ents F (lng F bs lg)).flatMap Ent.words).length : Nat) = wl := by have := g1.1; simpa using this
      generalize hcs : lng F bs lg = cs at *
      have hA : VS clC 2 h2 sA A.length A := vs_GS clC_len rfl H2.a
      -- the code lies apart: below a bound lies all else
      have ad : ∀ x ∈ A, ∃ k t : Nat, x = ((k : Int), (t : Int)) ∧ t < F.length ∧ k < F.length ∧ pos cs k + 1 < pos cs F.length := by
        intro x hx
        obtain ⟨k, t, e1, e2, it, e3, e4, e5⟩ := I.ad x hx
        have hk := (List.getElem?_eq_some_iff.1 e3).1
        refine ⟨k, t, e1, e2, hk, ?_⟩
        have hgt : gt cs k = true := by
          rw [← hcs, gt_lng hk]
          unfold lngAt
          rw [e3]
          dsimp only
          rw [Fi.f1 k it e3 e4, e5]
          rfl
        have h1 := pos_succ cs k
        rw [hgt, if_pos rfl] at h1
        have h2 := pos_mono cs (i := k + 1) (k := F.length) (by omega)
        omega
      -- the patched heap: all but the code's block stands
      have pl : ∀ (k j : Nat), j + k = A.length → ∀ (h3 : Heap) (W : List Int), (∀ q y, ¬ inS sc q → h2[q]? = some y → h3[q]? = some y) → GS h3 sc wl 1 (W.map (.int .i64)) →
          ∃ h4, L49x10 mk0 E (some ⟨lb, 0, 0⟩) s1 n s2 n .nil 0 0 .nil 0 .nil 0 .nil 0 sc wl (.pos ⟨p, 0, 0⟩) F.length sA A.length ((A.length : Nat) : Int) ((j : Nat) : Int) h3 (Q49x10 mk0 E) = Q49x10 mk0 E (.exit 0) (S49xe0 (some ⟨lb, 0, 0⟩) s1 n s2 n .nil 0 0 .nil 0 .nil 0 .nil 0 sc wl (.pos ⟨p, 0, 0⟩) F.length h4) ∧
            (∀ q y, ¬ inS sc q → h2[q]? = some y → h4[q]? = some y) ∧ GS h4 sc wl 1 ((patch (pos cs) (A.drop j) W).map (.int .i64)) := by
        have hai := I.ai
        intro k
        induction k with
        | zero =>
          intro j hj h3 W ho g
          rw [L49x10xeq, letK_eq, if_neg (by simp; omega)]
          exact ⟨h3, rfl, ho, by rw [List.drop_eq_nil_of_le (by omega)]; exact g⟩
        | succ k ih =>
          intro j hj h3 W ho g
          obtain ⟨x, hx⟩ := at_lt (l := A) (i := j) (by omega)
          obtain ⟨i1, t1, rfl, ht, hk, hw⟩ := ad x (List.mem_of_getElem? hx)
          have nA : ∀ q, inS sA q → ¬ inS sc q := fun q hq hh => by
            have := gs_lt H.a hq
            have := (g2 q hh).1
            omega
          have HA' : VS clC 2 h3 sA A.length A := by
            have := gs_keep (s := sc) H2.a (fun b y hy hn => ho b y hn hy) nA
            exact vs_GS clC_len rfl this
          obtain ⟨a, ha, la⟩ := vs_ld HA' cl_flat j _ hx
          have hp' := ho _ _ (fun hh => (g2 p hh).2 rfl) g4
          have rp : ∀ i, i < F.length → ld1 h3 ⟨p, 0, 0 + i * 1⟩ = some (.int .i64 (pos cs i)) := fun i hi => ld1_at hp' (by unfold posL; rw [Nat.zero_add, Nat.mul_one, List.getElem?_map, range_get (by omega)]; rfl) rfl
          have l1 := pos_lo cs i1
          have l2 := pos_hi cs i1
          have l3 := pos_lo cs t1
          have l4 := pos_hi cs t1
          have hWl : W.length = wl := by have := g.1; simpa using this
          obtain ⟨bq, vq, hsc, hbq⟩ : ∃ b v, sc = .pos ⟨b, v, 0⟩ ∧ h3[b]? = some (.cells (W.map (.int .i64)) (.grow 1) v) := by
            obtain ⟨_, _, ⟨_, q⟩ | q⟩ := g
            · omega
            · exact q
          rw [L49x10xeq, letK_eq, if_pos (by simp; omega), chk_of (by intro _; omega), ha, atP_of, Int.toNat_natCast, la, gCells_of]
          simp only [clC, List.getElem?_cons_zero, List.getElem?_cons_succ]
          rw [gI_of, gI_of, chk_of (by intro _; omega), show (0 + Int.toNat 0 * 1 : Nat) = 0 from rfl, List.getElem?_cons_zero, gI_of, chk_of (by intro _; omega), adP_pos, atP_of, add_mk, Int.toNat_natCast, rp i1 hk, gI_of, letK_eq, wrap64 (by omega) (by omega), chk_of (by intro _; omega), show (0 + Int.toNat 1 * 1 : Nat) = 1 from rfl, List.getElem?_cons_succ, List.getElem?_cons_zero, gI_of, chk_of (by intro _; omega), atP_of, add_mk, Int.toNat_natCast, rp t1 ht, gI_of, letK_eq, wrap64 (x := 2 * pos cs t1) (by omega) (by omega), letK_eq, wrap64 (by omega) (by omega), chk_of (by intro _; omega), hsc, adP_pos, atP_of, add_mk]
          rw [st1_at hbq (by simp) (by simp; omega), Option.bind_some, letK_eq, wrap64 (by omega) (by omega), show ((j : Int) + 1) = ((j + 1 : Nat) : Int) by omega, Nat.zero_add, Nat.mul_one]
          have hset : (W.map (AV.int .i64)).set (pos cs i1 + 1).toNat (.int .i64 (2 * pos cs t1 + 1)) = (W.set (pos cs i1 + 1).toNat (2 * pos cs t1 + 1)).map (.int .i64) := by rw [List.map_set]
          rw [hset, ← hsc]
          obtain ⟨h', r1, r2, r3⟩ := ih (j + 1) (by omega) (h3.set bq (.cells ((W.set (pos cs i1 + 1).toNat (2 * pos cs t1 + 1)).map (.int .i64)) (.grow 1) vq)) (W.set (pos cs i1 + 1).toNat (2 * pos cs t1 + 1)) (fun q y hq hy => by rw [set_other (fun e => hq (by rw [hsc, ← e]; exact ⟨_, rfl, rfl⟩))]; exact ho q y hq hy) ⟨by simp [hWl], flat_ints _, .inr ⟨bq, vq, hsc, set_same hbq⟩⟩
          refine ⟨h', r1, r2, ?_⟩
          rw [drop_at hx]
          exact r3
      obtain ⟨h4, e4, o4, gc⟩ := pl A.length 0 (by omega) h2 _ (fun q y _ hy => hy) g1
      have e4' : L49x10 mk0 E (some ⟨lb, 0, 0⟩) s1 n s2 n .nil 0 0 .nil 0 .nil 0 .nil 0 sc wl (.pos ⟨p, 0, 0⟩) F.length sA A.length ((A.length : Nat) : Int) 0 h2 (Q49x10 mk0 E) = _ := e4
      rw [List.drop_zero] at gc
      have oh4 : Old h h4 := fun q y hy => o4 q y (fun hh => by have := (g2 q hh).1; have := (List.getElem?_eq_some_iff.1 hy).1; omega) (o q y hy)
      have hp4 := o4 _ _ (fun hh => (g2 p hh).2 rfl) g4
      have r0 : repl n [AV.int .i64 0] = (List.range n).map fun i => .int .i64 ((fun _ => (0 : Int)) i) := by
        show List.replicate n (AV.int .i64 0) = _
        apply List.ext_getElem
        · simp
        · intro i a b; simp
      rw [e4', X49x10xe0, chk_of (by omega), newK_eq, letK_eq, Int.toNat_natCast, r0]
      obtain ⟨h5, sS, sM, kM, e5, o5, b5, g5⟩ := image_loop I hF (H.keep oh4) (vs_old HL oh4) (fun f hf => (R f hf).old oh4) (vs_old HC oh4) hp4 (sc := sc) (wl := wl) n 0 (by omega) (h4 ++ [.cells ((List.range n).map fun i => .int .i64 ((fun _ => (0 : Int)) i)) (.grow 1) 0]) .nil .nil 0 [] (fun _ => 0) (old_app _ _) (last_get _ _) (fun q hq => by omega) ⟨rfl, rfl, .inl ⟨rfl, rfl⟩⟩ ⟨rfl, rfl, .inl ⟨rfl, rfl⟩⟩ (Nat.zero_le _) (fun q hq => by obtain ⟨a, ha, _⟩ := hq; cases ha) (fun q hq => by obtain ⟨a, ha, _⟩ := hq; cases ha)
      have e5' : L49x23 mk0 E (some ⟨lb, 0, 0⟩) s2 n .nil 0 0 .nil 0 .nil 0 .nil 0 (.pos ⟨p, 0, 0⟩) F.length sc wl 0 .nil 0 .nil 0 .nil 0 (.pos ⟨h4.length, 0, 0⟩) n s1 n ((n : Nat) : Int) 0 _ (Q49x23 mk0 E) = _ := e5
      rw [e5']
      refine ⟨h5, .inr ⟨hF, bs, Fi, by rw [hcs]; exact hle, sc, sS, sM, kM, .pos ⟨h4.length, 0, 0⟩, patch (pos cs) A ((ents F cs).flatMap Ent.words), ?_, by rw [hcs], ?_, ?_, ?_, ?_⟩, oh4.trans o5⟩
      · rw [patch_len, hwl, hcs]
      · rw [patch_len, hwl]
        exact vs_old (GS.vsI (by rw [patch_len, hwl]) gc) o5
      · rw [hcs]; exact GS.vsI rfl g5
      · rw [hcs]
        have hb : h5[h4.length]? = some (.cells (((List.range n).map fun q => pos cs (at_ bgs (at_ cl q).toNat).toNat).map (.int .i64)) (.grow 1) 0) := by
          rw [b5, List.map_map]; rfl
        have := vs_blk1 (g := AV.int .i64) hb
        rw [List.length_map, List.length_range] at this
        exact this
      · intro q hq
        obtain ⟨b, hb, hb2⟩ := esOk_GS gc q hq
        exact ⟨b, o5 _ _ hb, hb2⟩
  · rw [rencode_large (by omega), Option.bind_some, gT3_of]
    simp only [List.getD_cons_zero, List.getD_cons_succ]
    rw [gL_of, gL_of, gI_of, letK_eq, if_pos (by simp)]
    exact ⟨h, .inl ⟨rfl, .inl (by omega)⟩, Old.refl _⟩

theorem link_ok {h : Heap} {s0 s1 : SA} {n mi : Nat} {l : List Fn} {cl : List Int} (lg : Bool) (HL : VS Fn.cells 5 h s0 n l) (R : ∀ f ∈ l, f.R h) (HC : VS intC 1 h s1 n cl) (L : Lay l n cl) (hmi : mi < n) :
    ∃ h', ImgOut h h' n cl (bgsOf l cl) (finS l cl mi).1 (finS l cl mi).2 lg (E 35 [.sl s0 n, .sl s1 n, .int .i64 (mi : Int), .bool lg] h) ∧ Old h h' := by
  obtain ⟨v, c1, c2⟩ := lcheck_ok HL R
  have hv : v = 0 := c2.2 ⟨L.n256, L.ok⟩
  subst hv
  have hl := HL.1
  have hcl := HC.1
  have hn := L.n256
  have hbl : (bgsOf l cl).length = n := by unfold bgsOf; rw [lay_len2 l cl _ (Nat.le_refl _), L.nl]
  have cl0 := classes_loop HC L.can hn (s0 := s0) (mi : Int) lg n 0 (by omega)
  have cl0' : L35x15 mk0 E s0 n s1 n (mi : Int) lg .nil 0 0 .nil 0 .nil 0 .nil 0 s1 n ((n : Nat) : Int) 0 h (Q35x15 mk0 E) = _ := cl0
  rw [e35, c1, Option.bind_some, gI_of, letK_eq, if_neg (by simp), letK_eq, if_neg (by simp), cl0', X35x15xe0, letK_eq, letK_eq, letK_eq]
  rw [if_neg (by
    have d1 : decide ((mi : Int) < 0) = false := decide_eq_false (by omega)
    have d2 : decide ((n : Int) ≤ (mi : Int)) = false := decide_eq_false (by omega)
    rw [d1, d2]; simp), newK_eq, newK_eq]
  have hlen1 : (h ++ [Blk.cells [.int .i64 20, .int .i64 0, .int .i64 0, .int .i64 0, .int .i64 0, .int .i64 0, .int .i64 0, .int .i64 0, .int .i64 0, .int .i64 0, .int .i64 0, .int .i64 (-1)] (.grow 6) 0]).length = h.length + 1 := by simp
  rw [hlen1]
  generalize hh2 : h ++ [Blk.cells [.int .i64 20, .int .i64 0, .int .i64 0, .int .i64 0, .int .i64 0, .int .i64 0, .int .i64 0, .int .i64 0, .int .i64 0, .int .i64 0, .int .i64 0, .int .i64 (-1)] (.grow 6) 0] ++ [Blk.cells [.sl (.pos ⟨h.length, 0, 0⟩) 2, .sl .nil 0, .sl .nil 0] .fix 0] = h2
  have o2 : Old h h2 := by rw [← hh2]; exact (old_app _ _).app _
  have ki : h2[h.length]? = some (.cells (head2.flatMap It.cells) (.grow 6) 0) := by rw [← hh2]; exact app_old (last_get _ _)
  have kb : h2[h.length + 1]? = some (.cells [.sl (.pos ⟨h.length, 0, 0⟩) 2, .sl .nil 0, .sl .nil 0] .fix 0) := by rw [← hh2, ← hlen1]; exact last_get _ _
  have nin : ∀ q, ¬ inS .nil q := fun q hq => by obtain ⟨a, ha, _⟩ := hq; cases ha
  have K0 : LK h2 (h.length + 1) h.length (.pos ⟨h.length, 0, 0⟩) .nil .nil (lay l cl 0).1 (lay l cl 0).2 [] :=
    ⟨kb, ⟨rfl, rfl, .inr ⟨_, _, rfl, ki⟩⟩, ⟨rfl, rfl, .inl ⟨rfl, rfl⟩⟩, ⟨rfl, rfl, .inl ⟨rfl, rfl⟩⟩, fun q hq => by
      obtain ⟨a, ha, rfl⟩ := hq
      cases ha
      exact ⟨Nat.le_refl _, by dsimp only; omega, nin _, nin _⟩, fun q hq => absurd hq (nin q), fun q hq => absurd hq (nin q), by omega⟩
  obtain ⟨h3, sI, sB, sA, e3, o3, K3⟩ := lay_loop HL R L.ok HC hn (mi : Int) lg (h.length + 1) n 0 (by omega) h2 _ .nil .nil o2 K0
  have e3' : L35x36 mk0 E s0 n s1 n (mi : Int) lg .nil 0 0 .nil 0 .nil 0 .nil 0 (some ⟨h.length + 1, 0, 0⟩) s0 n ((n : Nat) : Int) 0 h2 (Q35x36 mk0 E) = _ := e3
  have eb : (lay l cl n).2 = bgsOf l cl := by unfold bgsOf; rw [L.nl]
  have ei : (lay l cl n).1 = (lay l cl l.length).1 := by rw [L.nl]
  rw [eb, ei] at K3
  obtain ⟨r, f, q1, q2, q3, q4, q5, q6, q7⟩ := rep_bg L hmi
  have rd0 : ld1 h3 ⟨h.length + 1, 0, 0 + 0⟩ = some (.sl sI (lay l cl l.length).1.length) := ld1_at K3.c rfl rfl
  have rd1 : ld1 h3 ⟨h.length + 1, 0, 0 + 1⟩ = some (.sl sB (bgsOf l cl).length) := ld1_at K3.c rfl rfl
  have g1 := at_get (l := cl) (i := mi) (by omega)
  rw [q1] at g1
  have g2 := at_get (l := bgsOf l cl) (i := r) (by omega)
  rw [q5] at g2
  obtain ⟨a1, ha1, la1⟩ := vs_ld1 (g := AV.int .i64) (vs_old HC o3) (fun _ => rfl) mi _ g1
  obtain ⟨a2, ha2, la2⟩ := vs_ld1 (g := AV.int .i64) (GS.vsI rfl K3.b) (fun _ => rfl) r _ g2
  have h0 : (lay l cl l.length).1[0]? = some ⟨20, 0, 0, 0, 0, 0⟩ := by
    have := (lay_mono (l := l) (cl := cl) (i := 0) l.length (by omega)).2 0 (by show 0 < 2; omega)
    rw [Nat.zero_add] at this
    exact this
  obtain ⟨b, v, hs, hbk⟩ := K3.posI h0
  have hl2 := lay_two l cl (i := l.length) (Nat.le_refl _)
  obtain ⟨h4, s1', K4, f4⟩ := K3.setI hs hbk h0 (y := ⟨20, 0, 0, 0, 0, ((lay l cl r).1.length : Int)⟩) (r := 5) (by omega) (u := .int .i64 ((lay l cl r).1.length : Int)) rfl
  have o4 := o3.fr f4
  have e0 : (lay l cl l.length).1.set 0 ⟨20, 0, 0, 0, 0, ((lay l cl r).1.length : Int)⟩ = its0 l cl mi := by unfold its0; rw [q1, Int.toNat_natCast, q5]
  rw [e0] at K4
  obtain ⟨h5, sI5, sB5, sA5, e5, o5, K5⟩ := refs_all HL R HC L mi lg (h.length + 1) n 0 (by omega) h4 sI sB sA o4 K4
  have e5' : L35x53 mk0 E s0 n s1 n lg .nil 0 0 .nil 0 .nil 0 .nil 0 (some ⟨h.length + 1, 0, 0⟩) s0 n ((n : Nat) : Int) 0 h4 (Q35x53 mk0 E) = _ := e5
  have s1'' : st1 h3 (Ad.add ⟨b, v, 0 + Int.toNat 0 * 6⟩ 5) (.int .i64 ((lay l cl r).1.length : Int)) = some h4 := s1'
  rw [e3', X35x36xe2, atP_of, add_mk, rd0, gL_of, atP_of, add_mk, rd1, gL_of, chk_of (by intro _; omega), ha1, atP_of, Int.toNat_natCast, la1, gI_of, chk_of (by intro _; omega), ha2, atP_of, Int.toNat_natCast, la2, gI_of, chk_of (by intro _; omega), hs, adP_pos, atP_of, add_mk b v, s1'', Option.bind_some, e5', X35x53xe4]
  obtain ⟨h6, O, o6⟩ := image_ok (h0 := h) (fin_img L hmi) lg K5 (vs_old HL o5) (fun f hf => (R f hf).old o5) (vs_old HC o5)
  refine ⟨h6, ?_, o5.trans o6⟩
  rcases O with ⟨O, Oc⟩ | ⟨w1, bs, w2, w3, sc, sS, sM, kM, sO, W, O, w4, w5, w6, w7, w8⟩
  · rw [O, Option.bind_some, gT3_of]
    simp only [List.getD_cons_zero, List.getD_cons_succ]
    rw [gA_of, chk_of (by intro _; rfl)]
    simp only [List.getElem?_cons_zero, List.getElem?_cons_succ]
    rw [gL_of, gI_of, gL_of, gL_of, gL_of, gL_of, gI_of]
    exact .inl ⟨rfl, Oc⟩
  · rw [O, Option.bind_some, gT3_of]
    simp only [List.getD_cons_zero, List.getD_cons_succ]
    rw [gA_of, chk_of (by intro _; rfl)]
    simp only [List.getElem?_cons_zero, List.getElem?_cons_succ]
    rw [gL_of, gI_of, gL_of, gL_of, gL_of, gL_of, gI_of]
    exact .inr ⟨w1, bs, w2, w3, sc, sS, sM, kM, sO, W, rfl, w4, w5, w6, w7, w8⟩

end Go.Proofs.Ytmfmnbldngfelaa.I
