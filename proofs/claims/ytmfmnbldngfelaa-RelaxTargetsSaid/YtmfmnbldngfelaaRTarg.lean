/- RelaxTargets. -/
import Derived.Test.YtmfmnbldngfelaaConR
set_option linter.unusedVariables false
set_option linter.unusedSimpArgs false
namespace Go.Proofs.Ytmfmnbldngfelaa.I
open Go Go.Proofs.Ytmfmnbldngfelaa.Abs Go.Proofs

theorem targ_loop {h : Heap} {s0 s5 : SA} {n n5 p : Nat} {its : List It} {bs : List Bool} {all : Bool} (HI : VS It.cells 6 h s0 n its) (hf : ∀ x ∈ its, It.fit n x) (hn : n ≤ 300) (F : Final its bs)
    (hp : h[p]? = some (.cells ((posL (lng its bs all) n).map (.int .i64)) (.grow 1) 0)) (H5 : IS h s5 n5 ((ents its (lng its bs all)).flatMap Ent.words)) (he5 : esOk h s5 1) : ∀ (k j : Nat), j + k = n →
    L11x16 mk0 E s0 n s5 n5 (.pos ⟨p, 0, 0⟩) n s0 n ((n : Nat) : Int) ((j : Nat) : Int) h (Q11x16 mk0 E) = some (.bool true, h) := by
  intro k
  have hil := HI.1
  have hv : ∀ x ∈ its, It.ok n x := fun x hx => (hf x hx).1
  have w1 := pos_words (all := all) F
  have heok := ent_ok hil (by omega) hv (lng its bs all)
  have hsz := fun {i : Nat} {e : Ent} => ent_size (all := all) (i := i) (e := e) F
  have hget := fun {i : Nat} {x : It} => ents_get (its := its) (cs := lng its bs all) (i := i) (x := x)
  have hel : (ents its (lng its bs all)).length = n := by simp [ents, hil]
  generalize lng its bs all = cs at *
  generalize ents its cs = es at *
  induction k with
  | zero =>
    intro j hj
    rw [L11x16xeq, letK_eq, if_neg (by simp; omega), X11x16xe0]
  | succ k ih =>
    intro j hj
    obtain ⟨x, hx⟩ : ∃ x, its[j]? = some x := ⟨its[j]'(by omega), List.getElem?_eq_getElem (by omega)⟩
    obtain ⟨a, ha, la⟩ := vs_ld HI it_flat j x hx
    have hxo := hf x (List.mem_of_getElem? hx)
    have hex := hget hx
    generalize he : Ent.mk x.op x.d x.a x.b (if 0 ≤ x.to then pos cs x.to.toNat - pos cs (j + 1) else x.n) (gt cs j) = e at hex
    have heo : e.ok := heok e (List.mem_of_getElem? hex)
    have hlen := hsz hex
    have at_pos : ∀ i, i ≤ n → ld1 h (Ad.add ⟨p, 0, 0⟩ (i * 1)) = some (.int .i64 (pos cs i)) := fun i hi => ld1_at hp (by unfold posL; rw [Nat.zero_add, Nat.mul_one, List.getElem?_map, range_get (by omega)]; rfl) rfl
    have wj : IntKind.wrap .i64 ((j : Int) + 1) = ((j + 1 : Nat) : Int) := by rw [wrap64 (by omega) (by omega)]; omega
    have h5l := H5.1
    have wn := w1 n (by omega)
    rw [List.take_of_length_le (by omega)] at wn
    have wp := w1 j (by omega)
    have pg := pos_grow cs j (n - j)
    rw [show j + (n - j) = n by omega] at pg
    have pl := pos_lo cs j
    have ph := pos_hi cs j
    have ph1 := pos_hi cs (j + 1)
    have pl1 := pos_lo cs (j + 1)
    have ps := pos_succ cs j
    rw [← hlen] at ps
    have hdrop : (es.flatMap Ent.words).drop ((pos cs j).toNat) = e.words ++ (es.drop (j + 1)).flatMap Ent.words := by
      have : es.flatMap Ent.words = (es.take j).flatMap Ent.words ++ (es.drop j).flatMap Ent.words := by rw [← List.flatMap_append, List.take_append_drop]
      rw [this, show (pos cs j).toNat = ((es.take j).flatMap Ent.words).length by omega, List.drop_left]
      have hd : es.drop j = e :: es.drop (j + 1) := by
        rw [List.drop_eq_getElem_cons (by omega)]
        congr 1
        rw [List.getElem?_eq_getElem (by omega)] at hex
        exact Option.some.inj hex
      rw [hd, List.flatMap_cons]
    have HD := is_drop H5 (pos cs j).toNat (by omega)
    rw [hdrop] at HD
    rw [L11x16xeq, letK_eq, if_pos (by simp; omega), chk_of (by intro _; omega), ha, atP_of, Int.toNat_natCast, la, gCells_of]
    simp only [It.cells, List.getElem?_cons_zero, List.getElem?_cons_succ]
    rw [gI_of, gI_of, gI_of, gI_of, gI_of, gI_of, chk_of (by intro _; omega), adP_pos, atP_of, at_pos j (by omega), gI_of, letK_eq, chk_of (by intro _; omega), atP_of, atP_of, at_pos j (by omega), gI_any, letK_eq, letK_eq, if_neg (by simp; omega), chk_of (by intro _; omega), atP_of, at_pos j (by omega), gI_of, chkC_of (by intro _; exact ⟨by omega, by omega, he5⟩), letK_eq, letK_eq, Nat.mul_one, decode_ok HD, e.dec heo, Option.bind_some, decR, gT3_of]
    simp only [List.getD_cons_zero, List.getD_cons_succ]
    rw [gA_of, chk_of (by intro _; rfl)]
    simp only [List.getElem?_cons_zero, List.getElem?_cons_succ]
    rw [gI_of, gI_of, gI_of, gI_of, gI_of, gI_of, gI_of, letK_eq, letK_eq, letK_eq, letK_eq, wj]
    simp only [decide_true, Bool.not_true, Bool.not_false, andB_true]
    have hsize : e.size = (e.words.length : Int) := rfl
    have hsz2 : e.size = 1 ∨ e.size = 2 := by
      rw [hsize, hlen]; split <;> simp
    rw [chk_of (by intro hh; simp at hh; omega), atP_of, atP_of, Int.toNat_natCast, at_pos (j + 1) (by omega), gI_any, chk_of (by intro _; omega), atP_of, atP_of, at_pos j (by omega), gI_any, letK_eq, wrap64 (by omega) (by omega), letK_eq, letK_eq, letK_eq, letK_eq, letK_eq]
    rw [show (if (false = true) then true else (if decide (((j + 1 : Nat) : Int) < (n : Int)) = true then !decide (pos cs (j + 1) = pos cs j + e.size) else false)) = false by
      rw [if_neg (by simp), ps, hsize]; simp]
    simp only [Bool.not_false, andB_true]
    rw [chk_of (by intro _; omega), atP_of, atP_of, at_pos j (by omega), gI_any, letK_eq, wrap64 (by omega) (by omega), letK_eq, letK_eq, letK_eq]
    rw [if_neg (by
      rw [if_neg (by simp)]
      by_cases hl : j + 1 = n
      · have : pos cs j + e.size = (n5 : Int) := by rw [hl] at ps; omega
        simp [this]
      · simp; omega), letK_eq]
    have fin : J11x43 mk0 E s0 n s5 n5 (.pos ⟨p, 0, 0⟩) n x.op x.d x.a x.b x.n x.to x.op x.d x.a x.b x.n s0 n ((n : Nat) : Int) ((j : Nat) : Int) h (Q11x16 mk0 E) = some (.bool true, h) := by
      rw [J11x43xeq, eqInts]
      simp only [gb, and_self, decide_true]
      rw [if_neg (by simp), letK_eq, wj]
      exact ih (j + 1) (by omega)
    by_cases h0 : 0 ≤ x.to
    · obtain ⟨t, ht⟩ := Int.eq_ofNat_of_zero_le h0
      have htn := hxo.2
      have hxn := (hxo.1.2.2.2 h0).2
      have q0 := pos_lo cs t
      have q1 := pos_hi cs t
      have een : e.n = pos cs t - pos cs (j + 1) := by rw [← he]; dsimp only; rw [if_pos h0, ht]; rfl
      rw [if_pos (by simpa using h0), chk_of (by intro _; omega), atP_of, at_pos j (by omega), gI_of, letK_eq, wrap64 (x := pos cs j + e.size) (by omega) (by omega), letK_eq, een, wrap64 (by omega) (by omega), chk_of (by intro _; omega), atP_of, ht, Int.toNat_natCast, at_pos t (by omega), gI_of, letK_eq, if_neg (by simp; omega)]
      have eo : e.op = x.op ∧ e.d = x.d ∧ e.a = x.a ∧ e.b = x.b := by rw [← he]; exact ⟨rfl, rfl, rfl, rfl⟩
      rw [eo.1, eo.2.1, eo.2.2.1, eo.2.2.2, hxn]
      rw [ht, hxn] at fin
      exact fin
    · rw [if_neg (by simpa using h0)]
      rw [if_neg h0] at he
      rw [← he]
      exact fin

theorem relaxTargets_ok {h : Heap} {s0 : SA} {n0 : Nat} {l : List It} (all : Bool) (HI : VS It.cells 6 h s0 n0 l) : ∃ h', E 11 [.sl s0 n0, .bool all] h = some (.bool true, h') := by
  obtain ⟨h1, e1, o1⟩ := rfact_ok h
  obtain ⟨h2, s, n, its, hn, e2, o2, hl, H2, hf⟩ := items_ok (vs_old HI o1)
  have hv : ∀ x ∈ its, It.ok n x := fun x hx => (hf x hx).1
  obtain ⟨bs, F, r3⟩ := rencode_ok all H2 hv (by omega)
  have hi1 := pos_hi (lng its bs all) n
  rcases r3 with ⟨c, _⟩ | ⟨_, h3, s12, n12, p, e3, o3, g3, _, hp, b3⟩
  · omega
  rw [e11, e1, Option.bind_some, gB_of, if_neg (by simp), e2, Option.bind_some, gL_of, e3, Option.bind_some, gT3_of]
  simp only [List.getD_cons_zero, List.getD_cons_succ]
  rw [gL_of, gL_of, gI_of, letK_eq, letK_eq, letK_eq, if_neg (by simp)]
  exact ⟨h3, targ_loop (vs_old H2 o3) hf hn F b3 (is_of_GS g3) (esOk_GS g3) n 0 (by omega)⟩

end Go.Proofs.Ytmfmnbldngfelaa.I
