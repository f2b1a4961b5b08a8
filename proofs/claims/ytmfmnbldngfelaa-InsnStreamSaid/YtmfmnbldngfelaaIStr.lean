/- InsnStream: the reading loop. -/
import Derived.Test.YtmfmnbldngfelaaIDec2
import Derived.Test.YtmfmnbldngfelaaAbsApp
set_option linter.unusedVariables false
set_option linter.unusedSimpArgs false
namespace Go.Proofs.Ytmfmnbldngfelaa.I
open Go Go.Proofs.Ytmfmnbldngfelaa.Abs Go.Proofs

/-- An instruction, encoded short (where it may be) or long. -/
structure Ent where
  op : Int
  d : Int
  a : Int
  b : Int
  n : Int
  long : Bool

def Ent.words (e : Ent) : List Int := if e.long = true then longL e.op e.d e.a e.b e.n else encL e.op e.d e.a e.b e.n
def Ent.size (e : Ent) : Int := e.words.length
def Ent.cells (e : Ent) : List AV := [.int .i64 e.op, .int .i64 e.d, .int .i64 e.a, .int .i64 e.b, .int .i64 e.n]
def Ent.ok (e : Ent) : Prop := chkV e.op e.d e.a e.b e.n = 0

theorem Ent.words_cases (e : Ent) : (inB e.n (-128) 127 = true ∧ e.words = [wordV e.op e.d e.a e.b + e.n % 256] ∧ e.size = 1) ∨ (e.words = longL e.op e.d e.a e.b e.n ∧ e.size = 2) := by
  unfold Ent.size Ent.words encL longL
  by_cases h : e.long = true
  · exact .inr (by simp [h])
  · by_cases h2 : inB e.n (-128) 127 = true
    · exact .inl ⟨h2, by simp [h, h2]⟩
    · exact .inr (by simp [h, h2])

theorem Ent.dec (e : Ent) (he : e.ok) (t : List Int) : decV (e.words ++ t) = ((e.op, e.d, e.a, e.b, e.n), e.size, 0) := by
  rcases e.words_cases with ⟨h, w, s⟩ | ⟨w, s⟩
  · rw [w, s]; exact dec_short he h t
  · rw [w, s]; exact dec_long he t

/-- A slice, advanced. -/
theorem is_drop {h : Heap} {s : SA} {n : Nat} {l : List Int} (H : IS h s n l) (k : Nat) (hk : k ≤ n) : IS h (adS s k (n - k)) (n - k) (l.drop k) := by
  obtain ⟨hl, H | ⟨b, v, o, c, m, rfl, hb, hc⟩⟩ := H
  · exact ⟨by rw [List.length_drop]; omega, .inl (by omega)⟩
  · refine ⟨by rw [List.length_drop]; omega, ?_⟩
    cases e : n - k with
    | zero => exact .inl rfl
    | succ j =>
      refine .inr ⟨b, v, o + k, c, m, rfl, hb, fun i hi => ?_⟩
      rw [Nat.add_assoc, hc (k + i) (by omega)]
      simp [List.getElem?_drop]

/-- A slice that reads as a list of instructions. -/
def OS (h : Heap) (s : SA) (n : Nat) (os : List Ent) : Prop :=
  os.length = n ∧ (n = 0 ∨ ∃ b v o c m, s = .pos ⟨b, v, o⟩ ∧ h[b]? = some (.cells c m v) ∧ ∀ i e, os[i]? = some e → o + i * 5 + 5 ≤ c.length ∧ (c.drop (o + i * 5)).take 5 = e.cells)

theorem os_ld {h : Heap} {s : SA} {n : Nat} {os : List Ent} (H : OS h s n os) (i : Nat) (e : Ent) (hi : os[i]? = some e) : ∃ a, adP s = some a ∧ ldN h (Ad.add a (i * 5)) 5 = some e.cells := by
  obtain ⟨hl, H | ⟨b, v, o, c, m, rfl, hb, hc⟩⟩ := H
  · have := (List.getElem?_eq_some_iff.1 hi).1
    omega
  · refine ⟨_, rfl, ?_⟩
    obtain ⟨h1, h2⟩ := hc i e hi
    simp only [ldN, Ad.add, hb]
    rw [if_pos ⟨trivial, h1, by rw [h2]; rfl⟩, h2]

theorem esOk_adS {h : Heap} {s : SA} {es q m : Nat} (H : esOk h s es) : esOk h (adS s q m) es := by
  intro p hp
  cases s with
  | pos a =>
    cases m with
    | zero => cases hp
    | succ m => cases hp; exact H a rfl
  | _ => cases hp

theorem read_loop {h : Heap} {s7 s62 : SA} {n : Nat} {os : List Ent} (hok : ∀ e ∈ os, e.ok) (H7 : IS h s7 n (os.map Ent.size)) (H62 : OS h s62 n os) (hn : n < 4611686018427387904) :
    ∀ (k j : Nat), j + k = n → ∀ (s5 : SA) (n5 : Nat), IS h s5 n5 ((os.drop j).flatMap Ent.words) → esOk h s5 1 →
    ∃ h', L8x32 mk0 E s5 n5 s7 n s62 n ((n : Nat) : Int) ((j : Nat) : Int) h (Q8x32 mk0 E) = some (.bool true, h') := by
  intro k
  induction k with
  | zero =>
    intro j hj s5 n5 H5 _
    refine ⟨h, ?_⟩
    rw [L8x32xeq]
    have : ¬ ((j : Int) < (n : Int)) := by omega
    have e0 := H62.1
    have e5 := H5.1
    rw [List.drop_eq_nil_of_le (by omega)] at e5
    have e5' : n5 = 0 := by simpa using e5.symm
    subst e5'
    rw [letK_eq, if_neg (by simp; omega), X8x32xe2, letK_eq]
    rfl
  | succ k ih =>
    intro j hj s5 n5 H5 hes
    have hlen := H62.1
    obtain ⟨e, he⟩ : ∃ e, os[j]? = some e := ⟨os[j]'(by omega), List.getElem?_eq_getElem (by omega)⟩
    have hd : os.drop j = e :: os.drop (j + 1) := by
      rw [List.drop_eq_getElem_cons (by omega)]
      congr 1
      rw [List.getElem?_eq_getElem (by omega)] at he
      exact Option.some.inj he
    have hek : e.ok := hok e (List.mem_of_getElem? he)
    obtain ⟨a62, ha62, l62⟩ := os_ld H62 j e he
    obtain ⟨a7, ha7, l7⟩ := is_ld H7 j (by omega)
    have l7' : (os.map Ent.size).getD j 0 = e.size := by simp [List.getD, he]
    rw [l7'] at l7
    rw [hd, List.flatMap_cons] at H5
    have hsz : e.size = (e.words.length : Int) := rfl
    have h5l := H5.1
    rw [List.length_append] at h5l
    have Hn := is_drop H5 e.words.length (by omega)
    rw [List.drop_left] at Hn
    have hw2 : e.words.length ≤ 2 := by
      rcases e.words_cases with ⟨_, w, _⟩ | ⟨w, _⟩ <;> rw [w] <;> simp [longL]
    rw [L8x32xeq]
    rw [letK_eq, if_pos (by simp; omega), chk_of (by intro _; omega), ha62, atP_of, Int.toNat_natCast, l62, gCells_of]
    simp only [Ent.cells, List.getElem?_cons_zero, List.getElem?_cons_succ]
    rw [gI_of, gI_of, gI_of, gI_of, gI_of, decode_ok H5, e.dec hek, Option.bind_some, decR, gT3_of]
    simp only [List.getD_cons_zero, List.getD_cons_succ]
    rw [gA_of, chk_of (by intro _; rfl)]
    simp only [List.getElem?_cons_zero, List.getElem?_cons_succ]
    rw [gI_of, gI_of, gI_of, gI_of, gI_of, gI_of, gI_of, letK_eq]
    simp only [decide_true, Bool.not_true, Bool.not_false]
    rw [chk_of (by intro _; omega), gI_of, gI_of, gI_of, gI_of, gI_of, chk_of (by intro _; omega), gI_of, gI_of, gI_of, gI_of, gI_of, eqInts]
    simp only [gb, and_self, decide_true]
    rw [letK_eq]
    simp only [Bool.not_true, Bool.not_false, Bool.false_eq_true, if_false]
    rw [chk_of (by intro _; omega), ha7, atP_of, atP_of, Nat.mul_one, l7, gI_of, letK_eq, letK_eq]
    simp only [decide_true, Bool.not_true, Bool.false_eq_true, if_false]
    rw [chkC_of (by intro _; exact ⟨by omega, by omega, hes⟩), letK_eq, letK_eq, letK_eq, wrap64 (by omega) (by omega), hsz, Int.toNat_natCast, Nat.mul_one, show ((j : Int) + 1) = ((j + 1 : Nat) : Int) by omega]
    exact ih (j + 1) (by omega) _ _ Hn (esOk_adS hes)

end Go.Proofs.Ytmfmnbldngfelaa.I
