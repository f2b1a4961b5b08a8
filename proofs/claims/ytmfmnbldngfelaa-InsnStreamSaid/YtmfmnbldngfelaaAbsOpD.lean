/- Equality of structs of numbers and truth values. -/
import Derived.Test.YtmfmnbldngfelaaAbsOpC
set_option linter.unusedVariables false
set_option linter.unusedSimpArgs false
namespace Go.Proofs.Ytmfmnbldngfelaa.Abs
open Go

section
variable {P : Program} {φ : Phi} {w : World}

theorem eqCells_len {sh : List Bool} {xs ys : List AV} : ∀ {b : Bool}, eqCells sh xs ys = some b → xs.length = sh.length ∧ ys.length = sh.length := by
  induction sh generalizing xs ys with
  | nil => intro b h; cases xs <;> cases ys <;> simp_all [eqCells]
  | cons s sh ih =>
    intro b h
    cases xs with
    | nil => cases s <;> simp [eqCells] at h
    | cons x xs =>
      cases ys with
      | nil => cases s <;> cases x <;> simp [eqCells] at h
      | cons y ys =>
        cases s <;> cases x <;> cases y <;> simp only [eqCells] at h <;> try (simp at h; done)
        · split at h
          · split at h
            · rename_i b' hb; have := ih hb; simp [this]
            · simp at h
          · simp at h
        · split at h
          · rename_i b' hb; have := ih hb; simp [this]
          · simp at h

theorem eqCells_append {s1 s2 : List Bool} {xs ys : List AV} : ∀ {b : Bool}, eqCells (s1 ++ s2) xs ys = some b →
    ∃ b1 b2, eqCells s1 (xs.take s1.length) (ys.take s1.length) = some b1 ∧ eqCells s2 (xs.drop s1.length) (ys.drop s1.length) = some b2 ∧ b = (b1 && b2) := by
  induction s1 generalizing xs ys with
  | nil => intro b h; exact ⟨true, b, by simp [eqCells], by simpa using h, by simp⟩
  | cons s s1 ih =>
    intro b h
    cases xs with
    | nil => cases s <;> simp [eqCells] at h
    | cons x xs =>
      cases ys with
      | nil => cases s <;> cases x <;> simp [eqCells] at h
      | cons y ys =>
        cases s <;> cases x <;> cases y <;> simp only [List.cons_append, eqCells] at h <;> try (simp at h; done)
        · split at h
          · split at h
            · rename_i k1 x1 k2 x2 hk _ b' hb
              subst hk
              simp at h; subst h
              obtain ⟨b1, b2, h1, h2, rfl⟩ := ih hb
              exact ⟨decide (x1 = x2) && b1, b2, by simp [eqCells, h1], by simpa using h2, by simp [Bool.and_assoc]⟩
            · simp at h
          · simp at h
        · split at h
          · rename_i x1 x2 _ b' hb
            simp at h; subst h
            obtain ⟨b1, b2, h1, h2, rfl⟩ := ih hb
            exact ⟨(x1 == x2) && b1, b2, by simp [eqCells, h1], by simpa using h2, by simp [Bool.and_assoc]⟩
          · simp at h

/-- A value of a flat type, by its cells. -/
def ValOf (P : Program) (φ : Phi) (t : TypeId) (xs : List AV) (u : Value) : Prop :=
  match P.underlying t with
  | some (.struct _) => ∃ c : Array Value, u = .agg c ∧ VRs φ xs c.toList
  | _ => ∃ x, xs = [x] ∧ VR φ x u

theorem sub_arr {xs : List AV} {c : Array Value} (h : VRs φ xs c.toList) (o n : Nat) : VRs φ ((xs.drop o).take n) (c.extract o (o + n)).toList := by
  have := h.sub o n
  have e : (c.extract o (o + n)).toList = (c.toList.drop o).take n := by
    apply List.ext_getElem?
    intro i
    rw [List.getElem?_take]
    simp only [Array.getElem?_toList, Array.getElem?_extract]
    by_cases hi : i < n
    · rw [if_pos hi, List.getElem?_drop]
      by_cases hc : o + i < c.size
      · rw [if_pos (by omega)]; simp
      · rw [if_neg (by omega)]
        simp; omega
    · rw [if_neg hi, if_neg (by omega)]
  rw [e]
  exact this

theorem run_part_flat {t : TypeId} {sh : List Bool} (hs : sizeOfT P t = some sh.length) {d : Nat} (hf : flatShape P d t = some sh) {xs : List AV} {c : Array Value} (h : VRs φ xs c.toList) {o : Nat} (ho : o + sh.length ≤ xs.length) :
    ∃ u, (part t c o).run P w = .ok u w ∧ ValOf P φ t ((xs.drop o).take sh.length) u := by
  cases d with
  | zero => simp [flatShape] at hf
  | succ d =>
    have leaf : sh.length = 1 → ∃ x y, (xs.drop o).take sh.length = [x] ∧ c[o]? = some y ∧ VR φ x y := by
      intro h1
      have hlt : o < xs.length := by omega
      obtain ⟨y, hy, hv⟩ := h.get (List.getElem?_eq_getElem hlt)
      refine ⟨xs[o], y, ?_, by simpa using hy, hv⟩
      rw [List.drop_eq_getElem_cons hlt, h1]
      rfl
    simp only [flatShape] at hf
    split at hf
    · rename_i hu
      simp at hf; subst hf
      obtain ⟨x, y, h1, h2, h3⟩ := leaf rfl
      exact ⟨y, by simp [part, run_agg hu, isAggD, h2, Result.andThen], by simp only [ValOf, hu]; exact ⟨x, h1, h3⟩⟩
    · rename_i kk hu
      simp at hf; subst hf
      obtain ⟨x, y, h1, h2, h3⟩ := leaf rfl
      exact ⟨y, by simp [part, run_agg hu, isAggD, h2, Result.andThen], by simp only [ValOf, hu]; exact ⟨x, h1, h3⟩⟩
    · rename_i fs hu
      refine ⟨.agg (c.extract o (o + sh.length)), by simp [part, run_agg hu, isAggD, run_size hs, Result.andThen], ?_⟩
      simp only [ValOf, hu]
      exact ⟨_, rfl, sub_arr h o sh.length⟩
    · simp at hf

theorem equal_flat : ∀ (d : Nat) (t : TypeId) (sh : List Bool), flatShape P d t = some sh → ∀ (D : Nat), d ≤ D → ∀ (u v : Value) (xs ys : List AV) (b : Bool),
    ValOf P φ t xs u → ValOf P φ t ys v → eqCells sh xs ys = some b → (Op.equalIn D t u v).run P w = .ok b w := by
  intro d
  induction d with
  | zero => intro t n h; simp [flatShape] at h
  | succ d ih =>
    intro t sh hf D hD u v xs ys b hu hv hb
    obtain ⟨D, rfl⟩ : ∃ E, D = E + 1 := ⟨D - 1, by omega⟩
    have hlen := eqCells_len hb
    simp only [flatShape] at hf
    rw [Op.equalIn]
    split at hf
    · rename_i ht
      simp at hf; subst hf
      simp only [ValOf, ht] at hu hv
      obtain ⟨x, rfl, h1⟩ := hu
      obtain ⟨y, rfl, h2⟩ := hv
      cases x <;> cases y <;> simp [eqCells] at hb
      rename_i b1 b2
      subst hb
      rw [vr_bool h1, vr_bool h2]
      simp [run_under ht, Result.andThen]
    · rename_i kk ht
      simp at hf; subst hf
      simp only [ValOf, ht] at hu hv
      obtain ⟨x, rfl, h1⟩ := hu
      obtain ⟨y, rfl, h2⟩ := hv
      cases x <;> cases y <;> simp [eqCells] at hb
      rename_i k1 n1 k2 n2
      obtain ⟨rfl, rfl⟩ := hb
      rw [vr_int h1, vr_int h2]
      simp [run_under ht, Result.andThen]
      rfl
    · rename_i fs ht
      split at hf
      · simp at hf
      · rename_i hst
        have hst : P.stoodInHeld t = false := by simpa using hst
        simp only [ValOf, ht] at hu hv
        obtain ⟨cu, rfl, h1⟩ := hu
        obtain ⟨cv, rfl, h2⟩ := hv
        have loop : ∀ (l : List Field) (o : Nat) (s2 : List Bool) (b : Bool), flatFields P (flatShape P d) l o = some s2 → o + s2.length ≤ xs.length → o + s2.length ≤ ys.length → eqCells s2 (xs.drop o) (ys.drop o) = some b →
            (forIn l ((none, ()) : Option Bool × Unit) fun (f : Field) (__s : Option Bool × Unit) =>
              if f.name ≠ "_" then do
                let __do_lift ← part f.type cu f.offset
                let __do_lift_1 ← part f.type cv f.offset
                let __do_lift ← Op.equalIn D f.type __do_lift __do_lift_1
                if (!__do_lift) = true then pure (ForInStep.done (some false, ()))
                  else pure (ForInStep.yield (none, ()))
              else pure (ForInStep.yield (none, ()))).run P w = .ok (if b = true then (none, ()) else (some false, ())) w := by
          intro l
          induction l with
          | nil =>
            intro o s2 b hl _ _ hb
            simp [flatFields] at hl
            subst hl
            have hl2 := eqCells_len hb
            have e1 : xs.drop o = [] := List.eq_nil_of_length_eq_zero hl2.1
            have e2 : ys.drop o = [] := List.eq_nil_of_length_eq_zero hl2.2
            rw [e1, e2] at hb
            simp [eqCells] at hb
            subst hb
            simp
          | cons f l ihl =>
            intro o s2 b hl hle hle2 hb
            simp only [flatFields] at hl
            split at hl
            · rename_i m hm
              split at hl
              · rename_i hc
                obtain ⟨hoff, hname, hsz⟩ := hc
                split at hl
                · rename_i s3 hs3
                  simp at hl; subst hl
                  simp at hle hle2
                  obtain ⟨b1, b2, g1, g2, rfl⟩ := eqCells_append hb
                  obtain ⟨u1, p1, q1⟩ := run_part_flat (w := w) hsz hm h1 (o := o) (by omega)
                  obtain ⟨v1, p2, q2⟩ := run_part_flat (w := w) hsz hm h2 (o := o) (by omega)
                  have he := ih f.type m hm D (by omega) u1 v1 _ _ b1 q1 q2 g1
                  rw [List.drop_drop, List.drop_drop] at g2
                  have hrest := ihl (o + m.length) s3 b2 hs3 (by omega) (by omega) g2
                  simp only [List.forIn_cons, hname, ne_eq, not_false_eq_true, if_true, Sem.run_bind, hoff, p1, p2, he, Result.andThen]
                  cases b1 with
                  | false => simp
                  | true =>
                    simp only [Bool.not_true, Bool.false_eq_true, if_false, Sem.run_pure, Bool.true_and]
                    exact hrest
                · simp at hl
              · simp at hl
            · simp at hl
        have hl := loop fs.toList 0 sh b hf (by omega) (by omega) (by simpa using hb)
        rw [Array.forIn_toList] at hl
        have e0 : Sem.run P program w = .ok P w := rfl
        simp only [Sem.run_bind, run_under ht, Result.andThen, e0, hst, Bool.false_eq_true, if_false]
        have e1 : (forIn fs ((none, ()) : Option Bool × Unit) fun (f : Field) (__s : Option Bool × Unit) =>
              if f.name ≠ "_" then do
                let __do_lift ← part f.type cu f.offset
                let __do_lift_1 ← part f.type cv f.offset
                let __do_lift ← Op.equalIn D f.type __do_lift __do_lift_1
                if (!__do_lift) = true then pure (ForInStep.done (some false, ()))
                  else pure (ForInStep.yield (none, ()))
              else pure (ForInStep.yield (none, ()))).run P w = .ok (if b = true then (none, ()) else (some false, ())) w := hl
        rw [e1]
        cases b <;> rfl
    · simp at hf

theorem tk_agg {t : TypeId} {sh : List Bool} (h : tkOf P t = some (.agg sh)) : flatShape P 9 t = some sh ∧ P.eqGuardType P.depth t = false ∧ ∃ fs, P.underlying t = some (.struct fs) := by
  unfold tkOf at h
  split at h <;> try (simp at h; done)
  rename_i fs hu
  split at h
  · rename_i s hs
    split at h
    · rename_i hg
      simp at h; subst h
      exact ⟨hs, hg, fs, hu⟩
    · simp at h
  · simp at h

theorem agg_ok {op : BinOp} {t : TypeId} {x y : Operand} : ∀ sh xs ys b, tkOf P t = some (.agg sh) → eqCells sh xs ys = some b → ∀ u v, VR φ (.agg xs) u → VR φ (.agg ys) v →
    (op = .eql ∨ op = .neq → (eqGuard op t x y u v).run P w = .ok () w) ∧ (Op.equal t u v).run P w = .ok b w := by
  intro sh xs ys b ht hb u v hu hv
  obtain ⟨h1, h2, fs, h3⟩ := tk_agg ht
  cases hu with
  | agg g1 g2 =>
    cases hv with
    | agg g3 g4 =>
      refine ⟨fun hop => ?_, ?_⟩
      · have e0 : Sem.run P program w = .ok P w := rfl
        rcases hop with rfl | rfl <;> simp [eqGuard, e0, h2, Result.andThen]
      · refine equal_flat (φ := φ) 9 t sh h1 10000 (by decide) _ _ xs ys b ?_ ?_ hb
        · simp only [ValOf, h3]; exact ⟨_, rfl, VRs.of_arr g1 g2⟩
        · simp only [ValOf, h3]; exact ⟨_, rfl, VRs.of_arr g3 g4⟩

end
end Go.Proofs.Ytmfmnbldngfelaa.Abs
