/- Drawn regions: what must come ahead of what. -/
import Derived.Test.YtmfmnbldngfelaaAbsCongr
set_option linter.unusedVariables false
set_option linter.unusedSimpArgs false
namespace Go.Proofs.Ytmfmnbldngfelaa.Abs
open Go

def depF (acc : List Nat) (o : Oper) : Nat := o.after.toList.foldl (fun m e => match Region.binds .any e with
  | true => Nat.lor (setB m e.on) (acc.getD e.on 0)
  | false => m) 0

theorem depTab_cons (o : Oper) (l : List Oper) (acc : List Nat) : depTab (o :: l) acc = depTab l (acc ++ [depF acc o]) := rfl

theorem testBit_setB {m d j : Nat} (h : Nat.testBit (setB m d) j = true) : d = j ∨ Nat.testBit m j = true := by
  unfold setB at h
  have : Nat.testBit (m ||| 2 ^ d) j = true := h
  rw [Nat.testBit_or, Nat.testBit_two_pow] at this
  simp only [Bool.or_eq_true, decide_eq_true_eq] at this
  rcases this with h | h
  · exact .inr h
  · exact .inl h

theorem depF_fold {acc : List Nat} {j : Nat} : ∀ (l : List Edge) (m : Nat), Nat.testBit (l.foldl (fun m e => match Region.binds .any e with
  | true => Nat.lor (setB m e.on) (acc.getD e.on 0)
  | false => m) m) j = true → Nat.testBit m j = true ∨ ∃ e ∈ l, Region.binds .any e = true ∧ (e.on = j ∨ Nat.testBit (acc.getD e.on 0) j = true) := by
  intro l
  induction l with
  | nil => intro m h; exact .inl h
  | cons e l ih =>
    intro m h
    simp only [List.foldl_cons] at h
    rcases ih _ h with h | ⟨e', he', h⟩
    · cases hb : Region.binds .any e with
      | false => rw [hb] at h; exact .inl h
      | true =>
        rw [hb] at h
        have h : Nat.testBit (setB m e.on ||| acc.getD e.on 0) j = true := h
        rw [Nat.testBit_or] at h
        simp only [Bool.or_eq_true] at h
        rcases h with h | h
        · rcases testBit_setB h with h | h
          · exact .inr ⟨e, .head _, hb, .inl h⟩
          · exact .inl h
        · exact .inr ⟨e, .head _, hb, .inr h⟩
    · exact .inr ⟨e', .tail _ he', h⟩

theorem depTab_prefix : ∀ (l : List Oper) (acc : List Nat) (i : Nat), i < acc.length → (depTab l acc).getD i 0 = acc.getD i 0 := by
  intro l
  induction l with
  | nil => intro acc i h; rfl
  | cons o l ih =>
    intro acc i h
    rw [depTab_cons, ih _ _ (by simp; omega)]
    simp only [List.getD_eq_getElem?_getD]
    rw [List.getElem?_append_left h]

theorem depTab_spec : ∀ (l : List Oper) (acc : List Nat) (i : Nat) (o : Oper) (j : Nat), l[i]? = some o → Nat.testBit ((depTab l acc).getD (acc.length + i) 0) j = true →
    ∃ e ∈ o.after, Region.binds .any e = true ∧ (e.on = j ∨ (e.on < acc.length + i ∧ Nat.testBit ((depTab l acc).getD e.on 0) j = true)) := by
  intro l
  induction l with
  | nil => intro acc i o j h; simp at h
  | cons o' l ih =>
    intro acc i o j hi h
    rw [depTab_cons] at h ⊢
    cases i with
    | zero =>
      simp only [List.getElem?_cons_zero, Option.some.injEq] at hi
      subst hi
      rw [Nat.add_zero, depTab_prefix _ _ _ (by simp)] at h
      have hg : (acc ++ [depF acc o']).getD acc.length 0 = depF acc o' := by simp
      rw [hg] at h
      rcases depF_fold _ _ h with h | ⟨e, he, hb, h⟩
      · simp at h
      · refine ⟨e, by simpa using he, hb, ?_⟩
        rcases h with h | h
        · exact .inl h
        · right
          rcases Nat.lt_or_ge e.on acc.length with hlt | hge
          · refine ⟨by omega, ?_⟩
            rw [depTab_prefix _ _ _ (by simp; omega)]
            simp only [List.getD_eq_getElem?_getD] at h ⊢
            rw [List.getElem?_append_left hlt]
            exact h
          · simp [List.getD_eq_getElem?_getD, List.getElem?_eq_none hge] at h
    | succ i =>
      simp only [List.getElem?_cons_succ] at hi
      have e1 : acc.length + (i + 1) = (acc ++ [depF acc o']).length + i := by simp; omega
      rw [e1] at h
      obtain ⟨e, he, hb, h⟩ := ih _ i o j hi h
      refine ⟨e, he, hb, ?_⟩
      rcases h with h | ⟨h1, h2⟩
      · exact .inl h
      · exact .inr ⟨by rw [e1]; exact h1, h2⟩

theorem depTab_none : ∀ (l : List Oper) (acc : List Nat), (depTab l acc).length = acc.length + l.length := by
  intro l
  induction l with
  | nil => intro acc; rfl
  | cons o l ih => intro acc; rw [depTab_cons, ih]; simp; omega

/-- Operation i waits, be it through others, for operation j. -/
def Dep (ops : Array Oper) (i j : Nat) : Prop := Nat.testBit ((depTab ops.toList []).getD i 0) j = true

/-- All that an operation of the set waits for lies in it. -/
def Closed (ops : Array Oper) (S : Nat → Prop) : Prop := ∀ i, S i → ∀ o, ops[i]? = some o → ∀ e ∈ o.after, Region.binds .any e = true → S e.on

theorem Dep.spec {ops : Array Oper} {i j : Nat} (h : Dep ops i j) : ∃ o, ops[i]? = some o ∧ ∃ e ∈ o.after, Region.binds .any e = true ∧ (e.on = j ∨ (e.on < i ∧ Dep ops e.on j)) := by
  unfold Dep at h
  cases ho : ops.toList[i]? with
  | none =>
    exfalso
    rw [List.getElem?_eq_none_iff] at ho
    rw [List.getD_eq_getElem?_getD, List.getElem?_eq_none (by rw [depTab_none]; simpa using ho)] at h
    simp at h
  | some o =>
    have := depTab_spec ops.toList [] i o j ho (by simpa using h)
    obtain ⟨e, he, hb, h⟩ := this
    refine ⟨o, by simpa using ho, e, he, hb, ?_⟩
    rcases h with h | ⟨h1, h2⟩
    · exact .inl h
    · exact .inr ⟨by simpa using h1, h2⟩

theorem Closed.dep {ops : Array Oper} {S : Nat → Prop} (hS : Closed ops S) {i j : Nat} (hi : S i) (h : Dep ops i j) : S j := by
  induction i using Nat.strongRecOn with
  | _ i ih =>
    obtain ⟨o, ho, e, he, hb, h⟩ := h.spec
    have := hS i hi o ho e he hb
    rcases h with rfl | ⟨h1, h2⟩
    · exact this
    · exact ih e.on h1 this h2

/-- What an operation waits for is there, where it is its turn. -/
theorem ready_dep {ops : Array Oper} {S : Nat → Prop} (hS : Closed ops S) {i j : Nat} {o : Oper} (ho : ops[i]? = some o) (hr : ∀ e ∈ o.after, Region.binds .any e = true → S e.on) (h : Dep ops i j) : S j := by
  obtain ⟨o', ho', e, he, hb, h⟩ := h.spec
  rw [ho] at ho'
  cases ho'
  have := hr e he hb
  rcases h with rfl | ⟨h1, h2⟩
  · exact this
  · exact hS.dep this h2

theorem Closed.add {ops : Array Oper} {S : Nat → Prop} (hS : Closed ops S) {i : Nat} {o : Oper} (ho : ops[i]? = some o) (hr : ∀ e ∈ o.after, Region.binds .any e = true → S e.on) : Closed ops (fun k => S k ∨ k = i) := by
  intro k hk o' ho' e he hb
  rcases hk with hk | rfl
  · exact .inl (hS k hk o' ho' e he hb)
  · rw [ho] at ho'
    cases ho'
    exact .inl (hr e he hb)

/-! ### The canonical order -/

structure Facts (deps : List Nat) (l : List Item) : Prop where
  pair : ∀ (p q : Nat) (x y : Item), p < q → l[p]? = some x → l[q]? = some y → pairOk deps x y = true
  self : ∀ (p : Nat) (x : Item), l[p]? = some x → selfOk x = true

theorem items_facts {deps : List Nat} : ∀ {l : List Item}, itemsOk deps l = true → Facts deps l := by
  intro l
  induction l with
  | nil => intro h; exact ⟨fun p q x y _ h => by simp at h, fun p x h => by simp at h⟩
  | cons z l ih =>
    intro h
    simp only [itemsOk, Bool.and_eq_true] at h
    obtain ⟨⟨h1, h2⟩, h3⟩ := h
    have F := ih h3
    rw [List.all_eq_true] at h1
    refine ⟨fun p q x y hpq hx hy => ?_, fun p x hx => ?_⟩
    · cases q with
      | zero => omega
      | succ q =>
        simp only [List.getElem?_cons_succ] at hy
        cases p with
        | zero =>
          simp only [List.getElem?_cons_zero, Option.some.injEq] at hx
          subst hx
          exact h1 y (List.mem_of_getElem? hy)
        | succ p => exact F.pair p q x y (by omega) (by simpa using hx) hy
    · cases p with
      | zero => simp only [List.getElem?_cons_zero, Option.some.injEq] at hx; subst hx; exact h2
      | succ p => exact F.self p x (by simpa using hx)

theorem hits_spec {d : Option Nat} {l : List Nat} (h : hits d l = false) : ∀ e, d = some e → e ∉ l := by
  intro e he hm
  subst he
  simp only [hits, List.any_eq_false] at h
  exact h e hm (by simp)

theorem sameD_spec {d e : Option Nat} (h : sameD d e = false) : ∀ x, d = some x → e ≠ some x := by
  intro x hx he
  subst hx; subst he
  simp [sameD] at h

theorem clash_spec {p q : AOp} (h : clash p q = false) : (∀ e, p.dst = some e → e ∉ aoRd q) ∧ (∀ e, p.dst = some e → q.dst ≠ some e) ∧ (∀ e, q.dst = some e → e ∉ aoRd p) := by
  simp only [clash, Bool.or_eq_false_iff] at h
  exact ⟨hits_spec h.1.1, sameD_spec h.1.2, hits_spec h.2⟩

end Go.Proofs.Ytmfmnbldngfelaa.Abs
