/- Operations that read, at most: what they yield on related memory. -/
import Derived.Test.YtmfmnbldngfelaaAbsRel
set_option linter.unusedVariables false
set_option linter.unusedSimpArgs false
namespace Go.Proofs.Ytmfmnbldngfelaa.Abs
open Go

/-! ### Slots -/

def SVR (φ : Phi) (β : Nat → Nat) (w : World) (t : Nat) (vc : Value) : SV → Prop
  | .any => True
  | .g _ bc x => (bc = true → VR φ x vc) ∧ (bc = false → vc = undef)
  | .box cs => vc = .pointer (some ⟨β t, 0, none⟩) ∧ ∃ cc ty, w.heap[β t]? = some (.cells cc ty (0, 0)) ∧ CellsR φ cs 0 cc
  | .lref _ bc d off => (bc = true → vc = .pointer (some ⟨β d, off, none⟩)) ∧ (bc = false → vc = undef)

def conj (ρ : Nat → SV) (gs : List (Nat × Bool)) : Prop :=
  ∀ p ∈ gs, ∃ g bc b, ρ p.1 = .g g bc (.bool b) ∧ lit p.2 b = true

def GEnv (ρ : Nat → SV) : Prop :=
  (∀ t gs bc x, ρ t = .g gs bc x → (bc = true ↔ conj ρ gs)) ∧ (∀ t gs bc d off, ρ t = .lref gs bc d off → (bc = true ↔ conj ρ gs))

structure Ctx (φ : Phi) (β : Nat → Nat) (ρ : Nat → SV) (ah : Heap) (a : Act) (w : World) (gs : List (Nat × Bool)) : Prop where
  S : Sim φ ah w
  H : ∀ t, SVR φ β w t (a.tmps.getD t undef) (ρ t)
  G : GEnv ρ
  cj : conj ρ gs

theorem allIn_conj {ρ : Nat → SV} {gs gs' : List (Nat × Bool)} (h : allIn gs' gs = true) (c : conj ρ gs) : conj ρ gs' := by
  intro p hp
  unfold allIn at h
  rw [List.all_eq_true] at h
  have := h p hp
  rw [List.any_eq_true] at this
  obtain ⟨q, hq, he⟩ := this
  simp only [Bool.and_eq_true] at he
  obtain ⟨h1, h2⟩ := he
  have e1 : p.1 = q.1 := Nat.eq_of_beq_eq_true h1
  have e2 : p.2 = q.2 := by simpa using h2
  rw [e1, e2]
  exact c q hq

theorem conj_nil (ρ : Nat → SV) : conj ρ [] := fun p hp => by cases hp

section
variable {P : Program} {φ : Phi} {β : Nat → Nat} {ρ : Nat → SV} {ah : Heap} {a : Act} {w : World} {gs : List (Nat × Bool)} {R : Type}

/-! ### Readers -/

theorem gb_true {α : Type} {m : Option α} {d : α} {K : α → Option R} {r : R} (h : gb true m d K = some r) : ∃ x, m = some x ∧ K x = some r := by
  cases m with
  | none => simp [gb] at h
  | some x => exact ⟨x, rfl, h⟩

theorem chk_some {p : Prop} [Decidable p] {K : Option R} {r : R} (h : chk p K = some r) : p ∧ K = some r := by
  unfold chk at h
  split at h
  · rename_i hp; exact ⟨hp, h⟩
  · simp at h

theorem chkC_some {p : Prop} {K : Option R} {r : R} (h : chkC p K = some r) : p ∧ K = some r := by
  unfold chkC at h
  split at h
  · rename_i hp; exact ⟨hp, h⟩
  · simp at h

theorem rdC_true {c : CS} {m : Option AV} {K : AV → Option R} {r : R} (h : rdC c m true K = some r) : ∃ x, m = some x ∧ K x = some r := by
  cases m with
  | none => cases c <;> simp [rdC, gb] at h
  | some x =>
    refine ⟨x, rfl, ?_⟩
    cases c <;> simp only [rdC] at h
    case int k =>
      obtain ⟨n, hn, h⟩ := gb_true h
      cases x <;> simp [rI] at hn
      obtain ⟨rfl, rfl⟩ := hn; exact h
    case bool => obtain ⟨n, hn, h⟩ := gb_true h; cases x <;> simp [rB] at hn; subst hn; exact h
    case str => obtain ⟨n, hn, h⟩ := gb_true h; cases x <;> simp [rS] at hn; subst hn; exact h
    case ptr => obtain ⟨n, hn, h⟩ := gb_true h; cases x <;> simp [rP] at hn; subst hn; exact h
    case sl => obtain ⟨n, hn, h⟩ := gb_true h; cases x <;> simp [rL] at hn; subst hn; exact h
    case map => obtain ⟨n, hn, h⟩ := gb_true h; cases x <;> simp [rM] at hn; subst hn; exact h
    case fn => obtain ⟨n, hn, h⟩ := gb_true h; simp at hn; subst hn; exact h
    case iface => obtain ⟨n, hn, h⟩ := gb_true h; simp at hn; subst hn; exact h

theorem rdL_true {l : List AV} {cs : List CS} : ∀ {i : Nat} {K : List AV → Option R} {r : R}, rdL l true cs i K = some r →
    K ((l.drop i).take cs.length) = some r ∧ i + cs.length ≤ l.length ∨ (cs = [] ∧ K [] = some r) := by
  induction cs with
  | nil => intro i K r h; exact .inr ⟨rfl, by simpa only [rdL] using h⟩
  | cons c cs ih =>
    intro i K r h
    simp only [rdL] at h
    obtain ⟨x, hx, h⟩ := rdC_true h
    have hi : i < l.length := (List.getElem?_eq_some_iff.1 hx).1
    have hd : l.drop i = x :: l.drop (i + 1) := by
      rw [List.drop_eq_getElem_cons hi]
      congr 1
      exact (List.getElem?_eq_some_iff.1 hx).2
    rcases ih h with ⟨h2, hl⟩ | ⟨e, h2⟩
    · refine .inl ⟨?_, by simp; omega⟩
      rw [hd]
      simpa using h2
    · subst e
      refine .inl ⟨?_, by simp; omega⟩
      rw [hd]
      simpa using h2

theorem rdL_true' {l : List AV} {cs : List CS} {i : Nat} {K : List AV → Option R} {r : R} (h : rdL l true cs i K = some r) :
    K ((l.drop i).take cs.length) = some r := by
  rcases rdL_true h with ⟨h2, _⟩ | ⟨e, h2⟩
  · exact h2
  · subst e; simpa using h2

/-! ### Operands -/

theorem ofCell_sound {v : Value} {x : AV} (h : ofCell v = some x) : VR φ x v := by
  unfold ofCell at h
  split at h <;> simp at h <;> subst h <;> constructor

theorem ofCells_sound {l : List Value} : ∀ {xs : List AV}, ofCells l = some xs → VRs φ xs l := by
  induction l with
  | nil => intro xs h; simp [ofCells] at h; subst h; exact .nil _
  | cons v l ih =>
    intro xs h
    simp only [ofCells] at h
    split at h
    · rename_i a r h1 h2
      simp at h; subst h
      exact .cons (ofCell_sound h1) (ih h2)
    · simp at h

theorem ofVal_sound {v : Value} {x : AV} (h : ofVal v = some x) : VR φ x v := by
  unfold ofVal at h
  split at h
  · rename_i cs
    split at h
    · rename_i l hl
      simp at h; subst h
      have := VR.agg_list (ofCells_sound (φ := φ) hl)
      simpa using this
    · simp at h
  · exact ofCell_sound h

theorem getV_sound (C : Ctx φ β ρ ah a w gs) {x : Operand} {ax : AX} (hx : cX x = some ax) {v : AV} (h : getV gs ρ ax = some v) : VR φ v (a.eval x) := by
  cases x with
  | tmp t =>
    simp only [cX, Option.some.injEq] at hx
    subst hx
    have H := C.H t
    unfold getV at h
    cases e : ρ t with
    | any => simp [e] at h
    | box cs => simp [e] at h
    | lref g b d o => simp [e] at h
    | g gs' bc y =>
      simp only [e] at h
      split at h
      · rename_i hin
        simp only [Option.some.injEq] at h
        subst h
        rw [e] at H
        have := (C.G.1 t gs' bc y e).2 (allIn_conj hin C.cj)
        exact H.1 this
      · simp at h
  | const c =>
    simp only [cX] at hx
    split at hx
    · rename_i z hz
      simp only [Option.some.injEq] at hx
      subst hx
      simp only [getV, Option.some.injEq] at h
      subst h
      exact ofVal_sound hz
    · simp at hx
  | global g => simp [cX] at hx
  | func f =>
    simp only [cX, Option.some.injEq] at hx
    subst hx
    simp only [getV, Option.some.injEq] at h
    subst h
    exact .fn f rfl (fun i x y h => by simp at h) rfl (fun i x y h => by simp at h)

theorem getVs_sound (C : Ctx φ β ρ ah a w gs) {xs : List Operand} : ∀ {as : List AX}, cXs xs = some as → ∀ {vs : List AV}, getVs gs ρ as = some vs →
    VRs φ vs (xs.map a.eval) := by
  induction xs with
  | nil => intro as h vs hv; simp [cXs] at h; subst h; simp [getVs] at hv; subst hv; exact .nil _
  | cons x xs ih =>
    intro as h vs hv
    simp only [cXs] at h
    split at h
    · rename_i b r h1 h2
      simp at h; subst h
      simp only [getVs] at hv
      split at hv
      · rename_i y hy
        split at hv
        · rename_i ys hys
          simp at hv; subst hv
          exact .cons (getV_sound C h1 hy) (ih h2 hys)
        · simp at hv
      · simp at hv
    · simp at h

/-- Where an address leads, loaded. -/
def PlaceR (φ : Phi) (β : Nat → Nat) (ρ : Nat → SV) : Place → Value → Prop
  | .heap p, v => ∃ a', v = .pointer (some a') ∧ AddrR φ p a'
  | .loc d off, v => v = .pointer (some ⟨β d, off, none⟩)

theorem place_sound (C : Ctx φ β ρ ah a w gs) {x : Operand} {ax : AX} (hx : cX x = some ax) {K : Place → Option R} {r : R} (h : place gs ρ ax true K = some r) :
    ∃ p, K p = some r ∧ PlaceR φ β ρ p (a.eval x) := by
  unfold place at h
  cases ax with
  | c v => simp at h
  | tmp t =>
    have hxt : x = .tmp t := by
      cases x with
      | tmp s => simp [cX] at hx; rw [hx]
      | const c => simp only [cX] at hx; split at hx <;> simp at hx
      | global g => simp [cX] at hx
      | func f => simp [cX] at hx
    subst hxt
    have H := C.H t
    have hev : a.eval (.tmp t) = a.tmps.getD t undef := rfl
    simp only at h
    cases e : ρ t with
    | any => simp [e, getV] at h
    | box cs =>
      simp only [e] at h
      rw [e] at H
      exact ⟨_, h, by rw [hev]; exact H.1⟩
    | lref g b d o =>
      simp only [e] at h
      split at h
      · rename_i hin
        rw [e] at H
        have := (C.G.2 t g b d o e).2 (allIn_conj hin C.cj)
        exact ⟨_, h, by rw [hev]; exact H.1 this⟩
      · simp at h
    | g gs' bc y =>
      simp only [e] at h
      split at h
      · rename_i z hz
        obtain ⟨p, rfl, h⟩ := gb_true h
        have := getV_sound C hx hz
        refine ⟨_, h, ?_⟩
        generalize a.eval (.tmp t) = vc at this
        cases this with
        | ptr ha => exact ⟨_, rfl, ha⟩
      · simp at h

theorem boxAt_sound (C : Ctx φ β ρ ah a w gs) {d : Nat} {cs : List AV} (h : boxAt ρ d = some cs) :
    ∃ cc ty, w.heap[β d]? = some (.cells cc ty (0, 0)) ∧ CellsR φ cs 0 cc := by
  have H := C.H d
  unfold boxAt at h
  cases e : ρ d <;> simp [e] at h
  subst h
  rw [e] at H
  exact H.2

/-! ### Types -/

theorem run_typeInfo' {t : TypeId} {i : TypeInfo} (h : P.info? t = some i) : (typeInfo t).run P w = .ok i w := by
  simp [typeInfo, program, Sem.run, h]
theorem run_under {t : TypeId} {d : TypeDesc} (h : P.underlying t = some d) : (underlying t).run P w = .ok d w := by
  simp [underlying, program, Sem.run, h]
theorem run_size {t : TypeId} {n : Nat} (h : sizeOfT P t = some n) : (Go.sizeOf t).run P w = .ok n w := by
  unfold sizeOfT at h
  split at h
  · rename_i i hi
    simp at h; subst h
    simp [Go.sizeOf, run_typeInfo' hi, Result.andThen]
  · simp at h
theorem run_agg {t : TypeId} {d : TypeDesc} (h : P.underlying t = some d) : (isAgg t).run P w = .ok (isAggD d) w := by
  simp only [isAgg, Sem.run_bind, run_under h, Result.andThen]
  cases d <;> simp [isAggD]

theorem run_zero {t : TypeId} {i : TypeInfo} {z : Value} (h : P.info? t = some i) (hz : i.zero = some z) : (zeroValue t).run P w = .ok z w := by
  simp [zeroValue, run_typeInfo' h, Result.andThen, hz]

/-- A variable of a type, by its shape. -/
theorem run_loadVar {t : TypeId} {s : VS} (hs : vsOf P t = some s) {ad : Addr} {ys : List Value} (hn : ys.length = s.size)
    (hl : (loadCells ad ys.length).run P w = .ok ys.toArray w) (h1 : ∀ v, ys[0]? = some v → w.cell? ad = some v) :
    ∃ v, (loadVar t ad).run P w = .ok v w ∧ (match s with | .cell _ => ys = [v] | _ => v = .agg ys.toArray) := by
  unfold vsOf at hs
  split at hs
  · rename_i i d hi hd
    split at hs
    · rename_i z hz
      split at hs
      · rename_i hagg
        have hsz : sizeOfT P t = some i.size := by simp [sizeOfT, hi]
        have hss : s.size = i.size ∧ (∃ l, s = .agg l) ∨ s = .raw i.size := by
          split at hs
          · split at hs
            · split at hs
              · rename_i hl; simp at hs; subst hs; exact .inl ⟨by simpa [VS.size] using hl, _, rfl⟩
              · simp at hs
            · simp at hs
          · simp at hs; subst hs; exact .inr rfl
        refine ⟨.agg ys.toArray, ?_, ?_⟩
        · simp only [loadVar, Sem.run_bind, run_agg hd, Result.andThen, hagg, if_true, run_size hsz, Sem.run_pure]
          have : i.size = ys.length := by
            rcases hss with ⟨h, _⟩ | h
            · omega
            · rw [h] at hn; simpa [VS.size] using hn.symm
          rw [this, hl]
        · rcases hss with ⟨_, l, rfl⟩ | rfl <;> rfl
      · rename_i hagg
        split at hs
        · split at hs
          · rename_i c hc
            simp at hs; subst hs
            simp only [VS.size] at hn
            obtain ⟨v, rfl⟩ : ∃ v, ys = [v] := by
              cases ys with
              | nil => simp at hn
              | cons v l => cases l with
                | nil => exact ⟨v, rfl⟩
                | cons _ _ => simp at hn
            refine ⟨v, ?_, rfl⟩
            simp only [loadVar, Sem.run_bind, run_agg hd, Result.andThen, hagg]
            simp [h1 v rfl]
          · simp at hs
        · simp at hs
    · simp at hs
  · simp at hs

/-- A part of a value, by its shape. -/
theorem run_part {t : TypeId} {s : VS} (hs : vsOf P t = some s) {cs : Array Value} {off : Nat} (hn : off + s.size ≤ cs.size) :
    ∃ v, (part t cs off).run P w = .ok v w ∧ (match s with | .cell _ => cs[off]? = some v | _ => v = .agg (cs.extract off (off + s.size))) := by
  unfold vsOf at hs
  split at hs
  · rename_i i d hi hd
    split at hs
    · rename_i z hz
      split at hs
      · rename_i hagg
        have hsz : sizeOfT P t = some i.size := by simp [sizeOfT, hi]
        have hss : s.size = i.size ∧ (∃ l, s = .agg l) ∨ s = .raw i.size := by
          split at hs
          · split at hs
            · split at hs
              · rename_i hl; simp at hs; subst hs; exact .inl ⟨by simpa [VS.size] using hl, _, rfl⟩
              · simp at hs
            · simp at hs
          · simp at hs; subst hs; exact .inr rfl
        have hse : s.size = i.size := by rcases hss with ⟨h, _⟩ | rfl; exact h; rfl
        refine ⟨.agg (cs.extract off (off + s.size)), ?_, ?_⟩
        · simp only [part, Sem.run_bind, run_agg hd, Result.andThen, hagg, if_true, run_size hsz, Sem.run_pure, hse]
        · rcases hss with ⟨_, l, rfl⟩ | rfl <;> rfl
      · rename_i hagg
        split at hs
        · split at hs
          · rename_i c hc
            simp at hs; subst hs
            simp only [VS.size] at hn
            refine ⟨cs[off], ?_, by simp⟩
            simp only [part, Sem.run_bind, run_agg hd, Result.andThen, hagg]
            have : cs[off]? = some cs[off] := by simp
            simp [this]
          · simp at hs
        · simp at hs
    · simp at hs
  · simp at hs

end
end Go.Proofs.Ytmfmnbldngfelaa.Abs
