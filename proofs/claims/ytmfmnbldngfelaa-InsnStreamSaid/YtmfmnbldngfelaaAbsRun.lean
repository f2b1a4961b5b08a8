/- Regions whose order is the text's; code; functions. -/
import Derived.Test.YtmfmnbldngfelaaAbsStep
set_option linter.unusedVariables false
set_option linter.unusedSimpArgs false
namespace Go.Proofs.Ytmfmnbldngfelaa.Abs
open Go

section
variable {P : Program} {φ φ' φ'' φ0 : Phi} {β : Nat → Nat} {ρ : Nat → SV} {ah ah' : Heap} {a : Act} {w w' w0 : World} {R : Type} {gs : List (Nat × Bool)}
  {loc : Nat} {r : R} {n : Nat}

def putR (ρ : Nat → SV) (d : Option Nat) (x : SV) : Nat → SV := match d with | none => ρ | some d => setR ρ d x
def updR (ρ : Nat → SV) (u : Up) : Nat → SV := match u with | none => ρ | some (d, cs) => setR ρ d (.box cs)

def DOk (dst : Option Nat) (sv : SV) (ρ : Nat → SV) (a : Act) : Prop :=
  match dst with
  | none => isBoxS sv = false
  | some d => d < a.tmps.size ∧ (∀ t, ∀ p ∈ gsOf (ρ t), p.1 ≠ d) ∧ (∀ p ∈ gsOf sv, p.1 ≠ d) ∧
      (isBoxS sv = true → ∀ t gs bc e off, ρ t = .lref gs bc e off → e ≠ d) ∧ isBoxS (ρ d) = false

theorem put_none (a : Act) (v : Value) : a.put none v = a := rfl

theorem setR_comm (ρ : Nat → SV) {d e : Nat} (x y : SV) (h : d ≠ e) : setR (setR ρ d x) e y = setR (setR ρ e y) d x := by
  funext t
  simp only [setR]
  split <;> split <;> simp_all

theorem GOk.g {x : AV} (c : conj ρ gs) : GOk ρ (.g gs true x) := by
  constructor
  · intro gs' bc y h; cases h; exact ⟨fun _ => c, fun _ => rfl⟩
  · intro gs' bc d off h; cases h
theorem GOk.l {d off : Nat} (c : conj ρ gs) : GOk ρ (.lref gs true d off) := by
  constructor
  · intro gs' bc y h; cases h
  · intro gs' bc d off h; cases h; exact ⟨fun _ => c, fun _ => rfl⟩
theorem GOk.gF {x : AV} (c : ¬ conj ρ gs) : GOk ρ (.g gs false x) := by
  constructor
  · intro gs' bc y h; cases h; exact ⟨fun h => Bool.noConfusion h, fun h => absurd h c⟩
  · intro gs' bc d off h; cases h
theorem GOk.lF {d off : Nat} (c : ¬ conj ρ gs) : GOk ρ (.lref gs false d off) := by
  constructor
  · intro gs' bc y h; cases h
  · intro gs' bc d off h; cases h; exact ⟨fun h => Bool.noConfusion h, fun h => absurd h c⟩

/-- What an operation has done, told of slots and memory. -/
theorem Sl.step {m : Nat} {sv : SV} {h : Heap} {up : Up} {vc : Value} {dst : Option Nat} (L : Sl w0.heap.size φ β ρ a w) (E : Eff φ0 φ n ah w0 w) (c : Chg m φ β ρ ah w gs sv h up vc w') (hm : n ≤ m)
    (cj : conj ρ gs) (D : DOk dst sv ρ a) : ∃ φ' β', Eff φ0 φ' n h w0 w' ∧ Sl w0.heap.size φ' β' (updR (putR ρ dst sv) up) (a.put dst vc) w' ∧ ∀ b, b < m → φ b = .unborn → φ' b = .unborn := by
  cases c with
  | val φ' hup hE hs =>
    subst hup
    refine ⟨φ', β, E.trans (hE.weaken hm), ?_, hE.un⟩
    have L' := L.eff hE
    cases dst with
    | none => exact L'
    | some d =>
      obtain ⟨d1, d2, d3, d4, d5⟩ := D
      refine L'.put d1 ?_ ?_ d2 ?_ d3
      · rcases hs with ⟨x, rfl, hv⟩ | ⟨e, off, rfl, rfl⟩
        · exact ⟨fun _ => hv, fun h => by simp at h⟩
        · exact ⟨fun _ => rfl, fun h => by simp at h⟩
      · rcases hs with ⟨x, rfl, hv⟩ | ⟨e, off, rfl, rfl⟩ <;> rfl
      · rcases hs with ⟨x, rfl, hv⟩ | ⟨e, off, rfl, rfl⟩
        · exact .g cj
        · exact .l cj
  | box cs cells ty hup hh hsv hvc hw hc =>
    subst hup; subst hh; subst hsv; subst hvc; subst hw
    cases dst with
    | none => simp [DOk, isBoxS] at D
    | some d =>
      obtain ⟨d1, d2, d3, d4, d5⟩ := D
      refine ⟨φ, setN β d w.heap.size, E.trans (.same (E.sim.alloc _) (.alloc _ _) E.len), ?_, fun _ _ h => h⟩
      exact L.box E.sim E.fr.size d1 hc d2 (d4 rfl)
  | wr d cs x hgs hup hh hsv hv B hb =>
    subst hgs; subst hup; subst hh; subst hsv
    obtain ⟨cs0, hb⟩ := hb
    obtain ⟨b1, b2, b3⟩ := L.bx d cs0 hb
    refine ⟨φ, β, E.box B b1 b2, ?_, fun _ _ h => h⟩
    have L' := L.wr hb B
    cases dst with
    | none => exact L'
    | some d' =>
      obtain ⟨d1, d2, d3, d4, d5⟩ := D
      have hne : d' ≠ d := by
        rintro rfl
        rw [hb] at d5
        simp [isBoxS] at d5
      show Sl w0.heap.size φ β (setR (setR ρ d' (.v x)) d (.box cs)) _ _
      rw [setR_comm ρ _ _ hne]
      refine L'.put d1 ⟨fun _ => hv, fun h => Bool.noConfusion h⟩ rfl (fun t p hp => ?_) (.g (conj_nil _)) d3
      by_cases ht : t = d
      · subst ht
        rw [setR_same] at hp
        cases hp
      · rw [setR_other ρ _ ht] at hp
        exact d2 t p hp

/-- An operation that is passed over. -/
theorem Sl.idle {sv : SV} {dst : Option Nat} (L : Sl w0.heap.size φ β ρ a w) (hi : Idle gs sv) (cj : ¬ conj ρ gs) (D : DOk dst sv ρ a) : Sl w0.heap.size φ β (putR ρ dst sv) (a.put dst undef) w := by
  cases dst with
  | none => exact L
  | some d =>
    obtain ⟨d1, d2, d3, d4, d5⟩ := D
    refine L.put d1 ?_ ?_ d2 ?_ d3
    · rcases hi with ⟨x, rfl⟩ | ⟨e, off, rfl⟩
      · exact ⟨fun h => Bool.noConfusion h, fun _ => rfl⟩
      · exact ⟨fun h => Bool.noConfusion h, fun _ => rfl⟩
    · rcases hi with ⟨x, rfl⟩ | ⟨e, off, rfl⟩ <;> rfl
    · rcases hi with ⟨x, rfl⟩ | ⟨e, off, rfl⟩
      · exact .gF cj
      · exact .lF cj

/-! ### Guards -/

theorem guardOf_spec {g : Option (Nat × Bool)} {bc : Bool} (G : GEnv ρ) (h : guardOf ρ g = some (gs, bc)) : (bc = true ↔ conj ρ gs) ∧ (bc = false → gs ≠ []) := by
  cases g with
  | none =>
    simp only [guardOf, Option.some.injEq, Prod.mk.injEq] at h
    obtain ⟨rfl, rfl⟩ := h
    exact ⟨⟨fun _ => conj_nil ρ, fun _ => rfl⟩, fun h => by cases h⟩
  | some p =>
    obtain ⟨t, wt⟩ := p
    simp only [guardOf] at h
    split at h
    · rename_i gs0 bc0 b e
      simp only [Option.some.injEq, Prod.mk.injEq] at h
      obtain ⟨rfl, rfl⟩ := h
      refine ⟨?_, fun _ => by simp⟩
      have h0 := G.1 t gs0 bc0 (.bool b) e
      constructor
      · intro hb
        cases bc0 with
        | false => cases hb
        | true =>
          have c := h0.1 rfl
          intro p hp
          cases hp with
          | head => exact ⟨gs0, true, b, e, hb⟩
          | tail _ hp => exact c p hp
      · intro c
        have c0 : conj ρ gs0 := fun p hp => c p (.tail _ hp)
        have hbc := h0.2 c0
        subst hbc
        obtain ⟨g', bc', b', e', hl⟩ := c (t, wt) (.head _)
        rw [e] at e'
        cases e'
        exact hl
    · simp at h

theorem lit_eq {wt b : Bool} : lit wt b = true ↔ b = wt := by cases wt <;> cases b <;> simp [lit]

/-- Is the operation carried out? As the guard says. -/
theorem wanted_spec {ops : Array Oper} {o : Oper} {g : Option (Nat × Bool)} {bc : Bool} (hg : gSlot ops.toList o = some g) (L : Sl w0.heap.size φ β ρ a w) (h : guardOf ρ g = some (gs, bc)) :
    Region.wanted o (yielded ops a.tmps) = bc := by
  unfold gSlot at hg
  cases ho : o.guard with
  | none =>
    simp only [ho, Option.some.injEq] at hg
    subst hg
    simp only [guardOf, Option.some.injEq, Prod.mk.injEq] at h
    simp [Region.wanted, ho, h.2]
  | some p =>
    obtain ⟨j, wt⟩ := p
    simp only [ho] at hg
    cases hj : ops.toList[j]? with
    | none => simp [hj] at hg
    | some og =>
      simp only [hj] at hg
      cases hd : og.dst with
      | none => simp [hd] at hg
      | some t =>
        simp only [hd, Option.some.injEq] at hg
        subst hg
        simp only [guardOf] at h
        split at h
        · rename_i gs0 bc0 b e
          simp only [Option.some.injEq, Prod.mk.injEq] at h
          obtain ⟨rfl, rfl⟩ := h
          have H := L.H t
          rw [e] at H
          have hy : yielded ops a.tmps j = match a.tmps[t]? with | some (.bool b) => some b | _ => none := by
            have : ops[j]? = some og := by simpa using hj
            simp only [yielded, this, Option.bind_some, hd]
            rfl
          simp only [Region.wanted, ho, hy]
          cases bc0 with
          | true =>
            have hv := H.1 rfl
            have hv := vr_bool hv
            rw [Array.getD_eq_getD_getElem?] at hv
            cases ht : a.tmps[t]? with
            | none => rw [ht] at hv; simp [undef] at hv
            | some v =>
              rw [ht] at hv
              simp only [Option.getD_some] at hv
              subst hv
              simp only [andB]
              cases b <;> cases wt <;> rfl
          | false =>
            have hv := H.2 rfl
            rw [Array.getD_eq_getD_getElem?] at hv
            simp only [andB]
            cases ht : a.tmps[t]? with
            | none => cases wt <;> rfl
            | some v =>
              rw [ht] at hv
              simp only [Option.getD_some] at hv
              subst hv
              cases wt <;> rfl
        · simp at h

/-! ### Lists of slots -/

abbrev envF (env : List SV) : Nat → SV := fun t => env.getD t .any

theorem envF_set {env : List SV} {d : Nat} (hd : d < env.length) (x : SV) : envF (env.set d x) = setR (envF env) d x := by
  funext t
  simp only [envF, List.getD_eq_getElem?_getD, List.getElem?_set, setR]
  by_cases h : d = t
  · subst h; simp [hd]
  · rw [if_neg h, if_neg (Ne.symm h)]

theorem envOk_spec {bx : Bool} {d : Nat} {env : List SV} (h : envOk bx d env = true) :
    ∀ x ∈ env, (∀ p ∈ gsOf x, p.1 ≠ d) ∧ (bx = true → ∀ gs bc e off, x = .lref gs bc e off → e ≠ d) := by
  induction env with
  | nil => intro x hx; cases hx
  | cons y env ih =>
    intro x hx
    have hy : envOk bx d env = true ∧ (∀ p ∈ gsOf y, p.1 ≠ d) ∧ (bx = true → ∀ gs bc e off, y = .lref gs bc e off → e ≠ d) := by
      cases y with
      | any => exact ⟨h, fun p hp => (nomatch hp), fun _ _ _ _ _ h => nomatch h⟩
      | box cs => exact ⟨h, fun p hp => (nomatch hp), fun _ _ _ _ _ h => nomatch h⟩
      | g gs bc v =>
        simp only [envOk, Bool.and_eq_true] at h
        exact ⟨h.2, noG_spec h.1, fun _ _ _ _ _ h => nomatch h⟩
      | lref gs bc e off =>
        simp only [envOk, Bool.and_eq_true] at h
        refine ⟨h.2, noG_spec h.1.1, fun hb gs' bc' e' off' he => ?_⟩
        cases he
        have := h.1.2
        subst hb
        rintro rfl
        simp at this
    cases hx with
    | head => exact hy.2
    | tail _ hx => exact ih hy.1 x hx

theorem envF_mem {env : List SV} (t : Nat) : envF env t = .any ∨ envF env t ∈ env := by
  simp only [envF, List.getD_eq_getElem?_getD]
  cases h : env[t]? with
  | none => exact .inl rfl
  | some x => exact .inr (List.mem_of_getElem? h)

theorem dstOk_spec {dst : Option Nat} {sv : SV} {env : List SV} (h : dstOk dst sv env = true) (hl : env.length ≤ a.tmps.size) :
    DOk dst sv (envF env) a ∧ ∀ d, dst = some d → d < env.length := by
  cases dst with
  | none => exact ⟨by simpa [dstOk, DOk] using h, fun d h => by cases h⟩
  | some d =>
    simp only [dstOk, Bool.and_eq_true, Bool.not_eq_true', Nat.blt_eq] at h
    obtain ⟨⟨⟨h1, h2⟩, h3⟩, h4⟩ := h
    have sp := envOk_spec h1
    refine ⟨⟨by omega, fun t => ?_, noG_spec h2, fun hb t gs bc e off he => ?_, h3⟩, fun d' hd => by cases hd; exact h4⟩
    · rcases envF_mem (env := env) t with e | e
      · rw [e]; intro p hp; cases hp
      · exact (sp _ e).1
    · rcases envF_mem (env := env) t with e' | e'
      · rw [e'] at he; cases he
      · exact (sp _ e').2 hb gs bc e off he

theorem chk_some' {p : Prop} {i : Decidable p} {K : Option R} (h : @chk R p i K = some r) : K = some r := (@chk_some _ p i K r h).2

theorem chkC_some' {p : Prop} {K : Option R} (h : chkC p K = some r) : K = some r := (chkC_some h).2

theorem reChk_some {ρ : Nat → SV} {h h' : Heap} {up : Up} {K : Option R} : ∀ {l : List Re}, reChk ρ h h' up l K = some r → K = some r := by
  intro l
  induction l with
  | nil => intro h; exact h
  | cons x l ih =>
    intro hh
    cases x with
    | load n t g =>
      simp only [reChk] at hh
      repeat' split at hh
      all_goals first
        | exact ih hh
        | exact ih (chkC_some' hh)
        | exact nomatch hh
    | sl t g =>
      simp only [reChk] at hh
      repeat' split at hh
      all_goals first
        | exact ih hh
        | exact ih (chkC_some' hh)
        | exact nomatch hh
    | blk t =>
      simp only [reChk] at hh
      repeat' split at hh
      all_goals first
        | exact ih (chkC_some' hh)
        | exact nomatch hh

/-! ### Invariants -/

structure Inv (φ0 : Phi) (n : Nat) (w0 : World) (φ : Phi) (β : Nat → Nat) (σ : St) (a : Act) (w : World) : Prop where
  E : Eff φ0 φ n σ.ah w0 w
  L : Sl w0.heap.size φ β (envF σ.env) a w
  len : σ.env.length ≤ a.tmps.size

def Inv' (φ0 : Phi) (n : Nat) (w0 : World) (σ : St) (a : Act) (w : World) : Prop := ∃ φ β, Inv φ0 n w0 φ β σ a w

theorem put_size (a : Act) (dst : Option Nat) (v : Value) : (a.put dst v).tmps.size = a.tmps.size := by
  cases dst <;> simp [Act.put]

theorem put_len (env : List SV) (dst : Option Nat) (x : SV) : (put env dst x).length = env.length := by cases dst <;> simp [put]
theorem upd_len (env : List SV) (u : Up) : (upd env u).length = env.length := by
  cases u with
  | none => rfl
  | some p => obtain ⟨d, cs⟩ := p; simp [upd]

theorem envF_put {env : List SV} {dst : Option Nat} (h : ∀ d, dst = some d → d < env.length) (x : SV) : envF (put env dst x) = putR (envF env) dst x := by
  cases dst with
  | none => rfl
  | some d => exact envF_set (h d rfl) x

/-- No slot is guarded. -/
def G0 (env : List SV) : Prop := ∀ x ∈ env, gsOf x = []

theorem G0.put {env : List SV} {dst : Option Nat} {x : SV} (G : G0 env) (h : gsOf x = []) : G0 (Abs.put env dst x) := by
  cases dst with
  | none => exact G
  | some d =>
    intro y hy
    rcases List.mem_or_eq_of_mem_set hy with h' | h'
    · exact G y h'
    · rw [h']; exact h

theorem G0.upd {env : List SV} {up : Up} (G : G0 env) : G0 (Abs.upd env up) := by
  cases up with
  | none => exact G
  | some p =>
    obtain ⟨d, cs⟩ := p
    intro y hy
    rcases List.mem_or_eq_of_mem_set hy with h' | h'
    · exact G y h'
    · rw [h']; rfl

theorem guardOf_none {ops : List Oper} {o : Oper} {g : Option (Nat × Bool)} {bc : Bool} (hg : gSlot ops o = some g) (ho : o.guard = none) (h : guardOf ρ g = some (gs, bc)) : gs = [] := by
  unfold gSlot at hg
  simp only [ho, Option.some.injEq] at hg
  subst hg
  simp only [guardOf, Option.some.injEq, Prod.mk.injEq] at h
  exact h.1.symm

theorem Chg.gs0 {m : Nat} {sv : SV} {h : Heap} {up : Up} {vc : Value} (c : Chg m φ β ρ ah w gs sv h up vc w') (hg : gs = []) : gsOf sv = [] := by
  subst hg
  cases c with
  | val φ' _ _ hs => rcases hs with ⟨x, rfl, _⟩ | ⟨e, off, rfl, _⟩ <;> rfl
  | box cs cells ty _ _ hsv => subst hsv; rfl
  | wr d cs x _ _ _ hsv => subst hsv; rfl

/-- One operation, in the text's order. -/
theorem stepOp_sound {C : FuncId → List AV → Heap → Res} (hC : CSound P C) {ops : Array Oper} {o : Oper} {re : List Re} {ao : AOp} (hao : cOper P loc ops.toList o re = some ao) {σ : St} {K : St → Option R}
    (I : Inv' φ0 n w0 σ a w) (h : stepOp C ao σ K = some r) {i : Nat} (hi : ops[i]? = some o) {Q : Exit → Act → World → Prop} {next : Act → World → Prop}
    (hn : ∀ σ' a' w', K σ' = some r → Inv' φ0 n w0 σ' a' w' → (o.guard = none → G0 σ.env → G0 σ'.env) → next a' w') : wpOp P ops Q i next a w := by
  obtain ⟨φ, β, E, L, hl⟩ := I
  unfold cOper at hao
  split at hao
  · rename_i g k hg hk
    simp only [Option.some.injEq] at hao
    subst hao
    have h : (match guardOf (envF σ.env) g with
      | none => none
      | some (gs, bc) => opK C (envF σ.env) σ.ah gs bc k fun sv h up =>
        match dstOk o.dst sv σ.env with
        | true => reChk (envF σ.env) σ.ah h up re (K ⟨upd (put σ.env o.dst sv) up, h⟩)
        | false => none) = some r := h
    cases hgd : guardOf (envF σ.env) g with
    | none => rw [hgd] at h; exact nomatch h
    | some p =>
      obtain ⟨gs, bc⟩ := p
      rw [hgd] at h
      simp only at h
      obtain ⟨g1, g2⟩ := guardOf_spec L.G hgd
      have hw := wanted_spec hg L hgd
      unfold wpOp
      simp only [hi, hw]
      cases bc with
      | true =>
        have cj := g1.1 rfl
        obtain ⟨sv, h', up, h, hr⟩ := opK_reach hC (L.ctx E.sim cj) hk h
        split at h
        · rename_i hd
          have h := reChk_some h
          obtain ⟨D, hd'⟩ := dstOk_spec hd hl
          simp only [if_true]
          refine .inl (hr.wp fun vc w' hc => ?_)
          obtain ⟨φ', β', E', L', _⟩ := L.step E hc E.len cj D
          refine hn _ _ _ h ⟨φ', β', E', ?_, ?_⟩ fun hgn G => ?_
          · have e1 := envF_put hd' sv
            cases up with
            | none => simp only [upd]; rw [e1]; exact L'
            | some q =>
              obtain ⟨d, cs⟩ := q
              simp only [upd]
              rw [envF_set, e1]
              · exact L'
              · rw [put_len]
                cases hc with
                | val _ hup => cases hup
                | box _ _ _ hup => cases hup
                | wr d' cs' x _ hup _ _ _ _ hb =>
                  cases hup
                  obtain ⟨cs0, hb⟩ := hb
                  rcases Nat.lt_or_ge d σ.env.length with hlt | hge
                  · exact hlt
                  · simp [envF, List.getD_eq_getElem?_getD, List.getElem?_eq_none hge] at hb
          · simp only [upd_len, put_len, put_size]
            exact hl
          · have hgs : gs = [] := guardOf_none hg hgn hgd
            exact (G.put (hc.gs0 hgs)).upd
        · simp at h
      | false =>
        have cj : ¬ conj (envF σ.env) gs := fun c => by have := g1.2 c; cases this
        obtain ⟨sv, h, hidle⟩ := opK_idle (g2 rfl) h
        split at h
        · rename_i hd
          have h := reChk_some h
          obtain ⟨D, hd'⟩ := dstOk_spec hd hl
          simp only [Bool.false_eq_true, if_false]
          refine hn _ _ _ h ⟨φ, β, E, ?_, ?_⟩ fun hgn G => absurd (guardOf_none hg hgn hgd) (g2 rfl)
          · simp only [upd]
            rw [envF_put hd']
            exact L.idle hidle cj D
          · simp only [upd_len, put_len, put_size]
            exact hl
        · simp at h
  · simp at hao

end
end Go.Proofs.Ytmfmnbldngfelaa.Abs
