/- Drawn regions: what holds along the canonical run. -/
import Derived.Test.YtmfmnbldngfelaaAbsTrace
set_option linter.unusedVariables false
set_option linter.unusedSimpArgs false
namespace Go.Proofs.Ytmfmnbldngfelaa.Abs
open Go

section
variable {R : Type} {r : R} {ρ ρ' : Nat → SV} {ah ah' : Heap} {gs : List (Nat × Bool)} {bc : Bool}

def lrefOf : SV → Option Nat
  | .lref _ _ d _ => some d
  | _ => none

/-- Does a slot lead into the box at slot d? -/
def LeadsTo (ρ : Nat → SV) (t d : Nat) : Prop := (t = d ∧ ∃ cs, ρ t = .box cs) ∨ ∃ g b o, ρ t = .lref g b d o

theorem opA_lref {k : AK} {d : Nat} (h : opA ρ ah gs bc k lrefOf = some d) : ∃ t ∈ akTmps k, LeadsTo ρ t d := by
  cases k <;> simp only [opA] at h
  case fieldAddr off x =>
    obtain ⟨p, h, hn, hl⟩ := place_loc h
    cases p with
    | heap q => cases h
    | loc d' o =>
      simp only [lrefOf, Option.some.injEq] at h
      subst h
      obtain ⟨t, hx, ht⟩ := hl _ _ rfl
      exact ⟨t, by simp [akTmps, hx, axT], ht⟩
  case indexArr len es x i =>
    split at h
    · obtain ⟨p, h, hn, hl⟩ := place_loc h
      cases p with
      | heap q => have h := (chk_spec' h).2; cases h
      | loc d' o =>
        have h := (chk_spec' h).2
        simp only [lrefOf, Option.some.injEq] at h
        subst h
        obtain ⟨t, hx, ht⟩ := hl _ _ rfl
        exact ⟨t, by simp [akTmps, hx, axT], ht⟩
    · cases h
  case nilCheck x =>
    cases x with
    | c v => cases h
    | tmp t =>
      simp only at h
      refine ⟨t, by simp [akTmps, axT], ?_⟩
      cases e : ρ t with
      | any => rw [e] at h; cases h
      | box cs =>
        rw [e] at h
        simp only [lrefOf, Option.some.injEq] at h
        exact .inl ⟨h, cs, e⟩
      | lref g b d' off =>
        rw [e] at h
        simp only at h
        split at h
        · simp only [lrefOf, Option.some.injEq] at h
          subst h
          exact .inr ⟨g, b, off, e⟩
        · cases h
      | g g b v =>
        rw [e] at h
        simp only at h
        split at h
        · split at h
          · obtain ⟨y, h, hn⟩ := gb_nat h; cases h
          · cases h
          · cases h
        · cases h
  case load s x =>
    obtain ⟨p, h, hn⟩ := place_nat h
    cases p with
    | heap q =>
      cases s <;> simp only at h
      · obtain ⟨v, h, hm⟩ := rdC_nat h; cases h
      · obtain ⟨v, h, hm⟩ := rdV_nat h; cases h
      · obtain ⟨v, h, hm⟩ := rdV_nat h; cases h
    | loc d off =>
      simp only at h
      split at h
      · cases h
      · cases s <;> simp only at h
        · obtain ⟨v, h, hm⟩ := rdC_nat h; cases h
        · have h := (chk_spec' h).2
          obtain ⟨v, h, hm⟩ := rdL_nat h; cases h
        · have h := (chk_spec' h).2; cases h
  case field off s x =>
    split at h
    · cases s <;> simp only at h
      · obtain ⟨v, h, hm⟩ := rdC_nat h; cases h
      · have h := (chk_spec' h).2
        obtain ⟨v, h, hm⟩ := rdL_nat h; cases h
      · have h := (chk_spec' h).2; cases h
    · cases h
  case bin tk op x y =>
    split at h
    · obtain ⟨v, h, hn⟩ := binOpA_nat h; cases h
    · cases h
  case lookup z s ok m k =>
    split at h
    · obtain ⟨f, h, hn⟩ := gb_nat h
      obtain ⟨v, h, hm⟩ := rdW_nat h
      cases ok <;> cases h
    · cases h
  all_goals
    repeat' split at h
  all_goals first
    | (cases h; done)
    | (obtain ⟨h, hc⟩ := chkC_nat h; cases h; done)
    | (obtain ⟨v, h, hn⟩ := gb_nat h; cases h; done)
    | (obtain ⟨h, hc⟩ := chk_nat h; cases h; done)
    | (obtain ⟨h, hc⟩ := chk_nat h; obtain ⟨v, h, hn⟩ := gb_nat h; cases h; done)
    | (obtain ⟨h, hc⟩ := chk_nat h; obtain ⟨v, h, hn⟩ := rdC_nat h; cases h; done)

theorem opK_lref {C : FuncId → List AV → Heap → Res} {k : AK} {d : Nat} (h : opK C ρ ah gs bc k (fun sv _ _ => lrefOf sv) = some d) : ∃ t ∈ akTmps k, LeadsTo ρ t d := by
  have F : ∀ k' (G : FuncId → List AV → List VS → AV → Option Nat), (∀ f as rs z, G f as rs z = some d → False) → opF ρ gs k' G = some d → ∃ t ∈ akTmps k, LeadsTo ρ t d := by
    intro k' G hG h
    obtain ⟨f, as, rs, z, h, hn⟩ := opF_nat h
    exact (hG _ _ _ _ h).elim
  have f1 : ∀ f as (rs : List VS) (z : AV), ((C f as ah).bind fun r => rdRes rs r.1 true fun a => lrefOf (.v a)) = some d → False := by
    intro f as rs z h
    rw [Option.bind_eq_some_iff] at h
    obtain ⟨p, hp, h⟩ := h
    obtain ⟨x, h, hm⟩ := rdRes_nat h
    cases h
  have f2 : ∀ f as (rs : List VS) (z : AV), ((if bc = true then C f as ah else some (z, ah)).bind fun r => rdRes rs r.1 bc fun a => lrefOf (.g gs bc a)) = some d → False := by
    intro f as rs z h
    rw [Option.bind_eq_some_iff] at h
    obtain ⟨p, hp, h⟩ := h
    obtain ⟨x, h, hm⟩ := rdRes_nat h
    cases h
  have X : ∀ k', opX ρ k' (fun cs => lrefOf (.box cs)) = some d → ∃ t ∈ akTmps k, LeadsTo ρ t d := fun k' h => by
    obtain ⟨x, h, hn⟩ := opX_nat h; cases h
  have B : ∀ k', opB ρ k' ah.length (fun a b => lrefOf (.v a)) = some d → ∃ t ∈ akTmps k, LeadsTo ρ t d := fun k' h => by
    obtain ⟨x, b, h, hn⟩ := opB_nat h; cases h
  have M : ∀ k', opM ρ ah k' (fun a h u => lrefOf (.v a)) = some d → ∃ t ∈ akTmps k, LeadsTo ρ t d := fun k' h => by
    obtain ⟨x, h', u, h, hn⟩ := opM_nat h; cases h
  cases gs with
  | nil =>
    cases k <;> unfold opK at h
    case boxL => exact X _ h
    case allocL => exact X _ h
    case boxH => exact B _ h
    case allocH => exact B _ h
    case buildSl => exact B _ h
    case makeMap => exact B _ h
    case makeSl => exact B _ h
    case store => exact M _ h
    case clear => exact M _ h
    case mapUpdate => exact M _ h
    case append => exact M _ h
    case copy => exact M _ h
    case call => exact F _ _ f1 h
    case callV => exact F _ _ f1 h
    all_goals exact opA_lref h
  | cons q gs =>
    cases k <;> unfold opK at h
    case boxL => cases h
    case allocL => cases h
    case boxH => cases h
    case allocH => cases h
    case buildSl => cases h
    case makeMap => cases h
    case makeSl => cases h
    case store => cases h
    case clear => cases h
    case mapUpdate => cases h
    case append => cases h
    case copy => cases h
    case call => exact F _ _ f2 h
    case callV => exact F _ _ f2 h
    all_goals exact opA_lref h

/-- The guards of what an operation yields are its own, or none. -/
def tst (gs : List (Nat × Bool)) (sv : SV) : Option Unit := if gsOf sv = gs ∨ gsOf sv = [] then none else some ()

theorem tst_g {x : AV} : tst gs (.g gs bc x) = none := by simp [tst, gsOf]
theorem tst_l {d off : Nat} : tst gs (.lref gs bc d off) = none := by simp [tst, gsOf]
theorem tst_v {x : AV} : tst gs (.v x) = none := if_pos (.inr rfl)
theorem tst_box {cs : List AV} : tst gs (.box cs) = none := by simp [tst, gsOf]

theorem opA_gs {k : AK} {u : Unit} (h : opA ρ ah gs bc k (tst gs) = some u) : False := by
  cases k <;> simp only [opA] at h
  case fieldAddr off x =>
    obtain ⟨p, h, hn⟩ := place_nat h
    cases p <;> simp [tst_g, tst_l] at h
  case indexArr len es x i =>
    split at h
    · obtain ⟨p, h, hn⟩ := place_nat h
      cases p <;> (have h := (chk_spec' h).2; simp [tst_g, tst_l] at h)
    · cases h
  case load s x =>
    obtain ⟨p, h, hn⟩ := place_nat h
    cases p with
    | heap q =>
      cases s <;> simp only at h
      · obtain ⟨v, h, hm⟩ := rdC_nat h; simp [tst_g] at h
      · obtain ⟨v, h, hm⟩ := rdV_nat h; simp [tst_g] at h
      · obtain ⟨v, h, hm⟩ := rdV_nat h; simp [tst_g] at h
    | loc d off =>
      simp only at h
      split at h
      · cases h
      · cases s <;> simp only at h
        · obtain ⟨v, h, hm⟩ := rdC_nat h; simp [tst_g] at h
        · have h := (chk_spec' h).2
          obtain ⟨v, h, hm⟩ := rdL_nat h; simp [tst_g] at h
        · have h := (chk_spec' h).2; simp [tst_g] at h
  case field off s x =>
    split at h
    · cases s <;> simp only at h
      · obtain ⟨v, h, hm⟩ := rdC_nat h; simp [tst_g] at h
      · have h := (chk_spec' h).2
        obtain ⟨v, h, hm⟩ := rdL_nat h; simp [tst_g] at h
      · have h := (chk_spec' h).2; simp [tst_g] at h
    · cases h
  case bin tk op x y =>
    split at h
    · obtain ⟨v, h, hn⟩ := binOpA_nat h; simp [tst_g] at h
    · cases h
  case lookup z s ok m k =>
    split at h
    · obtain ⟨f, h, hn⟩ := gb_nat h
      obtain ⟨v, h, hm⟩ := rdW_nat h
      cases ok <;> simp [tst_g] at h
    · cases h
  all_goals
    repeat' split at h
  all_goals first
    | (cases h; done)
    | (simp [tst_g, tst_l] at h; done)
    | (obtain ⟨h, hc⟩ := chkC_nat h; simp [tst_g] at h; done)
    | (obtain ⟨v, h, hn⟩ := gb_nat h; simp [tst_g] at h; done)
    | (obtain ⟨h, hc⟩ := chk_nat h; simp [tst_g] at h; done)
    | (obtain ⟨h, hc⟩ := chk_nat h; obtain ⟨v, h, hn⟩ := gb_nat h; simp [tst_g] at h; done)
    | (obtain ⟨h, hc⟩ := chk_nat h; obtain ⟨v, h, hn⟩ := rdC_nat h; simp [tst_g] at h; done)

theorem opK_gs {C : FuncId → List AV → Heap → Res} {k : AK} {u : Unit} (h : opK C ρ ah gs bc k (fun sv _ _ => tst gs sv) = some u) : False := by
  have X : ∀ k', opX ρ k' (fun cs => tst gs (.box cs)) = some u → False := fun k' h => by
    obtain ⟨x, h, hn⟩ := opX_nat h; simp [tst_box] at h
  have B : ∀ k', opB ρ k' ah.length (fun a b => tst gs (.v a)) = some u → False := fun k' h => by
    obtain ⟨x, b, h, hn⟩ := opB_nat h; simp [tst_v] at h
  have M : ∀ k', opM ρ ah k' (fun a h u => tst gs (.v a)) = some u → False := fun k' h => by
    obtain ⟨x, h', u, h, hn⟩ := opM_nat h; simp [tst_v] at h
  cases gs with
  | nil =>
    have F : ∀ k', opF ρ [] k' (fun f as rs z => (C f as ah).bind fun r => rdRes rs r.1 true fun a => tst [] (.v a)) = some u → False := by
      intro k' h
      obtain ⟨f, as, rs, z, h, hn⟩ := opF_nat h
      rw [Option.bind_eq_some_iff] at h
      obtain ⟨p, hp, h⟩ := h
      obtain ⟨x, h, hm⟩ := rdRes_nat h
      simp [tst_v] at h
    cases k <;> unfold opK at h
    case boxL => exact X _ h
    case allocL => exact X _ h
    case boxH => exact B _ h
    case allocH => exact B _ h
    case buildSl => exact B _ h
    case makeMap => exact B _ h
    case makeSl => exact B _ h
    case store => exact M _ h
    case clear => exact M _ h
    case mapUpdate => exact M _ h
    case append => exact M _ h
    case copy => exact M _ h
    case call => exact F _ h
    case callV => exact F _ h
    all_goals exact opA_gs h
  | cons q gs =>
    have F : ∀ k', opF ρ (q :: gs) k' (fun f as rs z => (if bc = true then C f as ah else some (z, ah)).bind fun r => rdRes rs r.1 bc fun a => tst (q :: gs) (.g (q :: gs) bc a)) = some u → False := by
      intro k' h
      obtain ⟨f, as, rs, z, h, hn⟩ := opF_nat h
      rw [Option.bind_eq_some_iff] at h
      obtain ⟨p, hp, h⟩ := h
      obtain ⟨x, h, hm⟩ := rdRes_nat h
      simp [tst_g] at h
    cases k <;> unfold opK at h
    case boxL => cases h
    case allocL => cases h
    case boxH => cases h
    case allocH => cases h
    case buildSl => cases h
    case makeMap => cases h
    case makeSl => cases h
    case store => cases h
    case clear => cases h
    case mapUpdate => cases h
    case append => cases h
    case copy => cases h
    case call => exact F _ h
    case callV => exact F _ h
    all_goals exact opA_gs h

theorem TStep.lref {C : FuncId → List AV → Heap → Res} {a : AOp} {σ σ' : St} {sv : SV} {h : Heap} {up : Up} (T : TStep C a σ σ' gs bc sv h up) {g : List (Nat × Bool)} {b : Bool} {d off : Nat} (hs : sv = .lref g b d off) :
    ∃ t ∈ akTmps a.k, LeadsTo (envF σ.env) t d := by
  have := T.op Nat (fun sv _ _ => lrefOf sv)
  subst hs
  exact opK_lref this

theorem TStep.gsOk {C : FuncId → List AV → Heap → Res} {a : AOp} {σ σ' : St} {gs : List (Nat × Bool)} {sv : SV} {h : Heap} {up : Up} (T : TStep C a σ σ' gs bc sv h up) : gsOf sv = gs ∨ gsOf sv = [] := by
  have := T.op Unit (fun sv _ _ => tst gs sv)
  by_cases hh : gsOf sv = gs ∨ gsOf sv = []
  · exact hh
  · rw [tst, if_neg hh] at this
    exact (opK_gs this).elim

def upOf : Up → Option Nat
  | some (d, _) => some d
  | none => none

theorem opM_up {k : AK} {d : Nat} (h : opM ρ ah k (fun _ _ u => upOf u) = some d) : isM k = true ∧ (∃ cs, ρ d = .box cs) ∧ ∃ t ∈ akTmps k, LeadsTo ρ t d := by
  cases k <;> simp only [opM] at h
  case store n x y =>
    split at h
    · obtain ⟨p, h, hn, hl⟩ := place_loc h
      cases p with
      | heap q =>
        simp only at h
        split at h
        · split at h
          · have h := (chk_spec' h).2
            rw [Option.bind_eq_some_iff] at h
            obtain ⟨_, _, h⟩ := h
            cases h
          · cases h
        · have h := (chk_spec' h).2
          rw [Option.bind_eq_some_iff] at h
          obtain ⟨_, _, h⟩ := h
          cases h
      | loc d' off =>
        simp only at h
        obtain ⟨t, hx, ht⟩ := hl d' off rfl
        cases ec : boxAt ρ d' with
        | none => rw [ec] at h; cases h
        | some cs =>
          have hb := boxAt_box ec
          have fin : d' = d → isM (AK.store n x y) = true ∧ (∃ cs, ρ d = .box cs) ∧ ∃ t ∈ akTmps (AK.store n x y), LeadsTo ρ t d := by
            rintro rfl
            exact ⟨rfl, hb, t, by simp [akTmps, hx, axT], ht⟩
          rw [ec] at h
          simp only at h
          split at h
          · split at h
            · have h := (chk_spec' h).2
              simp only [upOf, Option.some.injEq] at h
              exact fin h
            · cases h
          · have h := (chk_spec' h).2
            simp only [upOf, Option.some.injEq] at h
            exact fin h
    · cases h
  all_goals
    repeat' split at h
  all_goals first
    | (cases h; done)
    | (rw [Option.bind_eq_some_iff] at h; obtain ⟨_, _, h⟩ := h; cases h; done)
    | (rw [Option.bind_eq_some_iff] at h; obtain ⟨_, _, h⟩ := h; rw [Option.bind_eq_some_iff] at h; obtain ⟨_, _, h⟩ := h; cases h; done)
    | (rw [Option.bind_eq_some_iff] at h; obtain ⟨_, _, h⟩ := h; rw [Option.bind_eq_some_iff] at h; obtain ⟨_, _, h⟩ := h; obtain ⟨_, h, _⟩ := gb_nat h; cases h; done)

theorem opK_up {C : FuncId → List AV → Heap → Res} {k : AK} {d : Nat} (h : opK C ρ ah gs bc k (fun _ _ u => upOf u) = some d) : isM k = true ∧ (∃ cs, ρ d = .box cs) ∧ ∃ t ∈ akTmps k, LeadsTo ρ t d := by
  have X : ∀ k', opX ρ k' (fun cs => upOf none) = some d → False := fun k' h => by
    obtain ⟨x, h, hn⟩ := opX_nat h; cases h
  have B : ∀ k', opB ρ k' ah.length (fun a b => upOf none) = some d → False := fun k' h => by
    obtain ⟨x, b, h, hn⟩ := opB_nat h; cases h
  have A : ∀ k', opA ρ ah gs bc k' (fun sv => upOf none) = some d → False := fun k' h => by
    obtain ⟨x, h, hn⟩ := opA_nat h; cases h
  cases gs with
  | nil =>
    have F : ∀ k', opF ρ [] k' (fun f as rs z => (C f as ah).bind fun r => rdRes rs r.1 true fun a => upOf none) = some d → False := by
      intro k' h
      obtain ⟨f, as, rs, z, h, hn⟩ := opF_nat h
      rw [Option.bind_eq_some_iff] at h
      obtain ⟨p, hp, h⟩ := h
      obtain ⟨x, h, hm⟩ := rdRes_nat h
      cases h
    cases k <;> unfold opK at h
    case boxL => exact (X _ h).elim
    case allocL => exact (X _ h).elim
    case boxH => exact (B _ h).elim
    case allocH => exact (B _ h).elim
    case buildSl => exact (B _ h).elim
    case makeMap => exact (B _ h).elim
    case makeSl => exact (B _ h).elim
    case store => exact opM_up h
    case clear => exact opM_up h
    case mapUpdate => exact opM_up h
    case append => exact opM_up h
    case copy => exact opM_up h
    case call => exact (F _ h).elim
    case callV => exact (F _ h).elim
    all_goals exact (A _ h).elim
  | cons q gs =>
    have F : ∀ k', opF ρ (q :: gs) k' (fun f as rs z => (if bc = true then C f as ah else some (z, ah)).bind fun r => rdRes rs r.1 bc fun a => upOf none) = some d → False := by
      intro k' h
      obtain ⟨f, as, rs, z, h, hn⟩ := opF_nat h
      rw [Option.bind_eq_some_iff] at h
      obtain ⟨p, hp, h⟩ := h
      obtain ⟨x, h, hm⟩ := rdRes_nat h
      cases h
    cases k <;> unfold opK at h
    case boxL => cases h
    case allocL => cases h
    case boxH => cases h
    case allocH => cases h
    case buildSl => cases h
    case makeMap => cases h
    case makeSl => cases h
    case store => cases h
    case clear => cases h
    case mapUpdate => cases h
    case append => cases h
    case copy => cases h
    case call => exact (F _ h).elim
    case callV => exact (F _ h).elim
    all_goals exact (A _ h).elim

theorem TStep.up {C : FuncId → List AV → Heap → Res} {a : AOp} {σ σ' : St} {sv : SV} {h : Heap} {up : Up} (T : TStep C a σ σ' gs bc sv h up) {d : Nat} {cs : List AV} (hs : up = some (d, cs)) :
    isM a.k = true ∧ (∃ cs, envF σ.env d = .box cs) ∧ ∃ t ∈ akTmps a.k, LeadsTo (envF σ.env) t d := by
  have := T.op Nat (fun _ _ u => upOf u)
  subst hs
  exact opK_up this

/-! ### The canonical run of a region -/

structure CRun (C : FuncId → List AV → Heap → Res) (ops : Array Oper) (L : List Item) (σ : Nat → St) : Prop where
  step : ∀ k x, L[k]? = some x → ∃ gs bc sv h up, TStep C x.a (σ k) (σ (k + 1)) gs bc sv h up
  facts : Facts (depTab ops.toList []) L

variable {C : FuncId → List AV → Heap → Res} {ops : Array Oper} {L : List Item} {σ : Nat → St}

/-- The slots behind a step. -/
theorem TStep.env {a : AOp} {σ σ' : St} {sv : SV} {h : Heap} {up : Up} (T : TStep C a σ σ' gs bc sv h up) : envF σ'.env = updR (putR (envF σ.env) a.dst sv) up ∧ σ'.ah = h := by
  have hd : ∀ d, a.dst = some d → d < σ.env.length := (dstOk_spec (a := ⟨Array.replicate σ.env.length undef, []⟩) T.dst (by simp)).2
  refine ⟨?_, by rw [T.eq]⟩
  rw [T.eq]
  cases up with
  | none => simp only [upd, updR]; exact envF_put hd sv
  | some p =>
    obtain ⟨d, cs⟩ := p
    simp only [upd, updR]
    rw [envF_set, envF_put hd]
    rw [put_len]
    obtain ⟨_, ⟨cs0, hb⟩, _⟩ := T.up rfl
    rcases Nat.lt_or_ge d σ.env.length with hlt | hge
    · exact hlt
    · simp [envF, List.getD_eq_getElem?_getD, List.getElem?_eq_none hge] at hb

theorem TStep.dok {a : AOp} {σ σ' : St} {sv : SV} {h : Heap} {up : Up} (T : TStep C a σ σ' gs bc sv h up) {d : Nat} (hd : a.dst = some d) :
    (∀ t, ∀ p ∈ gsOf (envF σ.env t), p.1 ≠ d) ∧ (∀ p ∈ gsOf sv, p.1 ≠ d) ∧ (isBoxS sv = true → ∀ t gs bc e off, envF σ.env t = .lref gs bc e off → e ≠ d) ∧ isBoxS (envF σ.env d) = false := by
  have := (dstOk_spec (a := ⟨Array.replicate σ.env.length undef, []⟩) T.dst (by simp)).1
  rw [hd] at this
  exact this.2

/-- The slot written. -/
theorem TStep.at {a : AOp} {σ σ' : St} {sv : SV} {h : Heap} {up : Up} (T : TStep C a σ σ' gs bc sv h up) {d : Nat} (hd : a.dst = some d) : envF σ'.env d = sv := by
  rw [T.env.1, hd]
  cases up with
  | none => exact setR_same _ _ _
  | some p =>
    obtain ⟨e, cs⟩ := p
    obtain ⟨_, ⟨cs0, hb⟩, _⟩ := T.up rfl
    have hne : d ≠ e := by
      rintro rfl
      have := (T.dok hd).2.2.2
      rw [hb] at this
      cases this
    simp only [updR]
    rw [setR_other _ _ hne]
    exact setR_same _ _ _

/-- A slot not written: its box may have been. -/
theorem TStep.off {a : AOp} {σ σ' : St} {sv : SV} {h : Heap} {up : Up} (T : TStep C a σ σ' gs bc sv h up) {t : Nat} (ht : a.dst ≠ some t) :
    envF σ'.env t = envF σ.env t ∨ ∃ cs, up = some (t, cs) ∧ envF σ'.env t = .box cs ∧ ∃ cs0, envF σ.env t = .box cs0 := by
  have hp : putR (envF σ.env) a.dst sv t = envF σ.env t := by
    cases e : a.dst with
    | none => rfl
    | some d => exact setR_other _ _ (fun h => ht (by rw [e, h]))
  rw [T.env.1]
  cases up with
  | none => exact .inl hp
  | some p =>
    obtain ⟨e, cs⟩ := p
    by_cases he : t = e
    · subst he
      obtain ⟨_, hb, _⟩ := T.up rfl
      exact .inr ⟨cs, rfl, setR_same _ _ _, hb⟩
    · simp only [updR]
      rw [setR_other _ _ he]
      exact .inl hp

theorem TStep.offS {a : AOp} {σ σ' : St} {sv : SV} {h : Heap} {up : Up} (T : TStep C a σ σ' gs bc sv h up) {t : Nat} (ht : a.dst ≠ some t) : SEq (envF σ.env t) (envF σ'.env t) := by
  rcases T.off ht with h | ⟨cs, _, h1, cs0, h2⟩
  · exact .inl h.symm
  · exact .inr ⟨cs0, cs, h2, h1⟩

theorem SEq.trans {x y z : SV} (h : SEq x y) (k : SEq y z) : SEq x z := by
  rcases h with rfl | ⟨c, d, rfl, rfl⟩
  · exact k
  · rcases k with rfl | ⟨c', d', _, rfl⟩
    · exact .inr ⟨_, _, rfl, rfl⟩
    · exact .inr ⟨_, _, rfl, rfl⟩

/-- A slot that is not written between two positions. -/
theorem CRun.still (N : CRun C ops L σ) {t : Nat} : ∀ (n k : Nat), k + n ≤ L.length → (∀ j x, k ≤ j → j < k + n → L[j]? = some x → x.a.dst ≠ some t) → SEq (envF (σ k).env t) (envF (σ (k + n)).env t) := by
  intro n
  induction n with
  | zero => intro k _ _; exact .inl rfl
  | succ n ih =>
    intro k hk h
    have h1 := ih k (by omega) fun j x hj hjn => h j x hj (by omega)
    have hx : L[k + n]? = some L[k + n] := List.getElem?_eq_getElem (by omega)
    obtain ⟨gs, bc, sv, hh, up, T⟩ := N.step (k + n) _ hx
    exact h1.trans (T.offS (h (k + n) _ (by omega) (by omega) hx))

/-- Position i writes slot t. -/
def Wr (L : List Item) (i t : Nat) : Prop := ∃ x, L[i]? = some x ∧ x.a.dst = some t

def LastW (L : List Item) (m t i : Nat) : Prop := i < m ∧ Wr L i t ∧ ∀ j, i < j → j < m → ¬ Wr L j t

/-- Whoever has carried out position i has carried out position k. -/
def Bef (ops : Array Oper) (L : List Item) (i k : Nat) : Prop :=
  ∀ x y, L[i]? = some x → L[k]? = some y → ∀ S, Closed ops S → S x.i → S y.i

theorem Bef.trans {i j k : Nat} (h : Bef ops L i j) (g : Bef ops L j k) (hj : j < L.length) : Bef ops L i k := by
  intro x z hx hz S hS hi
  have hy : L[j]? = some L[j] := List.getElem?_eq_getElem hj
  exact g _ z hy hz S hS (h x _ hx hy S hS hi)

/-- What pairs of positions come to. -/
theorem CRun.pair (N : CRun C ops L σ) {p q : Nat} {x y : Item} (hpq : p < q) (hx : L[p]? = some x) (hy : L[q]? = some y) :
    ¬ Dep ops x.i y.i ∧ x.i ≠ y.i ∧ (Dep ops y.i x.i ∨ (x.bar = false ∧ clash x.a y.a = false)) ∧ (y.bar = true ∨ (hits y.a.dst (aoRd x.a) = false ∧ sameD x.a.dst y.a.dst = false)) := by
  have := N.facts.pair p q x y hpq hx hy
  simp only [pairOk, Bool.and_eq_true, Bool.or_eq_true, Bool.not_eq_true', Bool.or_eq_false_iff] at this
  obtain ⟨⟨⟨h1, h2⟩, h3⟩, h4⟩ := this
  refine ⟨?_, ?_, h3, h4⟩
  · intro h
    unfold Dep at h
    rw [h1] at h
    cases h
  · intro h
    rw [h] at h2
    simp at h2

/-- A position waits for those ahead of it that write what it reads. -/
theorem CRun.reads (N : CRun C ops L σ) {p q t : Nat} {y : Item} (hpq : p < q) (hw : Wr L p t) (hy : L[q]? = some y) (ht : t ∈ aoRd y.a) : Bef ops L q p := by
  obtain ⟨x, hx, hd⟩ := hw
  obtain ⟨_, _, h3, _⟩ := N.pair hpq hx hy
  intro y' x' hy' hx' S hS hi
  rw [hy] at hy'; cases hy'
  rw [hx] at hx'; cases hx'
  rcases h3 with h | ⟨_, h⟩
  · exact hS.dep hi h
  · exact absurd ht ((clash_spec h).1 t hd)

theorem LastW.succ {m t i : Nat} (h : LastW L m t i) (hw : ¬ Wr L m t) : LastW L (m + 1) t i :=
  ⟨Nat.lt_succ_of_lt h.1, h.2.1, fun j hj hjm => by
    rcases Nat.lt_or_ge j m with hlt | hge
    · exact h.2.2 j hj hlt
    · have : j = m := by omega
      subst this; exact hw⟩

theorem LastW.pred {m t i : Nat} (h : LastW L (m + 1) t i) (hw : ¬ Wr L m t) : LastW L m t i := by
  have hi : i ≠ m := by rintro rfl; exact hw h.2.1
  exact ⟨by have := h.1; omega, h.2.1, fun j hj hjm => h.2.2 j hj (by omega)⟩

/-- An address within a box of the frame is made behind the box. -/
theorem CRun.lref (N : CRun C ops L σ) : ∀ (m : Nat), m ≤ L.length → ∀ (t d k : Nat) g b o, envF (σ m).env t = .lref g b d o → isBoxS (envF (σ m).env d) = true → LastW L m d k →
    ∃ i, k < i ∧ LastW L m t i ∧ Bef ops L i k := by
  intro m
  induction m with
  | zero => intro _ t d k g b o _ _ h; exact absurd h.1 (by omega)
  | succ m ih =>
    intro hm t d k g b o ht hd hk
    have hx : L[m]? = some L[m] := List.getElem?_eq_getElem (by omega)
    generalize L[m] = x at hx
    obtain ⟨gs, bc, sv, hh, up, T⟩ := N.step m x hx
    have wr : ∀ s, Wr L m s ↔ x.a.dst = some s := fun s => ⟨fun ⟨y, hy, h⟩ => by rw [hx] at hy; cases hy; exact h, fun h => ⟨x, hx, h⟩⟩
    have boxBack : x.a.dst ≠ some d → isBoxS (envF (σ m).env d) = true := fun hne => by
      rcases T.off hne with h | ⟨_, _, _, cs0, h⟩
      · rw [← h]; exact hd
      · rw [h]; rfl
    have lrefBack : x.a.dst ≠ some t → envF (σ m).env t = .lref g b d o := fun hne => by
      rcases T.off hne with h | ⟨cs, _, h, _⟩
      · rw [← h]; exact ht
      · rw [ht] at h; cases h
    by_cases hdd : x.a.dst = some d
    · exfalso
      have hsv := T.at hdd
      rw [hsv] at hd
      have hne : x.a.dst ≠ some t := fun h => by
        rw [hdd] at h; cases h
        rw [ht] at hsv; rw [← hsv] at hd; cases hd
      exact (T.dok hdd).2.2.1 hd t g b d o (lrefBack hne) rfl
    · have hk' := hk.pred (fun h => hdd ((wr d).1 h))
      by_cases htt : x.a.dst = some t
      · have hsv := T.at htt
        rw [ht] at hsv
        obtain ⟨t', ht', hl⟩ := T.lref hsv.symm
        have hrd : t' ∈ aoRd x.a := List.mem_append_right _ ht'
        refine ⟨m, hk'.1, ⟨Nat.lt_succ_self m, (wr t).2 htt, fun j h1 h2 => by omega⟩, ?_⟩
        rcases hl with ⟨rfl, _⟩ | ⟨g', b', o', hl⟩
        · exact N.reads hk'.1 hk'.2.1 hx hrd
        · obtain ⟨i, h1, h2, h3⟩ := ih (by omega) t' d k g' b' o' hl (boxBack hdd) hk'
          exact (N.reads h2.1 h2.2.1 hx hrd).trans h3 (by have := h2.1; omega)
      · obtain ⟨i, h1, h2, h3⟩ := ih (by omega) t d k g b o (lrefBack htt) (boxBack hdd) hk'
        exact ⟨i, h1, h2.succ (fun h => htt ((wr t).1 h)), h3⟩

theorem guardOf_mem {g : Option (Nat × Bool)} (h : guardOf ρ g = some (gs, bc)) {p : Nat × Bool} (hp : p ∈ gs) : ∃ tg wt, g = some (tg, wt) ∧ (p.1 = tg ∨ p ∈ gsOf (ρ tg)) := by
  cases g with
  | none =>
    simp only [guardOf, Option.some.injEq, Prod.mk.injEq] at h
    rw [← h.1] at hp
    cases hp
  | some q =>
    obtain ⟨tg, wt⟩ := q
    refine ⟨tg, wt, rfl, ?_⟩
    simp only [guardOf] at h
    split at h
    · rename_i gs0 bc0 b e
      simp only [Option.some.injEq, Prod.mk.injEq] at h
      rw [← h.1] at hp
      cases hp with
      | head => exact .inl rfl
      | tail _ hp => right; rw [e]; exact hp
    · cases h

/-- What guards a slot's value was there ahead of it. -/
theorem CRun.grds (N : CRun C ops L σ) (G : G0 (σ 0).env) : ∀ (m : Nat), m ≤ L.length → ∀ (t : Nat) (p : Nat × Bool), p ∈ gsOf (envF (σ m).env t) →
    ∃ i, LastW L m t i ∧ ∀ k, k < m → Wr L k p.1 → Bef ops L i k := by
  intro m
  induction m with
  | zero =>
    intro _ t p hp
    rcases envF_mem (env := (σ 0).env) t with e | e
    · rw [e] at hp; cases hp
    · rw [G _ e] at hp; cases hp
  | succ m ih =>
    intro hm t p hp
    have hx : L[m]? = some L[m] := List.getElem?_eq_getElem (by omega)
    generalize L[m] = x at hx
    obtain ⟨gs, bc, sv, hh, up, T⟩ := N.step m x hx
    have wr : ∀ s, Wr L m s ↔ x.a.dst = some s := fun s => ⟨fun ⟨y, hy, h⟩ => by rw [hx] at hy; cases hy; exact h, fun h => ⟨x, hx, h⟩⟩
    by_cases htt : x.a.dst = some t
    · rw [T.at htt] at hp
      have hpd := (T.dok htt).2.1 p hp
      have hgs : p ∈ gs := by
        rcases T.gsOk with h | h
        · rw [← h]; exact hp
        · rw [h] at hp; cases hp
      obtain ⟨tg, wt, hg, hc⟩ := guardOf_mem T.grd hgs
      have hrd : tg ∈ aoRd x.a := by simp [aoRd, hg]
      refine ⟨m, ⟨Nat.lt_succ_self m, (wr t).2 htt, fun j h1 h2 => by omega⟩, fun k hk hw => ?_⟩
      have hkm : k < m := by
        rcases Nat.lt_or_ge k m with h | h
        · exact h
        · exfalso
          have : k = m := by omega
          subst this
          have := (wr p.1).1 hw
          rw [htt] at this
          cases this
          exact hpd rfl
      rcases hc with hc | hc
      · rw [hc] at hw
        exact N.reads hkm hw hx hrd
      · obtain ⟨i, h1, h2⟩ := ih (by omega) tg p hc
        exact (N.reads h1.1 h1.2.1 hx hrd).trans (h2 k hkm hw) (by have := h1.1; omega)
    · have hp' : p ∈ gsOf (envF (σ m).env t) := by
        rcases T.off htt with h | ⟨cs, _, h, _⟩
        · rw [← h]; exact hp
        · rw [h] at hp; cases hp
      obtain ⟨i, h1, h2⟩ := ih (by omega) t p hp'
      refine ⟨i, h1.succ (fun h => htt ((wr t).1 h)), fun k hk hw => ?_⟩
      rcases Nat.lt_or_ge k m with h | h
      · exact h2 k h hw
      · exfalso
        have : k = m := by omega
        subst this
        have hd := (wr p.1).1 hw
        exact (T.dok hd).1 t p hp' rfl

end
end Go.Proofs.Ytmfmnbldngfelaa.Abs
