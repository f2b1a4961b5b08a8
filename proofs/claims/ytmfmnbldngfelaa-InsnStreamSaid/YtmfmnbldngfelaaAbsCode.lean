/- Code: regions in the text's order, branches, blocks, loops. Regions that are drawn are taken as shown elsewhere. -/
import Derived.Test.YtmfmnbldngfelaaAbsRun
set_option linter.unusedVariables false
set_option linter.unusedSimpArgs false
namespace Go.Proofs.Ytmfmnbldngfelaa.Abs
open Go

section
variable {P : Program} {φ φ' φ'' φ0 : Phi} {β : Nat → Nat} {ρ : Nat → SV} {ah ah' : Heap} {a : Act} {w w' w0 : World} {R : Type} {gs : List (Nat × Bool)}
  {loc : Nat} {r : R} {n : Nat}

structure Inv0 (φ0 : Phi) (n : Nat) (w0 : World) (σ : St) (a : Act) (w : World) : Prop where
  I : Inv' φ0 n w0 σ a w
  G : G0 σ.env

theorem evalOps_sound {C : FuncId → List AV → Heap → Res} (hC : CSound P C) {ops : Array Oper} {Q : Exit → Act → World → Prop} {K : St → Option R} :
    ∀ (l : List Oper) (i : Nat) (L : List AOp) (σ : St) (a : Act) (w : World), ops.toList.drop i = l → cOpers P loc ops.toList l = some L → Inv' φ0 n w0 σ a w → evalOps C L σ K = some r →
      (∀ σ' a' w', K σ' = some r → Inv' φ0 n w0 σ' a' w' → ((∀ o ∈ l, o.guard = none) → G0 σ.env → G0 σ'.env) → Q .normal a' w') → wpOps P ops Q (List.range' i l.length) a w := by
  intro l
  induction l with
  | nil =>
    intro i L σ a w hd hc I h hQ
    simp only [cOpers, Option.some.injEq] at hc
    subst hc
    exact hQ σ a w h I fun _ g => g
  | cons o l ih =>
    intro i L σ a w hd hc I h hQ
    simp only [cOpers] at hc
    split at hc
    · rename_i ao L' h1 h2
      simp only [Option.some.injEq] at hc
      subst hc
      have hi : ops[i]? = some o := by
        have : (ops.toList.drop i)[0]? = some o := by rw [hd]; rfl
        simpa using this
      have hd' : ops.toList.drop (i + 1) = l := by
        have : (ops.toList.drop i).drop 1 = l := by rw [hd]; rfl
        rw [List.drop_drop] at this
        exact this
      simp only [List.length_cons, List.range'_succ]
      rw [wpOps_cons]
      simp only [evalOps] at h
      refine stepOp_sound hC h1 I h hi fun σ' a' w' h' I' hG => ?_
      refine ih (i + 1) L' σ' a' w' hd' h2 I' h' fun σ'' a'' w'' hk I'' hG' => ?_
      exact hQ σ'' a'' w'' hk I'' fun hall g => hG' (fun o' ho' => hall o' (.tail _ ho')) (hG (hall o (.head _)) g)
    · exact nomatch hc

/-! ### Slots forgotten -/

theorem Inv'.mask {σ : St} {env' : List SV} (I : Inv' φ0 n w0 σ a w) (h : ∀ t, envF env' t = .any ∨ envF env' t = envF σ.env t) (hG : G0 env') (hl : env'.length = σ.env.length) : Inv0 φ0 n w0 ⟨env', σ.ah⟩ a w := by
  obtain ⟨φ, β, E, L, hlen⟩ := I
  have gs0 : ∀ t, gsOf (envF env' t) = [] := fun t => by
    rcases envF_mem (env := env') t with e | e
    · rw [e]; rfl
    · exact hG _ e
  refine ⟨⟨φ, β, E, ⟨fun t => ?_, ⟨fun t gs bc x e => ?_, fun t gs bc d off e => ?_⟩, fun t cs e => ?_, L.df⟩, by rw [hl]; exact hlen⟩, hG⟩
  · rcases h t with e | e
    · show SVR φ β w t _ (envF env' t)
      rw [e]; trivial
    · show SVR φ β w t _ (envF env' t)
      rw [e]; exact L.H t
  · have hgs := gs0 t
    have e : envF env' t = .g gs bc x := e
    rw [e] at hgs
    have hgs : gs = [] := hgs
    subst hgs
    rcases h t with e' | e'
    · rw [e] at e'; cases e'
    · rw [e'] at e
      have := L.G.1 t [] bc x e
      exact ⟨fun _ => conj_nil _, fun _ => this.2 (conj_nil _)⟩
  · have hgs := gs0 t
    have e : envF env' t = .lref gs bc d off := e
    rw [e] at hgs
    have hgs : gs = [] := hgs
    subst hgs
    rcases h t with e' | e'
    · rw [e] at e'; cases e'
    · rw [e'] at e
      have := L.G.2 t [] bc d off e
      exact ⟨fun _ => conj_nil _, fun _ => this.2 (conj_nil _)⟩
  · have e : envF env' t = .box cs := e
    rcases h t with e' | e'
    · rw [e] at e'; cases e'
    · rw [e'] at e
      obtain ⟨b1, b2, b3⟩ := L.bx t cs e
      refine ⟨b1, b2, fun t' cs' e2 => ?_⟩
      have e2 : envF env' t' = .box cs' := e2
      rcases h t' with e3 | e3
      · rw [e2] at e3; cases e3
      · rw [e3] at e2
        exact b3 t' cs' e2

theorem envF_nil (t : Nat) : envF [] t = .any := by simp [envF]
theorem envF_cons_zero (x : SV) (l : List SV) : envF (x :: l) 0 = x := by simp [envF]
theorem envF_cons_succ (x : SV) (l : List SV) (t : Nat) : envF (x :: l) (t + 1) = envF l t := by simp [envF]

theorem scrubE_spec : ∀ (env : List SV), (∀ t, envF (scrubE env) t = .any ∨ envF (scrubE env) t = envF env t) ∧ G0 (scrubE env) ∧ (scrubE env).length = env.length := by
  intro env
  induction env with
  | nil => exact ⟨fun t => .inr rfl, fun x hx => (nomatch hx), rfl⟩
  | cons x l ih =>
    obtain ⟨h1, h2, h3⟩ := ih
    have key : ∀ y, (scrubE (x :: l) = y :: scrubE l) → (y = .any ∨ y = x) → gsOf y = [] → (∀ t, envF (scrubE (x :: l)) t = .any ∨ envF (scrubE (x :: l)) t = envF (x :: l) t) ∧ G0 (scrubE (x :: l)) ∧ (scrubE (x :: l)).length = (x :: l).length := by
      intro y e hy hg
      rw [e]
      refine ⟨fun t => ?_, fun z hz => ?_, by simp [h3]⟩
      · cases t with
        | zero =>
          rw [envF_cons_zero, envF_cons_zero]
          exact hy
        | succ t => rw [envF_cons_succ, envF_cons_succ]; exact h1 t
      · cases hz with
        | head => exact hg
        | tail _ hz => exact h2 z hz
    cases x with
    | any => exact key .any rfl (.inl rfl) rfl
    | box cs => exact key (.box cs) rfl (.inr rfl) rfl
    | g gs bc v =>
      cases gs with
      | nil => exact key (.g [] bc v) rfl (.inr rfl) rfl
      | cons p gs => exact key .any rfl (.inl rfl) rfl
    | lref gs bc d off =>
      cases gs with
      | nil => exact key (.lref [] bc d off) rfl (.inr rfl) rfl
      | cons p gs => exact key .any rfl (.inl rfl) rfl

theorem restrE_spec (m : Nat) : ∀ (env : List SV) (i : Nat), (∀ t, envF (restrE m i env) t = .any ∨ envF (restrE m i env) t = envF env t) ∧ (restrE m i env).length = env.length := by
  intro env
  induction env with
  | nil => intro i; exact ⟨fun t => .inr rfl, rfl⟩
  | cons x l ih =>
    intro i
    obtain ⟨h1, h2⟩ := ih (i + 1)
    refine ⟨fun t => ?_, by simp [restrE, h2]⟩
    simp only [restrE]
    cases t with
    | zero =>
      rw [envF_cons_zero, envF_cons_zero]
      split
      · exact .inr rfl
      · exact .inl rfl
    | succ t => rw [envF_cons_succ, envF_cons_succ]; exact h1 t

theorem G0.of_mask {env env' : List SV} (G : G0 env) (h : ∀ t, envF env' t = .any ∨ envF env' t = envF env t) : G0 env' := by
  intro x hx
  obtain ⟨t, ht⟩ := List.mem_iff_getElem?.1 hx
  have e : envF env' t = x := by simp [envF, ht]
  rcases h t with e' | e'
  · rw [← e, e']; rfl
  · rw [← e, e']
    rcases envF_mem (env := env) t with e2 | e2
    · rw [e2]; rfl
    · exact G _ e2

theorem Inv0.restr {σ : St} (I : Inv0 φ0 n w0 σ a w) (m : Nat) : Inv0 φ0 n w0 (Abs.restr m σ) a w := by
  obtain ⟨h1, h2⟩ := restrE_spec m σ.env 0
  exact I.I.mask h1 (I.G.of_mask h1) h2

theorem Inv'.scrub {σ : St} (I : Inv' φ0 n w0 σ a w) : Inv0 φ0 n w0 (Abs.scrub true σ) a w := by
  obtain ⟨h1, h2, h3⟩ := scrubE_spec σ.env
  exact I.mask h1 h2 h3

theorem anyGuard_false {l : List Oper} (h : anyGuard l = false) : ∀ o ∈ l, o.guard = none := by
  induction l with
  | nil => intro o ho; cases ho
  | cons p l ih =>
    simp only [anyGuard, Bool.or_eq_false_iff] at h
    intro o ho
    cases ho with
    | head => cases e : p.guard with
      | none => rfl
      | some x => rw [e] at h; simp at h
    | tail _ ho => exact ih h.2 o ho

/-! ### Code -/

/-- What stands behind a piece of code. -/
def Post (φ0 : Phi) (n : Nat) (w0 : World) (Q : AE → St → Option R) (r : R) : Exit → Act → World → Prop
  | .normal, a, w => ∃ σ, Q .normal σ = some r ∧ Inv0 φ0 n w0 σ a w
  | .exit id, a, w => ∃ σ, Q (.exit id) σ = some r ∧ Inv0 φ0 n w0 σ a w
  | .ret, a, w => ∃ σ, Q .ret σ = some r ∧ Inv0 φ0 n w0 σ a w
  | _, _, _ => False

theorem region_sound {C : FuncId → List AV → Heap → Res} (hC : CSound P C) {ops : Array Oper} {id : Nat} {sc : Bool} {l : List AOp} (hc : cRegion P loc ops.toList false = some (sc, l)) {σ : St} {Q : AE → St → Option R}
    (I : Inv0 φ0 n w0 σ a w) (h : evalOps C l σ (fun σ' => Q .normal (scrub sc σ')) = some r) : (Code.region id ops false).wp P (Post φ0 n w0 Q r) a w := by
  unfold cRegion at hc
  simp only at hc
  split at hc
  · rename_i L hL
    simp only [Option.some.injEq, Prod.mk.injEq] at hc
    obtain ⟨rfl, rfl⟩ := hc
    refine wp_region ?_
    have hr : List.range ops.size = List.range' 0 ops.toList.length := by rw [List.range_eq_range', Array.length_toList]
    rw [hr]
    refine evalOps_sound hC ops.toList 0 L σ a w rfl hL I.I h fun σ' a' w' hk I' hG => ?_
    cases hg : anyGuard ops.toList with
    | true => rw [hg] at hk; exact ⟨_, hk, I'.scrub⟩
    | false => rw [hg] at hk; exact ⟨_, hk, I', hG (anyGuard_false hg) I.G⟩
  · exact nomatch hc

theorem wp_loop_fuel {c : Code} {Q : Exit → Act → World → Prop} (I : Nat → Act → World → Prop) {k : Nat} (h0 : I k a w)
    (round : ∀ k a w, I k a w → c.wp P (Exit.then (fun a' w' => ∃ m, m < k ∧ I m a' w') Q) a w) : (Code.loop c).wp P Q a w := by
  classical
  have least : ∀ a w, (∃ k, I k a w) → ∃ k, I k a w ∧ ∀ m, I m a w → k ≤ m := by
    intro a w ⟨k, hk⟩
    induction k using Nat.strongRecOn with
    | _ k ih =>
      by_cases hm : ∃ m, m < k ∧ I m a w
      · obtain ⟨m, hm, hI⟩ := hm
        exact ih m hm hI
      · exact ⟨k, hk, fun m hI => Nat.not_lt.1 fun hlt => hm ⟨m, hlt, hI⟩⟩
  let μ : Act → World → Nat := fun a w => if h : ∃ k, I k a w then (least a w h).choose else 0
  have hμ : ∀ a w, (∃ k, I k a w) → I (μ a w) a w ∧ ∀ m, I m a w → μ a w ≤ m := by
    intro a w h
    have := (least a w h).choose_spec
    simp only [μ, h, dif_pos]
    exact this
  refine wp_loop (fun a w => ∃ k, I k a w) μ ⟨k, h0⟩ fun a w hI => ?_
  obtain ⟨h1, h2⟩ := hμ a w hI
  refine wp_mono (round _ a w h1) fun e a' w' hq => ?_
  cases e with
  | normal =>
    obtain ⟨m, hm, hI'⟩ := hq
    exact ⟨⟨m, hI'⟩, Nat.lt_of_le_of_lt ((hμ a' w' ⟨m, hI'⟩).2 m hI') hm⟩
  | _ => exact hq

/-- A drawn region does what its canonical order does. -/
def DrawnOk (P : Program) (C : FuncId → List AV → Heap → Res) : Prop :=
  ∀ (loc : Nat) (ops : Array Oper) (id : Nat) (sc : Bool) (l : List AOp) (R : Type) (r : R) (φ0 : Phi) (n : Nat) (w0 : World) (σ : St) (Q : AE → St → Option R) (a : Act) (w : World),
    cRegion P loc ops.toList true = some (sc, l) → Inv0 φ0 n w0 σ a w → evalOps C l σ (fun σ' => Q .normal (scrub sc σ')) = some r →
    (Code.region id ops true).wp P (Post φ0 n w0 Q r) a w

theorem evalCode_meet {C : FuncId → List AV → Heap → Res} {k : Nat} (b : Bool) (n : Nat) (σ : St) (Q : AE → St → Option R) : evalCode C k (meet b n) σ Q = Q .normal (restr n σ) := by
  cases b <;> rfl

theorem evalCode_sound {C : FuncId → List AV → Heap → Res} (hC : CSound P C) (hD : DrawnOk P C) {rt k : Nat} : ∀ (c : Code) (m : Nat) (X : List (Nat × Nat)) (R : Type) (r : R) (σ : St) (Q : AE → St → Option R) (a : Act) (w : World),
    evalCode C k (cCode P loc rt c m X) σ Q = some r → Inv0 φ0 n w0 σ a w → c.wp P (Post φ0 n w0 Q r) a w := by
  intro c
  induction c with
  | skip => intro m X R r σ Q a w h I; exact wp_skip ⟨σ, h, I⟩
  | region id ops draw =>
    intro m X R r σ Q a w h I
    simp only [cCode] at h
    split at h
    · rename_i sc l hc
      simp only [evalCode] at h
      cases draw with
      | false => exact region_sound hC hc I h
      | true => exact hD loc ops id sc l R r φ0 n w0 σ Q a w hc I h
    · simp [evalCode] at h
  | seq x y ihx ihy =>
    intro m X R r σ Q a w h I
    simp only [cCode, evalCode, evalCode_meet] at h
    refine wp_seq (wp_mono (ihx _ _ R r σ _ a w h I) fun e a' w' hq => ?_)
    cases e with
    | normal => obtain ⟨σ', h', I'⟩ := hq; exact ihy _ _ R r σ' Q a' w' h' I'
    | exit id => obtain ⟨σ', h', I'⟩ := hq; exact ⟨σ', h', I'⟩
    | ret => obtain ⟨σ', h', I'⟩ := hq; exact ⟨σ', h', I'⟩
    | _ => exact hq.elim
  | cond t x y ihx ihy =>
    intro m X R r σ Q a w h I
    simp only [cCode] at h
    split at h
    · rename_i ax hx
      have fin : ∀ (c : Code) (Q1 : AE → St → Option R), (∀ σ', Q1 .normal σ' = Q .normal (restr m σ')) → (∀ id σ', Q1 (.exit id) σ' = Q (.exit id) σ') → (∀ σ', Q1 .ret σ' = Q .ret σ') →
          c.wp P (Post φ0 n w0 Q1 r) a w → c.wp P (Post φ0 n w0 Q r) a w := by
        intro c Q1 q1 q2 q3 hw
        refine wp_mono hw fun e a' w' hq => ?_
        cases e with
        | normal => obtain ⟨σ', h', I'⟩ := hq; rw [q1] at h'; exact ⟨_, h', I'.restr m⟩
        | exit id => obtain ⟨σ', h', I'⟩ := hq; rw [q2] at h'; exact ⟨σ', h', I'⟩
        | ret => obtain ⟨σ', h', I'⟩ := hq; rw [q3] at h'; exact ⟨σ', h', I'⟩
        | _ => exact hq.elim
      have h : (match getV [] (envF σ.env) ax with
        | some (.bool c) => if c = true then evalCode C k (cCode P loc rt x m X) σ (fun x σ' => match x with
            | .normal => Q .normal (restr m σ')
            | .exit id => Q (.exit id) σ'
            | .ret => Q .ret σ') else evalCode C k (cCode P loc rt y m X) σ (fun x σ' => match x with
            | .normal => Q .normal (restr m σ')
            | .exit id => Q (.exit id) σ'
            | .ret => Q .ret σ')
        | _ => none) = some r := by
        simp only [evalCode, evalCode_meet] at h
        exact h
      split at h
      · rename_i b hb
        obtain ⟨φ, β, E, L, hl⟩ := I.I
        have hv := vr_bool (getV_sound (L.ctx E.sim (conj_nil _)) hx hb)
        refine wp_cond hv ?_
        cases b with
        | true => exact fin _ (fun x σ' => match x with
            | .normal => Q .normal (restr m σ')
            | .exit id => Q (.exit id) σ'
            | .ret => Q .ret σ') (fun _ => rfl) (fun _ _ => rfl) (fun _ => rfl) (ihx _ _ R r σ _ a w (by rw [if_pos rfl] at h; exact h) I)
        | false => exact fin _ (fun x σ' => match x with
            | .normal => Q .normal (restr m σ')
            | .exit id => Q (.exit id) σ'
            | .ret => Q .ret σ') (fun _ => rfl) (fun _ _ => rfl) (fun _ => rfl) (ihy _ _ R r σ _ a w (by rw [if_neg (by simp)] at h; exact h) I)
      · exact nomatch h
    · simp [evalCode] at h
  | block id c ih =>
    intro m X R r σ Q a w h I
    simp only [cCode, evalCode, evalCode_meet] at h
    refine wp_block (wp_mono (ih _ _ R r σ _ a w h I) fun e a' w' hq => ?_)
    cases e with
    | normal => obtain ⟨σ', h', I'⟩ := hq; exact ⟨_, h', I'.restr m⟩
    | exit j =>
      obtain ⟨σ', h', I'⟩ := hq
      simp only at h'
      simp only [Exit.inBlock]
      split at h'
      · rename_i hj
        rw [if_pos (Nat.eq_of_beq_eq_true hj)]
        exact ⟨_, h', I'.restr m⟩
      · rename_i hj
        rw [if_neg (fun e => by subst e; simp at hj)]
        exact ⟨σ', h', I'⟩
    | ret => obtain ⟨σ', h', I'⟩ := hq; exact ⟨σ', h', I'⟩
    | _ => exact hq.elim
  | loop c ih =>
    intro m X R r σ Q a w h I
    simp only [cCode, evalCode, evalCode_meet] at h
    generalize hk : k = k0 at h
    revert h
    generalize lv rt c (lv rt c 0 X) X = kin
    generalize X.foldl (fun m p => Nat.lor m p.2) 0 = kout
    intro h
    have hB : ∀ (σ : St) (Q' : AE → St → Option R) a w, evalCode C k (cCode P loc rt c kin X) σ Q' = some r → Inv0 φ0 n w0 σ a w → c.wp P (Post φ0 n w0 Q' r) a w := fun σ Q' a w => ih kin X R r σ Q' a w
    refine wp_loop_fuel (fun j a w => ∃ σ, loopN (evalCode C k (cCode P loc rt c kin X)) kin kout j σ Q = some r ∧ Inv0 φ0 n w0 σ a w) (k := k0) ⟨σ, by rw [hk]; exact h, I⟩ ?_
    rintro j a w ⟨σ, h, I⟩
    cases j with
    | zero => simp [loopN] at h
    | succ j =>
      simp only [loopN] at h
      refine wp_mono (hB _ _ a w h (I.restr kin)) fun e a' w' hq => ?_
      cases e with
      | normal => obtain ⟨σ', h', I'⟩ := hq; exact ⟨j, Nat.lt_succ_self j, σ', h', I'⟩
      | exit id => obtain ⟨σ', h', I'⟩ := hq; exact ⟨_, h', I'.restr kout⟩
      | ret => obtain ⟨σ', h', I'⟩ := hq; exact ⟨σ', h', I'⟩
      | _ => exact hq.elim
  | exit id => intro m X R r σ Q a w h I; exact wp_exit ⟨_, h, I.restr _⟩
  | ret => intro m X R r σ Q a w h I; exact wp_ret ⟨_, h, I.restr _⟩
  | _ => intro m X R r σ Q a w h I; simp [cCode, evalCode] at h

end
end Go.Proofs.Ytmfmnbldngfelaa.Abs
