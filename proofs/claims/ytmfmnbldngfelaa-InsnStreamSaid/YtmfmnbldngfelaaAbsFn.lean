/- Functions: what the evaluator answers, a call returns. -/
import Derived.Test.YtmfmnbldngfelaaAbsCode
set_option linter.unusedVariables false
set_option linter.unusedSimpArgs false
namespace Go.Proofs.Ytmfmnbldngfelaa.Abs
open Go

section
variable {P : Program} {φ φ' φ'' φ0 : Phi} {β : Nat → Nat} {ρ : Nat → SV} {ah ah' : Heap} {a : Act} {w w' w0 : World} {R : Type} {gs : List (Nat × Bool)}
  {loc : Nat} {r : R} {n : Nat}

/-! ### Results -/

def resStep (tmps : Array Value) : ResultVar → Sem Value
  | .tmp t => pure (tmps.getD t undef)
  | .cell a t => do loadVar t (← asAddr (tmps.getD a undef))

theorem run_resCell {t : TypeId} {x : Nat} {vc : Value} {dst type pos after guard} (h : (execOp a.eval ⟨dst, .load t (.tmp x), type, pos, after, guard⟩).run P w = .ok (.value vc) w) :
    (resStep a.tmps (.cell x t)).run P w = .ok vc w := by
  have he : a.eval (.tmp x) = a.tmps.getD x undef := rfl
  simp only [execOp, he, Instr.loadAt, Sem.run_bind] at h
  simp only [resStep, Sem.run_bind]
  generalize a.tmps.getD x undef = v at h
  cases v
  case pointer o =>
    cases o with
    | none => simp [Instr.sureAddr, stuck, Sem.run, Result.andThen] at h
    | some ad =>
      simp only [Instr.sureAddr, Sem.run_pure, Result.andThen] at h
      simp only [asAddr, Sem.run_pure, Result.andThen]
      cases e : (loadVar t ad).run P w with
      | ok v w' => rw [e] at h; simp at h; obtain ⟨rfl, rfl⟩ := h; rfl
      | halt x w' => rw [e] at h; simp at h
  all_goals simp [Instr.sureAddr, stuck, Sem.run, Result.andThen] at h

theorem retG_sound {σ : St} (Cx : Ctx φ β (envF σ.env) σ.ah a w []) : ∀ (l : List ResultVar) (rs : List RV) {K : List AV → Res} {r : AV × Heap}, resRV P l = some rs → retG σ rs K = some r →
    ∃ as vs, K as = some r ∧ (l.mapM (resStep a.tmps)).run P w = .ok vs w ∧ VRs φ as vs := by
  intro l
  induction l with
  | nil =>
    intro rs K r h1 h2
    simp only [resRV, Option.some.injEq] at h1
    subst h1
    exact ⟨[], [], h2, by simp, .nil _⟩
  | cons x l ih =>
    intro rs K r h1 h2
    cases x with
    | tmp t =>
      simp only [resRV] at h1
      split at h1
      · rename_i rs' hrs
        simp only [Option.some.injEq] at h1
        subst h1
        have h2 : (match getV [] (envF σ.env) (.tmp t) with
          | some a => retG σ rs' fun as => K (a :: as)
          | none => none) = some r := h2
        split at h2
        · rename_i v hv
          have e := getV_sound Cx (x := .tmp t) rfl hv
          obtain ⟨as, vs, k1, k2, k3⟩ := ih rs' hrs h2
          refine ⟨v :: as, a.tmps.getD t undef :: vs, k1, ?_, .cons e k3⟩
          simp [List.mapM_cons, resStep, Sem.run_bind, Result.andThen, k2]
        · exact nomatch h2
      · exact nomatch h1
    | cell x t =>
      simp only [resRV] at h1
      split at h1
      · rename_i s rs' hs hrs
        simp only [Option.some.injEq] at h1
        subst h1
        have h2 : opA (envF σ.env) σ.ah [] true (.load s (.tmp x)) (fun sv => match sv with
          | .g _ _ a => retG σ rs' fun as => K (a :: as)
          | _ => none) = some r := h2
        have hk : cOp P 0 ⟨none, .load t (.tmp x), 0, "", #[], none⟩ = some (.load s (.tmp x)) := by simp [cOp, hs, cX]
        obtain ⟨sv, h2, vc, hrun, hsv⟩ := a_load Cx hk h2
        rcases hsv with ⟨y, rfl, hv⟩ | ⟨d, off, rfl, _⟩
        · obtain ⟨as, vs, k1, k2, k3⟩ := ih rs' hrs h2
          refine ⟨y :: as, vc :: vs, k1, ?_, .cons hv k3⟩
          have hr := run_resCell hrun
          simp [List.mapM_cons, Sem.run_bind, Result.andThen, k2, hr]
        · exact nomatch h2
      · exact nomatch h1

theorem results_eq (fn : Func) (tmps : Array Value) : results fn tmps = (do
    let vs ← fn.results.mapM (resStep tmps)
    pure (if h : vs.size = 1 then vs[0] else .tuple vs)) := rfl

theorem retV_sound {σ : St} (Cx : Ctx φ β (envF σ.env) σ.ah a w []) {fn : Func} {rs : List RV} {v : AV} (h1 : resRV P fn.results.toList = some rs) (h2 : retV rs σ = some (v, ah')) :
    ah' = σ.ah ∧ ∃ vc, (results fn a.tmps).run P w = .ok vc w ∧ VR φ v vc := by
  unfold retV at h2
  obtain ⟨as, vs, k1, k2, k3⟩ := retG_sound Cx fn.results.toList rs h1 h2
  have hm : (fn.results.mapM (resStep a.tmps)).run P w = .ok vs.toArray w := by
    rw [Array.mapM_eq_mapM_toList]
    simp [k2, Result.andThen]
  have hlen := k3.1
  split at k1
  · rename_i x
    simp only [Option.some.injEq, Prod.mk.injEq] at k1
    obtain ⟨rfl, rfl⟩ := k1
    obtain ⟨y, ys, rfl, hv, hrest⟩ := k3.cons_inv
    have : ys = [] := by
      have := hrest.1
      cases ys with
      | nil => rfl
      | cons z zs => simp at this
    subst this
    refine ⟨rfl, y, ?_, hv⟩
    rw [results_eq]
    simp [Sem.run_bind, hm, Result.andThen]
  · rename_i l hne
    simp only [Option.some.injEq, Prod.mk.injEq] at k1
    obtain ⟨rfl, rfl⟩ := k1
    refine ⟨rfl, .tuple vs.toArray, ?_, .tup_list k3⟩
    rw [results_eq]
    have : ¬ vs.length = 1 := by
      intro h
      rw [← hlen] at h
      match as, h with
      | [x], _ => exact hne x rfl
    simp [Sem.run_bind, hm, Result.andThen, this]

/-! ### The slots at first -/

theorem initEnv_len : ∀ (l : List AV) (n : Nat), (initEnv l n).length = l.length + (n - l.length) := by
  intro l
  induction l with
  | nil => intro n; simp [initEnv]
  | cons x l ih => intro n; simp [initEnv, ih]; omega

theorem initEnv_get : ∀ (l : List AV) (n t : Nat), envF (initEnv l n) t = match l[t]? with | some x => .v x | none => .any := by
  intro l
  induction l with
  | nil =>
    intro n t
    simp only [initEnv, envF, List.getD_eq_getElem?_getD, List.getElem?_replicate]
    split <;> rfl
  | cons x l ih =>
    intro n t
    simp only [initEnv]
    cases t with
    | zero => rw [envF_cons_zero]; rfl
    | succ t => rw [envF_cons_succ, ih]; rfl

theorem init_inv {args : List AV} {vs : List Value} {nt : Nat} (hv : VRs φ args vs) (S : Sim φ ah w) :
    Inv0 φ ah.length w ⟨initEnv args nt, ah⟩ { tmps := vs.toArray ++ Array.replicate (nt - vs.toArray.size) undef, defers := [] } w := by
  have hlen := hv.1
  have get : ∀ t, envF (initEnv args nt) t = .any ∨ ∃ x, args[t]? = some x ∧ envF (initEnv args nt) t = .v x := fun t => by
    rw [initEnv_get]
    cases args[t]? with
    | none => exact .inl rfl
    | some x => exact .inr ⟨x, rfl, rfl⟩
  refine ⟨⟨φ, fun _ => 0, .refl S (Nat.le_refl _), ⟨fun t => ?_, ⟨fun t gs bc x e => ?_, fun t gs bc d off e => ?_⟩, fun t cs e => ?_, rfl⟩, ?_⟩, ?_⟩
  · rcases get t with e | ⟨x, hx, e⟩
    · show SVR _ _ _ _ _ (envF _ t)
      rw [e]; trivial
    · show SVR _ _ _ _ _ (envF _ t)
      rw [e]
      obtain ⟨y, hy, hvr⟩ := hv.get hx
      have ht : t < vs.length := (List.getElem?_eq_some_iff.1 hy).1
      refine ⟨fun _ => ?_, fun h => Bool.noConfusion h⟩
      rw [Array.getD_eq_getD_getElem?, Array.getElem?_append_left (by simpa using ht)]
      simp [hy]
      exact hvr
  · rcases get t with e' | ⟨x', hx, e'⟩
    · have e : envF (initEnv args nt) t = _ := e
      rw [e] at e'; cases e'
    · have e : envF (initEnv args nt) t = _ := e
      rw [e] at e'; cases e'
      exact ⟨fun _ => conj_nil _, fun _ => rfl⟩
  · rcases get t with e' | ⟨x', hx, e'⟩
    · have e : envF (initEnv args nt) t = _ := e
      rw [e] at e'; cases e'
    · have e : envF (initEnv args nt) t = _ := e
      rw [e] at e'; cases e'
  · rcases get t with e' | ⟨x', hx, e'⟩
    · have e : envF (initEnv args nt) t = _ := e
      rw [e] at e'; cases e'
    · have e : envF (initEnv args nt) t = _ := e
      rw [e] at e'; cases e'
  · simp [initEnv_len]
    omega
  · intro x hx
    obtain ⟨t, ht⟩ := List.mem_iff_getElem?.1 hx
    have e : envF (initEnv args nt) t = x := by simp [envF, ht]
    rcases get t with e' | ⟨x', _, e'⟩
    · rw [← e, e']; rfl
    · rw [← e, e']; rfl

/-! ### Functions -/

/-- A call of a function returns what the evaluator says. -/
def CallOk (P : Program) (f : FuncId) (as : List AV) (ah : Heap) (v : AV) (ah' : Heap) : Prop :=
  Enters P f ∧ ∀ (φ : Phi) (w : World) (args : List Value), VRs φ as args → Sim φ ah w →
    Calls P f args.toArray w fun e w' => ∃ vc, e = .returned vc ∧ ∃ φ', VR φ' v vc ∧ Eff φ φ' ah.length ah' w w'

theorem runFn_sound {C : FuncId → List AV → Heap → Res} (hC : CSound P C) (hD : DrawnOk P C) {k : Nat} {f : FuncId} {afn : AFn} (hf : cFn P f = some afn) {as : List AV} {v : AV}
    (h : runFn C k afn as ah = some (v, ah')) : CallOk P f as ah v ah' := by
  unfold cFn at hf
  split at hf
  · exact nomatch hf
  · rename_i fn hfn
    split at hf
    · rename_i c rs hb hrs
      split at hf
      · exact nomatch hf
      · rename_i hname
        simp only [Option.some.injEq] at hf
        subst hf
        refine ⟨⟨fn, hfn, by rw [hb]; rfl, hname⟩, fun φ w args hargs S => ?_⟩
        unfold runFn at h
        simp only at h
        refine calls_of_wp hfn hb ?_
        refine wp_mono (evalCode_sound hC hD c _ _ (AV × Heap) (v, ah') _ _ _ w h (init_inv hargs S)) fun e a' w' hq => ?_
        have fin : ∀ σ, retV rs σ = some (v, ah') → Inv0 φ ah.length w σ a' w' → a'.defers = [] ∧ ∃ vc, (results fn a'.tmps).run P w' = .ok vc w' ∧ ∃ vc', Ending.returned vc = .returned vc' ∧ ∃ φ', VR φ' v vc' ∧ Eff φ φ' ah.length ah' w w' := by
          intro σ hr I
          obtain ⟨φ', β, E, L, hl⟩ := I.I
          obtain ⟨rfl, vc, hrun, hv⟩ := retV_sound (L.ctx E.sim (conj_nil _)) hrs hr
          exact ⟨L.df, vc, hrun, vc, rfl, φ', hv, E⟩
        cases e with
        | normal => obtain ⟨σ, hr, I⟩ := hq; exact fin σ hr I
        | ret => obtain ⟨σ, hr, I⟩ := hq; exact fin σ hr I
        | exit id => obtain ⟨σ, hr, I⟩ := hq; exact nomatch hr
        | _ => exact hq.elim
    · exact nomatch hf

/-- Functions whose answer is given do what it says. -/
def PrimsOk (P : Program) (T : Prims) : Prop := ∀ f p, T f = some p → ∀ as ah v ah', p as ah = some (v, ah') → CallOk P f as ah v ah'

theorem evalF_sound {T : Prims} (hT : PrimsOk P T) (hD : ∀ C, CSound P C → DrawnOk P C) : ∀ (k : Nat), CSound P (evalF P T k) := by
  intro k
  induction k with
  | zero => intro f as ah v ah' h; simp [evalF] at h
  | succ k ih =>
    intro f as ah v ah' h
    simp only [evalF] at h
    split at h
    · rename_i p hp
      exact hT f p hp as ah v ah' h
    · split at h
      · exact nomatch h
      · rename_i afn hf
        exact runFn_sound ih (hD _ ih) hf h

end
end Go.Proofs.Ytmfmnbldngfelaa.Abs
