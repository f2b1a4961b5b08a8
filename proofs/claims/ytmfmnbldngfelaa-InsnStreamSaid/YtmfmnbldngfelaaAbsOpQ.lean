/- Calls: the function that is entered, and its arguments. -/
import Derived.Test.YtmfmnbldngfelaaAbsOpP
set_option linter.unusedVariables false
set_option linter.unusedSimpArgs false
namespace Go.Proofs.Ytmfmnbldngfelaa.Abs
open Go

section
variable {P : Program} {φ : Phi} {β : Nat → Nat} {ρ : Nat → SV} {ah : Heap} {a : Act} {w : World} {R : Type} {gs : List (Nat × Bool)}
  {loc : Nat} {r : R}

/-- A function that is entered when it is called. -/
def Enters (P : Program) (f : FuncId) : Prop := ∃ fn, P.funcs[f]? = some fn ∧ fn.body.isSome = true ∧ fn.name ≠ "runtime.NumGoroutine"

theorem run_callFunc {f : FuncId} (h : Enters P f) (args : Array Value) : (callFunc f args).run P w = .ok (.enter f args) w := by
  obtain ⟨fn, hf, hb, hn⟩ := h
  have hn' : (fn.name == "runtime.NumGoroutine") = false := by simpa using hn
  have hb' : fn.body.isNone = false := by
    cases e : fn.body with
    | none => rw [e] at hb; simp at hb
    | some c => rfl
  unfold callFunc
  have hb2 : fn.body ≠ none := by rw [Option.isSome_iff_ne_none] at hb; exact hb
  simp [program, Sem.run, hf, hn, hb2, Sem.run_bind, Result.andThen]

theorem cX_fn {x : Operand} {f : FuncId} (h : cX x = some (.c (.fn f [] []))) : x = .func f := by
  cases x with
  | tmp t => simp [cX] at h
  | const v =>
    simp only [cX] at h
    split at h
    · rename_i y hy
      simp only [Option.some.injEq, AX.c.injEq] at h
      subst h
      exfalso
      unfold ofVal at hy
      split at hy
      · split at hy <;> simp at hy
      · unfold ofCell at hy
        split at hy <;> simp at hy
    · simp at h
  | global g => simp [cX] at h
  | func g => simp [cX] at h; rw [h]

/-- What a call comes to: the function, the arguments, and how what it yields is read. -/
structure CallAt (P : Program) (φ : Phi) (a : Act) (w : World) (o : Oper) (f : FuncId) (as : List AV) : Prop where
  go : Enters P f → ∃ args : List Value, (execOp a.eval o).run P w = .ok (.enter f args.toArray) w ∧ VRs φ as args

theorem opF_sound (C : Ctx φ β ρ ah a w gs) {o : Oper} {k : AK} (hk : cOp P loc o = some k) {ret : FuncId → List AV → List VS → AV → Option R} (h : opF ρ gs k ret = some r) :
    ∃ f as rs z, ret f as rs z = some r ∧ CallAt P φ a w o f as := by
  have hc := cOp_cls hk
  obtain ⟨dst, op, type, pos, after, guard⟩ := o
  cases k <;> try (simp [opF] at h; done)
  case call f args rs z =>
    obtain ⟨fo, as, ts, rfl⟩ := isOp10 hc
    simp only [cOp] at hk
    split at hk
    · rename_i f' as' rs' hf has hrs
      simp only [Option.some.injEq, AK.call.injEq] at hk
      obtain ⟨rfl, rfl, rfl, rfl⟩ := hk
      simp only [opF] at h
      split at h
      · rename_i vs hvs
        refine ⟨_, _, _, _, h, ⟨fun hE => ?_⟩⟩
        have e := getVs_sound C has hvs
        have hfo : a.eval fo = .func (.func f') #[] #[] := by
          have := cX_fn hf
          subst this
          rfl
        refine ⟨_, ?_, e⟩
        simp only [execOp, resolve, hfo, Deferred.ofValue, Sem.run_bind, Sem.run_pure, Result.andThen, invoke]
        have : #[] ++ as.map a.eval ++ #[] = (as.toList.map a.eval).toArray := by apply Array.ext'; simp
        rw [this]
        exact run_callFunc hE _
      · simp at h
    · simp at hk
    · simp at hk
  case callV f args rs z =>
    obtain ⟨fo, as, ts, rfl⟩ := isOp10 hc
    simp only [cOp] at hk
    split at hk
    · simp at hk
    · rename_i f' as' rs' _ hf has hrs
      simp only [Option.some.injEq, AK.callV.injEq] at hk
      obtain ⟨rfl, rfl, rfl, rfl⟩ := hk
      simp only [opF] at h
      split at h
      · rename_i g first cap vs hv hvs
        refine ⟨_, _, _, _, h, ⟨fun hE => ?_⟩⟩
        have e := getVs_sound C has hvs
        have e1 := getV_sound C hf hv
        generalize hev : a.eval fo = vf at e1
        cases e1 with
        | fn _ h1 h2 h3 h4 =>
          rename_i fa ca
          refine ⟨fa.toList ++ as.toList.map a.eval ++ ca.toList, ?_, ((VRs.of_arr h1 h2).append e).append (VRs.of_arr h3 h4)⟩
          simp only [execOp, resolve, hev, Deferred.ofValue, Sem.run_bind, Sem.run_pure, Result.andThen, invoke]
          have : fa ++ as.map a.eval ++ ca = (fa.toList ++ as.toList.map a.eval ++ ca.toList).toArray := by apply Array.ext'; simp
          rw [this]
          exact run_callFunc hE _
      · simp at h
    · simp at hk

end
end Go.Proofs.Ytmfmnbldngfelaa.Abs
