/- Drawn regions: any order that the edges allow does what the canonical order does. -/
import Derived.Test.YtmfmnbldngfelaaAbsCanon
import Derived.Test.YtmfmnbldngfelaaAbsFn
set_option linter.unusedVariables false
set_option linter.unusedSimpArgs false
namespace Go.Proofs.Ytmfmnbldngfelaa.Abs
open Go

section
variable {R : Type} {r : R} {ρ ρ' ρ0 : Nat → SV} {ah ah' ah0 : Heap} {gs : List (Nat × Bool)} {bc : Bool}
  {C : FuncId → List AV → Heap → Res} {ops : Array Oper} {L : List Item} {σ : Nat → St} {S : Nat → Prop}

/-! ### Kinds of operations -/

def isX : AK → Bool
  | .boxL _ | .allocL _ => true
  | _ => false

theorem opK_a {k : AK} {K : SV → Heap → Up → Option R} (h1 : isM k = false) (h2 : isX k = false) (h3 : isB k = false) : opK C ρ ah gs bc k K = opA ρ ah gs bc k fun sv => K sv ah none := by
  cases k <;> first | (simp [isM] at h1; done) | (simp [isX] at h2; done) | (simp [isB] at h3; done) | (unfold opK; rfl)

theorem opK_x {k : AK} {K : SV → Heap → Up → Option R} (h : isX k = true) : opK C ρ ah gs bc k K = (match gs with | [] => opX ρ k fun cs => K (.box cs) ah none | _ => none) := by
  cases k <;> first | (simp [isX] at h; done) | (unfold opK; rfl)

theorem opK_b {k : AK} {K : SV → Heap → Up → Option R} (h : isB k = true) : opK C ρ ah gs bc k K = (match gs with | [] => opB ρ k ah.length fun a b => K (.v a) (ah ++ [b]) none | _ => none) := by
  cases k <;> first | (simp [isB] at h; done) | (unfold opK; rfl)

/-- What an operation that is no bar does. -/
theorem TStep.quiet {a : AOp} {s s' : St} {sv : SV} {h : Heap} {up : Up} (T : TStep C a s s' gs bc sv h up) (hm : isM a.k = false) : up = none ∧
    ((isX a.k = false ∧ isB a.k = false ∧ h = s.ah ∧ opA (envF s.env) s.ah gs bc a.k some = some sv) ∨
     (isX a.k = true ∧ isB a.k = false ∧ gs = [] ∧ h = s.ah ∧ ∃ cs, sv = .box cs ∧ opX (envF s.env) a.k some = some cs) ∨
     (isB a.k = true ∧ isX a.k = false ∧ gs = [] ∧ ∃ x blk, h = s.ah ++ [blk] ∧ sv = .v x ∧ opB (envF s.env) a.k s.ah.length (fun a b => some (a, b)) = some (x, blk))) := by
  have t := T.op (SV × Heap × Up) fun sv h u => some (sv, h, u)
  cases hX : isX a.k with
  | true =>
    have hB : isB a.k = false := by cases e : a.k <;> simp_all [isX, isB]
    rw [opK_x hX] at t
    split at t
    · obtain ⟨cs, h1, hn⟩ := opX_nat t
      simp only [Option.some.injEq, Prod.mk.injEq] at h1
      obtain ⟨rfl, rfl, rfl⟩ := h1
      exact ⟨rfl, .inr (.inl ⟨rfl, hB, rfl, rfl, cs, rfl, hn some⟩)⟩
    · cases t
  | false =>
    cases hB : isB a.k with
    | true =>
      rw [opK_b hB] at t
      split at t
      · obtain ⟨x, b, h1, hn⟩ := opB_nat t
        simp only [Option.some.injEq, Prod.mk.injEq] at h1
        obtain ⟨rfl, rfl, rfl⟩ := h1
        exact ⟨rfl, .inr (.inr ⟨rfl, rfl, rfl, x, b, rfl, rfl, hn _⟩)⟩
      · cases t
    | false =>
      rw [opK_a hm hX hB] at t
      obtain ⟨x, h1, hn⟩ := opA_nat t
      simp only [Option.some.injEq, Prod.mk.injEq] at h1
      obtain ⟨rfl, rfl, rfl⟩ := h1
      exact ⟨rfl, .inl ⟨rfl, rfl, rfl, hn some⟩⟩

theorem opB_name {k : AK} {n : Nat} {x : AV} {blk : Blk} (h : opB ρ k n (fun a b => some (a, b)) = some (x, blk)) :
    x = .ptr (some ⟨n, 0, 0⟩) ∨ (∃ m, x = .sl (.pos ⟨n, 0, 0⟩) m) ∨ x = .map (some n) := by
  cases k <;> simp only [opB] at h
  case boxH x =>
    repeat' split at h
    all_goals first | (cases h; done) | (cases h; exact .inl rfl)
  case allocH z => cases h; exact .inl rfl
  case makeMap => cases h; exact .inr (.inr rfl)
  case buildSl z es ps =>
    split at h
    · rw [Option.bind_eq_some_iff] at h
      obtain ⟨cs, _, h⟩ := h
      cases h
      exact .inr (.inl ⟨_, rfl⟩)
    · cases h
  case makeSl z n l c =>
    repeat' split at h
    all_goals first | (cases h; done) | (have h := (chk_spec' h).2; cases h; exact .inr (.inl ⟨_, rfl⟩))
  all_goals cases h

/-! ### What a reading operation reads stays -/

theorem heapOk_refl (k : AK) : HeapOk k ρ ρ ah ah := by
  unfold HeapOk
  split
  · unfold LoadOk
    split
    · exact ⟨_, by assumption, rfl⟩
    · exact fun cs h => ⟨cs, h, rfl⟩
    · exact fun xs h => h
    · trivial
  · trivial
  · exact fun _ _ _ _ _ _ h => h
  · exact fun _ _ _ _ _ _ h => h
  all_goals first | rfl | trivial

theorem loadOk_trans {n t : Nat} (h0 : LoadOk ρ0 ρ ah0 ah n t) (ht : SEq (ρ0 t) (ρ t)) (h1 : LoadOk ρ ρ' ah ah' n t) : LoadOk ρ0 ρ' ah0 ah' n t := by
  unfold LoadOk at h0 h1 ⊢
  cases e : ρ0 t with
  | any => trivial
  | box cs =>
    rw [e] at h0
    obtain ⟨cs', e', he⟩ := h0
    rw [e'] at h1
    obtain ⟨cs'', e'', he'⟩ := h1
    exact ⟨cs'', e'', he'.trans he⟩
  | lref g b d o =>
    rw [e] at h0 ht
    have e' : ρ t = .lref g b d o := by
      rcases ht with h | ⟨_, _, h, _⟩
      · exact h.symm
      · cases h
    rw [e'] at h1
    intro cs hc
    obtain ⟨cs', hc', he⟩ := h0 cs hc
    obtain ⟨cs'', hc'', he'⟩ := h1 cs' hc'
    exact ⟨cs'', hc'', he'.trans he⟩
  | g g b y =>
    rw [e] at h0 ht
    have e' : ρ t = .g g b y := by
      rcases ht with h | ⟨_, _, h, _⟩
      · exact h.symm
      · cases h
    rw [e'] at h1
    cases y with
    | ptr q => cases q with
      | none => trivial
      | some q => exact fun xs h => h1 xs (h0 xs h)
    | _ => trivial

theorem heapOk_trans {k : AK} (h0 : HeapOk k ρ0 ρ ah0 ah) (hs : ∀ t ∈ akTmps k, SEq (ρ0 t) (ρ t)) (h1 : HeapOk k ρ ρ' ah ah') : HeapOk k ρ0 ρ' ah0 ah' := by
  have sl : ∀ t, SEq (ρ0 t) (ρ t) → ∀ gs bc x, ρ0 t = .g gs bc x → ρ t = .g gs bc x := by
    intro t ht gs bc x e
    rcases ht with h | ⟨_, _, h, _⟩
    · rw [← h]; exact e
    · rw [e] at h; cases h
  cases k
  case load sh x =>
    cases x with
    | c v => trivial
    | tmp t => exact loadOk_trans h0 (hs t (by simp [akTmps, axT])) h1
  case slice n x lo hi =>
    cases x with
    | c v =>
      cases lo <;> cases hi <;> first | trivial | exact (Eq.trans (b := ah) h1 h0)
    | tmp t =>
      have key := sl t (hs t (by simp [akTmps, axT]))
      cases lo <;> cases hi <;> first
        | trivial
        | exact fun gs bc a n e b hb => h1 gs bc a n (key _ _ _ e) b (h0 gs bc a n e b hb)
  case slice3 n x lo hi mx =>
    cases x with
    | c v => exact (Eq.trans (b := ah) h1 h0)
    | tmp t =>
      have key := sl t (hs t (by simp [akTmps, axT]))
      exact fun gs bc a n e b hb => h1 gs bc a n (key _ _ _ e) b (h0 gs bc a n e b hb)
  case lookup => exact (Eq.trans (b := ah) h1 h0)
  case lenMap => exact (Eq.trans (b := ah) h1 h0)
  all_goals trivial

theorem ldN_mono {q : Ad} {n : Nat} {xs : List AV} (hb : ∀ b, ah[q.b]? = some b → ah'[q.b]? = some b) (h : ldN ah q n = some xs) : ldN ah' q n = some xs := by
  unfold ldN at h ⊢
  cases e : ah[q.b]? with
  | none => rw [e] at h; cases h
  | some b => rw [hb b e]; rw [e] at h; exact h

/-- Two heaps, the second with further blocks. -/
theorem app_get {l : List Blk} (h : ah' = ah ∨ ah' = ah ++ l) (n : Nat) (b : Blk) (hb : ah[n]? = some b) : ah'[n]? = some b := by
  rcases h with rfl | rfl
  · exact hb
  · rw [List.getElem?_append_left (List.getElem?_eq_some_iff.1 hb).1]; exact hb

theorem heapOk_step {a : AOp} {s s' : St} {sv : SV} {h : Heap} {up : Up} (T : TStep C a s s' gs bc sv h up) {k : AK} (hk : isM k = false) (hp : plainK k = true) (hd : ∀ t ∈ akTmps k, a.dst ≠ some t)
    (H : (up = none ∧ ∃ l, h = s.ah ∨ h = s.ah ++ l) ∨ ∃ d g re, (∀ z ∈ reOf ⟨d, k, g, re⟩, ReOk (envF s.env) s.ah h up z) ∧ (g ≠ none → ∀ e, d = some e → bcOf (envF s.env e) = true)) :
    HeapOk k (envF s.env) (envF s'.env) s.ah s'.ah := by
  have hah := T.env.2
  have quiet : (up = none ∧ ∃ l, h = s.ah ∨ h = s.ah ++ l) → ∀ (n : Nat) b, s.ah[n]? = some b → s'.ah[n]? = some b := by
    rintro ⟨_, l, hl⟩ n b hb
    rw [hah]
    exact app_get hl n b hb
  have ask : ∀ (d : Option Nat) (g : Option (Nat × Bool)), (g ≠ none → ∀ e, d = some e → bcOf (envF s.env e) = true) → asked (envF s.env) (match g with | none => none | some _ => d) = true := by
    intro d g hg
    cases g with
    | none => rfl
    | some p => cases d with
      | none => rfl
      | some e => exact hg (by simp) e rfl
  have sl : ∀ t, (∀ q, (up = none ∧ ∃ l, h = s.ah ∨ h = s.ah ++ l) ∨ ReOk (envF s.env) s.ah h up (.sl t q) ∧ asked (envF s.env) q = true → ∀ gs bc a n, envF s.env t = .g gs bc (.sl (.pos a) n) → ∀ b, s.ah[a.b]? = some b → s'.ah[a.b]? = some b) := by
    intro t q hq gs bc a n e b hb
    rcases hq with hq | ⟨hq, ha⟩
    · exact quiet hq _ _ hb
    · rw [hah, hq ha gs bc a n e]; exact hb
  cases k
  case load sh x =>
    cases x with
    | c v => trivial
    | tmp t =>
      have hd := hd t (by simp [akTmps, axT])
      show LoadOk _ _ _ _ _ _
      have H' : (up = none ∧ ∃ l, h = s.ah ∨ h = s.ah ++ l) ∨ ∃ q, ReOk (envF s.env) s.ah h up (.load sh.size t q) ∧ asked (envF s.env) q = true := by
        rcases H with H | ⟨d, g, re, H, hg⟩
        · exact .inl H
        · exact .inr ⟨_, H _ (by simp [reOf]; rfl), ask d g hg⟩
      unfold LoadOk
      cases e : envF s.env t with
      | any => trivial
      | box cs =>
        simp only
        rcases T.off hd with h' | ⟨cs', hu, h', _⟩
        · exact ⟨cs, by rw [h', e], rfl⟩
        · refine ⟨cs', h', ?_⟩
          rcases H' with ⟨hu', _⟩ | ⟨q, hq, ha⟩
          · rw [hu] at hu'; cases hu'
          · have := hq ha
            rw [e] at this
            exact this t cs' hu rfl
      | lref g b e' off =>
        simp only
        intro cs hc
        have hne : a.dst ≠ some e' := by
          intro hde
          have := (T.dok hde).2.2.2
          obtain ⟨c0, h0⟩ := boxAt_box hc
          rw [h0] at this
          cases this
        rcases T.off hne with h' | ⟨cs', hu, h', _⟩
        · exact ⟨cs, by unfold boxAt at hc ⊢; rw [h']; exact hc, rfl⟩
        · refine ⟨cs', by unfold boxAt; rw [h'], ?_⟩
          rcases H' with ⟨hu', _⟩ | ⟨q, hq, ha⟩
          · rw [hu] at hu'; cases hu'
          · have := hq ha
            rw [e] at this
            obtain ⟨cs0, h0, h1⟩ := this e' cs' hu rfl
            rw [hc] at h0
            cases h0
            exact h1
      | g g b y =>
        cases y with
        | ptr q => cases q with
          | none => trivial
          | some q =>
            intro xs hx
            rcases H' with hq | ⟨q', hq, ha⟩
            · exact ldN_mono (fun b hb => quiet hq _ _ hb) hx
            · have := hq ha
              rw [e] at this
              rw [hah, this]; exact hx
        | _ => trivial
  case slice n x lo hi =>
    cases x with
    | c v => simp [plainK] at hp
    | tmp t =>
      have key : (lo.isSome = true ∨ hi.isSome = true) → ∀ gs bc a n, envF s.env t = .g gs bc (.sl (.pos a) n) → ∀ b, s.ah[a.b]? = some b → s'.ah[a.b]? = some b := by
        intro hl
        rcases H with H | ⟨d, g, re, H, hg⟩
        · exact sl t none (.inl H)
        · refine sl t _ (.inr ⟨H _ ?_, ask d g hg⟩)
          cases lo <;> cases hi <;> first | (simp at hl; done) | (simp [reOf]; rfl)
      cases lo <;> cases hi <;> first | trivial | exact key (by simp)
  case slice3 n x lo hi mx =>
    cases x with
    | c v => simp [plainK] at hp
    | tmp t =>
      show ∀ gs bc a n, _ → _
      rcases H with H | ⟨d, g, re, H, hg⟩
      · exact sl t none (.inl H)
      · exact sl t _ (.inr ⟨H _ (by simp [reOf]; rfl), ask d g hg⟩)
  case lookup => simp [isM] at hk
  case lenMap => simp [isM] at hk
  all_goals trivial

/-! ### A region -/

structure Reg (P : Program) (loc : Nat) (C : FuncId → List AV → Heap → Res) (ops : Array Oper) (L : List Item) (σ : Nat → St) : Prop extends CRun C ops L σ where
  src : ∀ (k : Nat) x, L[k]? = some x → ∃ o, ops[x.i]? = some o ∧ cOper P loc ops.toList o x.a.re = some x.a
  res : ∀ (p q : Nat) x y, p < q → L[p]? = some x → L[q]? = some y → y.bar = true → ¬ Dep ops y.i x.i → ∀ z ∈ reOf x.a, z ∈ y.a.re
  cov : ∀ i, i < ops.size → ∃ (k : Nat) (x : Item), L[k]? = some x ∧ x.i = i
  edge : ∀ (k : Nat) x o, L[k]? = some x → ops[x.i]? = some o → ∀ e ∈ o.after, Region.binds .any e = true → ∃ (j : Nat) (y : Item), j < k ∧ L[j]? = some y ∧ y.i = e.on
  g0 : G0 (σ 0).env

variable {P : Program} {loc : Nat}

theorem Reg.self (N : Reg P loc C ops L σ) {k : Nat} {x : Item} (hx : L[k]? = some x) : (x.bar = true ∨ ∀ d, x.a.dst = some d → d ∉ aoRd x.a) ∧ (isM x.a.k = true → x.bar = true) ∧ plainK x.a.k = true ∧ (isB x.a.k = true → ∃ d, x.a.dst = some d) := by
  have := N.facts.self k x hx
  simp only [selfOk, Bool.and_eq_true, Bool.or_eq_true, Bool.not_eq_true'] at this
  obtain ⟨⟨⟨h1, h2⟩, h3⟩, h4⟩ := this
  refine ⟨h1.imp id hits_spec, fun h => ?_, h3, fun h => ?_⟩
  · rcases h2 with h2 | h2
    · rw [h] at h2; cases h2
    · exact h2
  · rcases h4 with h4 | h4
    · rw [h] at h4; cases h4
    · exact Option.isSome_iff_exists.1 h4

/-- An operation still to come and those behind it of which it is not known whether they are. -/
theorem Reg.apart (N : Reg P loc C ops L σ) (hS : Closed ops S) {k j : Nat} {x y : Item} (hkj : k < j) (hx : L[k]? = some x) (hy : L[j]? = some y) (hnx : ¬ S x.i) (hb : y.bar = true → S y.i) :
    (∀ e, y.a.dst = some e → e ∉ aoRd x.a) ∧ (∀ e, x.a.dst = some e → y.a.dst ≠ some e) ∧ (y.bar = true → ¬ Dep ops y.i x.i ∧ ∀ e, x.a.dst = some e → e ∉ aoRd y.a) := by
  obtain ⟨h1, h2, h3, h4⟩ := N.pair hkj hx hy
  cases e : y.bar with
  | true =>
    have hnd : ¬ Dep ops y.i x.i := fun h => hnx (hS.dep (hb e) h)
    rcases h3 with h3 | ⟨_, h3⟩
    · exact absurd h3 hnd
    · obtain ⟨c1, c2, c3⟩ := clash_spec h3
      exact ⟨c3, c2, fun _ => ⟨hnd, c1⟩⟩
  | false =>
    rcases h4 with h4 | ⟨h4, h5⟩
    · rw [e] at h4; cases h4
    · exact ⟨hits_spec h4, sameD_spec h5, fun h => by cases h⟩

theorem SEq.symm {x y : SV} (h : SEq x y) : SEq y x := by
  rcases h with rfl | ⟨c, d, h1, h2⟩
  · exact .inl rfl
  · exact .inr ⟨d, c, h2, h1⟩

/-- What an operation that is still to come would read and yield is there yet. -/
theorem Reg.stay (N : Reg P loc C ops L σ) (hS : Closed ops S) {k : Nat} {x : Item} (hx : L[k]? = some x) (hnx : ¬ S x.i) (hb : x.bar = false) {sv : SV} {h : Heap} {up : Up}
    (T : TStep C x.a (σ k) (σ (k + 1)) gs bc sv h up) : ∀ (n : Nat), k + 1 + n ≤ L.length → (∀ j y, k < j → j < k + 1 + n → L[j]? = some y → y.bar = true → S y.i) →
    (∀ t ∈ aoRd x.a, SEq (envF (σ k).env t) (envF (σ (k + 1 + n)).env t)) ∧ (∀ d, x.a.dst = some d → envF (σ (k + 1 + n)).env d = sv) ∧
    (isB x.a.k = true → ∀ blk, (σ (k + 1)).ah = (σ k).ah ++ [blk] → (σ (k + 1 + n)).ah[(σ k).ah.length]? = some blk) ∧
    ((bcOf sv = true ∨ x.a.guard = none) → HeapOk x.a.k (envF (σ k).env) (envF (σ (k + 1 + n)).env) (σ k).ah (σ (k + 1 + n)).ah) := by
  obtain ⟨s1, s2, s3, s4⟩ := N.self hx
  have hrd : ∀ d, x.a.dst = some d → d ∉ aoRd x.a := by
    rcases s1 with h | h
    · rw [hb] at h; cases h
    · exact h
  have hM : isM x.a.k = false := by
    cases e : isM x.a.k with
    | false => rfl
    | true => rw [s2 e] at hb; cases hb
  obtain ⟨hup, hq⟩ := T.quiet hM
  have hq' : ∃ l, h = (σ k).ah ∨ h = (σ k).ah ++ l := by
    rcases hq with ⟨_, _, h1, _⟩ | ⟨_, _, _, h1, _⟩ | ⟨_, _, _, _, blk, h1, _⟩
    · exact ⟨[], .inl h1⟩
    · exact ⟨[], .inl h1⟩
    · exact ⟨_, .inr h1⟩
  have rdk : ∀ t ∈ akTmps x.a.k, t ∈ aoRd x.a := fun t ht => List.mem_append_right _ ht
  intro n
  induction n with
  | zero =>
    intro hn _
    refine ⟨fun t ht => T.offS fun hd => hrd t hd ht, fun d hd => T.at hd, fun _ blk hblk => ?_, fun _ => ?_⟩
    · show (σ (k + 1)).ah[_]? = _
      rw [hblk]; simp
    · exact heapOk_step T hM s3 (fun t ht hd => hrd t hd (rdk t ht)) (.inl ⟨hup, hq'⟩)
  | succ n ih =>
    intro hn hbar
    obtain ⟨i1, i2, i3, i4⟩ := ih (by omega) fun j y h1 h2 => hbar j y h1 (by omega)
    have hy : L[k + 1 + n]? = some L[k + 1 + n] := List.getElem?_eq_getElem (by omega)
    generalize L[k + 1 + n] = y at hy
    obtain ⟨gs', bc', sv', h', up', T'⟩ := N.step (k + 1 + n) y hy
    have hyb : y.bar = true → S y.i := hbar (k + 1 + n) y (by omega) (by omega) hy
    obtain ⟨a1, a2, a3⟩ := N.apart hS (by omega) hx hy hnx hyb
    have hyq : y.bar = false → up' = none ∧ ∃ l, h' = (σ (k + 1 + n)).ah ∨ h' = (σ (k + 1 + n)).ah ++ l := by
      intro e
      have hM' : isM y.a.k = false := by
        cases e' : isM y.a.k with
        | false => rfl
        | true => rw [(N.self hy).2.1 e'] at e; cases e
      obtain ⟨q1, q2⟩ := T'.quiet hM'
      refine ⟨q1, ?_⟩
      rcases q2 with ⟨_, _, h1, _⟩ | ⟨_, _, _, h1, _⟩ | ⟨_, _, _, _, blk, h1, _⟩
      · exact ⟨[], .inl h1⟩
      · exact ⟨[], .inl h1⟩
      · exact ⟨_, .inr h1⟩
    have hre : y.bar = true → ∀ z ∈ reOf x.a, ReOk (envF (σ (k + 1 + n)).env) (σ (k + 1 + n)).ah h' up' z := fun e z hz =>
      T'.re z (N.res k (k + 1 + n) x y (by omega) hx hy e (a3 e).1 z hz)
    have e1 : k + 1 + (n + 1) = k + 1 + n + 1 := rfl
    have hah : (σ (k + 1 + n + 1)).ah = h' := T'.env.2
    refine ⟨fun t ht => (i1 t ht).trans (T'.offS fun hd => a1 t hd ht), fun d hd => ?_, fun hB blk hblk => ?_, fun hbc => ?_⟩
    · rcases T'.off (a2 d hd) with h1 | ⟨cs, hu, h1, cs0, h2⟩
      · exact h1.trans (i2 d hd)
      · exfalso
        obtain ⟨m1, m2, t, ht, hl⟩ := T'.up hu
        have hbt := (N.self hy).2.1 m1
        have htr : t ∈ aoRd y.a := List.mem_append_right _ ht
        rcases hl with ⟨rfl, _⟩ | ⟨g, b, o, hl⟩
        · exact (a3 hbt).2 t hd htr
        · have hlw : LastW L (k + 1 + n) d k := by
            refine ⟨by omega, ⟨x, hx, hd⟩, fun j h3 h4 ⟨z, hz, hzd⟩ => ?_⟩
            exact (N.apart hS h3 hx hz hnx (hbar j z h3 (by omega) hz)).2.1 d hd hzd
          obtain ⟨i, g1, g2, g3⟩ := N.lref (k + 1 + n) (by omega) t d k g b o hl (by rw [h2]; rfl) hlw
          obtain ⟨z, hz, _⟩ := g2.2.1
          exact hnx (g3 _ x hz hx S hS (N.reads g2.1 g2.2.1 hy htr y _ hy hz S hS (hyb hbt)))
    · have i3 := i3 hB blk hblk
      rw [e1, hah]
      cases e : y.bar with
      | false =>
        obtain ⟨_, l, hl⟩ := hyq e
        exact app_get hl _ _ i3
      | true =>
        obtain ⟨d, hd⟩ := s4 hB
        have hz : Re.blk d ∈ reOf x.a := by
          unfold reOf
          cases ek : x.a.k <;> rw [ek] at hB <;> simp [isB] at hB <;> simp [hd]
        have hr := hre e _ hz
        have hsv := i2 d hd
        rcases hq with ⟨_, hB', _⟩ | ⟨_, hB', _⟩ | ⟨_, _, _, v, blk', hh, hv, hop⟩
        · rw [hB] at hB'; cases hB'
        · rw [hB] at hB'; cases hB'
        · rw [hv] at hsv
          simp only [ReOk, hsv, SV.v] at hr
          rcases opB_name hop with rfl | ⟨m, rfl⟩ | rfl
          · exact hr.trans i3
          · exact hr.trans i3
          · exact hr.trans i3
    · refine heapOk_trans (i4 hbc) (fun t ht => i1 t (rdk t ht)) ?_
      refine heapOk_step T' hM s3 (fun t ht hd => a1 t hd (rdk t ht)) ?_
      cases e : y.bar with
      | false => exact .inl (hyq e)
      | true =>
        refine .inr ⟨x.a.dst, x.a.guard, x.a.re, hre e, fun hg d hd => ?_⟩
        rw [i2 d hd]
        rcases hbc with h1 | h1
        · exact h1
        · exact absurd h1 hg

/-! ### What is hidden yet -/

def Msk (L : List Item) (S : Nat → Prop) (pp t : Nat) : Prop := ∃ (k : Nat) (x : Item), k < pp ∧ L[k]? = some x ∧ ¬ S x.i ∧ x.a.dst = some t

open Classical in
noncomputable def mask (L : List Item) (S : Nat → Prop) (pp : Nat) (σ : Nat → St) (t : Nat) : SV := if Msk L S pp t then .any else envF (σ pp).env t

theorem mask_no {pp t : Nat} (h : ¬ Msk L S pp t) : mask L S pp σ t = envF (σ pp).env t := if_neg h
theorem mask_yes {pp t : Nat} (h : Msk L S pp t) : mask L S pp σ t = .any := if_pos h

theorem mask_ne {pp t : Nat} {v : SV} (hv : v ≠ .any) (h : mask L S pp σ t = v) : ¬ Msk L S pp t ∧ envF (σ pp).env t = v := by
  by_cases hm : Msk L S pp t
  · rw [mask_yes hm] at h; exact absurd h.symm hv
  · rw [mask_no hm] at h; exact ⟨hm, h⟩

theorem Reg.unmask (N : Reg P loc C ops L σ) (hS : Closed ops S) {pp t i : Nat} {x : Item} (hl : LastW L pp t i) (hx : L[i]? = some x) (hi : S x.i) : ¬ Msk L S pp t := by
  rintro ⟨k, y, hk, hy, hny, hd⟩
  have hxd : x.a.dst = some t := by
    obtain ⟨z, hz, hzd⟩ := hl.2.1
    rw [hx] at hz; cases hz; exact hzd
  rcases Nat.lt_trichotomy k i with h | h | h
  · obtain ⟨_, _, h3, _⟩ := N.pair h hy hx
    rcases h3 with h3 | ⟨_, h3⟩
    · exact hny (hS.dep hi h3)
    · exact (clash_spec h3).2.1 t hd hxd
  · subst h
    rw [hx] at hy; cases hy
    exact hny hi
  · exact hl.2.2 k h hk ⟨y, hy, hd⟩

theorem seen {pp t i : Nat} {x : Item} (hm : ¬ Msk L S pp t) (hl : LastW L pp t i) (hx : L[i]? = some x) : S x.i := by
  refine Classical.byContradiction fun h => hm ⟨i, x, hl.1, hx, h, ?_⟩
  obtain ⟨z, hz, hzd⟩ := hl.2.1
  rw [hx] at hz; cases hz; exact hzd

theorem Reg.gd (N : Reg P loc C ops L σ) (hS : Closed ops S) {pp t : Nat} (hp : pp ≤ L.length) (ht : ¬ Msk L S pp t) {p : Nat × Bool} (hg : p ∈ gsOf (envF (σ pp).env t)) : ¬ Msk L S pp p.1 := by
  obtain ⟨i, h1, h2⟩ := N.grds N.g0 pp hp t p hg
  rintro ⟨k, y, hk, hy, hny, hd⟩
  obtain ⟨x, hx, hxd⟩ := h1.2.1
  exact hny (h2 k hk ⟨y, hy, hd⟩ x y hx hy S hS (seen ht h1 hx))

theorem lastW_ex {t : Nat} : ∀ (pp : Nat), (∃ k, k < pp ∧ Wr L k t) → ∃ i, LastW L pp t i := by
  intro pp
  induction pp with
  | zero => rintro ⟨k, h, _⟩; omega
  | succ pp ih =>
    rintro ⟨k, h, hw⟩
    by_cases hp : Wr L pp t
    · exact ⟨pp, Nat.lt_succ_self pp, hp, fun j h1 h2 => by omega⟩
    · have hk : k ≠ pp := by rintro rfl; exact hp hw
      obtain ⟨i, hi⟩ := ih ⟨k, by omega, hw⟩
      exact ⟨i, hi.succ hp⟩

theorem Reg.bx (N : Reg P loc C ops L σ) (hS : Closed ops S) {pp t d : Nat} (hp : pp ≤ L.length) (ht : ¬ Msk L S pp t) {g : List (Nat × Bool)} {b : Bool} {o : Nat} (hr : envF (σ pp).env t = .lref g b d o)
    (hb : isBoxS (envF (σ pp).env d) = true) : ¬ Msk L S pp d := by
  intro hm
  have hm' := hm
  obtain ⟨k, y, hk, hy, hny, hd⟩ := hm'
  obtain ⟨j, hj⟩ := lastW_ex pp ⟨k, hk, y, hy, hd⟩
  obtain ⟨i, h1, h2, h3⟩ := N.lref pp hp t d j g b o hr hb hj
  obtain ⟨x, hx, _⟩ := h2.2.1
  obtain ⟨z, hz, _⟩ := hj.2.1
  exact N.unmask hS hj hz (h3 x z hx hz S hS (seen ht h2 hx)) hm

theorem conj_congr (h : ∀ p ∈ gs, ρ' p.1 = ρ p.1) : conj ρ' gs ↔ conj ρ gs := by
  constructor
  · intro c p hp
    obtain ⟨g, bc, b, e, hl⟩ := c p hp
    exact ⟨g, bc, b, by rw [← h p hp]; exact e, hl⟩
  · intro c p hp
    obtain ⟨g, bc, b, e, hl⟩ := c p hp
    exact ⟨g, bc, b, by rw [h p hp]; exact e, hl⟩

variable {φ φ' φ0 : Phi} {β : Nat → Nat} {a : Act} {w w' w0 : World} {n n0 : Nat}

/-- Slots hidden. -/
theorem Sl.hide (M : Sl n0 φ β ρ a w) (h : ∀ t, ρ' t = .any ∨ (ρ' t = ρ t ∧ ∀ p ∈ gsOf (ρ t), ρ' p.1 = ρ p.1)) : Sl n0 φ β ρ' a w := by
  have up : ∀ t v, v ≠ SV.any → ρ' t = v → ρ t = v ∧ ∀ p ∈ gsOf v, ρ' p.1 = ρ p.1 := by
    intro t v hv e
    rcases h t with h' | ⟨h1, h2⟩
    · rw [e] at h'; exact absurd h' hv
    · rw [e] at h1; rw [← h1] at h2; exact ⟨h1.symm, h2⟩
  refine ⟨fun t => ?_, ⟨fun t gs bc x e => ?_, fun t gs bc d off e => ?_⟩, fun t cs e => ?_, M.df⟩
  · rcases h t with h' | ⟨h', _⟩
    · rw [h']; trivial
    · rw [h']; exact M.H t
  · obtain ⟨h1, h2⟩ := up t _ (by simp) e
    rw [conj_congr (gs := gs) h2]
    exact M.G.1 t gs bc x h1
  · obtain ⟨h1, h2⟩ := up t _ (by simp) e
    rw [conj_congr (gs := gs) h2]
    exact M.G.2 t gs bc d off h1
  · obtain ⟨h1, _⟩ := up t _ (by simp) e
    obtain ⟨b1, b2, b3⟩ := M.bx t cs h1
    refine ⟨b1, b2, fun t' cs' e' => ?_⟩
    obtain ⟨h1', _⟩ := up t' _ (by simp) e'
    exact b3 t' cs' h1'

theorem Sl.val {m : Nat} {h : Heap} {sv : SV} {vc : Value} {dst : Option Nat} (M : Sl n0 φ β ρ a w) (hE : Eff φ φ' m h w w') (hs : (∃ x, sv = .g gs true x ∧ VR φ' x vc) ∨ (∃ d off, sv = .lref gs true d off ∧ vc = .pointer (some ⟨β d, off, none⟩)))
    (cj : conj ρ gs) (D : DOk dst sv ρ a) : Sl n0 φ' β (putR ρ dst sv) (a.put dst vc) w' := by
  have L' := M.eff hE
  cases dst with
  | none => exact L'
  | some d =>
    obtain ⟨d1, d2, d3, d4, d5⟩ := D
    refine L'.put d1 ?_ ?_ d2 ?_ d3
    · rcases hs with ⟨x, rfl, hv⟩ | ⟨e, off, rfl, rfl⟩
      · exact ⟨fun _ => hv, fun h => by simp at h⟩
      · exact ⟨fun _ => rfl, fun h => by simp at h⟩
    · rcases hs with ⟨x, rfl, hv⟩ | ⟨e, off, rfl, rfl⟩ <;> rfl
    · rcases hs with ⟨x, rfl, hv⟩ | ⟨e, off, rfl, rfl⟩
      · exact .g cj
      · exact .l cj

/-! ### The state of a run in any order -/

structure At (φ0 : Phi) (n : Nat) (w0 : World) (ops : Array Oper) (L : List Item) (σ : Nat → St) (S : Nat → Prop) (pp : Nat) (a : Act) (w : World) : Prop where
  cl : Closed ops S
  le : pp ≤ L.length
  lo : ∀ k x, k < pp → L[k]? = some x → x.bar = true → S x.i
  hi : ∀ k x, pp ≤ k → L[k]? = some x → ¬ S x.i
  mono : ∀ i j, i ≤ j → j ≤ pp → (σ i).ah.length ≤ (σ j).ah.length
  nle : n ≤ (σ 0).ah.length
  inv : ∃ φ β, Eff φ0 φ n (σ pp).ah w0 w ∧ Sl w0.heap.size φ β (mask L S pp σ) a w ∧ ∀ k x, k < pp → L[k]? = some x → ¬ S x.i → isB x.a.k = true → φ (σ k).ah.length = .unborn
  len : (σ 0).env.length ≤ a.tmps.size

theorem TStep.len {x : AOp} {s s' : St} {sv : SV} {h : Heap} {up : Up} (T : TStep C x s s' gs bc sv h up) : s'.env.length = s.env.length := by
  rw [T.eq]; simp [upd_len, put_len]

theorem CRun.len (N : CRun C ops L σ) : ∀ k, k ≤ L.length → (σ k).env.length = (σ 0).env.length := by
  intro k
  induction k with
  | zero => intro _; rfl
  | succ k ih =>
    intro hk
    obtain ⟨gs, bc, sv, h, up, T⟩ := N.step k L[k] (List.getElem?_eq_getElem (by omega))
    rw [T.len, ih (by omega)]

theorem Reg.notM (N : Reg P loc C ops L σ) {k : Nat} {x : Item} (hx : L[k]? = some x) (hb : x.bar = false) : isM x.a.k = false := by
  cases e : isM x.a.k with
  | false => rfl
  | true => rw [(N.self hx).2.1 e] at hb; cases hb

/-- Behind what waits for nothing: the next position. -/
theorem At.next {pp : Nat} {x : Item} (A : At φ0 n w0 ops L σ S pp a w) (N : Reg P loc C ops L σ) (hx : L[pp]? = some x) (hb : x.bar = false) : At φ0 n w0 ops L σ S (pp + 1) a w := by
  have hlt : pp < L.length := (List.getElem?_eq_some_iff.1 hx).1
  have hnx := A.hi pp x (Nat.le_refl _) hx
  obtain ⟨gs, bc, sv, h, up, T⟩ := N.step pp x hx
  obtain ⟨hup, hq⟩ := T.quiet (N.notM hx hb)
  have hah := T.env.2
  have hq' : ∃ l, (σ (pp + 1)).ah = (σ pp).ah ++ l ∧ (isB x.a.k = false → l = []) := by
    rw [hah]
    rcases hq with ⟨_, h0, h1, _⟩ | ⟨_, h0, _, h1, _⟩ | ⟨h0, _, _, _, blk, h1, _⟩
    · exact ⟨[], by rw [h1]; simp, fun _ => rfl⟩
    · exact ⟨[], by rw [h1]; simp, fun _ => rfl⟩
    · exact ⟨_, h1, fun h => by rw [h0] at h; cases h⟩
  obtain ⟨l, hl, _⟩ := hq'
  have grow : (σ pp).ah.length ≤ (σ (pp + 1)).ah.length := by rw [hl]; simp
  refine ⟨A.cl, hlt, fun k y hk hy hyb => ?_, fun k y hk hy => A.hi k y (by omega) hy, fun i j hij hj => ?_, A.nle, ?_, A.len⟩
  · rcases Nat.lt_or_ge k pp with h1 | h1
    · exact A.lo k y h1 hy hyb
    · have : k = pp := by omega
      subst this
      rw [hx] at hy; cases hy
      rw [hb] at hyb; cases hyb
  · rcases Nat.lt_or_ge j (pp + 1) with h1 | h1
    · exact A.mono i j hij (by omega)
    · have : j = pp + 1 := by omega
      subst this
      rcases Nat.lt_or_ge i (pp + 1) with h2 | h2
      · exact Nat.le_trans (A.mono i pp (by omega) (Nat.le_refl _)) grow
      · have : i = pp + 1 := by omega
        subst this; exact Nat.le_refl _
  · obtain ⟨φ, β, E, M, U⟩ := A.inv
    have hS' : Sim φ (σ (pp + 1)).ah w := by rw [hl]; exact E.sim.add l
    refine ⟨φ, β, ⟨E.le, hS', E.fr, E.cb, E.own, Nat.le_trans E.len grow, E.un⟩, M.hide fun t => ?_, fun k y hk hy hny hB => ?_⟩
    · by_cases hm : Msk L S (pp + 1) t
      · exact .inl (mask_yes hm)
      · right
        have down : ∀ t, ¬ Msk L S (pp + 1) t → mask L S (pp + 1) σ t = mask L S pp σ t := by
          intro t hm
          have hm' : ¬ Msk L S pp t := fun ⟨k, y, h1, h2⟩ => hm ⟨k, y, by omega, h2⟩
          have hd : x.a.dst ≠ some t := fun hd => hm ⟨pp, x, Nat.lt_succ_self pp, hx, hnx, hd⟩
          rw [mask_no hm, mask_no hm']
          rcases T.off hd with h1 | ⟨cs, hu, _⟩
          · exact h1
          · rw [hup] at hu; cases hu
        have e := down t hm
        refine ⟨e, fun p hp => down _ ?_⟩
        rw [← e, mask_no hm] at hp
        exact N.gd A.cl hlt hm hp
    · rcases Nat.lt_or_ge k pp with h1 | h1
      · exact U k y h1 hy hny hB
      · have : k = pp := by omega
        subst this
        exact E.sim.unborn (by simp)

/-- The next bar, or the end. -/
theorem At.adv (N : Reg P loc C ops L σ) : ∀ (j pp : Nat), L.length - pp ≤ j → At φ0 n w0 ops L σ S pp a w → ∃ pp', At φ0 n w0 ops L σ S pp' a w ∧ (pp' = L.length ∨ ∃ x, L[pp']? = some x ∧ x.bar = true) := by
  intro j
  induction j with
  | zero => intro pp h A; exact ⟨pp, A, .inl (by have := A.le; omega)⟩
  | succ j ih =>
    intro pp h A
    rcases Nat.lt_or_ge pp L.length with hlt | hge
    · have hx : L[pp]? = some L[pp] := List.getElem?_eq_getElem hlt
      cases e : L[pp].bar with
      | true => exact ⟨pp, A, .inr ⟨_, hx, e⟩⟩
      | false => exact ih (pp + 1) (by omega) (A.next N hx e)
    · exact ⟨pp, A, .inl (by have := A.le; omega)⟩

/-! ### One operation, in whatever order -/

theorem cOper_inv {o : Oper} {re : List Re} {ao : AOp} (h : cOper P loc ops.toList o re = some ao) : gSlot ops.toList o = some ao.guard ∧ cOp P loc o = some ao.k ∧ ao.dst = o.dst := by
  unfold cOper at h
  split at h
  · rename_i g k h1 h2
    simp only [Option.some.injEq] at h
    subst h
    exact ⟨h1, h2, rfl⟩
  · cases h

theorem opK_congr {k : AK} {K : SV → Heap → Up → Option R} (hp : plainK k = true) (hs : ∀ t ∈ akTmps k, ρ' t = ρ t) (hb : ∀ t ∈ akTmps k, ∀ g b d o, ρ t = .lref g b d o → isBoxS (ρ d) = true → ρ' d = ρ d)
    (h : opK C ρ ah gs true k K = some r) : opK C ρ' ah gs true k K = some r := by
  have hs' : ∀ t ∈ akTmps k, SEq (ρ t) (ρ' t) := fun t ht => .inl (hs t ht).symm
  have hh : HeapOk k ρ ρ' ah ah := by
    cases k
    case load sh x =>
      cases x with
      | c v => trivial
      | tmp t =>
        show LoadOk _ _ _ _ _ _
        unfold LoadOk
        have e1 := hs t (by simp [akTmps, axT])
        cases e : ρ t with
        | any => trivial
        | box cs => exact ⟨cs, by rw [e1, e], rfl⟩
        | lref g b d o =>
          intro cs hc
          obtain ⟨c0, h0⟩ := boxAt_box hc
          have := hb t (by simp [akTmps, axT]) g b d o e (by rw [h0]; rfl)
          exact ⟨cs, by unfold boxAt at hc ⊢; rw [this]; exact hc, rfl⟩
        | g g b y => cases y with
          | ptr q => cases q with
            | none => trivial
            | some q => exact fun xs h => h
          | _ => trivial
    case slice n x lo hi =>
      cases x <;> cases lo <;> cases hi <;> first | trivial | rfl | exact fun _ _ _ _ _ _ h => h
    case slice3 n x lo hi mx =>
      cases x <;> first | trivial | rfl | exact fun _ _ _ _ _ _ h => h
    all_goals first | trivial | rfl
  have X : opX ρ' k = opX (R := R) ρ k := by funext K; exact opX_congr hs'
  have B : opB ρ' k = opB (R := R) ρ k := by funext n K; exact opB_congr hs'
  have F : opF ρ' gs k = opF (R := R) ρ gs k := by funext K; exact opF_congr hs'
  have X' : ∀ K', opX ρ k K' = some r → opX ρ' k K' = some r := fun K' h => by rw [X]; exact h
  have B' : ∀ n K', opB ρ k n K' = some r → opB ρ' k n K' = some r := fun n K' h => by rw [B]; exact h
  have F' : ∀ K', opF ρ gs k K' = some r → opF ρ' gs k K' = some r := fun K' h => by rw [F]; exact h
  cases gs with
  | nil =>
    cases k <;> unfold opK at h ⊢
    case boxL => exact X' _ h
    case allocL => exact X' _ h
    case boxH => exact B' _ _ h
    case allocH => exact B' _ _ h
    case buildSl => exact B' _ _ h
    case makeMap => exact B' _ _ h
    case makeSl => exact B' _ _ h
    case store => exact opM_congr hs hb h
    case clear => exact opM_congr hs hb h
    case mapUpdate => exact opM_congr hs hb h
    case append => exact opM_congr hs hb h
    case copy => exact opM_congr hs hb h
    case call => exact F' _ h
    case callV => exact F' _ h
    all_goals exact opA_congr hp hs' hh h
  | cons q gs =>
    cases k <;> unfold opK at h ⊢
    case boxL => cases h
    case allocL => cases h
    case boxH => cases h
    case allocH => cases h
    case buildSl => cases h
    case makeMap => cases h
    case makeSl => cases h
    case store => cases h
    case clear => cases h
    case mapUpdate => cases h
    case append => cases h
    case copy => cases h
    case call => exact F' _ h
    case callV => exact F' _ h
    all_goals exact opA_congr hp hs' hh h

/-- What a reading operation yields where its guard holds says so. -/
def tstb (sv : SV) : Option Unit := if bcOf sv = true then none else some ()

theorem tstb_g {x : AV} : tstb (.g gs true x) = none := rfl
theorem tstb_l {d off : Nat} : tstb (.lref gs true d off) = none := rfl

theorem opA_bc' {k : AK} {u : Unit} (h : opA ρ ah gs true k tstb = some u) : False := by
  cases k <;> simp only [opA] at h
  case fieldAddr off x =>
    obtain ⟨p, h, hn⟩ := place_nat h
    cases p <;> simp [tstb_g, tstb_l] at h
  case indexArr len es x i =>
    split at h
    · obtain ⟨p, h, hn⟩ := place_nat h
      cases p <;> (have h := (chk_spec' h).2; simp [tstb_g, tstb_l] at h)
    · cases h
  case load s x =>
    obtain ⟨p, h, hn⟩ := place_nat h
    cases p with
    | heap q =>
      cases s <;> simp only at h
      · obtain ⟨v, h, hm⟩ := rdC_nat h; simp [tstb_g] at h
      · obtain ⟨v, h, hm⟩ := rdV_nat h; simp [tstb_g] at h
      · obtain ⟨v, h, hm⟩ := rdV_nat h; simp [tstb_g] at h
    | loc d off =>
      simp only at h
      split at h
      · cases h
      · cases s <;> simp only at h
        · obtain ⟨v, h, hm⟩ := rdC_nat h; simp [tstb_g] at h
        · have h := (chk_spec' h).2
          obtain ⟨v, h, hm⟩ := rdL_nat h; simp [tstb_g] at h
        · have h := (chk_spec' h).2; simp [tstb_g] at h
  case field off s x =>
    split at h
    · cases s <;> simp only at h
      · obtain ⟨v, h, hm⟩ := rdC_nat h; simp [tstb_g] at h
      · have h := (chk_spec' h).2
        obtain ⟨v, h, hm⟩ := rdL_nat h; simp [tstb_g] at h
      · have h := (chk_spec' h).2; simp [tstb_g] at h
    · cases h
  case bin tk op x y =>
    split at h
    · obtain ⟨v, h, hn⟩ := binOpA_nat h; simp [tstb_g] at h
    · cases h
  case lookup z s ok m k =>
    split at h
    · obtain ⟨f, h, hn⟩ := gb_nat h
      obtain ⟨v, h, hm⟩ := rdW_nat h
      cases ok <;> simp [tstb_g] at h
    · cases h
  all_goals
    repeat' split at h
  all_goals first
    | (cases h; done)
    | (simp [tstb_g, tstb_l] at h; done)
    | (obtain ⟨h, hc⟩ := chkC_nat h; simp [tstb_g] at h; done)
    | (obtain ⟨v, h, hn⟩ := gb_nat h; simp [tstb_g] at h; done)
    | (obtain ⟨h, hc⟩ := chk_nat h; simp [tstb_g] at h; done)
    | (obtain ⟨h, hc⟩ := chk_nat h; obtain ⟨v, h, hn⟩ := gb_nat h; simp [tstb_g] at h; done)
    | (obtain ⟨h, hc⟩ := chk_nat h; obtain ⟨v, h, hn⟩ := rdC_nat h; simp [tstb_g] at h; done)

theorem opA_bc {k : AK} {sv : SV} (h : opA ρ ah gs true k some = some sv) : bcOf sv = true := by
  obtain ⟨sv', e, hn⟩ := opA_nat h
  cases e
  have := hn tstb
  cases hb : bcOf sv with
  | true => rfl
  | false =>
    have e : tstb sv = some () := by simp [tstb, hb]
    rw [e] at this
    exact (opA_bc' this).elim

def addS (S : Nat → Prop) (i : Nat) : Nat → Prop := fun k => S k ∨ k = i

/-- The slot that an operation writes is free, wherever its canonical turn is. -/
theorem Reg.dok (N : Reg P loc C ops L σ) (hS : Closed ops S) {pp k : Nat} {x : Item} (hp : pp ≤ L.length) (hk : k < pp) (hx : L[k]? = some x) (hnx : ¬ S x.i)
    {sv : SV} {h : Heap} {up : Up} (T : TStep C x.a (σ k) (σ (k + 1)) gs bc sv h up) (hsv : ∀ d, x.a.dst = some d → envF (σ pp).env d = sv) (hlw : ∀ d, x.a.dst = some d → LastW L pp d k) (hl : (σ 0).env.length ≤ a.tmps.size) :
    DOk x.a.dst sv (mask L S pp σ) a := by
  obtain ⟨D, hd⟩ := dstOk_spec (a := ⟨Array.replicate (σ k).env.length undef, []⟩) T.dst (by simp)
  cases e : x.a.dst with
  | none => rw [e] at D; exact D
  | some d =>
    rw [e] at D
    obtain ⟨d1, d2, d3, d4, d5⟩ := D
    have hm : Msk L S pp d := ⟨k, x, hk, hx, hnx, e⟩
    have hdl := hd d e
    rw [N.len k (by omega)] at hdl
    refine ⟨by omega, fun t p hp' => ?_, d3, fun hb t g b e' off ht => ?_, by rw [mask_yes hm]; rfl⟩
    · by_cases ht : Msk L S pp t
      · rw [mask_yes ht] at hp'; cases hp'
      · rw [mask_no ht] at hp'
        rintro rfl
        exact N.gd hS hp ht hp' hm
    · obtain ⟨h1, h2⟩ := mask_ne (by simp) ht
      rintro rfl
      exact N.bx hS hp h1 h2 (by rw [hsv _ e]; exact hb) hm

theorem Msk.add {pp t : Nat} {x : Item} (ht : x.a.dst ≠ some t) (hu : ∀ (j : Nat) y, j < pp → L[j]? = some y → y.i = x.i → y = x) : Msk L (addS S x.i) pp t ↔ Msk L S pp t := by
  constructor
  · rintro ⟨j, y, h1, h2, h3, h4⟩
    exact ⟨j, y, h1, h2, fun h => h3 (.inl h), h4⟩
  · rintro ⟨j, y, h1, h2, h3, h4⟩
    refine ⟨j, y, h1, h2, ?_, h4⟩
    rintro (h | h)
    · exact h3 h
    · have := hu j y h1 h2 h
      subst this
      exact ht h4

theorem Reg.uniq (N : Reg P loc C ops L σ) {j k : Nat} {x y : Item} (hx : L[k]? = some x) (hy : L[j]? = some y) (h : y.i = x.i) : y = x := by
  rcases Nat.lt_trichotomy j k with h1 | h1 | h1
  · exact absurd h (N.pair h1 hy hx).2.1
  · subst h1; rw [hx] at hy; cases hy; rfl
  · exact absurd h.symm (N.pair h1 hx hy).2.1

/-- The turn of an operation that lies behind its canonical turn. -/
theorem At.pending {pp k : Nat} {x : Item} (A : At φ0 n w0 ops L σ S pp a w) (N : Reg P loc C ops L σ) (hk : k < pp) (hx : L[k]? = some x) (hnx : ¬ S x.i) {o : Oper} (ho : ops[x.i]? = some o)
    (hr : ∀ e ∈ o.after, Region.binds .any e = true → S e.on) {Q : Exit → Act → World → Prop} {next : Act → World → Prop} (hn : ∀ a' w', At φ0 n w0 ops L σ (addS S x.i) pp a' w' → next a' w') : wpOp P ops Q x.i next a w := by
  have hb : x.bar = false := by
    cases e : x.bar with
    | false => rfl
    | true => exact absurd (A.lo k x hk hx e) hnx
  obtain ⟨o', ho', hco⟩ := N.src k x hx
  rw [ho] at ho'; cases ho'
  obtain ⟨hgs, hop, hdst⟩ := cOper_inv hco
  obtain ⟨gs, bc, sv, h, up, T⟩ := N.step k x hx
  obtain ⟨s1, s2, s3, s4⟩ := N.self hx
  have hM := N.notM hx hb
  obtain ⟨hup, hq⟩ := T.quiet hM
  have hbars : ∀ j y, k < j → j < pp → L[j]? = some y → y.bar = true → S y.i := fun j y _ h2 hy hyb => A.lo j y h2 hy hyb
  obtain ⟨i1, i2, i3, i4⟩ := N.stay A.cl hx hnx hb T (pp - (k + 1)) (by have := A.le; omega) fun j y h1 h2 => hbars j y h1 (by omega)
  have epp : k + 1 + (pp - (k + 1)) = pp := by omega
  rw [epp] at i1 i2 i3 i4
  have hlw : ∀ d, x.a.dst = some d → LastW L pp d k := fun d hd => ⟨hk, ⟨x, hx, hd⟩, fun j h3 h4 ⟨z, hz, hzd⟩ => (N.apart A.cl h3 hx hz hnx (hbars j z h3 h4 hz)).2.1 d hd hzd⟩
  -- what it reads is no longer hidden
  have vis : ∀ t ∈ aoRd x.a, ¬ Msk L S pp t := by
    rintro t ht ⟨j, y, hj, hy, hny, hd⟩
    rcases Nat.lt_trichotomy j k with h1 | h1 | h1
    · obtain ⟨_, _, h3, _⟩ := N.pair h1 hy hx
      rcases h3 with h3 | ⟨_, h3⟩
      · exact hny (ready_dep A.cl ho hr h3)
      · exact (clash_spec h3).1 t hd ht
    · subst h1
      rw [hx] at hy; cases hy
      rcases s1 with s1 | s1
      · rw [hb] at s1; cases s1
      · exact s1 t hd ht
    · exact (N.apart A.cl h1 hx hy hnx (hbars j y h1 hj hy)).1 t hd ht
  have rdk : ∀ t ∈ akTmps x.a.k, t ∈ aoRd x.a := fun t ht => List.mem_append_right _ ht
  have seq : ∀ t ∈ aoRd x.a, SEq (envF (σ k).env t) (mask L S pp σ t) := fun t ht => by rw [mask_no (vis t ht)]; exact i1 t ht
  obtain ⟨φ, β, E, M, U⟩ := A.inv
  have hgE : guardOf (mask L S pp σ) x.a.guard = some (gs, bc) := by
    rw [← guardOf_congr (ρ := envF (σ k).env) fun t b hg => seq t (by simp [aoRd, hg])]
    exact T.grd
  obtain ⟨g1, g2⟩ := guardOf_spec M.G hgE
  have hw := wanted_spec hgs M hgE
  have D := N.dok A.cl A.le hk hx hnx T i2 hlw A.len
  have cl' : Closed ops (addS S x.i) := A.cl.add ho hr
  have hsvk : ∀ d, x.a.dst = some d → ¬ Msk L (addS S x.i) pp d := fun d hd => N.unmask cl' (hlw d hd) hx (.inr rfl)
  have hmask : putR (mask L S pp σ) x.a.dst sv = mask L (addS S x.i) pp σ := by
    funext t
    by_cases hd : x.a.dst = some t
    · rw [mask_no (hsvk t hd), i2 t hd, hd]
      exact setR_same _ _ _
    · have hne : putR (mask L S pp σ) x.a.dst sv t = mask L S pp σ t := by
        cases e : x.a.dst with
        | none => rfl
        | some d => exact setR_other _ _ (fun h => hd (by rw [e, h]))
      rw [hne]
      have hu := Msk.add (S := S) (pp := pp) hd fun j y _ hy he => N.uniq hx hy he
      by_cases hm : Msk L S pp t
      · rw [mask_yes hm, mask_yes (hu.2 hm)]
      · rw [mask_no hm, mask_no (fun h => hm (hu.1 h))]
  have fin : ∀ (vc : Value) (w' : World) (φ' : Phi) (β' : Nat → Nat), Eff φ0 φ' n (σ pp).ah w0 w' → Sl w0.heap.size φ' β' (putR (mask L S pp σ) x.a.dst sv) (a.put o.dst vc) w' →
      (∀ j y, j < pp → L[j]? = some y → ¬ addS S x.i y.i → isB y.a.k = true → φ' (σ j).ah.length = .unborn) → next (a.put o.dst vc) w' := by
    intro vc w' φ' β' E' M' U'
    refine hn _ _ ⟨cl', A.le, fun j y h1 h2 h3 => .inl (A.lo j y h1 h2 h3), fun j y h1 h2 h3 => ?_, A.mono, A.nle, ⟨φ', β', E', ?_, U'⟩, by rw [put_size]; exact A.len⟩
    · rcases h3 with h3 | h3
      · exact A.hi j y h1 h2 h3
      · have := N.uniq hx h2 h3
        subst this
        have h4 := (List.getElem?_eq_some_iff.1 h2)
        rcases Nat.lt_trichotomy j k with h5 | h5 | h5
        · omega
        · omega
        · exact absurd rfl (N.pair h5 hx h2).2.1
    · rw [← hmask]; exact M'
  have unb : ∀ j y, j < pp → L[j]? = some y → ¬ addS S x.i y.i → isB y.a.k = true → φ (σ j).ah.length = .unborn := fun j y h1 h2 h3 h4 => U j y h1 h2 (fun h => h3 (.inl h)) h4
  unfold wpOp
  simp only [ho, hw]
  cases bc with
  | false =>
    have t := T.op (SV × Heap × Up) fun sv h u => some (sv, h, u)
    obtain ⟨sv', e, hi⟩ := opK_idle (g2 rfl) t
    simp only [Option.some.injEq, Prod.mk.injEq] at e
    obtain ⟨rfl, rfl, rfl⟩ := e
    simp only [Bool.false_eq_true, if_false]
    refine fin undef w φ β E ?_ unb
    rw [← hdst]
    exact M.idle hi (fun c => by have := g1.2 c; cases this) D
  | true =>
    simp only [if_true]
    have cj := g1.1 rfl
    left
    have Cx := M.ctx E.sim cj
    rcases hq with ⟨hX, hB, hh, hA⟩ | ⟨hX, hB, hgs0, hh, cs, hsv, hopx⟩ | ⟨hB, hX, hgs0, v, blk, hh, hsv, hopb⟩
    · have hbcs : bcOf sv = true ∨ x.a.guard = none := by
        left
        exact opA_bc hA
      have ho1 : HeapOk x.a.k (envF (σ k).env) (mask L S pp σ) (σ k).ah (σ pp).ah := by
        refine heapOk_trans (i4 hbcs) (fun t ht => i1 t (rdk t ht)) ?_
        have vis' : ∀ t ∈ akTmps x.a.k, ¬ Msk L S pp t := fun t ht => vis t (rdk t ht)
        cases ek : x.a.k
        case load sh ax =>
          cases ax with
          | c v => trivial
          | tmp t =>
            have hv := vis' t (by rw [ek]; simp [akTmps, axT])
            show LoadOk _ _ _ _ _ _
            unfold LoadOk
            cases e : envF (σ pp).env t with
            | any => trivial
            | box cs => exact ⟨cs, by rw [mask_no hv, e], rfl⟩
            | lref g b d o =>
              intro cs hc
              obtain ⟨c0, h0⟩ := boxAt_box hc
              have := N.bx A.cl A.le hv e (by rw [h0]; rfl)
              exact ⟨cs, by unfold boxAt at hc ⊢; rw [mask_no this]; exact hc, rfl⟩
            | g g b y => cases y with
              | ptr q => cases q with
                | none => trivial
                | some q => exact fun xs h => h
              | _ => trivial
        case slice n x lo hi =>
          cases x <;> cases lo <;> cases hi <;> first | trivial | rfl | exact fun _ _ _ _ _ _ h => h
        case slice3 n x lo hi mx =>
          cases x <;> first | trivial | rfl | exact fun _ _ _ _ _ _ h => h
        all_goals first | trivial | rfl
      have hA' := opA_congr s3 (fun t ht => seq t (rdk t ht)) ho1 hA
      obtain ⟨sv', h1, vc, hrun, hs⟩ := opA_sound Cx hop hA'
      cases h1
      refine Reach.wp (K := fun vc' w' => vc' = vc ∧ w' = w) (.inl ⟨vc, w, hrun, rfl, rfl⟩) ?_
      rintro vc' w' ⟨rfl, rfl⟩
      refine fin vc' w' φ β E ?_ unb
      rw [← hdst]
      exact M.val (.refl E.sim (Nat.le_refl _)) hs cj D
    · subst hgs0; subst hsv
      rw [← opX_congr (fun t ht => seq t (rdk t ht))] at hopx
      obtain ⟨cs', cells, ty, h1, h2, h3⟩ := opX_sound Cx hop hopx
      cases h1
      refine Reach.wp (K := fun vc' w' => vc' = .pointer (some ⟨w.heap.size, 0, none⟩) ∧ w' = w.alloc (.cells cells ty)) (.inl ⟨_, _, h2, rfl, rfl⟩) ?_
      rintro vc' w' ⟨rfl, rfl⟩
      cases e : x.a.dst with
      | none => rw [e] at D; simp [DOk, isBoxS] at D
      | some d =>
        rw [e] at D
        obtain ⟨d1, d2, d3, d4, d5⟩ := D
        refine fin _ _ φ (setN β d w.heap.size) (E.trans (.same (E.sim.alloc _) (.alloc _ _) E.len)) ?_ unb
        rw [← hdst, e]
        exact M.box E.sim E.fr.size d1 h3 d2 (d4 rfl)
    · subst hgs0; subst hsv
      rw [← opB_congr (fun t ht => seq t (rdk t ht))] at hopb
      obtain ⟨v', blk', obj, vc, st, h1, h2, h3, h4⟩ := opB_sound Cx hop hopb
      cases h1
      have hblk := i3 hB blk (by rw [T.env.2, hh])
      have hE := Eff.born E.sim h3 (U k x hk hx hnx hB) hblk (w' := w.alloc obj) rfl rfl rfl rfl (m := n) (Nat.le_trans A.nle (A.mono 0 k (by omega) (by omega)))
      refine Reach.wp (K := fun vc' w' => vc' = vc ∧ w' = w.alloc obj) (.inl ⟨vc, _, h2, rfl, rfl⟩) ?_
      rintro vc' w' ⟨rfl, rfl⟩
      refine fin vc' _ _ β (E.trans hE) ?_ fun j y h5 h6 h7 h8 => ?_
      · rw [← hdst]
        exact M.val hE (.inl ⟨v, rfl, h4 _ (setPhi_same _ _ _)⟩) cj D
      · have hne : (σ j).ah.length ≠ (σ k).ah.length := by
          have hstrict : ∀ i z, i < pp → L[i]? = some z → isB z.a.k = true → ¬ S z.i → (σ i).ah.length < (σ (i + 1)).ah.length := by
            intro i z hi hz hBz hnz
            have hbz : z.bar = false := by
              cases e : z.bar with
              | false => rfl
              | true => exact absurd (A.lo i z hi hz e) hnz
            obtain ⟨gs', bc', sv', h', up', T'⟩ := N.step i z hz
            obtain ⟨_, hq⟩ := T'.quiet (N.notM hz hbz)
            rcases hq with ⟨_, hB', _⟩ | ⟨_, hB', _⟩ | ⟨_, _, _, _, blk', hh', _⟩
            · rw [hBz] at hB'; cases hB'
            · rw [hBz] at hB'; cases hB'
            · rw [T'.env.2, hh']; simp
          rcases Nat.lt_trichotomy j k with h9 | h9 | h9
          · have := hstrict j y h5 h6 h8 (fun h => h7 (.inl h))
            have := A.mono (j + 1) k (by omega) (by omega)
            omega
          · subst h9
            rw [hx] at h6; cases h6
            exact absurd (.inr rfl) h7
          · have := hstrict k x hk hx hB hnx
            have := A.mono (k + 1) j (by omega) (by omega)
            omega
        rw [setPhi_other _ _ hne]
        exact unb j y h5 h6 h7 h8

/-- The turn of a bar. -/
theorem At.bar {pp : Nat} {x : Item} (hC : CSound P C) (A : At φ0 n w0 ops L σ S pp a w) (N : Reg P loc C ops L σ) (hx : L[pp]? = some x) {o : Oper} (ho : ops[x.i]? = some o)
    (hr : ∀ e ∈ o.after, Region.binds .any e = true → S e.on) {Q : Exit → Act → World → Prop} {next : Act → World → Prop} (hn : ∀ a' w', At φ0 n w0 ops L σ (addS S x.i) (pp + 1) a' w' → next a' w') : wpOp P ops Q x.i next a w := by
  have hlt : pp < L.length := (List.getElem?_eq_some_iff.1 hx).1
  have hnx := A.hi pp x (Nat.le_refl _) hx
  obtain ⟨o', ho', hco⟩ := N.src pp x hx
  rw [ho] at ho'; cases ho'
  obtain ⟨hgs, hop, hdst⟩ := cOper_inv hco
  obtain ⟨gs, bc, sv, h, up, T⟩ := N.step pp x hx
  obtain ⟨s1, s2, s3, s4⟩ := N.self hx
  obtain ⟨φ, β, E, M, U⟩ := A.inv
  have clsh : ∀ j y, j < pp → L[j]? = some y → ¬ S y.i → clash y.a x.a = false := by
    intro j y hj hy hny
    obtain ⟨_, _, h3, _⟩ := N.pair hj hy hx
    rcases h3 with h3 | ⟨_, h3⟩
    · exact absurd (ready_dep A.cl ho hr h3) hny
    · exact h3
  have vis : ∀ t ∈ aoRd x.a, ¬ Msk L S pp t := by
    rintro t ht ⟨j, y, hj, hy, hny, hd⟩
    exact (clash_spec (clsh j y hj hy hny)).1 t hd ht
  have visd : ∀ t, x.a.dst = some t → ¬ Msk L S pp t := by
    rintro t ht ⟨j, y, hj, hy, hny, hd⟩
    exact (clash_spec (clsh j y hj hy hny)).2.1 t hd ht
  have rdk : ∀ t ∈ akTmps x.a.k, t ∈ aoRd x.a := fun t ht => List.mem_append_right _ ht
  have hE : ∀ t ∈ aoRd x.a, mask L S pp σ t = envF (σ pp).env t := fun t ht => mask_no (vis t ht)
  have hgE : guardOf (mask L S pp σ) x.a.guard = some (gs, bc) := by
    rw [← guardOf_congr (ρ := envF (σ pp).env) fun t b hg => .inl (hE t (by simp [aoRd, hg])).symm]
    exact T.grd
  obtain ⟨g1, g2⟩ := guardOf_spec M.G hgE
  have hw := wanted_spec hgs M hgE
  have cl' : Closed ops (addS S x.i) := A.cl.add ho hr
  have D : DOk x.a.dst sv (mask L S pp σ) a := by
    obtain ⟨D, hd⟩ := dstOk_spec (a := ⟨Array.replicate (σ pp).env.length undef, []⟩) T.dst (by simp)
    cases e : x.a.dst with
    | none => rw [e] at D; exact D
    | some d =>
      rw [e] at D
      obtain ⟨d1, d2, d3, d4, d5⟩ := D
      have hdl := hd d e
      rw [N.len pp A.le] at hdl
      refine ⟨by have := A.len; omega, fun t p hp' => ?_, d3, fun hb t g b e' off ht => ?_, ?_⟩
      · by_cases ht : Msk L S pp t
        · rw [mask_yes ht] at hp'; cases hp'
        · rw [mask_no ht] at hp'; exact d2 t p hp'
      · obtain ⟨h1, h2⟩ := mask_ne (by simp) ht
        exact d4 hb t g b e' off h2
      · rw [mask_no (visd d e)]; exact d5
  -- what is hidden behind it
  have mskE : ∀ t, Msk L (addS S x.i) (pp + 1) t ↔ Msk L S pp t := by
    intro t
    constructor
    · rintro ⟨j, y, h1, h2, h3, h4⟩
      rcases Nat.lt_or_ge j pp with h5 | h5
      · exact ⟨j, y, h5, h2, fun h => h3 (.inl h), h4⟩
      · have : j = pp := by omega
        subst this
        rw [hx] at h2; cases h2
        exact absurd (.inr rfl) h3
    · rintro ⟨j, y, h1, h2, h3, h4⟩
      refine ⟨j, y, by omega, h2, ?_, h4⟩
      rintro (h | h)
      · exact h3 h
      · exact (N.pair h1 h2 hx).2.1 h
  have hmask : (∀ d cs, up = some (d, cs) → ¬ Msk L S pp d) → updR (putR (mask L S pp σ) x.a.dst sv) up = mask L (addS S x.i) (pp + 1) σ := by
    intro hu
    have hput : ∀ t, ¬ Msk L S pp t → putR (mask L S pp σ) x.a.dst sv t = putR (envF (σ pp).env) x.a.dst sv t := by
      intro t ht
      cases e : x.a.dst with
      | none => exact mask_no ht
      | some d =>
        simp only [putR, setR]
        split
        · rfl
        · exact mask_no ht
    funext t
    by_cases hm : Msk L S pp t
    · rw [mask_yes ((mskE t).2 hm)]
      have h1 : putR (mask L S pp σ) x.a.dst sv t = .any := by
        cases e : x.a.dst with
        | none => exact mask_yes hm
        | some d =>
          have hne : t ≠ d := by rintro rfl; exact visd t e hm
          simp only [putR]
          rw [setR_other _ _ hne]
          exact mask_yes hm
      cases up with
      | none => exact h1
      | some p =>
        obtain ⟨d, cs⟩ := p
        have hne : t ≠ d := by rintro rfl; exact hu t cs rfl hm
        simp only [updR]
        rw [setR_other _ _ hne]
        exact h1
    · rw [mask_no (fun h => hm ((mskE t).1 h)), T.env.1]
      cases up with
      | none => exact hput t hm
      | some p =>
        obtain ⟨d, cs⟩ := p
        simp only [updR, setR]
        split
        · rfl
        · exact hput t hm
  have hah := T.env.2
  have fin : ∀ (vc : Value) (w' : World) (φ' : Phi) (β' : Nat → Nat), (σ pp).ah.length ≤ h.length → Eff φ0 φ' n h w0 w' → Sl w0.heap.size φ' β' (mask L (addS S x.i) (pp + 1) σ) (a.put o.dst vc) w' →
      (∀ b, b < (σ pp).ah.length → φ b = .unborn → φ' b = .unborn) → next (a.put o.dst vc) w' := by
    intro vc w' φ' β' grow E' M' U'
    rw [← hah] at grow E'
    refine hn _ _ ⟨cl', hlt, fun j y h1 h2 h3 => ?_, fun j y h1 h2 h3 => ?_, fun i j hij hj => ?_, A.nle, ⟨φ', β', E', M', fun j y h1 h2 h3 h4 => ?_⟩, by rw [put_size]; exact A.len⟩
    · rcases Nat.lt_or_ge j pp with h5 | h5
      · exact .inl (A.lo j y h5 h2 h3)
      · have : j = pp := by omega
        subst this
        rw [hx] at h2; cases h2
        exact .inr rfl
    · rcases h3 with h3 | h3
      · exact A.hi j y (by omega) h2 h3
      · exact (N.pair (by omega) hx h2).2.1 h3.symm
    · rcases Nat.lt_or_ge j (pp + 1) with h1 | h1
      · exact A.mono i j hij (by omega)
      · have : j = pp + 1 := by omega
        subst this
        rcases Nat.lt_or_ge i (pp + 1) with h2 | h2
        · exact Nat.le_trans (A.mono i pp (by omega) (Nat.le_refl _)) grow
        · have : i = pp + 1 := by omega
          subst this; exact Nat.le_refl _
    · have hj : j < pp := by
        rcases Nat.lt_or_ge j pp with h5 | h5
        · exact h5
        · have : j = pp := by omega
          subst this
          rw [hx] at h2; cases h2
          exact absurd (.inr rfl) h3
      have hny : ¬ S y.i := fun h => h3 (.inl h)
      refine U' _ ?_ (U j y hj h2 hny h4)
      have hbz : y.bar = false := by
        cases e : y.bar with
        | false => rfl
        | true => exact absurd (A.lo j y hj h2 e) hny
      obtain ⟨gs', bc', sv', h', up', T'⟩ := N.step j y h2
      obtain ⟨_, hq⟩ := T'.quiet (N.notM h2 hbz)
      have hstrict : (σ j).ah.length < (σ (j + 1)).ah.length := by
        rcases hq with ⟨_, hB', _⟩ | ⟨_, hB', _⟩ | ⟨_, _, _, _, blk', hh', _⟩
        · rw [h4] at hB'; cases hB'
        · rw [h4] at hB'; cases hB'
        · rw [T'.env.2, hh']; simp
      exact Nat.lt_of_lt_of_le hstrict (A.mono (j + 1) pp (by omega) (Nat.le_refl _))
  unfold wpOp
  simp only [ho, hw]
  have t := T.op (SV × Heap × Up) fun sv h u => some (sv, h, u)
  cases bc with
  | false =>
    obtain ⟨sv', e, hi⟩ := opK_idle (g2 rfl) t
    simp only [Option.some.injEq, Prod.mk.injEq] at e
    obtain ⟨rfl, rfl, rfl⟩ := e
    simp only [Bool.false_eq_true, if_false]
    refine fin undef w φ β (Nat.le_refl _) E ?_ fun _ _ h => h
    rw [← hmask (fun d cs h => by cases h), ← hdst]
    exact M.idle hi (fun c => by have := g1.2 c; cases this) D
  | true =>
    simp only [if_true]
    left
    have cj := g1.1 rfl
    have tE := opK_congr s3 (fun t ht => hE t (rdk t ht)) (fun t ht g b d off hl hb => mask_no (N.bx A.cl A.le (vis t (rdk t ht)) hl hb)) t
    obtain ⟨sv', h', up', e, hreach⟩ := opK_reach hC (M.ctx E.sim cj) hop tE
    simp only [Option.some.injEq, Prod.mk.injEq] at e
    obtain ⟨rfl, rfl, rfl⟩ := e
    refine hreach.wp fun vc w' hc => ?_
    obtain ⟨φ', β', E', M', U'⟩ := M.step E hc (Nat.le_trans A.nle (A.mono 0 pp (Nat.zero_le _) (Nat.le_refl _))) cj D
    refine fin vc w' φ' β' ?_ E' ?_ U'
    · cases hc with
      | val φ'' _ hEff _ => exact hEff.len
      | box cs cells ty _ hh _ _ _ _ => rw [hh]; exact Nat.le_refl _
      | wr d cs x _ _ hh _ _ _ _ => rw [hh]; exact Nat.le_refl _
    · rw [← hmask, ← hdst]
      · exact M'
      · intro d cs hu
        cases hc with
        | val φ'' hup _ _ => rw [hup] at hu; cases hu
        | box cs cells ty hup _ _ _ _ _ => rw [hup] at hu; cases hu
        | wr d' cs' x _ hup _ _ _ _ hb =>
          rw [hup] at hu; cases hu
          obtain ⟨cs0, hb⟩ := hb
          exact (mask_ne (by simp) hb).1

/-! ### The whole region -/

def unl (n : Nat) (listed : Array Bool) : List Nat := (List.range n).filter fun j => !(listed.getD j false)

theorem getD_set {l : Array Bool} {i : Nat} (hi : i < l.size) (j : Nat) : (l.setIfInBounds i true).getD j false = if j = i then true else l.getD j false := by
  simp only [Array.getD_eq_getD_getElem?]
  by_cases h : j = i
  · subst h; simp [hi]
  · rw [Array.getElem?_setIfInBounds_ne (Ne.symm h), if_neg h]

theorem unl_set {n i : Nat} {l : Array Bool} (hs : l.size = n) (hi : i < n) (hl : l.getD i false = false) : (unl n (l.setIfInBounds i true)).length < (unl n l).length := by
  have e : unl n (l.setIfInBounds i true) = (unl n l).filter fun j => !(Nat.beq j i) := by
    unfold unl
    rw [List.filter_filter]
    congr 1
    funext j
    rw [getD_set (by omega)]
    by_cases h : j = i
    · subst h; simp
    · rw [if_neg h]
      have : Nat.beq j i = false := by
        cases e : Nat.beq j i with
        | false => rfl
        | true => exact absurd (Nat.eq_of_beq_eq_true e) h
      rw [this]; simp
  rw [e, List.length_filter_lt_length_iff_exists]
  exact ⟨i, by simp [unl, hi]; simpa using hl, by simp⟩

theorem ready_mem {ops : Array Oper} {l : Array Bool} (hs : l.size = ops.size) {i : Nat} : i ∈ Region.ready .any ops l ↔ i < ops.size ∧ l.getD i false = false ∧ ∃ o, ops[i]? = some o ∧ ∀ e ∈ o.after, Region.binds .any e = true → l.getD e.on false = true := by
  unfold Region.ready
  rw [List.mem_filter, List.mem_range]
  constructor
  · rintro ⟨h1, h2⟩
    have ho : ops[i]? = some ops[i] := Array.getElem?_eq_getElem h1
    rw [ho] at h2
    simp only [Bool.and_eq_true, Bool.not_eq_true', Option.map_some, Option.getD_some] at h2
    refine ⟨h1, ?_, ops[i], ho, fun e he hb => ?_⟩
    · have h3 := h2.1
      simp only [Array.getD_eq_getD_getElem?] at h3 ⊢
      rw [Array.getElem?_eq_getElem (by omega)] at h3 ⊢
      exact h3
    · have := Array.all_eq_true_iff_forall_mem.1 h2.2 e he
      rw [hb] at this
      simpa using this
  · rintro ⟨h1, h2, o, ho, h3⟩
    refine ⟨h1, ?_⟩
    rw [ho]
    simp only [Bool.and_eq_true, Bool.not_eq_true', Option.map_some, Option.getD_some]
    refine ⟨?_, Array.all_eq_true_iff_forall_mem.2 fun e he => ?_⟩
    · simp only [Array.getD_eq_getD_getElem?] at h2 ⊢
      rw [Array.getElem?_eq_getElem (by omega)] at h2 ⊢
      exact h2
    · cases hb : Region.binds .any e with
      | false => rfl
      | true => simpa using h3 e he hb

theorem Reg.any (N : Reg P loc C ops L σ) (hC : CSound P C) {Q : Exit → Act → World → Prop} (hQ : ∀ a w, At φ0 n w0 ops L σ (fun i => i < ops.size) L.length a w → Q .normal a w) :
    ∀ (fuel : Nat) (listed : Array Bool) (pp : Nat) (a : Act) (w : World), listed.size = ops.size → (unl ops.size listed).length ≤ fuel →
      At φ0 n w0 ops L σ (fun i => listed.getD i false = true) pp a w → wpAny P .any ops Q fuel listed a w := by
  -- where nothing is ready, all is done
  have dn : ∀ (listed : Array Bool) (pp : Nat) (a : Act) (w : World), listed.size = ops.size → Region.ready .any ops listed = [] →
      At φ0 n w0 ops L σ (fun i => listed.getD i false = true) pp a w → Q .normal a w := by
    intro listed pp a w hs hr A
    have all : ∀ (k : Nat) (x : Item), L[k]? = some x → listed.getD x.i false = true := by
      intro k
      induction k using Nat.strongRecOn with
      | _ k ih =>
        intro x hx
        cases e : listed.getD x.i false with
        | true => rfl
        | false =>
          exfalso
          obtain ⟨o, ho, _⟩ := N.src k x hx
          have hm : x.i ∈ Region.ready .any ops listed := by
            refine (ready_mem hs).2 ⟨(Array.getElem?_eq_some_iff.1 ho).1, e, o, ho, fun ed he hb => ?_⟩
            obtain ⟨j, y, hj, hy, hyi⟩ := N.edge k x o hx ho ed he hb
            rw [← hyi]
            exact ih j hj y hy
          rw [hr] at hm
          cases hm
    obtain ⟨pp', A', ht⟩ := At.adv N _ pp (Nat.le_refl _) A
    have hpp : pp' = L.length := by
      rcases ht with h | ⟨x, hx, hb⟩
      · exact h
      · exact absurd (all pp' x hx) (A'.hi pp' x (Nat.le_refl _) hx)
    subst hpp
    have hS : (fun i => listed.getD i false = true) = fun i => i < ops.size := by
      funext i
      refine propext ⟨fun h => ?_, fun h => ?_⟩
      · rw [← hs]
        rcases Nat.lt_or_ge i listed.size with h1 | h1
        · exact h1
        · simp [Array.getD_eq_getD_getElem?, Array.getElem?_eq_none h1] at h
      · obtain ⟨k, x, hx, rfl⟩ := N.cov i h
        exact all k x hx
    rw [hS] at A'
    exact hQ a w A'
  intro fuel
  induction fuel with
  | zero =>
    intro listed pp a w hs hf A
    have hr : Region.ready .any ops listed = [] := by
      cases e : Region.ready .any ops listed with
      | nil => rfl
      | cons i l =>
        exfalso
        obtain ⟨h1, h2, _⟩ := (ready_mem hs).1 (by rw [e]; exact .head _ : i ∈ Region.ready .any ops listed)
        have : i ∈ unl ops.size listed := by simp [unl, h1]; simpa using h2
        have := List.length_pos_of_mem this
        omega
    exact ⟨hr, dn listed pp a w hs hr A⟩
  | succ fuel ih =>
    intro listed pp a w hs hf A
    refine ⟨fun hr => dn listed pp a w hs hr A, fun i hi => ?_⟩
    obtain ⟨h1, h2, o, ho, h3⟩ := (ready_mem hs).1 hi
    obtain ⟨pp', A', ht⟩ := At.adv N _ pp (Nat.le_refl _) A
    obtain ⟨k, x, hx, rfl⟩ := N.cov i h1
    have hnx : ¬ (listed.getD x.i false = true) := by rw [h2]; simp
    have hadd : addS (fun i => listed.getD i false = true) x.i = fun i => (listed.setIfInBounds x.i true).getD i false = true := by
      funext j
      rw [getD_set (by omega)]
      refine propext ⟨fun h => ?_, fun h => ?_⟩
      · rcases h with h | h
        · split
          · rfl
          · exact h
        · rw [if_pos h]
      · split at h
        · exact .inr (by assumption)
        · exact .inl h
    have go : ∀ pp'' a' w', At φ0 n w0 ops L σ (addS (fun i => listed.getD i false = true) x.i) pp'' a' w' → wpAny P .any ops Q fuel (listed.setIfInBounds x.i true) a' w' := by
      intro pp'' a' w' h
      rw [hadd] at h
      refine ih _ pp'' a' w' (by simpa using hs) ?_ h
      have := unl_set hs h1 h2
      omega
    rcases Nat.lt_trichotomy k pp' with h | h | h
    · exact A'.pending N h hx hnx ho h3 fun a' w' h => go pp' a' w' h
    · subst h
      exact A'.bar hC N hx ho h3 fun a' w' h => go _ a' w' h
    · exfalso
      rcases ht with ht | ⟨y, hy, hb⟩
      · have := (List.getElem?_eq_some_iff.1 hx).1
        omega
      · obtain ⟨_, _, h4, _⟩ := N.pair h hy hx
        rcases h4 with h4 | ⟨h4, _⟩
        · exact A'.hi pp' y (Nat.le_refl _) hy (ready_dep A'.cl ho h3 h4)
        · rw [hb] at h4; cases h4

/-! ### What the compiler gives -/

theorem cOpers_spec {os : List Oper} : ∀ {l : List Oper} {as : List AOp}, cOpers P loc os l = some as → ∀ (i : Nat) x, as[i]? = some x → ∃ o, l[i]? = some o ∧ cOper P loc os o [] = some x := by
  intro l
  induction l with
  | nil => intro as h i x hx; simp only [cOpers, Option.some.injEq] at h; subst h; simp at hx
  | cons o l ih =>
    intro as h i x hx
    simp only [cOpers] at h
    split at h
    · rename_i y r h1 h2
      simp only [Option.some.injEq] at h
      subst h
      cases i with
      | zero => simp only [List.getElem?_cons_zero, Option.some.injEq] at hx; subst hx; exact ⟨o, rfl, h1⟩
      | succ i => exact ih h2 i x (by simpa using hx)
    · cases h

theorem resAll_spec {dep : Nat} : ∀ {l : List Item} {y : Item}, y ∈ l → Nat.testBit dep y.i = false → ∀ z ∈ reOf y.a, z ∈ resAll dep l := by
  intro l
  induction l with
  | nil => intro y hy; cases hy
  | cons p l ih =>
    intro y hy hd z hz
    simp only [resAll, List.mem_append]
    cases hy with
    | head => left; rw [hd]; exact hz
    | tail _ hy => right; exact ih hy hd z hz

theorem mkItems_spec {deps : List Nat} {as : List AOp} : ∀ {idx : List Nat} {ahead l : List Item}, mkItems deps as ahead idx = some l →
    ∀ (k : Nat) x, l[k]? = some x → (∃ y, as[x.i]? = some y ∧ x.a.dst = y.dst ∧ x.a.k = y.k ∧ x.a.guard = y.guard) ∧
      (x.bar = true → ∀ (p : Nat) y, p < ahead.length + k → (ahead ++ l)[p]? = some y → Nat.testBit (deps.getD x.i 0) y.i = false → ∀ z ∈ reOf y.a, z ∈ x.a.re) := by
  intro idx
  induction idx with
  | nil => intro ahead l h k x hx; simp only [mkItems, Option.some.injEq] at h; subst h; simp at hx
  | cons i idx ih =>
    intro ahead l h k x hx
    simp only [mkItems] at h
    split at h
    · cases h
    · rename_i y hy
      split at h
      · rename_i r hr
        simp only [Option.some.injEq] at h
        subst h
        cases k with
        | zero =>
          simp only [List.getElem?_cons_zero, Option.some.injEq] at hx
          subst hx
          refine ⟨⟨y, hy, rfl, rfl, rfl⟩, fun hb p z hp hz hd w hw => ?_⟩
          simp only at hb
          simp only [hb]
          rw [List.getElem?_append_left (by omega)] at hz
          exact resAll_spec (List.mem_of_getElem? hz) hd w hw
        | succ k =>
          obtain ⟨h1, h2⟩ := ih hr k x (by simpa using hx)
          refine ⟨h1, fun hb p z hp hz hd => h2 hb p z (by simp; omega) (by simpa using hz) hd⟩
      · cases h

theorem edgesOk_spec {os : List Oper} : ∀ {l ahead : List Item}, edgesOk os ahead l = true → ∀ (k : Nat) x o, l[k]? = some x → os[x.i]? = some o → ∀ e ∈ o.after.toList, Region.binds .any e = true →
    ∃ (j : Nat) (y : Item), j < ahead.length + k ∧ (ahead ++ l)[j]? = some y ∧ y.i = e.on := by
  intro l
  induction l with
  | nil => intro ahead h k x o hx; simp at hx
  | cons p l ih =>
    intro ahead h k x o hx ho e he hb
    simp only [edgesOk, Bool.and_eq_true] at h
    obtain ⟨h1, h2⟩ := h
    cases k with
    | zero =>
      simp only [List.getElem?_cons_zero, Option.some.injEq] at hx
      subst hx
      rw [ho] at h1
      simp only [edgeOk, List.all_eq_true] at h1
      have := h1 e he
      rw [hb] at this
      simp only [Bool.not_true, Bool.false_or, List.any_eq_true] at this
      obtain ⟨y, hy, hyi⟩ := this
      obtain ⟨j, hj⟩ := List.mem_iff_getElem?.1 hy
      have hjl := (List.getElem?_eq_some_iff.1 hj).1
      exact ⟨j, y, by omega, by rw [List.getElem?_append_left hjl]; exact hj, Nat.eq_of_beq_eq_true hyi⟩
    | succ k =>
      obtain ⟨j, y, h3, h4, h5⟩ := ih h2 k x o (by simpa using hx) ho e he hb
      exact ⟨j, y, by simp at h3; omega, by simpa using h4, h5⟩

theorem itemsA_get : ∀ (l : List Item) (k : Nat) x, l[k]? = some x → (itemsA l)[k]? = some x.a := by
  intro l
  induction l with
  | nil => intro k x h; simp at h
  | cons p l ih =>
    intro k x h
    cases k with
    | zero => simp only [List.getElem?_cons_zero, Option.some.injEq] at h; subst h; rfl
    | succ k => exact ih k x (by simpa using h)

theorem itemsA_len : ∀ (l : List Item), (itemsA l).length = l.length := by
  intro l
  induction l with
  | nil => rfl
  | cons p l ih => simp [itemsA, ih]

theorem guard_none {o : Oper} {re : List Re} {ao : AOp} (h : cOper P loc ops.toList o re = some ao) (ho : o.guard = none) : ao.guard = none := by
  obtain ⟨h1, _, _⟩ := cOper_inv h
  unfold gSlot at h1
  rw [ho] at h1
  simpa using h1.symm

theorem Reg.G0 (N : Reg P loc C ops L σ) (hg : anyGuard ops.toList = false) : ∀ k, k ≤ L.length → Abs.G0 (σ k).env := by
  intro k
  induction k with
  | zero => intro _; exact N.g0
  | succ k ih =>
    intro hk
    have hx : L[k]? = some L[k] := List.getElem?_eq_getElem (by omega)
    generalize L[k] = x at hx
    obtain ⟨gs, bc, sv, h, up, T⟩ := N.step k x hx
    obtain ⟨o, ho, hco⟩ := N.src k x hx
    have hn := guard_none hco (anyGuard_false hg o (List.mem_of_getElem? (by simpa using ho)))
    have hgrd := T.grd
    rw [hn] at hgrd
    simp only [guardOf, Option.some.injEq, Prod.mk.injEq] at hgrd
    obtain ⟨rfl, rfl⟩ := hgrd
    have hs : gsOf sv = [] := by rcases T.gsOk with h | h <;> exact h
    rw [T.eq]
    exact ((ih (by omega)).put hs).upd

theorem Eff.turn (E : Eff φ0 φ n ah w0 w) (h1 : w'.heap = w.heap) (h2 : w'.os = w.os) (h3 : w'.tape = w.tape) (h4 : w'.output = w.output) : Eff φ φ n ah w w' :=
  .same (E.sim.of_heap h1) ⟨h2, h3, h4, by rw [h1]; exact Nat.le_refl _, fun k _ _ => by rw [h1]⟩ E.len

theorem drawnOk (hm : P.follows .mixedOrders = true) (hC : CSound P C) : DrawnOk P C := by
  intro loc ops id sc l R r φ0 n w0 σ0 Q a w hc I h
  unfold cRegion at hc
  simp only at hc
  split at hc
  · rename_i L hL
    simp only [Option.some.injEq, Prod.mk.injEq] at hc
    obtain ⟨rfl, rfl⟩ := hc
    unfold cItems at hL
    split at hL
    · cases hL
    · rename_i as has
      simp only at hL
      split at hL
      · cases hL
      · rename_i L' hmk
        split at hL
        · rename_i hok
          simp only [Option.some.injEq] at hL
          subst hL
          simp only [Bool.and_eq_true] at hok
          obtain ⟨⟨k1, k2⟩, k3⟩ := hok
          obtain ⟨σ, h0, hK, hs⟩ := evalOps_trace _ σ0 h
          rw [itemsA_len] at hK
          have hsp := mkItems_spec hmk
          have N : Reg P loc C ops L' σ := by
            refine ⟨⟨fun k x hx => hs k _ (itemsA_get _ _ _ hx), items_facts k1⟩, fun k x hx => ?_, fun p q x y hpq hx hy hb hd z hz => ?_, fun i hi => ?_, fun k x o hx ho e he hb => ?_, by rw [h0]; exact I.G⟩
            · obtain ⟨⟨y, hy, e1, e2, e3⟩, _⟩ := hsp k x hx
              obtain ⟨o, ho, hco⟩ := cOpers_spec has _ _ hy
              refine ⟨o, by simpa using ho, ?_⟩
              unfold cOper at hco ⊢
              split at hco
              · rename_i g kk g1 g2
                simp only [Option.some.injEq] at hco
                subst hco
                simp only [Option.some.injEq]
                generalize x.a = xa at *
                cases xa
                simp only at e1 e2 e3
                subst e1; subst e2; subst e3
                rfl
              · cases hco
            · refine (hsp q y hy).2 hb p x (by simpa using hpq) (by simpa using hx) ?_ z hz
              unfold Dep at hd
              simpa using hd
            · simp only [List.all_eq_true, List.mem_range, List.any_eq_true] at k3
              obtain ⟨x, hx, he⟩ := k3 i (by simpa using hi)
              obtain ⟨k, hk⟩ := List.mem_iff_getElem?.1 hx
              exact ⟨k, x, hk, Nat.eq_of_beq_eq_true he⟩
            · obtain ⟨j, y, j1, j2, j3⟩ := edgesOk_spec k2 k x o hx (by simpa using ho) e (by simpa using he) hb
              exact ⟨j, y, by simpa using j1, by simpa using j2, j3⟩
          refine wp_region_any hm ?_
          obtain ⟨φ, β, E, M, hl⟩ := I.I
          have hEt := Eff.turn E (w' := { w with drawn := w.drawn + 1 }) rfl rfl rfl rfl
          refine N.any hC (φ0 := φ0) (w0 := w0) (n := n) ?_ ops.size (Array.replicate ops.size false) 0 a _ (by simp) ?_ ?_
          · intro a' w' A
            obtain ⟨φ', β', E', M', _⟩ := A.inv
            have hmask : mask L' (fun i => i < ops.size) L'.length σ = envF (σ L'.length).env := by
              funext t
              refine mask_no ?_
              rintro ⟨k, x, _, hx, hnx, _⟩
              obtain ⟨o, ho, _⟩ := N.src k x hx
              exact hnx (Array.getElem?_eq_some_iff.1 ho).1
            rw [hmask] at M'
            have I' : Inv' φ0 n w0 (σ L'.length) a' w' := ⟨φ', β', E', M', by rw [N.len _ (Nat.le_refl _)]; exact A.len⟩
            cases hg : anyGuard ops.toList with
            | true => rw [hg] at hK; exact ⟨_, hK, I'.scrub⟩
            | false => rw [hg] at hK; exact ⟨_, hK, I', N.G0 hg _ (Nat.le_refl _)⟩
          · exact Nat.le_trans (List.length_filter_le _ _) (by simp)
          · have none : ∀ i, ¬ ((Array.replicate ops.size false).getD i false = true) := by
              intro i
              simp only [Array.getD_eq_getD_getElem?, Array.getElem?_replicate]
              split <;> simp
            refine ⟨fun i hi => absurd hi (none i), Nat.zero_le _, fun k x hk => by omega, fun k x _ _ => none _, fun i j hi hj => ?_, ?_, ⟨φ, β, ?_, ?_, fun k x hk => by omega⟩, by rw [h0]; exact hl⟩
            · have : i = 0 := by omega
              have : j = 0 := by omega
              subst i; subst j; exact Nat.le_refl _
            · rw [h0]; exact E.len
            · rw [h0]; exact E.trans hEt
            · have hmask : mask L' (fun i => (Array.replicate ops.size false).getD i false = true) 0 σ = envF σ0.env := by
                funext t
                rw [mask_no (by rintro ⟨k, x, hk, _⟩; omega), h0]
              rw [hmask]
              exact M.eff hEt
        · cases hL
  · cases hc

/-- What the evaluator answers, a call returns. -/
theorem evalF_ok {T : Prims} (hm : P.follows .mixedOrders = true) (hT : PrimsOk P T) (k : Nat) : CSound P (evalF P T k) :=
  evalF_sound hT (fun C hC => drawnOk hm hC) k

end
end Go.Proofs.Ytmfmnbldngfelaa.Abs
