/- All reading operations together; operations whose guard does not hold. -/
import Derived.Test.YtmfmnbldngfelaaAbsOpD
set_option linter.unusedVariables false
set_option linter.unusedSimpArgs false
namespace Go.Proofs.Ytmfmnbldngfelaa.Abs
open Go

section
variable {P : Program} {φ : Phi} {β : Nat → Nat} {ρ : Nat → SV} {ah : Heap} {a : Act} {w : World} {gs : List (Nat × Bool)} {R : Type}
  {loc : Nat} {ret : SV → Option R} {r : R}

theorem opA_sound (C : Ctx φ β ρ ah a w gs) {o : Oper} {k : AK} (hk : cOp P loc o = some k) (h : opA ρ ah gs true k ret = some r) :
    ∃ sv, ret sv = some r ∧ AOk P φ β a w o gs sv := by
  obtain ⟨dst, op, type, pos, after, guard⟩ := o
  cases op with
  | move x => exact a_move C hk h
  | assign x => exact a_assign C hk h
  | pick c x y => exact a_pick C hk h
  | build t ps => exact a_build C hk h
  | load t x => exact a_load C hk h
  | nilCheck x => exact a_nilCheck C hk h
  | binOp op t x y yt => exact a_bin C hk agg_ok h
  | unOp op t x => exact a_un C hk h
  | convert s d x => exact a_conv C hk h
  | makeFunc fn first cap =>
    cases fn with
    | func f => exact a_makeFn C hk h
    | _ => simp [cOp] at hk
  | slice t x lo hi mx => exact a_slice C hk h
  | fieldAddr s x f => exact a_fieldAddr C hk h
  | field s x f => exact a_field C hk h
  | indexAddr t x i => exact a_indexAddr C hk h
  | index t x i => exact a_index C hk h
  | lookup t m kx ok => exact a_lookup C hk h
  | extract x i => exact a_extract C hk h
  | call c =>
    obtain ⟨callee, args, ts⟩ := c
    cases callee with
    | builtin b => exact a_builtin C hk h
    | value f =>
      simp only [cOp] at hk
      split at hk <;> simp at hk
      · subst hk; simp [opA] at h
      · subst hk; simp [opA] at h
    | invoke rv m => simp [cOp] at hk
  | alloc t =>
    simp only [cOp] at hk
    split at hk <;> simp at hk
    split at hk <;> subst hk <;> simp [opA] at h
  | box t x =>
    simp only [cOp] at hk
    split at hk <;> simp at hk
    split at hk <;> subst hk <;> simp [opA] at h
  | buildSlice t n ps =>
    simp only [cOp] at hk
    split at hk
    · split at hk
      · split at hk
        · simp at hk; subst hk; simp [opA] at h
        · simp at hk
      · simp at hk
    · simp at hk
  | store t x y =>
    simp only [cOp] at hk
    split at hk <;> simp at hk
    subst hk; simp [opA] at h
  | makeMap t rv =>
    cases rv with
    | none => simp [cOp] at hk; subst hk; simp [opA] at h
    | some x => simp [cOp] at hk
  | makeSlice t l c =>
    simp only [cOp] at hk
    split at hk
    · split at hk
      · split at hk
        · simp at hk; subst hk; simp [opA] at h
        · simp at hk
      · simp at hk
    · simp at hk
  | mapUpdate t m kx x =>
    simp only [cOp] at hk
    split at hk
    · split at hk
      · simp at hk; subst hk; simp [opA] at h
      · simp at hk
    · simp at hk
  | _ => simp [cOp] at hk

/-! ### The guard does not hold -/

def Idle (gs : List (Nat × Bool)) (sv : SV) : Prop := (∃ x, sv = .g gs false x) ∨ (∃ d off, sv = .lref gs false d off)

theorem gb_false {α : Type} {m : Option α} {d : α} {K : α → Option R} (h : gb false m d K = some r) : ∃ x, K x = some r := by
  cases m with
  | none => exact ⟨d, by simpa [gb] using h⟩
  | some x => exact ⟨x, h⟩

theorem rdC_false {c : CS} {m : Option AV} {K : AV → Option R} (h : rdC c m false K = some r) : ∃ x, K x = some r := by
  cases c <;> simp only [rdC] at h <;> (obtain ⟨x, h⟩ := gb_false h; exact ⟨_, h⟩)

theorem rdL_false {l : List AV} {cs : List CS} : ∀ {i : Nat} {K : List AV → Option R}, rdL l false cs i K = some r → ∃ x, K x = some r := by
  induction cs with
  | nil => intro i K h; exact ⟨[], by simpa only [rdL] using h⟩
  | cons c cs ih =>
    intro i K h
    simp only [rdL] at h
    obtain ⟨x, h⟩ := rdC_false h
    obtain ⟨y, h⟩ := ih h
    exact ⟨_, h⟩

theorem rdV_false {s : VS} {l : Option (List AV)} {K : AV → Option R} (h : rdV s l false K = some r) : ∃ x, K x = some r := by
  cases s <;> simp only [rdV] at h
  · obtain ⟨x, h⟩ := gb_false h; exact rdC_false h
  · obtain ⟨x, h⟩ := gb_false h; obtain ⟨y, h⟩ := rdL_false h; exact ⟨_, h⟩
  · obtain ⟨x, h⟩ := gb_false h; exact ⟨_, h⟩

theorem rdW_false {s : VS} {v : AV} {K : AV → Option R} (h : rdW s v false K = some r) : ∃ x, K x = some r := by
  cases s <;> simp only [rdW] at h
  · exact rdC_false h
  · obtain ⟨x, h⟩ := gb_false h; obtain ⟨y, h⟩ := rdL_false (chk_some h).2; exact ⟨_, h⟩
  · obtain ⟨x, h⟩ := gb_false h; exact ⟨_, (chk_some h).2⟩

theorem place_any {x : AX} {bc : Bool} {K : Place → Option R} (h : place gs ρ x bc K = some r) (hb : bc = false) : ∃ p, K p = some r := by
  subst hb
  unfold place at h
  split at h
  · simp at h
  · split at h
    · exact ⟨_, h⟩
    · split at h
      · exact ⟨_, h⟩
      · simp at h
    · split at h
      · obtain ⟨x, h⟩ := gb_false h; exact ⟨_, h⟩
      · simp at h

theorem binOpA_false {tk : TK} {op : BinOp} {x y : AV} {K : AV → Option R} (h : binOpA tk false op x y K = some r) : ∃ v, K v = some r := by
  unfold binOpA at h
  repeat' split at h
  all_goals first
    | exact ⟨_, h⟩
    | (simp at h; done)
    | (obtain ⟨x, h⟩ := gb_false h; exact ⟨_, h⟩)
    | (unfold shInt at h; split at h <;> first | exact ⟨_, (chk_some h).2⟩ | simp at h)
    | (unfold binInt at h; split at h <;> first | exact ⟨_, h⟩ | exact ⟨_, (chk_some h).2⟩ | simp at h)

theorem opA_false {k : AK} (h : opA ρ ah gs false k ret = some r) : ∃ sv, ret sv = some r ∧ Idle gs sv := by
  have V : ∀ {x}, Idle gs (.g gs false x) := .inl ⟨_, rfl⟩
  have L : ∀ {d off}, Idle gs (.lref gs false d off) := .inr ⟨_, _, rfl⟩
  cases k <;> simp only [opA] at h
  case load s x =>
    obtain ⟨p, h⟩ := place_any h rfl
    cases p with
    | heap q =>
      cases s <;> simp only at h
      · obtain ⟨v, h⟩ := rdC_false h; exact ⟨_, h, V⟩
      · obtain ⟨v, h⟩ := rdV_false h; exact ⟨_, h, V⟩
      · obtain ⟨v, h⟩ := rdV_false h; exact ⟨_, h, V⟩
    | loc d off =>
      simp only at h
      split at h
      · simp at h
      · cases s <;> simp only at h
        · obtain ⟨v, h⟩ := rdC_false h; exact ⟨_, h, V⟩
        · obtain ⟨v, h⟩ := rdL_false (chk_some h).2; exact ⟨_, h, V⟩
        · exact ⟨_, (chk_some h).2, V⟩
  case fieldAddr off x =>
    obtain ⟨p, h⟩ := place_any h rfl
    cases p <;> exact ⟨_, h, by first | exact V | exact L⟩
  case field off s x =>
    split at h
    · cases s <;> simp only at h
      · obtain ⟨v, h⟩ := rdC_false h; exact ⟨_, h, V⟩
      · obtain ⟨v, h⟩ := rdL_false (chk_some h).2; exact ⟨_, h, V⟩
      · exact ⟨_, (chk_some h).2, V⟩
    · simp at h
  case indexArr len es x i =>
    split at h
    · obtain ⟨p, h⟩ := place_any h rfl
      cases p <;> exact ⟨_, (chk_some h).2, by first | exact V | exact L⟩
    · simp at h
  case bin tk op x y =>
    split at h
    · obtain ⟨v, h⟩ := binOpA_false h; exact ⟨_, h, V⟩
    · simp at h
  case nilCheck x =>
    split at h
    · simp at h
    · split at h
      · exact ⟨_, h, L⟩
      · split at h
        · exact ⟨_, h, L⟩
        · simp at h
      · split at h
        · split at h
          · obtain ⟨v, h⟩ := gb_false h; exact ⟨_, h, V⟩
          · exact ⟨_, h, V⟩
          · simp at h
        · simp at h
      · simp at h
  case lookup z s ok m k =>
    split at h
    · obtain ⟨f, h⟩ := gb_false h
      obtain ⟨v, h⟩ := rdW_false h
      split at h <;> exact ⟨_, h, V⟩
    · simp at h
  all_goals
    repeat' split at h
  all_goals first
    | (simp at h; done)
    | exact ⟨_, h, V⟩
    | exact ⟨_, (chk_some h).2, V⟩
    | exact ⟨_, (chkC_some h).2, V⟩
    | (obtain ⟨v, h⟩ := gb_false h; exact ⟨_, h, V⟩)
    | (obtain ⟨v, h⟩ := gb_false (chk_some h).2; exact ⟨_, h, V⟩)
    | (obtain ⟨v, h⟩ := rdC_false (chk_some h).2; exact ⟨_, h, V⟩)
    | (have h := (chk_some h).2; simp at h; done)

end
end Go.Proofs.Ytmfmnbldngfelaa.Abs
