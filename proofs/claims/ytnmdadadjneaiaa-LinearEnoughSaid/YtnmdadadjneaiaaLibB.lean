/- All reading operations together; operations whose guard does not hold. -/
import Derived.Test.YtnmdadadjneaiaaLibA
import Derived.Laws.Append
import Derived.Orders
set_option linter.unusedVariables false
set_option linter.unusedSimpArgs false
namespace Go.Proofs.Ytnmdadadjneaiaa.Abs
open Go
section
variable {P : Program} {φ : Phi} {β : Nat → Nat} {ρ : Nat → SV} {ah : Heap} {a : Act} {w : World} {gs : List (Nat × Bool)} {R : Type}
 {loc : Nat} {ret : SV → Option R} {r : R}
theorem opA_sound (C : Ctx φ β ρ ah a w gs) {o : Oper} {k : AK} (hk : cOp P loc o = some k) (h : opA ρ ah gs true k ret = some r) :
 ∃ sv, ret sv = some r ∧ AOk P φ β a w o gs sv := by
 obtain ⟨dst, op, type, pos, after, guard⟩ := o
 cases op with
 | move x => exact a_move C hk h
 | assign x => exact a_assign C hk h
 | pick c x y => exact a_pick C hk h
 | build t ps => exact a_build C hk h
 | load t x => exact a_load C hk h
 | nilCheck x => exact a_nilCheck C hk h
 | binOp op t x y yt => exact a_bin C hk agg_ok h
 | unOp op t x => exact a_un C hk h
 | convert s d x => exact a_conv C hk h
 | makeFunc fn first cap =>
  cases fn with
  | func f => exact a_makeFn C hk h
  | _ => simp [cOp] at hk
 | slice t x lo hi mx => exact a_slice C hk h
 | fieldAddr s x f => exact a_fieldAddr C hk h
 | field s x f => exact a_field C hk h
 | indexAddr t x i => exact a_indexAddr C hk h
 | index t x i => exact a_index C hk h
 | lookup t m kx ok => exact a_lookup C hk h
 | extract x i => exact a_extract C hk h
 | call c =>
  obtain ⟨callee, args, ts⟩ := c
  cases callee with
  | builtin b => exact a_builtin C hk h
  | value f =>
   simp only [cOp] at hk
   split at hk <;> simp at hk
   · subst hk; simp [opA] at h
   · subst hk; simp [opA] at h
  | invoke rv m => simp [cOp] at hk
 | alloc t =>
  simp only [cOp] at hk
  split at hk <;> simp at hk
  split at hk <;> subst hk <;> simp [opA] at h
 | box t x =>
  simp only [cOp] at hk
  split at hk <;> simp at hk
  split at hk <;> subst hk <;> simp [opA] at h
 | buildSlice t n ps =>
  simp only [cOp] at hk
  split at hk
  · split at hk
    · split at hk
      · simp at hk; subst hk; simp [opA] at h
      · simp at hk
    · simp at hk
  · simp at hk
 | store t x y =>
  simp only [cOp] at hk
  split at hk <;> simp at hk
  subst hk; simp [opA] at h
 | makeMap t rv =>
  cases rv with
  | none => simp [cOp] at hk; subst hk; simp [opA] at h
  | some x => simp [cOp] at hk
 | makeSlice t l c =>
  simp only [cOp] at hk
  split at hk
  · split at hk
    · split at hk
      · simp at hk; subst hk; simp [opA] at h
      · simp at hk
    · simp at hk
  · simp at hk
 | mapUpdate t m kx x =>
  simp only [cOp] at hk
  split at hk
  · split at hk
    · simp at hk; subst hk; simp [opA] at h
    · simp at hk
  · simp at hk
 | _ => simp [cOp] at hk
def Idle (gs : List (Nat × Bool)) (sv : SV) : Prop := (∃ x, sv = .g gs false x) ∨ (∃ d off, sv = .lref gs false d off)
theorem gb_false {α : Type} {m : Option α} {d : α} {K : α → Option R} (h : gb false m d K = some r) : ∃ x, K x = some r := by
 cases m with
 | none => exact ⟨d, by simpa [gb] using h⟩
 | some x => exact ⟨x, h⟩
theorem rdC_false {c : CS} {m : Option AV} {K : AV → Option R} (h : rdC c m false K = some r) : ∃ x, K x = some r := by
 cases c <;> simp only [rdC] at h <;> (obtain ⟨x, h⟩ := gb_false h; exact ⟨_, h⟩)
theorem rdL_false {l : List AV} {cs : List CS} : ∀ {i : Nat} {K : List AV → Option R}, rdL l false cs i K = some r → ∃ x, K x = some r := by
 induction cs with
 | nil => intro i K h; exact ⟨[], by simpa only [rdL] using h⟩
 | cons c cs ih =>
  intro i K h
  simp only [rdL] at h
  obtain ⟨x, h⟩ := rdC_false h
  obtain ⟨y, h⟩ := ih h
  exact ⟨_, h⟩
theorem rdV_false {s : VS} {l : Option (List AV)} {K : AV → Option R} (h : rdV s l false K = some r) : ∃ x, K x = some r := by
 cases s <;> simp only [rdV] at h
 · obtain ⟨x, h⟩ := gb_false h; exact rdC_false h
 · obtain ⟨x, h⟩ := gb_false h; obtain ⟨y, h⟩ := rdL_false h; exact ⟨_, h⟩
 · obtain ⟨x, h⟩ := gb_false h; exact ⟨_, h⟩
theorem rdW_false {s : VS} {v : AV} {K : AV → Option R} (h : rdW s v false K = some r) : ∃ x, K x = some r := by
 cases s <;> simp only [rdW] at h
 · exact rdC_false h
 · obtain ⟨x, h⟩ := gb_false h; obtain ⟨y, h⟩ := rdL_false (chk_some h).2; exact ⟨_, h⟩
 · obtain ⟨x, h⟩ := gb_false h; exact ⟨_, (chk_some h).2⟩
theorem place_any {x : AX} {bc : Bool} {K : Place → Option R} (h : place gs ρ x bc K = some r) (hb : bc = false) : ∃ p, K p = some r := by
 subst hb
 unfold place at h
 split at h
 · simp at h
 · split at h
   · exact ⟨_, h⟩
   · split at h
     · exact ⟨_, h⟩
     · simp at h
   · split at h
     · obtain ⟨x, h⟩ := gb_false h; exact ⟨_, h⟩
     · simp at h
theorem binOpA_false {tk : TK} {op : BinOp} {x y : AV} {K : AV → Option R} (h : binOpA tk false op x y K = some r) : ∃ v, K v = some r := by
 unfold binOpA at h
 repeat' split at h
 all_goals first
  | exact ⟨_, h⟩
  | (simp at h; done)
  | (obtain ⟨x, h⟩ := gb_false h; exact ⟨_, h⟩)
  | (unfold shInt at h; split at h <;> first | exact ⟨_, (chk_some h).2⟩ | simp at h)
  | (unfold binInt at h; split at h <;> first | exact ⟨_, h⟩ | exact ⟨_, (chk_some h).2⟩ | simp at h)
theorem opA_false {k : AK} (h : opA ρ ah gs false k ret = some r) : ∃ sv, ret sv = some r ∧ Idle gs sv := by
 have V : ∀ {x}, Idle gs (.g gs false x) := .inl ⟨_, rfl⟩
 have L : ∀ {d off}, Idle gs (.lref gs false d off) := .inr ⟨_, _, rfl⟩
 cases k <;> simp only [opA] at h
 case load s x =>
  obtain ⟨p, h⟩ := place_any h rfl
  cases p with
  | heap q =>
   cases s <;> simp only at h
   · obtain ⟨v, h⟩ := rdC_false h; exact ⟨_, h, V⟩
   · obtain ⟨v, h⟩ := rdV_false h; exact ⟨_, h, V⟩
   · obtain ⟨v, h⟩ := rdV_false h; exact ⟨_, h, V⟩
  | loc d off =>
   simp only at h
   split at h
   · simp at h
   · cases s <;> simp only at h
     · obtain ⟨v, h⟩ := rdC_false h; exact ⟨_, h, V⟩
     · obtain ⟨v, h⟩ := rdL_false (chk_some h).2; exact ⟨_, h, V⟩
     · exact ⟨_, (chk_some h).2, V⟩
 case fieldAddr off x =>
  obtain ⟨p, h⟩ := place_any h rfl
  cases p <;> exact ⟨_, h, by first | exact V | exact L⟩
 case field off s x =>
  split at h
  · cases s <;> simp only at h
    · obtain ⟨v, h⟩ := rdC_false h; exact ⟨_, h, V⟩
    · obtain ⟨v, h⟩ := rdL_false (chk_some h).2; exact ⟨_, h, V⟩
    · exact ⟨_, (chk_some h).2, V⟩
  · simp at h
 case indexArr len es x i =>
  split at h
  · obtain ⟨p, h⟩ := place_any h rfl
    cases p <;> exact ⟨_, (chk_some h).2, by first | exact V | exact L⟩
  · simp at h
 case bin tk op x y =>
  split at h
  · obtain ⟨v, h⟩ := binOpA_false h; exact ⟨_, h, V⟩
  · simp at h
 case nilCheck x =>
  split at h
  · simp at h
  · split at h
    · exact ⟨_, h, L⟩
    · split at h
      · exact ⟨_, h, L⟩
      · simp at h
    · split at h
      · split at h
        · obtain ⟨v, h⟩ := gb_false h; exact ⟨_, h, V⟩
        · exact ⟨_, h, V⟩
        · simp at h
      · simp at h
    · simp at h
 case lookup z s ok m k =>
  split at h
  · obtain ⟨f, h⟩ := gb_false h
    obtain ⟨v, h⟩ := rdW_false h
    split at h <;> exact ⟨_, h, V⟩
  · simp at h
 all_goals
  repeat' split at h
 all_goals first
  | (simp at h; done)
  | exact ⟨_, h, V⟩
  | exact ⟨_, (chk_some h).2, V⟩
  | exact ⟨_, (chkC_some h).2, V⟩
  | (obtain ⟨v, h⟩ := gb_false h; exact ⟨_, h, V⟩)
  | (obtain ⟨v, h⟩ := gb_false (chk_some h).2; exact ⟨_, h, V⟩)
  | (obtain ⟨v, h⟩ := rdC_false (chk_some h).2; exact ⟨_, h, V⟩)
  | (have h := (chk_some h).2; simp at h; done)
end
end Go.Proofs.Ytnmdadadjneaiaa.Abs
/- Operations that make blocks, and operations that turn memory. -/
set_option linter.unusedVariables false
set_option linter.unusedSimpArgs false
namespace Go.Proofs.Ytnmdadadjneaiaa.Abs
open Go
section
variable {P : Program} {φ : Phi} {β : Nat → Nat} {ρ : Nat → SV} {ah : Heap} {a : Act} {w : World} {gs : List (Nat × Bool)} {R : Type}
 {loc : Nat} {r : R}
theorem run_newRow (t : TypeId) (cs : Array Value) : (newRow t cs).run P w = .ok ⟨w.heap.size, 0, none⟩ (w.alloc (.cells cs t)) := by
 simp [newRow, Result.andThen]
theorem x_box (C : Ctx φ β ρ ah a w []) {dst type pos after guard} {t : TypeId} {x : Operand} {ax : AX} (hx : cX x = some ax) {v : AV} (hv : getV [] ρ ax = some v) (hs : solid v = true) :
 (execOp a.eval ⟨dst, .box t x, type, pos, after, guard⟩).run P w = .ok (.value (.pointer (some ⟨w.heap.size, 0, none⟩))) (w.alloc (.cells (a.eval x).cells t)) ∧ VRs φ (cellsOf v) (a.eval x).cells.toList := by
 refine ⟨?_, cellsOf_sound (getV_sound C hx hv) (solid_ne hs)⟩
 simp only [execOp, Instr.box, newVar, Sem.run_bind, run_newRow, Result.andThen, Sem.run_pure]
theorem x_alloc {dst type pos after guard} {t : TypeId} {z : List AV} (hz : zeroOf P t = some z) :
 ∃ cs : Array Value, (execOp a.eval ⟨dst, .alloc t, type, pos, after, guard⟩).run P w = .ok (.value (.pointer (some ⟨w.heap.size, 0, none⟩))) (w.alloc (.cells cs t)) ∧ VRs φ z cs.toList := by
 obtain ⟨i, v, hi, hzv, hr, _⟩ := zeroOf_sound (φ := φ) hz
 refine ⟨v.cells, ?_, hr⟩
 simp only [execOp, Instr.alloc, Sem.run_bind, run_zero hi hzv, newVar, run_newRow, Result.andThen, Sem.run_pure]
def akCls : AK → Nat
 | .boxL _ | .allocL _ | .boxH _ | .allocH _ => 1
 | .buildSl _ _ _ => 2
 | .makeMap => 3
 | .makeSl _ _ _ _ => 4
 | .store _ _ _ => 5
 | .mapUpdate _ _ _ => 6
 | .append _ _ _ _ _ => 7
 | .copy _ _ _ => 8
 | .clear _ _ => 9
 | .call _ _ _ _ | .callV _ _ _ _ => 10
 | _ => 0
def opCls : Op → Nat
 | .alloc _ | .box _ _ => 1
 | .buildSlice _ _ _ => 2
 | .makeMap _ _ => 3
 | .makeSlice _ _ _ => 4
 | .store _ _ _ => 5
 | .mapUpdate _ _ _ _ => 6
 | .call ⟨.builtin .append, _, _⟩ => 7
 | .call ⟨.builtin .copy, _, _⟩ => 8
 | .call ⟨.builtin .clear, _, _⟩ => 9
 | .call ⟨.value _, _, _⟩ => 10
 | _ => 0
theorem cOp_cls {o : Oper} {k : AK} (hk : cOp P loc o = some k) : akCls k = opCls o.op := by
 obtain ⟨dst, op, type, pos, after, guard⟩ := o
 cases op
 case call c =>
  obtain ⟨callee, args, ts⟩ := c
  cases callee with
  | builtin b =>
   simp only [cOp] at hk
   repeat' split at hk
   all_goals first
    | (simp at hk; done)
    | (simp only [Option.some.injEq] at hk; subst hk; rfl)
  | value f =>
   simp only [cOp] at hk
   split at hk <;> simp at hk <;> subst hk <;> rfl
  | invoke rv m => simp [cOp] at hk
 case makeFunc fn first cap =>
  cases fn with
  | func f => simp only [cOp] at hk; split at hk <;> simp at hk; subst hk; rfl
  | _ => simp [cOp] at hk
 case makeMap t rv =>
  cases rv with
  | none => simp [cOp] at hk; subst hk; rfl
  | some x => simp [cOp] at hk
 all_goals
  simp only [cOp] at hk
 all_goals
  first
  | (simp at hk; done)
  | (repeat' split at hk
     all_goals first
      | (simp at hk; done)
      | (simp only [Option.some.injEq] at hk; subst hk; rfl)
      | (simp only [Option.some.injEq] at hk; subst hk; split <;> rfl))
theorem isOp1 {op : Op} (h : 1 = opCls op) : (∃ t, op = .alloc t) ∨ (∃ t x, op = .box t x) := by
 unfold opCls at h
 split at h <;> first | exact .inl ⟨_, rfl⟩ | exact .inr ⟨_, _, rfl⟩ | (simp at h; done)
theorem isOp2 {op : Op} (h : 2 = opCls op) : ∃ t n ps, op = .buildSlice t n ps := by
 unfold opCls at h
 split at h <;> first | exact ⟨_, _, _, rfl⟩ | (simp at h; done)
theorem isOp3 {op : Op} (h : 3 = opCls op) : ∃ t n, op = .makeMap t n := by
 unfold opCls at h
 split at h <;> first | exact ⟨_, _, rfl⟩ | (simp at h; done)
theorem isOp4 {op : Op} (h : 4 = opCls op) : ∃ t l c, op = .makeSlice t l c := by
 unfold opCls at h
 split at h <;> first | exact ⟨_, _, _, rfl⟩ | (simp at h; done)
theorem isOp5 {op : Op} (h : 5 = opCls op) : ∃ t x y, op = .store t x y := by
 unfold opCls at h
 split at h <;> first | exact ⟨_, _, _, rfl⟩ | (simp at h; done)
theorem isOp6 {op : Op} (h : 6 = opCls op) : ∃ t m k x, op = .mapUpdate t m k x := by
 unfold opCls at h
 split at h <;> first | exact ⟨_, _, _, _, rfl⟩ | (simp at h; done)
theorem isOp7 {op : Op} (h : 7 = opCls op) : ∃ as ts, op = .call ⟨.builtin .append, as, ts⟩ := by
 unfold opCls at h
 split at h <;> first | exact ⟨_, _, rfl⟩ | (simp at h; done)
theorem isOp8 {op : Op} (h : 8 = opCls op) : ∃ as ts, op = .call ⟨.builtin .copy, as, ts⟩ := by
 unfold opCls at h
 split at h <;> first | exact ⟨_, _, rfl⟩ | (simp at h; done)
theorem isOp9 {op : Op} (h : 9 = opCls op) : ∃ as ts, op = .call ⟨.builtin .clear, as, ts⟩ := by
 unfold opCls at h
 split at h <;> first | exact ⟨_, _, rfl⟩ | (simp at h; done)
theorem isOp10 {op : Op} (h : 10 = opCls op) : ∃ f as ts, op = .call ⟨.value f, as, ts⟩ := by
 unfold opCls at h
 split at h <;> first | exact ⟨_, _, _, rfl⟩ | (simp at h; done)
theorem box_inv {dst type pos after guard} {t : TypeId} {x : Operand} {k : AK} (hk : cOp P loc ⟨dst, .box t x, type, pos, after, guard⟩ = some k) :
 ∃ ax, cX x = some ax ∧ (k = .boxL ax ∨ k = .boxH ax) := by
 simp only [cOp] at hk
 split at hk
 · rename_i ax d hx
   simp only [Option.some.injEq] at hk
   subst hk
   refine ⟨ax, hx, ?_⟩
   split
   · exact .inl rfl
   · exact .inr rfl
 · simp at hk
theorem alloc_inv {dst type pos after guard} {t : TypeId} {k : AK} (hk : cOp P loc ⟨dst, .alloc t, type, pos, after, guard⟩ = some k) :
 ∃ z, zeroOf P t = some z ∧ (k = .allocL z ∨ k = .allocH z) := by
 simp only [cOp] at hk
 split at hk
 · rename_i z d hz
   simp only [Option.some.injEq] at hk
   subst hk
   refine ⟨z, hz, ?_⟩
   split
   · exact .inl rfl
   · exact .inr rfl
 · simp at hk
theorem opX_sound (C : Ctx φ β ρ ah a w []) {o : Oper} {k : AK} (hk : cOp P loc o = some k) {ret : List AV → Option R} (h : opX ρ k ret = some r) :
 ∃ cs cells ty, ret cs = some r ∧ (execOp a.eval o).run P w = .ok (.value (.pointer (some ⟨w.heap.size, 0, none⟩))) (w.alloc (.cells cells ty)) ∧ VRs φ cs cells.toList := by
 have hc := cOp_cls hk
 obtain ⟨dst, op, type, pos, after, guard⟩ := o
 have h1 : 1 = opCls op := by
  cases k <;> simp only [opX] at h <;> first | exact hc | simp at h
 rcases isOp1 h1 with ⟨t, rfl⟩ | ⟨t, x, rfl⟩
 · obtain ⟨z, hz, rfl | rfl⟩ := alloc_inv hk
   · obtain ⟨cs, h2, h3⟩ := x_alloc (φ := φ) (a := a) (w := w) (dst := dst) (type := type) (pos := pos) (after := after) (guard := guard) hz
     exact ⟨z, cs, t, h, h2, h3⟩
   · simp [opX] at h
 · obtain ⟨ax, hx, rfl | rfl⟩ := box_inv hk
   · simp only [opX] at h
     split at h
     · rename_i v hv
       split at h
       · rename_i hs
         obtain ⟨h2, h3⟩ := x_box (dst := dst) (type := type) (pos := pos) (after := after) (guard := guard) (t := t) C hx hv hs
         exact ⟨_, _, t, h, h2, h3⟩
       · simp at h
     · simp at h
   · simp [opX] at h
inductive Born (φ : Phi) (w : World) : Blk → Obj → Stt → Prop where
 | cells {cs : List AV} {m : Mode} {cells : Array Value} {ty : TypeId} : CellsR φ cs 0 cells → m ≠ .ro → Born φ w (.cells cs m 0) (.cells cells ty) (.live ⟨w.heap.size, 0, 0, m, cells.size⟩)
 | map : Born φ w (.map []) (.map #[] 0) (.lmap w.heap.size)
theorem VRs.cellsR {cs : List AV} {cells : Array Value} (h : VRs φ cs cells.toList) : CellsR φ cs 0 cells :=
 ⟨by have := h.1; simp at this; omega, fun i x hx => by obtain ⟨y, hy, hv⟩ := h.get hx; exact ⟨y, by simpa using hy, hv⟩⟩
theorem ptr_born {n : Nat} {m : Mode} {sz : Nat} : ∀ φ' : Phi, φ' n = .live ⟨w.heap.size, 0, 0, m, sz⟩ → VR φ' (.ptr (some ⟨n, 0, 0⟩)) (.pointer (some ⟨w.heap.size, 0, none⟩)) := by
 intro φ' h
 refine .ptr ?_
 unfold AddrR
 simp only [h]
 exact ⟨Nat.le_refl _, fun _ => by trivial⟩
theorem sl_born {n len cap es sz : Nat} (hc : cap * es = sz) (hl : len ≤ cap) : ∀ φ' : Phi, φ' n = .live ⟨w.heap.size, 0, 0, .grow es, sz⟩ → VR φ' (.sl (.pos ⟨n, 0, 0⟩) len) (.slice (some ⟨w.heap.size, 0, none⟩) len cap) := by
 intro φ' h
 refine .sl ?_ ?_ hl
 · unfold AddrR
   simp only [h]
   exact ⟨Nat.le_refl _, fun _ => by trivial⟩
 · unfold CapR
   simp only [h]
   intro _ e he
   cases he
   omega
theorem repl_length (n : Nat) (z : List AV) : (repl n z).length = n * z.length := by
 unfold repl
 split
 · simp
 · simp
theorem flatten_rep_get {z : List AV} : ∀ (n i : Nat), i < n * z.length → (List.replicate n z).flatten[i]? = z[i % z.length]? := by
 intro n
 induction n with
 | zero => intro i h; simp at h
 | succ n ih =>
  intro i h
  rw [List.replicate_succ, List.flatten_cons]
  by_cases hc : i < z.length
  · rw [List.getElem?_append_left hc, Nat.mod_eq_of_lt hc]
  · rw [List.getElem?_append_right (by omega), ih (i - z.length) (by rw [Nat.succ_mul] at h; omega)]
    rw [← Nat.mod_eq_sub_mod (by omega)]
theorem repl_get {z : List AV} (n i : Nat) (h : i < n * z.length) : (repl n z)[i]? = z[i % z.length]? := by
 unfold repl
 split
 · rename_i x
   simp only [List.length_singleton, Nat.mul_one] at h
   rw [List.getElem?_replicate, if_pos h, List.length_singleton, Nat.mod_one]
   rfl
 · exact flatten_rep_get n i h
theorem zeros_vr {z : List AV} {zv : Array Value} (hz : VRs φ z zv.toList) (n m : Nat) (hnm : n ≤ m) (hpos : 0 < z.length) :
 CellsR φ (repl n z) 0 ((Array.range (m * zv.size)).map (zv[· % zv.size]!)) := by
 have hl : z.length = zv.size := by have := hz.1; simpa using this
 have hle : n * zv.size ≤ m * zv.size := Nat.mul_le_mul_right _ hnm
 constructor
 · rw [repl_length, hl]
   simp
   exact hle
 · intro i x hx
   have hi : i < n * z.length := by
    have := (List.getElem?_eq_some_iff.1 hx).1
    rwa [repl_length] at this
   rw [repl_get n i hi] at hx
   obtain ⟨y, hy, hv⟩ := hz.get hx
   refine ⟨y, ?_, hv⟩
   have hi' : i < m * zv.size := by rw [hl] at hi; omega
   have hmod : i % zv.size < zv.size := Nat.mod_lt _ (by omega)
   rw [Nat.zero_add]
   have : ((Array.range (m * zv.size)).map (zv[· % zv.size]!))[i]? = some (zv[i % zv.size]!) := by
    simp [hi']
   rw [this]
   rw [hl] at hy
   have : zv[i % zv.size]? = some y := by simpa using hy
   simp [getElem!_def, this]
theorem parts_es {es : Nat} : ∀ {l : List (Nat × Operand)} {j : Nat} {r : List (Nat × AX)}, cPartsS es j l = some r →
 cParts (fun i => some (i * es, es)) l = some (r.map fun p => (p.1, es, p.2)) ∧ r.length = l.length := by
 intro l
 induction l with
 | nil => intro j r h; simp [cPartsS] at h; subst h; exact ⟨rfl, rfl⟩
 | cons p l ih =>
  obtain ⟨i, x⟩ := p
  intro j r h
  simp only [cPartsS] at h
  split at h
  · rename_i hij
    split at h
    · rename_i a' r' h1 h2
      simp only [Option.some.injEq] at h
      subst h
      obtain ⟨g1, g2⟩ := ih h2
      exact ⟨by simp [cParts, h1, g1], by simp [g2]⟩
    · simp at h
  · simp at h
theorem wrapI {n : Int} (h0 : -9223372036854775808 ≤ n) (h1 : n < 9223372036854775808) : IntKind.i64.wrap n = n := by
 simp only [IntKind.wrap, IntKind.bits, IntKind.signed, Bool.true_and, decide_eq_true_eq, ge_iff_le]
 split <;> omega
theorem opB_sound (C : Ctx φ β ρ ah a w []) {o : Oper} {k : AK} (hk : cOp P loc o = some k) {n : Nat} {ret : AV → Blk → Option R} (h : opB ρ k n ret = some r) :
 ∃ x blk obj vc st, ret x blk = some r ∧ (execOp a.eval o).run P w = .ok (.value vc) (w.alloc obj) ∧ Born φ w blk obj st ∧ (∀ φ' : Phi, φ' n = st → VR φ' x vc) := by
 have hc := cOp_cls hk
 obtain ⟨dst, op, type, pos, after, guard⟩ := o
 cases k <;> simp only [opB] at h <;> try (simp at h; done)
 case boxH x =>
  rcases isOp1 hc with ⟨t, rfl⟩ | ⟨t, y, rfl⟩
  · obtain ⟨z, hz, e | e⟩ := alloc_inv hk <;> cases e
  · obtain ⟨ax, hx, e | e⟩ := box_inv hk <;> cases e
    split at h
    · rename_i v hv
      split at h
      · rename_i hs
        obtain ⟨h2, h3⟩ := x_box (dst := dst) (type := type) (pos := pos) (after := after) (guard := guard) (t := t) C hx hv hs
        exact ⟨_, _, _, _, _, h, h2, .cells h3.cellsR (by simp), ptr_born⟩
      · simp at h
    · simp at h
 case allocH z =>
  rcases isOp1 hc with ⟨t, rfl⟩ | ⟨t, y, rfl⟩
  · obtain ⟨z, hz, e | e⟩ := alloc_inv hk <;> cases e
    obtain ⟨cs, h2, h3⟩ := x_alloc (φ := φ) (a := a) (w := w) (dst := dst) (type := type) (pos := pos) (after := after) (guard := guard) hz
    exact ⟨_, _, _, _, _, h, h2, .cells h3.cellsR (by simp), ptr_born⟩
  · obtain ⟨ax, hx, e | e⟩ := box_inv hk <;> cases e
 case buildSl z es ps =>
  obtain ⟨t, len, qs, rfl⟩ := isOp2 hc
  simp only [cOp] at hk
  split at hk
  · rename_i e hu
    split at hk
    · rename_i z0 m rr hz0 hm hr
      split at hk
      · rename_i hcond
        obtain ⟨hlen, hbig, hpos⟩ := hcond
        simp only [Option.some.injEq, AK.buildSl.injEq] at hk
        obtain ⟨rfl, rfl, rfl⟩ := hk
        rw [hm, Option.getD_some] at hr
        obtain ⟨hp, hpl⟩ := parts_es hr
        split at h
        · rename_i vs hvs
          rw [Option.bind_eq_some_iff] at h
          obtain ⟨cs, hcs, h⟩ := h
          obtain ⟨i, zv, hi, hzv, hzr, hzl⟩ := zeroOf_sound (φ := φ) hz0
          have hsz : i.size = m := by
           obtain ⟨i', hi', rfl⟩ := size_of_info hm
           rw [hi] at hi'; cases hi'; rfl
          have hzs : zv.cells.size = m := by have := hzr.1; simp at this; omega
          have hz := zeros_vr (φ := φ) hzr len len (Nat.le_refl _) (by omega)
          rw [hzs] at hz
          have hz' : VRs φ (repl len z0) ((Array.range (len * m)).map (zv.cells[· % zv.cells.size]!)).toList := by
           rw [hzs]
           refine ⟨by rw [repl_length]; simp; rw [hzl, hsz], fun i x y hx hy => ?_⟩
           obtain ⟨y', hy', hv⟩ := hz.get i x hx
           rw [Nat.zero_add] at hy'
           have : y' = y := by
            rw [Array.getElem?_toList] at hy
            rw [hy'] at hy
            exact Option.some.inj hy
           rw [← this]
           exact hv
          obtain ⟨cs', hf, hv⟩ := parts_sound C (pl' := fun i => some (i * m, m)) (fun i p hp => hp) hp hvs hz' hcs
          have hmp : (qs.map fun (i, x) => (i, a.eval x)).toList = qs.toList.map fun p => (p.1, a.eval p.2) := by simp
          refine ⟨_, _, .cells cs' e, .slice (some ⟨w.heap.size, 0, none⟩) len len, .live ⟨w.heap.size, 0, 0, .grow m, cs'.size⟩, h, ?_, .cells hv.cellsR (by simp), ?_⟩
          · have hb : ¬ len * m > 2 ^ 24 := by omega
            by_cases h0 : len * m = 0
            · have hr : (Array.range (len * m)).map ((#[] : Array Value)[· % (#[] : Array Value).size]!) = ((Array.range (len * m)).map (zv.cells[· % zv.cells.size]!)) := by rw [h0]; simp
              simp only [execOp, Instr.buildSlice, Sem.run_bind, run_under hu, run_size hm, Result.andThen, hmp, if_neg hb, if_pos h0, Sem.run_pure, hr, hf, run_newRow]
            · simp only [execOp, Instr.buildSlice, Sem.run_bind, run_under hu, run_size hm, Result.andThen, hmp, if_neg hb, if_neg h0, Sem.run_pure, run_zero hi hzv, hf, run_newRow]
          · rw [hlen]
            refine sl_born ?_ (Nat.le_refl _)
            have h1 := hv.1
            have hcl : cs.length = (repl len z0).length := by
             have : ∀ (vs : List (Nat × Nat × List AV)) (z cs : List AV), buildGo z vs = some cs → cs.length = z.length := by
              intro vs
              induction vs with
              | nil => intro z cs h; simp [buildGo] at h; rw [h]
              | cons p vs ih =>
               intro z cs h
               simp only [buildGo] at h
               split at h
               · rename_i hc
                 rw [ih _ _ h, splice_length _ _ _ (by omega)]
               · simp at h
             exact this _ _ _ hcs
            rw [repl_length] at hcl
            simp at h1
            rw [← h1, hcl, hzl, hsz]
        · simp at h
      · simp at hk
    · simp at hk
  · simp at hk
 case makeMap =>
  obtain ⟨t, rv, rfl⟩ := isOp3 hc
  cases rv with
  | some x => simp [cOp] at hk
  | none =>
   refine ⟨_, _, .map #[] 0, .map (some w.heap.size), .lmap w.heap.size, h, ?_, .map, fun φ' h' => .map h'⟩
   simp [execOp, Instr.makeMap, Result.andThen]
 case makeSl z bytes len cap =>
  obtain ⟨t, l0, c0, rfl⟩ := isOp4 hc
  simp only [cOp] at hk
  split at hk
  · rename_i e hu
    split at hk
    · rename_i z0 nb al ac hz0 hnb hal hac
      split at hk
      · rename_i hpos
        simp only [Option.some.injEq, AK.makeSl.injEq] at hk
        obtain ⟨rfl, rfl, rfl, rfl⟩ := hk
        split at h
        · rename_i l c hl hcv
          obtain ⟨⟨h0, hlc, hcb⟩, h⟩ := chk_some h
          have e1 := vr_int (getV_sound C hal hl)
          have e2 := vr_int (getV_sound C hac hcv)
          obtain ⟨i, zv, hi, hzv, hzr, hzl⟩ := zeroOf_sound (φ := φ) hz0
          have hbytes : i.bytes = nb := by
           unfold bytesOfT at hnb
           rw [hi] at hnb
           simpa using hnb
          have hsize : zv.cells.size = i.size := by have := hzr.1; simp at this; omega
          have hnbpos : 0 < nb := hpos.2
          have hc46 : c ≤ 70368744177664 := by
           have h1 : c * 1 ≤ c * nb := Int.mul_le_mul_of_nonneg_left (by omega) (by omega)
           omega
          have w1 : IntKind.i64.wrap l = l := wrapI (by omega) (by omega)
          have w2 : IntKind.i64.wrap c = c := wrapI (by omega) (by omega)
          have hcn : ((c.toNat : Nat) : Int) = c := Int.toNat_of_nonneg (by omega)
          have hlarge : ∀ n : Int, 0 ≤ n → n ≤ c → (decide (n < 0) || decide ((nb : Int) * n > 2 ^ 48)) = false := by
           intro n g1 g2
           have h1 : n * nb ≤ c * nb := Int.mul_le_mul_of_nonneg_right g2 (by omega)
           have h2 : (nb : Int) * n = n * nb := Int.mul_comm _ _
           simp only [Bool.or_eq_false_iff, decide_eq_false_iff_not]
           omega
          have hroom : (askRoom (c.toNat * nb)).run P w = .ok () w := by
           unfold askRoom
           split <;> rfl
          have hsz : (Go.sizeOf e).run P w = .ok i.size w := by simp [Go.sizeOf, run_typeInfo' hi, Result.andThen]
          refine ⟨_, _, .cells ((Array.range (c.toNat * zv.cells.size)).map (zv.cells[· % zv.cells.size]!)) e, .slice (some ⟨w.heap.size, 0, none⟩) l.toNat c.toNat, _, h, ?_,
           .cells (zeros_vr hzr l.toNat c.toNat (by omega) hpos.1) (by simp), sl_born ?_ (by omega)⟩
          · have hl1 := hlarge c (by omega) (Int.le_refl _)
            simp only [execOp, Instr.makeSlice, Sem.run_bind, run_under hu, e1, e2, asInt, asIntOf, Sem.run_pure, run_typeInfo' hi, hbytes, Result.andThen, w1, w2, hl1, Bool.false_or]
            have hl2 : (decide (l < 0) || decide (l > c)) = false := by simp; omega
            by_cases hc0 : c.toNat * i.size = 0
            · have hr : (Array.range (c.toNat * i.size)).map ((#[] : Array Value)[· % (#[] : Array Value).size]!) = ((Array.range (c.toNat * zv.cells.size)).map (zv.cells[· % zv.cells.size]!)) := by rw [hsize, hc0]; simp
              simp only [hl2, Bool.false_eq_true, if_false, Sem.run_bind, hroom, Result.andThen, hsz, if_pos hc0, Sem.run_pure, hr, run_newRow]
            · simp only [hl2, Bool.false_eq_true, if_false, Sem.run_bind, hroom, Result.andThen, hsz, if_neg hc0, run_zero hi hzv, hsize, run_newRow, Sem.run_pure]
          · rw [hzl, ← hsize]; simp
        · simp at h
      · simp at hk
    · simp at hk
  · simp at hk
end
end Go.Proofs.Ytnmdadadjneaiaa.Abs
/- Operations that turn memory: stores, clear, maps, append, copy. -/
set_option linter.unusedVariables false
set_option linter.unusedSimpArgs false
namespace Go.Proofs.Ytnmdadadjneaiaa.Abs
open Go
section
variable {P : Program} {φ : Phi} {β : Nat → Nat} {ρ : Nat → SV} {ah : Heap} {a : Act} {w : World} {R : Type}
 {loc : Nat} {r : R}
structure Eff (φ φ' : Phi) (n : Nat) (ah' : Heap) (w w' : World) : Prop where
 le : Le φ φ'
 sim : Sim φ' ah' w'
 fr : Fr (Owns φ) w w'
 cb : ∀ b k, cbOf (φ' b) = some k → (∃ b', cbOf (φ b') = some k) ∨ w.heap.size ≤ k
 own : ∀ k, Owns φ' k → Owns φ k ∨ w.heap.size ≤ k
 len : n ≤ ah'.length
 un : ∀ b, b < n → φ b = .unborn → φ' b = .unborn
theorem Eff.same {ah' : Heap} {w' : World} {n : Nat} (s : Sim φ ah' w') (f : Fr (Owns φ) w w') (hl : n ≤ ah'.length) : Eff φ φ n ah' w w' :=
 ⟨Le.refl φ, s, f, fun b k h => .inl ⟨b, h⟩, fun k h => .inl h, hl, fun _ _ h => h⟩
theorem stN_len {h h' : Heap} {p : Ad} {xs : List AV} (hs : stN h p xs = some h') : h.length ≤ h'.length := by
 unfold stN at hs
 split at hs
 · split at hs
   · simp only [Option.some.injEq] at hs
     subst hs
     simp
   · simp at hs
 · simp at hs
structure BoxEff (φ : Phi) (β : Nat → Nat) (d : Nat) (cs : List AV) (ah : Heap) (w w' : World) : Prop where
 fr : Fr (· = β d) w w'
 size : w'.heap.size = w.heap.size
 box : ∃ cc ty, w'.heap[β d]? = some (.cells cc ty (0, 0)) ∧ CellsR φ cs 0 cc
theorem boxAt_box {d : Nat} {cs : List AV} (h : boxAt ρ d = some cs) : ∃ cs0, ρ d = .box cs0 := by
 unfold boxAt at h
 split at h
 · exact ⟨_, by assumption⟩
 · simp at h
def MOk (P : Program) (φ : Phi) (β : Nat → Nat) (ρ : Nat → SV) (ah : Heap) (a : Act) (w : World) (o : Oper) (x : AV) (h' : Heap) (up : Up) : Prop :=
 ∃ nx vc w', (execOp a.eval o).run P w = .ok nx w' ∧ (nx = .value vc ∨ (nx = .skip ∧ vc = undef)) ∧
  match up with
  | none => ∃ φ', Eff φ φ' ah.length h' w w' ∧ VR φ' x vc
  | some (d, cs) => h' = ah ∧ VR φ x vc ∧ BoxEff φ β d cs ah w w' ∧ ∃ cs0, ρ d = .box cs0
theorem Sim.of_heap {ah : Heap} {w w' : World} (S : Sim φ ah w) (h : w'.heap = w.heap) : Sim φ ah w' := by
 constructor
 · intro b r hr; rw [h]; exact S.live b r hr
 · intro b c hr; rw [h]; exact S.map b c hr
 · exact S.dead
 · exact S.inj
theorem box_store {d : Nat} {cs xs : List AV} {ys : List Value} {cc : Array Value} {ty : TypeId} {off : Nat} (hw : w.heap[β d]? = some (.cells cc ty (0, 0))) (hc : CellsR φ cs 0 cc)
 (hx : VRs φ xs ys) (hf : flatL xs = true) (hle : off + xs.length ≤ cs.length) :
 ∃ w', (storeCells ⟨β d, off, none⟩ ys).run P w = .ok () w' ∧ BoxEff φ β d (splice off xs cs) ah w w' := by
 have hlen := hc.len
 have hxy := hx.1
 have hrun := run_storeCells_at (P := P) (β d) off ty ys 0 cc w hw (by omega) (flat_cells hx hf)
 refine ⟨_, hrun, ⟨rfl, rfl, rfl, by rw [setRow_size]; exact Nat.le_refl _, fun k hk hno => setRow_get _ _ _ _ hno⟩, setRow_size _ _ _, ?_⟩
 refine ⟨_, ty, setRow_heap _ _ _ _ _ _ hw, ?_⟩
 have := hc.spliced hle hx
 simpa using this
theorem run_storeVar {t : TypeId} {n : Nat} (hn : sizeOfT P t = some n) {ad : Addr} {v : Value} (hv : v.cells.size = n) :
 (storeVar t ad v).run P w = (storeCells ad v.cells.toList).run P w := by
 simp [storeVar, run_size hn, Result.andThen, hv]
theorem flat_one {x : AV} (h : flatA x = true) : flatL [x] = true := by simp [flatL, h]
theorem m_store (C : Ctx φ β ρ ah a w []) {dst type pos after guard} {t : TypeId} {x y : Operand} {k : AK} (hk : cOp P loc ⟨dst, .store t x y, type, pos, after, guard⟩ = some k)
 {ret : AV → Heap → Up → Option R} (h : opM ρ ah k ret = some r) :
 ∃ v h' up, ret v h' up = some r ∧ MOk P φ β ρ ah a w ⟨dst, .store t x y, type, pos, after, guard⟩ v h' up := by
 simp only [cOp] at hk
 split at hk
 · rename_i n ax ay hn hx hy
   simp only [Option.some.injEq] at hk
   subst hk
   simp only [opM] at h
   split at h
   · rename_i v hv
     have e := getV_sound C hy hv
     obtain ⟨p, h, hp⟩ := place_sound C hx h
     have run : ∀ (ad : Addr) (w' : World), a.eval x = .pointer (some ad) → (a.eval y).cells.size = n → (storeCells ad (a.eval y).cells.toList).run P w = .ok () w' →
      (execOp a.eval ⟨dst, .store t x y, type, pos, after, guard⟩).run P w = .ok .skip w' := by
      intro ad w' he hsz hst
      simp only [execOp, he, Instr.storeAt, Instr.sureAddr, Sem.run_bind, Sem.run_pure, Result.andThen, run_storeVar hn hsz, hst]
     have fin : ∀ (xs : List AV) (hx : cellsOf v = xs) (hl : xs.length = n) (hf : flatL xs = true),
      (∀ q h', stN ah q xs = some h' → p = .heap q → ∃ v h'' up, ret (.tup []) h' none = some r → ret v h'' up = some r ∧ MOk P φ β ρ ah a w ⟨dst, .store t x y, type, pos, after, guard⟩ v h'' up) ∧
      (∀ d off cs, boxAt ρ d = some cs → p = .loc d off → off + n ≤ cs.length → ∃ v h'' up, ret (.tup []) ah (some (d, splice off xs cs)) = some r → ret v h'' up = some r ∧ MOk P φ β ρ ah a w ⟨dst, .store t x y, type, pos, after, guard⟩ v h'' up) := by
      intro xs hxs hl hf
      have hne : v ≠ .opq := by
       rintro rfl
       rw [← hxs] at hf
       simp [cellsOf, flatL, flatA] at hf
      have hc := cellsOf_sound e hne
      rw [hxs] at hc
      have hsz : (a.eval y).cells.size = n := by have := hc.1; simp at this; omega
      refine ⟨fun q h' hst hpq => ?_, fun d off cs hb hpl hle => ?_⟩
      · subst hpq
        obtain ⟨a', he, ha⟩ := hp
        obtain ⟨w', g1, g2, g3⟩ := stN_sound P C.S ha hc hf hst
        exact ⟨.tup [], h', none, fun hr => ⟨hr, .skip, undef, w', run a' w' he hsz g1, .inr ⟨rfl, rfl⟩, φ, .same g2 g3 (stN_len hst), .tup rfl (fun i x y h => by simp at h)⟩⟩
      · subst hpl
        obtain ⟨cc, ty, hw, hcc⟩ := boxAt_sound C hb
        obtain ⟨w', g1, g2⟩ := box_store (P := P) (ah := ah) (off := off) hw hcc hc hf (by omega)
        exact ⟨.tup [], ah, _, fun hr => ⟨hr, .skip, undef, w', run _ w' hp hsz g1, .inr ⟨rfl, rfl⟩, rfl, .tup rfl (fun i x y h => by simp at h), g2, boxAt_box hb⟩⟩
     cases p with
     | heap q =>
      simp only at h
      split at h
      · split at h
        · rename_i z hz
          obtain ⟨hfz, h⟩ := chk_some h
          rw [Option.bind_eq_some_iff] at h
          obtain ⟨h', hst, h⟩ := h
          rw [st1_eq] at hst
          obtain ⟨v', h'', up, hh⟩ := (fin [z] hz rfl (flat_one hfz)).1 q h' hst rfl
          exact ⟨v', h'', up, hh h⟩
        · simp at h
      · rename_i hn1
        obtain ⟨⟨hl, hf⟩, h⟩ := chk_some h
        rw [Option.bind_eq_some_iff] at h
        obtain ⟨h', hst, h⟩ := h
        obtain ⟨v', h'', up, hh⟩ := (fin _ rfl hl hf).1 q h' hst rfl
        exact ⟨v', h'', up, hh h⟩
     | loc d off =>
      simp only at h
      split at h
      · simp at h
      · rename_i cs hcs
        split at h
        · split at h
          · rename_i z hz
            obtain ⟨⟨hfz, hlt⟩, h⟩ := chk_some h
            rw [← splice_set _ _ _ hlt] at h
            obtain ⟨v', h'', up, hh⟩ := (fin [z] hz rfl (flat_one hfz)).2 d off cs hcs rfl (by omega)
            exact ⟨v', h'', up, hh h⟩
          · simp at h
        · obtain ⟨⟨hl, hf, hle⟩, h⟩ := chk_some h
          obtain ⟨v', h'', up, hh⟩ := (fin _ rfl hl hf).2 d off cs hcs rfl hle
          exact ⟨v', h'', up, hh h⟩
   · simp at h
 · simp at hk
theorem toL1 {α : Type} {xs : Array α} {x : α} (h : xs.toList = [x]) : xs = #[x] := by apply Array.ext'; simpa using h
theorem toL2 {α : Type} {xs : Array α} {x y : α} (h : xs.toList = [x, y]) : xs = #[x, y] := by apply Array.ext'; simpa using h
theorem cXs1 {l : List Operand} {a : AX} (h : cXs l = some [a]) : ∃ x, l = [x] ∧ cX x = some a := by
 cases l with
 | nil => simp [cXs] at h
 | cons x l =>
  simp only [cXs] at h
  split at h
  · rename_i b r h1 h2
    simp only [Option.some.injEq, List.cons.injEq] at h
    obtain ⟨rfl, rfl⟩ := h
    cases l with
    | nil => exact ⟨x, rfl, h1⟩
    | cons y l => simp only [cXs] at h2; split at h2 <;> simp at h2
  · simp at h
theorem cXs2 {l : List Operand} {a b : AX} (h : cXs l = some [a, b]) : ∃ x y, l = [x, y] ∧ cX x = some a ∧ cX y = some b := by
 cases l with
 | nil => simp [cXs] at h
 | cons x l =>
  simp only [cXs] at h
  split at h
  · rename_i b' r h1 h2
    simp only [Option.some.injEq, List.cons.injEq] at h
    obtain ⟨rfl, rfl⟩ := h
    obtain ⟨y, rfl, h3⟩ := cXs1 h2
    exact ⟨x, y, rfl, h1, h3⟩
  · simp at h
theorem run_builtin {dst type pos after guard} {b : Builtin} {args : Array Operand} {ts : Array TypeId} {nx : Next} {w' : World}
 (h : (builtin b ts type (args.map fun | .const _ => true | _ => false) (args.map a.eval)).run P w = .ok nx w') :
 (execOp a.eval ⟨dst, .call ⟨.builtin b, args, ts⟩, type, pos, after, guard⟩).run P w = .ok nx w' := by
 simp only [execOp, resolve, Sem.run_bind, Sem.run_pure, Result.andThen, invoke]
 exact h
theorem flatL_iff {l : List AV} : flatL l = true ↔ ∀ x ∈ l, flatA x = true := by
 induction l with
 | nil => simp [flatL]
 | cons x l ih => simp [flatL, ih]
theorem flat_repl {z : List AV} (h : flatL z = true) (n : Nat) : flatL (repl n z) = true := by
 rw [flatL_iff] at h ⊢
 intro x hx
 unfold repl at hx
 split at hx
 · rw [List.mem_replicate] at hx
   rw [hx.2]
   exact h _ (by simp)
 · rw [List.mem_flatten] at hx
   obtain ⟨l, hl, hx⟩ := hx
   rw [List.mem_replicate] at hl
   rw [hl.2] at hx
   exact h x hx
theorem m_clear (C : Ctx φ β ρ ah a w []) {dst type pos after guard} {args : Array Operand} {ts : Array TypeId} {k : AK}
 (hk : cOp P loc ⟨dst, .call ⟨.builtin .clear, args, ts⟩, type, pos, after, guard⟩ = some k)
 {ret : AV → Heap → Up → Option R} (h : opM ρ ah k ret = some r) :
 ∃ v h' up, ret v h' up = some r ∧ MOk P φ β ρ ah a w ⟨dst, .call ⟨.builtin .clear, args, ts⟩, type, pos, after, guard⟩ v h' up := by
 simp only [cOp] at hk
 split at hk <;> try (simp at hk; done)
 all_goals try (rename_i hq; simp at hq; done)
 all_goals try (rename_i hq _ _; simp at hq; done)
 rename_i ax t hb hargs hts
 split at hk
 · rename_i e hu
   split at hk
   · rename_i z hz
     split at hk
     · rename_i hpos
       simp only [Option.some.injEq] at hk
       subst hk
       obtain ⟨x, hx1, hx⟩ := cXs1 hargs
       have hx1 := toL1 hx1
       have hts := toL1 hts
       subst hx1; subst hts
       simp only [opM] at h
       split at h
       · rename_i sa n hsa
         rw [Option.bind_eq_some_iff] at h
         obtain ⟨h', hst, h⟩ := h
         have e1 := getV_sound C hx hsa
         obtain ⟨i, zv, hi, hzv, hzr, hzl⟩ := zeroOf_sound (φ := φ) hz
         cases n with
         | zero =>
          simp only [Option.some.injEq] at hst
          subst hst
          refine ⟨.tup [], ah, none, h, .value (.tuple #[]), _, w, run_builtin ?_, .inl rfl, φ, .same C.S (.refl _ _) (Nat.le_refl _), .tup rfl (fun i x y h => by simp at h)⟩
          obtain ⟨o, c, hv, _⟩ := vr_sl_shape e1
          cases o <;> simp [builtin, Builtin.clear_, hv, run_under hu, Result.andThen]
         | succ n =>
          cases sa with
          | pos q =>
           simp only at hst
           generalize hev : a.eval x = vx at e1
           cases e1 with
           | sl ha hc hn =>
            rename_i a' c
            have hzc := zeros_vr (φ := φ) hzr (n + 1) (n + 1) (Nat.le_refl _) hpos.1
            have hzs : VRs φ (repl (n + 1) z) (Builtin.zeroCells zv.cells (n + 1)).toList := by
             have hl : z.length = zv.cells.size := by have := hzr.1; simpa using this
             refine ⟨by rw [repl_length]; simp [Builtin.zeroCells, hl], fun i x y hx hy => ?_⟩
             obtain ⟨y', hy', hv⟩ := hzc.get i x hx
             rw [Nat.zero_add] at hy'
             rw [Array.getElem?_toList] at hy
             have : (Builtin.zeroCells zv.cells (n + 1))[i]? = some y' := hy'
             rw [this] at hy
             cases hy
             exact hv
            have hflat : flatL (repl (n + 1) z) = true := by
             exact flat_repl hpos.2 _
            obtain ⟨w', g1, g2, g3⟩ := stN_sound P C.S ha hzs hflat hst
            refine ⟨.tup [], h', none, h, .value (.tuple #[]), _, w', run_builtin ?_, .inl rfl, φ, .same g2 g3 (stN_len hst), .tup rfl (fun i x y h => by simp at h)⟩
            simp only [builtin, Builtin.clear_, hev, run_under hu, run_zero hi hzv, Sem.run_bind, Sem.run_pure, Result.andThen, g1, List.map_toArray, List.map_cons, List.map_nil]
            simp [run_under hu, run_zero hi hzv, g1, Result.andThen]
          | _ => simp at hst
       · simp at h
     · simp at hk
   · simp at hk
 · simp at hk
theorem mapPut_sound {kk : IntKind} {ka x : AV} {vk vx : Value} (e2 : VR φ ka vk) (e3 : VR φ x vx) : ∀ (es : List (AV × AV)) (ms : List MapEntry) (i : Nat) {es' : List (AV × AV)}, MapR φ es ms → mapPut ka x es = some es' →
 ∃ q, Instr.findNow (.int kk) vk ms i = some q ∧
  (q = none → ∀ cl, MapR φ es' (ms ++ [⟨vk, vx, cl⟩])) ∧
  (∀ j u, q = some (j, u) → i ≤ j ∧ (∃ e, ms[j - i]? = some e ∧ e.key = vk) ∧ MapR φ es' (ms.modify (j - i) fun e => { e with key := vk, val := vx })) := by
 intro es
 induction es with
 | nil =>
  intro ms i es' hr hp
  cases hr
  simp [mapPut] at hp; subst hp
  exact ⟨none, rfl, fun _ cl => .cons e2 e3 .nil, fun j u h => by simp at h⟩
 | cons p es ih =>
  intro ms i es' hr hp
  cases hr with
  | cons g1 g2 g3 =>
   rename_i k1 v1 e0 es0
   cases ka with
   | int k2 x2 =>
    cases k1 with
    | int k3 x3 =>
     simp only [mapPut] at hp
     have e2' := vr_int e2
     subst e2'
     have e3' := vr_int g1
     split at hp
     · rename_i hkk
       subst hkk
       split at hp
       · rename_i hx
         subst hx
         simp at hp; subst hp
         refine ⟨some (i, e0.val), by simp [Instr.findNow, Instr.sameNow, e3'], fun h => by simp at h, fun j u h => ?_⟩
         simp at h
         obtain ⟨rfl, rfl⟩ := h
         refine ⟨Nat.le_refl _, ⟨e0, by simp, e3'⟩, ?_⟩
         simp only [Nat.sub_self, List.modify_zero_cons]
         exact .cons e2 e3 g3
       · rename_i hx
         split at hp
         · rename_i r hr
           simp at hp; subst hp
           obtain ⟨q, hq1, hq2, hq3⟩ := ih es0 (i + 1) g3 hr
           have hne : (x2 == x3) = false := by simpa using hx
           refine ⟨q, ?_, fun h cl => .cons g1 g2 (hq2 h cl), fun j u h => ?_⟩
           · simp only [Instr.findNow, Instr.sameNow, e3', if_true, hne]
             exact hq1
           · obtain ⟨h1, ⟨e, he, hek⟩, h3⟩ := hq3 j u h
             have hji : j - i = (j - (i + 1)) + 1 := by omega
             refine ⟨by omega, ⟨e, by rw [hji]; simpa using he, hek⟩, ?_⟩
             rw [hji]
             simp only [List.modify_succ_cons]
             exact .cons g1 g2 h3
         · simp at hp
     · simp at hp
    | _ => simp [mapPut] at hp
   | _ => cases k1 <;> simp [mapPut] at hp
theorem setObj_sound (S : Sim φ ah w) {b cb : Nat} (hb : φ b = .lmap cb) {es' : List (AV × AV)} {ces' : Array MapEntry} {clk : Nat} (hm : MapR φ es' ces'.toList) :
 (setObj cb (.map ces' clk)).run P w = .ok () { w with heap := w.heap.setIfInBounds cb (.map ces' clk) } ∧
 Sim φ (ah.set b (.map es')) { w with heap := w.heap.setIfInBounds cb (.map ces' clk) } ∧ Fr (Owns φ) w { w with heap := w.heap.setIfInBounds cb (.map ces' clk) } := by
 obtain ⟨es, ces, clk0, g1, g2, g3⟩ := S.map b cb hb
 have hlt : cb < w.heap.size := (Array.getElem?_eq_some_iff.1 g2).1
 have hbl : b < ah.length := (List.getElem?_eq_some_iff.1 g1).1
 have hother : ∀ k, k ≠ cb → (w.heap.setIfInBounds cb (.map ces' clk))[k]? = w.heap[k]? := fun k hk => by rw [Array.getElem?_setIfInBounds_ne (Ne.symm hk)]
 have hset : ∀ k, k ≠ b → (ah.set b (.map es'))[k]? = ah[k]? := fun k hk => by rw [List.getElem?_set, if_neg (Ne.symm hk)]
 refine ⟨by simp [setObj, Sem.run, g2], ?_, ?_⟩
 · constructor
   · intro k r hr
     have hkb : k ≠ b := by rintro rfl; rw [hb] at hr; cases hr
     obtain ⟨c', cc', ty', fz', h1, h2, h3, h4, h5⟩ := S.live k r hr
     refine ⟨c', cc', ty', fz', by rw [hset k hkb]; exact h1, ?_, h3, h4, h5⟩
     show (w.heap.setIfInBounds cb (.map ces' clk))[r.cb]? = _
     rw [hother r.cb (fun h => hkb (S.inj k b r.cb (by simp [hr, cbOf]) (by simp [hb, cbOf, h])))]
     exact h2
   · intro k c hr
     by_cases e : k = b
     · subst e
       rw [hb] at hr
       cases hr
       refine ⟨es', ces', clk, by simp [List.getElem?_set, hbl], ?_, hm⟩
       show (w.heap.setIfInBounds cb (.map ces' clk))[cb]? = _
       simp [hlt]
     · obtain ⟨es1, ces1, clk1, h1, h2, h3⟩ := S.map k c hr
       refine ⟨es1, ces1, clk1, by rw [hset k e]; exact h1, ?_, h3⟩
       show (w.heap.setIfInBounds cb (.map ces' clk))[c]? = _
       rw [hother c (fun h => e (S.inj k b c (by simp [hr, cbOf]) (by simp [hb, cbOf, h])))]
       exact h2
   · intro k hr
     have hkb : k ≠ b := by rintro rfl; rw [hb] at hr; cases hr
     rw [hset k hkb]
     exact S.dead k hr
   · exact S.inj
 · refine ⟨rfl, rfl, rfl, by simp, fun k hk hno => ?_⟩
   show (w.heap.setIfInBounds cb (.map ces' clk))[k]? = _
   exact hother k (fun h => hno ⟨b, .inr (by rw [hb, h])⟩)
theorem MapR.nil_inv {l : List MapEntry} (h : MapR φ [] l) : l = [] := by
 cases h
 rfl
theorem m_mapUpdate (C : Ctx φ β ρ ah a w []) {dst type pos after guard} {t : TypeId} {m kx x : Operand} {k : AK} (hk : cOp P loc ⟨dst, .mapUpdate t m kx x, type, pos, after, guard⟩ = some k)
 {ret : AV → Heap → Up → Option R} (h : opM ρ ah k ret = some r) :
 ∃ v h' up, ret v h' up = some r ∧ MOk P φ β ρ ah a w ⟨dst, .mapUpdate t m kx x, type, pos, after, guard⟩ v h' up := by
 simp only [cOp] at hk
 split at hk
 · rename_i kt e am ak ax hu hm hkx hx
   split at hk
   · rename_i kk hkt
     simp only [Option.some.injEq] at hk
     subst hk
     simp only [opM] at h
     split at h
     · rename_i b ka va hb hka hva
       rw [Option.bind_eq_some_iff] at h
       obtain ⟨h', hst, h⟩ := h
       have e1 := getV_sound C hm hb
       have e2 := getV_sound C hkx hka
       have e3 := getV_sound C hx hva
       have : ∃ r', a.eval m = .map (some r') ∧ φ b = .lmap r' := by generalize a.eval m = vm at e1; cases e1; exact ⟨_, rfl, by assumption⟩
       obtain ⟨cb, hm', hbφ⟩ := this
       obtain ⟨es, ces, clk, g1, g2, g3⟩ := C.S.map _ _ hbφ
       simp only [g1] at hst
       split at hst
       · rename_i es' hes'
         simp only [Option.some.injEq] at hst
         subst hst
         obtain ⟨q, hq1, hq2, hq3⟩ := mapPut_sound (kk := kk) e2 e3 es ces.toList 0 g3 hes'
         have hfk := run_findKey (P := P) (w := w) hkt hq1
         have hg : (getObj cb).run P w = .ok (.map ces clk) w := by simp [getObj, Sem.run, g2]
         cases q with
         | none =>
          have hmr : MapR φ es' (ces.push ⟨a.eval kx, a.eval x, clk⟩).toList := by simpa using hq2 rfl clk
          obtain ⟨s1, s2, s3⟩ := setObj_sound (P := P) C.S hbφ (clk := clk + 1) hmr
          refine ⟨.tup [], _, none, h, .skip, undef, _, ?_, .inr ⟨rfl, rfl⟩, φ, .same s2 s3 (by simp), .tup rfl (fun i x y h => by simp at h)⟩
          simp only [execOp, hm', Instr.mapUpdate, Sem.run_bind, run_under hu, Result.andThen, hg, run_checkKey hkt, hfk, s1, Sem.run_pure]
         | some q =>
          obtain ⟨j, u⟩ := q
          obtain ⟨_, ⟨e0, he0, hek⟩, hmr⟩ := hq3 j u rfl
          simp only [Nat.sub_zero] at he0 hmr
          have hmr : MapR φ es' (ces.modify j fun e => { e with key := a.eval kx, val := a.eval x }).toList := by simpa using hmr
          obtain ⟨s1, s2, s3⟩ := setObj_sound (P := P) C.S hbφ (clk := clk) hmr
          refine ⟨.tup [], _, none, h, .skip, undef, _, ?_, .inr ⟨rfl, rfl⟩, φ, .same s2 s3 (by simp), .tup rfl (fun i x y h => by simp at h)⟩
          have hstay : (Instr.keyThatStays (((ces[j]?).map (·.key)).getD (a.eval kx)) (a.eval kx)).run P w = .ok (a.eval kx) w := by
           have : ces[j]? = some e0 := by simpa using he0
           rw [this]
           simp only [Option.map_some, Option.getD_some, hek, Instr.keyThatStays]
           have : ∃ n i, a.eval kx = .int n i := by
            cases ka with
            | int n i => exact ⟨n, i, vr_int e2⟩
            | _ => cases es <;> first | (simp [mapPut] at hes'; done) | (rename_i p es; obtain ⟨k1, v1⟩ := p; cases k1 <;> simp [mapPut] at hes') | (have := g3.nil_inv; rw [this] at he0; simp at he0)
           obtain ⟨n, i, hn⟩ := this
           rw [hn]
           show (if Instr.sameBits (9999 + 1) (.int n i) (.int n i) then pure (.int n i) else _ : Sem Value).run P w = _
           simp [Instr.sameBits]
          simp only [execOp, hm', Instr.mapUpdate, Sem.run_bind, run_under hu, Result.andThen, hg, run_checkKey hkt, hfk, hstay, s1, Sem.run_pure]
       · simp at hst
     · simp at h
   · simp at hk
 · simp at hk
theorem ldSl_pos {h : Heap} {sa : SA} {n : Nat} (h0 : n ≠ 0) : ldSl h sa n = (match adP sa with | some a => ldN h a n | none => none) := by
 cases n with
 | zero => exact absurd rfl h0
 | succ n => cases sa <;> rfl
theorem ldSl_sound (S : Sim φ ah w) {sa : SA} {n : Nat} {v : Value} (hv : VR φ (.sl sa n) v) {es : Nat} {k : Nat} (hk : k ≤ n) {ys : List AV} (h : ldSl ah sa (k * es) = some ys) :
 ∃ zs : List Value, (Builtin.firstCells es k v).run P w = .ok zs.toArray w ∧ VRs φ ys zs ∧ flatL ys = true ∧ zs.length = k * es := by
 by_cases h0 : k * es = 0
 · rw [h0] at h
   simp [ldSl] at h
   subst h
   refine ⟨[], ?_, .nil _, rfl, by rw [h0]; rfl⟩
   obtain ⟨o, c, rfl, _⟩ := vr_sl_shape hv
   cases o with
   | none => rfl
   | some p => simp [Builtin.firstCells, h0, loadCells, loadCellsFrom]
 · rw [ldSl_pos h0] at h
   cases hv with
   | sl ha hc hle =>
    simp only [adP] at h
    obtain ⟨zs, h1, h2, h3, h4⟩ := run_ldN P S ha h
    exact ⟨zs, by simp only [Builtin.firstCells]; exact h1, h3, h4, h2⟩
   | _ => simp [adP] at h
theorem Sim.add (S : Sim φ ah w) (l : List Blk) : Sim φ (ah ++ l) w := by
 have ext : ∀ (b : Nat) (x : Blk), ah[b]? = some x → (ah ++ l)[b]? = some x := fun b x h => by rw [List.getElem?_append_left (List.getElem?_eq_some_iff.1 h).1]; exact h
 constructor
 · intro b r hr
   obtain ⟨c, cc, ty, fz, h1, h2, h3, h4, h5⟩ := S.live b r hr
   exact ⟨c, cc, ty, fz, ext _ _ h1, h2, h3, h4, h5⟩
 · intro b c hr
   obtain ⟨es, ces, clk, h1, h2, h3⟩ := S.map b c hr
   exact ⟨es, ces, clk, ext _ _ h1, h2, h3⟩
 · exact fun b hr => ext _ _ (S.dead b hr)
 · exact S.inj
theorem Sim.unborn (S : Sim φ ah w) {n : Nat} (h : ah[n]? = none) : φ n = .unborn := by
 cases e : φ n with
 | unborn => rfl
 | dead => have := S.dead n e; rw [h] at this; cases this
 | live r => obtain ⟨c, cc, ty, fz, h1, _⟩ := S.live n r e; rw [h] at h1; cases h1
 | lmap c => obtain ⟨es, ces, clk, h1, _⟩ := S.map n c e; rw [h] at h1; cases h1
theorem Sim.cb_lt (S : Sim φ ah w) {b k : Nat} (h : cbOf (φ b) = some k) : k < w.heap.size := by
 cases e : φ b with
 | unborn => simp [e, cbOf] at h
 | dead => simp [e, cbOf] at h
 | live r =>
  simp [e, cbOf] at h
  obtain ⟨c, cc, ty, fz, _, h2, _⟩ := S.live b r e
  rw [h] at h2
  exact (Array.getElem?_eq_some_iff.1 h2).1
 | lmap c =>
  simp [e, cbOf] at h
  obtain ⟨es, ces, clk, _, h2, _⟩ := S.map b c e
  rw [h] at h2
  exact (Array.getElem?_eq_some_iff.1 h2).1
def setPhi (φ : Phi) (n : Nat) (s : Stt) : Phi := fun k => if k = n then s else φ k
theorem setPhi_same (φ : Phi) (n : Nat) (s : Stt) : setPhi φ n s n = s := by simp [setPhi]
theorem setPhi_other (φ : Phi) (s : Stt) {n k : Nat} (h : k ≠ n) : setPhi φ n s k = φ k := by simp [setPhi, h]
theorem Sim.born (S : Sim φ ah w) {n : Nat} {blk : Blk} {obj : Obj} {st : Stt} (hb : Born φ w blk obj st) (hn : φ n = .unborn) (hblk : ah[n]? = some blk) {w' : World} (hw : w'.heap = w.heap.push obj) :
 Sim (setPhi φ n st) ah w' ∧ Le φ (setPhi φ n st) := by
 have le : Le φ (setPhi φ n st) := by
  intro b
  by_cases e : b = n
  · subst e; rw [hn]; trivial
  · rw [setPhi_other φ st e]; exact .refl _
 refine ⟨?_, le⟩
 have old : ∀ k, k < w.heap.size → w'.heap[k]? = w.heap[k]? := fun k hk => by rw [hw, Array.getElem?_push, if_neg (by omega)]
 have new : w'.heap[w.heap.size]? = some obj := by rw [hw]; simp
 have cbst : cbOf st = some w.heap.size := by cases hb <;> rfl
 constructor
 · intro b r hr
   by_cases e : b = n
   · subst e
     rw [setPhi_same] at hr
     subst hr
     cases hb with
     | cells hc hm =>
      rename_i cs m cells ty
      exact ⟨cs, cells, ty, (0, 0), hblk, new, hc.mono le, fun _ => rfl, fun _ _ => rfl⟩
   · rw [setPhi_other φ st e] at hr
     obtain ⟨c, cc, ty, fz, h1, h2, h3, h4, h5⟩ := S.live b r hr
     exact ⟨c, cc, ty, fz, h1, by rw [old _ (S.cb_lt (b := b) (by simp [hr, cbOf]))]; exact h2, h3.mono le, h4, h5⟩
 · intro b c hr
   by_cases e : b = n
   · subst e
     rw [setPhi_same] at hr
     subst hr
     cases hb with
     | map => exact ⟨[], #[], 0, hblk, new, .nil⟩
   · rw [setPhi_other φ st e] at hr
     obtain ⟨es, ces, clk, h1, h2, h3⟩ := S.map b c hr
     exact ⟨es, ces, clk, h1, by rw [old _ (S.cb_lt (b := b) (by simp [hr, cbOf]))]; exact h2, h3.mono le⟩
 · intro b hr
   by_cases e : b = n
   · subst e
     rw [setPhi_same] at hr
     subst hr
     cases hb
   · rw [setPhi_other φ st e] at hr
     exact S.dead b hr
 · intro b b' c hc hc'
   by_cases e : b = n
   · by_cases e' : b' = n
     · rw [e, e']
     · subst e
       rw [setPhi_same, cbst] at hc
       rw [setPhi_other φ st e'] at hc'
       cases hc
       exact absurd (S.cb_lt hc') (by omega)
   · by_cases e' : b' = n
     · subst e'
       rw [setPhi_same, cbst] at hc'
       rw [setPhi_other φ st e] at hc
       cases hc'
       exact absurd (S.cb_lt hc) (by omega)
     · rw [setPhi_other φ st e] at hc
       rw [setPhi_other φ st e'] at hc'
       exact S.inj b b' c hc hc'
theorem Eff.born (S : Sim φ ah w) {n : Nat} {blk : Blk} {obj : Obj} {st : Stt} (hb : Born φ w blk obj st) (hn : φ n = .unborn) (hblk : ah[n]? = some blk) {w' : World} (hw : w'.heap = w.heap.push obj)
 (h1 : w'.os = w.os) (h2 : w'.tape = w.tape) (h3 : w'.output = w.output) {m : Nat} (hmn : m ≤ n) : Eff φ (setPhi φ n st) m ah w w' := by
 obtain ⟨s, le⟩ := S.born hb hn hblk hw
 have cbst : cbOf st = some w.heap.size := by cases hb <;> rfl
 refine ⟨le, s, ⟨h1, h2, h3, by rw [hw]; simp, fun k hk _ => by rw [hw, Array.getElem?_push, if_neg (by omega)]⟩, fun b k hk => ?_, fun k hk => ?_, Nat.le_trans hmn (Nat.le_of_lt (List.getElem?_eq_some_iff.1 hblk).1), fun b hbm hbu => by rw [setPhi_other φ _ (by omega)]; exact hbu⟩
 · by_cases e : b = n
   · subst e
     rw [setPhi_same, cbst] at hk
     cases hk
     exact .inr (Nat.le_refl _)
   · rw [setPhi_other φ st e] at hk
     exact .inl ⟨b, hk⟩
 · obtain ⟨b, hb'⟩ := hk
   by_cases e : b = n
   · subst e
     rw [setPhi_same] at hb'
     right
     rcases hb' with ⟨r, hr, _, rfl⟩ | hr
     · rw [hr] at cbst; simp [cbOf] at cbst; omega
     · rw [hr] at cbst; simp [cbOf] at cbst; omega
   · rw [setPhi_other φ st e] at hb'
     exact .inl ⟨b, hb'⟩
theorem stN_eq {h : Heap} {p : Ad} {c : List AV} {m : Mode} {v : Nat} (hb : h[p.b]? = some (.cells c m v)) (hv : p.v = v) (hm : m ≠ .ro) {ys : List AV} {k : Nat} (hk : p.o + k + ys.length ≤ c.length) :
 stN h (p.add k) ys = some (h.set p.b (.cells (splice (p.o + k) ys c) m v)) := by
 have e1 : (p.add k).b = p.b := rfl
 have e2 : (p.add k).v = p.v := rfl
 have e3 : (p.add k).o = p.o + k := rfl
 simp only [stN, e1, hb, e2, e3]
 rw [if_pos ⟨hv, hm, hk⟩]
theorem bump_sound (S : Sim φ ah w) {b : Nat} {r r' : Row} {c : List AV} {cc : Array Value} {ty : TypeId} {w' : World} (hr : φ b = .live r) (hv : r.ver < r'.ver) (hm : r'.mode = r.mode) (hro : r.mode ≠ .ro)
 (hw : w'.heap[r'.cb]? = some (.cells cc ty (0, 0))) (hcell : CellsR φ c r'.base cc) (hg : ∀ es, r'.mode = .grow es → cc.size = r'.size)
 (hcb : r'.cb = r.cb ∨ r'.cb = w.heap.size) (hsz : w.heap.size ≤ w'.heap.size) (hoth : ∀ k, k < w.heap.size → k ≠ r.cb → w'.heap[k]? = w.heap[k]?)
 (hoth2 : r'.cb ≠ r.cb → w'.heap[r.cb]? = w.heap[r.cb]?)
 (h1 : w'.os = w.os) (h2 : w'.tape = w.tape) (h3 : w'.output = w.output) :
 Eff φ (setPhi φ b (.live r')) ah.length (ah.set b (.cells c r'.mode r'.ver)) w w' := by
 obtain ⟨c0, cc0, ty0, fz0, g1, g2, g3, g4, g5⟩ := S.live b r hr
 have hbl : b < ah.length := (List.getElem?_eq_some_iff.1 g1).1
 have hrlt : r.cb < w.heap.size := S.cb_lt (b := b) (by simp [hr, cbOf])
 have le : Le φ (setPhi φ b (.live r')) := by
  intro k
  by_cases e : k = b
  · subst e
    rw [setPhi_same, hr]
    exact ⟨r', rfl, hm, .inr hv⟩
  · rw [setPhi_other φ _ e]; exact .refl _
 refine ⟨le, ?_, ⟨h1, h2, h3, hsz, fun k hk hno => ?_⟩, fun k n hn => ?_, fun k hk => ?_, by simp, fun k hk hku => by rw [setPhi_other φ _ (by rintro rfl; rw [hr] at hku; cases hku)]; exact hku⟩
 · refine S.put le hbl (setPhi_same _ _ _) (fun k hk => setPhi_other φ _ hk) hw (hcell.mono le) hg (fun k hk hc => ?_) (fun k hk n hn => ?_)
   · rcases hcb with e | e
     · rw [e] at hc
       exact hk (S.inj k b r.cb hc (by simp [hr, cbOf]))
     · rw [e] at hc
       exact absurd (S.cb_lt hc) (by omega)
   · refine hoth n (S.cb_lt hn) (fun e => ?_)
     subst e
     exact hk (S.inj k b r.cb hn (by simp [hr, cbOf]))
 · by_cases e : k = r.cb
   · exact absurd ⟨b, .inl ⟨r, hr, hro, e.symm⟩⟩ hno
   · exact hoth k hk e
 · by_cases e : k = b
   · subst e
     rw [setPhi_same] at hn
     simp [cbOf] at hn
     rcases hcb with e | e
     · exact .inl ⟨k, by simp [hr, cbOf]; omega⟩
     · exact .inr (by omega)
   · rw [setPhi_other φ _ e] at hn
     exact .inl ⟨k, hn⟩
 · obtain ⟨k', hk'⟩ := hk
   by_cases e : k' = b
   · subst e
     rw [setPhi_same] at hk'
     rcases hk' with ⟨q, hq, hqm, rfl⟩ | hq
     · cases hq
       rcases hcb with e | e
       · exact .inl ⟨k', .inl ⟨r, hr, hro, e.symm⟩⟩
       · exact .inr (by omega)
     · cases hq
   · rw [setPhi_other φ _ e] at hk'
     exact .inl ⟨k', hk'⟩
theorem tail_cells {c : List AV} {base o n : Nat} {cc : Array Value} (h : CellsR φ c base cc) {ys : List AV} {zs : List Value} (hy : VRs φ ys zs) (hle : o + n ≤ c.length) (hfit : base + o + n + ys.length ≤ cc.size) :
 CellsR φ ((c.drop o).take n ++ ys) (base + o) (cc.toList.take (base + o + n) ++ zs ++ cc.toList.drop (base + o + n + zs.length)).toArray := by
 have hlen := h.len
 have hyl := hy.1
 constructor
 · simp
   omega
 · intro i x hx
   by_cases hi : i < n
   · rw [List.getElem?_append_left (by simp; omega), List.getElem?_take, if_pos hi, List.getElem?_drop] at hx
     obtain ⟨y, hy', hv⟩ := h.get _ _ hx
     refine ⟨y, ?_, hv⟩
     rw [List.getElem?_toArray, List.append_assoc, List.getElem?_append_left (by simp; omega), List.getElem?_take, if_pos (by omega)]
     have : base + o + i = base + (o + i) := by omega
     rw [this]
     simpa using hy'
   · rw [List.getElem?_append_right (by simp; omega)] at hx
     have e1 : (List.take n (List.drop o c)).length = n := by simp; omega
     rw [e1] at hx
     obtain ⟨y, hy', hv⟩ := hy.get hx
     refine ⟨y, ?_, hv⟩
     have hil : i - n < zs.length := (List.getElem?_eq_some_iff.1 hy').1
     rw [List.getElem?_toArray, List.append_assoc, List.getElem?_append_right (by simp; omega), List.getElem?_append_left (by simp; omega)]
     rw [← hy']
     congr 1
     simp
     omega
end
end Go.Proofs.Ytnmdadadjneaiaa.Abs
/- append and copy; all operations that turn memory together. -/
set_option linter.unusedVariables false
set_option linter.unusedSimpArgs false
namespace Go.Proofs.Ytnmdadadjneaiaa.Abs
open Go
section
variable {P : Program} {φ : Phi} {β : Nat → Nat} {ρ : Nat → SV} {ah : Heap} {a : Act} {w : World} {R : Type}
 {loc : Nat} {r : R}
theorem al_new (o : Obj) : (w.drew.alloc o).heap[w.heap.size]? = some o := by
 show (w.heap.push o)[w.heap.size]? = _
 simp
theorem al_old (o : Obj) {k : Nat} (h : k < w.heap.size) : (w.drew.alloc o).heap[k]? = w.heap[k]? := by
 show (w.heap.push o)[k]? = _
 rw [Array.getElem?_push, if_neg (by omega)]
theorem al_size (o : Obj) : w.heap.size ≤ (w.drew.alloc o).heap.size := by
 show _ ≤ (w.heap.push o).size
 simp
theorem run_append_in {t u e e' : TypeId} {es : Nat} (ht : P.underlying t = some (.slice e)) (hu : P.underlying u = some (.slice e')) (hes : sizeOfT P e = some es)
 {base : Option Addr} {n c : Nat} {x : Value} {m : Nat} {zs : List Value} (hx : (Builtin.lenOf x).run P w = .ok m w) (hz : (Builtin.firstCells es m x).run P w = .ok zs.toArray w)
 (hfit : n + m ≤ c) {w' : World} (hst : match base with | some p => (storeCells (p.add (n * es)) zs).run P w = .ok () w' | none => w' = w) (ty : TypeId) :
 (Builtin.append_ #[t, u] ty #[.slice base n c, x]).run P w = .ok (.slice base (n + m) c) w' := by
 simp only [Builtin.append_, List.getElem?_toArray, List.getElem?_cons_zero, List.getElem?_cons_succ, Sem.run_bind, run_under ht, run_size hes, run_under hu, Result.andThen, Sem.run_pure, Bool.false_eq_true, if_false, hx, if_pos hfit, Bool.not_false, if_true, hz]
 cases base with
 | none => simp only at hst; subst hst; simp [Result.andThen]
 | some p => simp only at hst; simp [hst, Result.andThen]
theorem run_append_new {t u e e' : TypeId} {es nb : Nat} (ht : P.underlying t = some (.slice e)) (hu : P.underlying u = some (.slice e')) (hes : sizeOfT P e = some es)
 (hnb : bytesOfT P e = some nb) (hpos : 0 < nb) {z : List AV} (hzero : zeroOf P e = some z)
 {base : Option Addr} {n c : Nat} {x : Value} {m : Nat} {zs os : List Value} (hx : (Builtin.lenOf x).run P w = .ok m w) (hz : (Builtin.firstCells es m x).run P w.drew = .ok zs.toArray w.drew)
 (hos : (Builtin.firstCells es n (.slice base n c)).run P w.drew = .ok os.toArray w.drew)
 (hfit : c < n + m) (hbig : (n + m) * nb ≤ 140737488355328) (ty : TypeId) :
 ∃ newCap tail, n + m ≤ newCap ∧ tail.size = (newCap - (n + m)) * es ∧
  (Builtin.append_ #[t, u] ty #[.slice base n c, x]).run P w = .ok (.slice (some ⟨w.heap.size, 0, none⟩) (n + m) newCap) (w.drew.alloc (.cells (os.toArray ++ zs.toArray ++ tail) e)) := by
 obtain ⟨i, zv, hi, hzv, hzr, hzl⟩ := zeroOf_sound (φ := fun _ => .unborn) hzero
 have hbytes : i.bytes = nb := by
  unfold bytesOfT at hnb
  rw [hi] at hnb
  simpa using hnb
 have hsize : i.size = es := by
  obtain ⟨i', hi', rfl⟩ := size_of_info hes
  rw [hi] at hi'; cases hi'; rfl
 have hzs : zv.cells.size = es := by have := hzr.1; simp at this; omega
 have hgrow := growslice_fits (bytes := nb) hfit (by omega)
 refine ⟨(Question.appendCap (n + m) c e).cut (w.tape w.drawn (Question.appendCap (n + m) c e)), Builtin.zeroCells zv.cells ((Question.appendCap (n + m) c e).cut (w.tape w.drawn (Question.appendCap (n + m) c e)) - (n + m)), ?_, ?_, ?_⟩
 · simp only [Question.cut]; omega
 · simp [Builtin.zeroCells, hzs]
 · have h1 : ¬ n + m ≤ c := by omega
   have h3 : ¬ (((n + m : Nat) : Int) > IntKind.i64.max ∧ (False ∨ nb = 0)) := fun h => by rcases h.2 with h | h; exact h; omega
   have h4 : ¬ Builtin.nextslicecap (n + m) c * nb > 2 ^ 48 := by omega
   have hroom : ∀ k, (askRoom k).run P w.drew = .ok () w.drew := by
    intro k
    unfold askRoom
    split <;> rfl
   have hch : (choose (.appendCap (n + m) c e)).run P w = .ok ((Question.appendCap (n + m) c e).cut (w.tape w.drawn (Question.appendCap (n + m) c e))) w.drew := by
    rfl
   simp only [Builtin.append_, List.getElem?_toArray, List.getElem?_cons_zero, List.getElem?_cons_succ, Sem.run_bind, run_under ht, run_size hes, run_under hu, Result.andThen, Sem.run_pure, Bool.false_eq_true, if_false, hx, if_neg h1, run_typeInfo' hi, hbytes]
   rw [if_neg h3]
   simp only [Sem.run_bind, run_typeInfo' hi, hbytes, Result.andThen]
   rw [if_neg h4]
   simp only [Sem.run_bind, hch, Result.andThen, run_typeInfo' hi, hroom, hos, Bool.not_false, if_true, hz, run_zero hi hzv, run_newRow, Sem.run_pure]
   rfl
theorem toL1' {α : Type} {xs : Array α} {x y : α} (h : xs.toList = [x, y]) : xs = #[x, y] := by apply Array.ext'; simpa using h
theorem lenOf_sl {sa : SA} {n : Nat} {v : Value} (h : VR φ (.sl sa n) v) : (Builtin.lenOf v).run P w = .ok n w := by
 obtain ⟨o, c, rfl, _⟩ := vr_sl_shape h
 rfl
theorem fresh_sl {ys : List AV} {zs : List Value} {es n newCap : Nat} {tail : Array Value} {e : TypeId} (S : Sim φ ah w) (hy : VRs φ ys zs) (hlen : zs.length = n * es) (hc : n ≤ newCap) (ht : tail.size = (newCap - n) * es) :
 ∃ φ', Eff φ φ' ah.length (ah ++ [.cells ys (.grow es) 0]) w (w.drew.alloc (.cells (zs.toArray ++ tail) e)) ∧ VR φ' (.sl (.pos ⟨ah.length, 0, 0⟩) n) (.slice (some ⟨w.heap.size, 0, none⟩) n newCap) := by
 have hsz : (zs.toArray ++ tail).size = newCap * es := by
  simp only [Array.size_append, List.size_toArray, hlen, ht, ← Nat.add_mul]
  congr 1
  omega
 have hb : Born φ w (.cells ys (.grow es) 0) (.cells (zs.toArray ++ tail) e) (.live ⟨w.heap.size, 0, 0, .grow es, (zs.toArray ++ tail).size⟩) := by
  refine .cells ⟨?_, fun i x hx => ?_⟩ (by simp)
  · have := hy.1
    rw [hsz, Nat.zero_add, this, hlen]
    exact Nat.mul_le_mul_right _ hc
  · obtain ⟨y, hy', hv⟩ := hy.get hx
    refine ⟨y, ?_, hv⟩
    have hi : i < zs.length := (List.getElem?_eq_some_iff.1 hy').1
    rw [Nat.zero_add, Array.getElem?_append_left (by simpa using hi)]
    simpa using hy'
 have hE := Eff.born (S.add [.cells ys (.grow es) 0]) hb (S.unborn (n := ah.length) (by simp)) (by simp) (w' := w.drew.alloc (.cells (zs.toArray ++ tail) e)) rfl rfl rfl rfl (Nat.le_refl ah.length)
 refine ⟨_, hE, sl_born (by rw [hsz]) hc _ (setPhi_same _ _ _)⟩
theorem apnd_sound (S : Sim φ ah w) {t u e e' : TypeId} {es nb : Nat} (ht : P.underlying t = some (.slice e)) (hu : P.underlying u = some (.slice e')) (hes : sizeOfT P e = some es) (hespos : 0 < es)
 (hnb : bytesOfT P e = some nb) (hpos : 0 < nb) {z : List AV} (hzero : zeroOf P e = some z) {x : AV} {vx vy : Value} (hx : VR φ x vx) {sb : SA} {m : Nat} (hy : VR φ (.sl sb m) vy)
 {ys : List AV} (hys : ldSl ah sb (m * es) = some ys) {rr : AV × Heap} (h : apnd ah x es nb ys m = some rr) (ty : TypeId) :
 ∃ vc w' φ', (Builtin.append_ #[t, u] ty #[vx, vy]).run P w = .ok vc w' ∧ Eff φ φ' ah.length rr.2 w w' ∧ VR φ' rr.1 vc := by
 have hlen := lenOf_sl (P := P) (w := w) hy
 obtain ⟨zs, hz1, hz2, hz3, hz4⟩ := ldSl_sound (P := P) S hy (Nat.le_refl m) hys
 have Sd : Sim φ ah w.drew := S.of_heap rfl
 obtain ⟨zs', hz1', hz2', _, hz4'⟩ := ldSl_sound (P := P) Sd hy (Nat.le_refl m) hys
 have hylen : ys.length = m * es := by rw [hz2.1, hz4]
 cases x with
 | sl sa n =>
  obtain ⟨o, c, rfl, hnc⟩ := vr_sl_shape hx
  cases m with
  | zero =>
   simp only [apnd, Option.some.injEq] at h
   subst h
   have hzs : zs = [] := List.eq_nil_of_length_eq_zero (by omega)
   subst hzs
   refine ⟨_, w, φ, run_append_in ht hu hes hlen hz1 (by omega) ?_ ty, .same S (.refl _ _) (Nat.le_refl _), by simpa using hx⟩
   cases o with
   | none => rfl
   | some p => rfl
  | succ m =>
   simp only [apnd] at h
   cases sa with
   | lost => simp at h
   | nil =>
    simp only at h
    split at h
    · rename_i hc
      obtain ⟨hn0, hbig⟩ := hc
      simp only [Option.some.injEq] at h
      subst h; subst hn0
      cases hx
      obtain ⟨newCap, tail, g1, g2, g3⟩ := run_append_new (P := P) (w := w) (t := t) (u := u) ht hu hes hnb hpos hzero (base := none) (n := 0) (c := 0) (os := []) hlen hz1' rfl (by omega) (by simpa using hbig) ty
      rw [Nat.zero_add] at g1 g2 g3
      obtain ⟨φ', hE, hv⟩ := fresh_sl (n := m + 1) (newCap := newCap) (tail := tail) (e := e) S hz2' hz4' g1 g2
      refine ⟨_, _, φ', g3, ?_, hv⟩
      simpa using hE
    · simp at h
   | z =>
    simp only at h
    split at h
    · rename_i hc
      obtain ⟨hn0, hbig⟩ := hc
      simp only [Option.some.injEq] at h
      subst h; subst hn0
      cases hx with
      | slZ =>
      rename_i a'
      have hos : (Builtin.firstCells es 0 (.slice (some a') 0 0)).run P w.drew = .ok [].toArray w.drew := by simp [Builtin.firstCells, loadCells, loadCellsFrom]
      obtain ⟨newCap, tail, g1, g2, g3⟩ := run_append_new (P := P) (w := w) (t := t) (u := u) ht hu hes hnb hpos hzero (base := some a') (n := 0) (c := 0) (os := []) hlen hz1' hos (by omega) (by simpa using hbig) ty
      rw [Nat.zero_add] at g1 g2 g3
      obtain ⟨φ', hE, hv⟩ := fresh_sl (n := m + 1) (newCap := newCap) (tail := tail) (e := e) S hz2' hz4' g1 g2
      refine ⟨_, _, φ', g3, ?_, hv⟩
      simpa using hE
    · simp at h
   | pos p =>
    simp only at h
    split at h
    · rename_i cl e0 v0 hb
      split at h
      · rename_i hc
        obtain ⟨hv, he0, hle, hbig⟩ := hc
        subst he0
        have hx0 := hx
        cases hx with
        | sl ha hcap hn =>
        rename_i a'
        obtain ⟨r, cc, ty', fz, h1, h2, h3, h4, h5, h6, h7, h8⟩ := addr_live S ha hb hv
        have hro : r.mode ≠ .ro := by rw [h2]; simp
        have hfz := h7 hro
        subst hfz
        unfold CapR at hcap
        rw [h1] at hcap
        have hcap := hcap (by rw [h3]; exact hv) e0 h2
        have h8 := h8 e0 h2
        have hcl := h6.len
        split at h
        · -- in place, in cells that are known
          rename_i hfits
          simp only [Option.some.injEq] at h
          subst h
          have hmul : (n + (m + 1)) * e0 ≤ c * e0 := by omega
          have hin : n + (m + 1) ≤ c := Nat.le_of_mul_le_mul_right hmul hespos
          have hsplit : (n + (m + 1)) * e0 = n * e0 + (m + 1) * e0 := Nat.add_mul _ _ _
          have hst := stN_eq hb hv (by simp) (ys := ys) (k := n * e0) (by omega)
          obtain ⟨w', g1, g2, g3⟩ := stN_sound P S (addrR_add ha (n * e0)) hz2 hz3 hst
          refine ⟨_, w', φ, run_append_in ht hu hes hlen hz1 hin g1 ty, .same g2 g3 (by simp), .sl ha ?_ hin⟩
          unfold CapR
          rw [h1]
          intro _ e1 he1
          rw [h2] at he1
          cases he1
          exact hcap
        · split at h
          · rename_i hnf hflat
            simp only [Option.some.injEq] at h
            subst h
            have hsplit : (n + (m + 1)) * e0 = n * e0 + (m + 1) * e0 := Nat.add_mul _ _ _
            have vres : ∀ (φ' : Phi) (r' : Row) (c' : Nat), φ' p.b = .live r' → r'.ver = v0 + 1 → r'.mode = .grow e0 → r'.base + c' * e0 = r'.size → n + (m + 1) ≤ c' →
             VR φ' (.sl (.pos ⟨p.b, v0 + 1, 0⟩) (n + (m + 1))) (.slice (some ⟨r'.cb, r'.base, none⟩) (n + (m + 1)) c') := by
             intro φ' r' c' k1 k2 k3 k4 k5
             refine .sl ?_ ?_ k5
             · unfold AddrR
               simp only [k1]
               exact ⟨by omega, fun _ => rfl⟩
             · unfold CapR
               simp only [k1]
               intro _ e1 he1
               rw [k3] at he1
               cases he1
               omega
            by_cases hin : n + (m + 1) ≤ c
            · -- in place, in cells that are not known
              have hmul : (n + (m + 1)) * e0 ≤ c * e0 := Nat.mul_le_mul_right _ hin
              have hrun := run_storeCells_at (P := P) r.cb (r.base + p.o + n * e0) ty' zs 0 cc w h5 (by omega) (flat_cells hz2 hz3)
              have hrun' : (storeCells (a'.add (n * e0)) zs).run P w = .ok () (w.setRow r.cb (cc.toList.take (r.base + p.o + n * e0) ++ zs ++ cc.toList.drop (r.base + p.o + n * e0 + zs.length)).toArray) := by
               rw [h4, addr_add]
               exact hrun
              have hcells := tail_cells (o := p.o) (n := n * e0) h6 hz2 hle (by omega)
              have hE := bump_sound S (b := p.b) (r := r) (r' := ⟨r.cb, r.base + p.o, r.ver + 1, r.mode, r.size⟩) (c := (cl.drop p.o).take (n * e0) ++ ys) (ty := ty')
               (w' := w.setRow r.cb (cc.toList.take (r.base + p.o + n * e0) ++ zs ++ cc.toList.drop (r.base + p.o + n * e0 + zs.length)).toArray) h1 (Nat.lt_succ_self _) rfl hro (setRow_heap _ _ _ _ _ _ h5) hcells
               (fun es' _ => by rw [← h8]; simp; omega) (.inl rfl) (by rw [setRow_size]; exact Nat.le_refl _) (fun k _ hk => setRow_get _ _ _ _ hk) (fun h => absurd rfl h) rfl rfl rfl
              refine ⟨_, _, setPhi φ p.b (.live ⟨r.cb, r.base + p.o, r.ver + 1, r.mode, r.size⟩), run_append_in ht hu hes hlen hz1 hin hrun' ty, ?_, ?_⟩
              · rw [h3, h2] at hE ⊢
                exact hE
              · rw [h4]
                exact vres _ ⟨r.cb, r.base + p.o, r.ver + 1, r.mode, r.size⟩ c (setPhi_same _ _ _) (by rw [h3]) h2 hcap hin
            · -- a new row
              have hold : ldSl ah (.pos p) (n * e0) = some ((cl.drop p.o).take (n * e0)) := by
               by_cases h0 : n * e0 = 0
               · rw [h0]; simp [ldSl]
               · rw [ldSl_pos h0]
                 simp only [adP, ldN, hb]
                 rw [if_pos ⟨hv, hle, hflat⟩]
              obtain ⟨os, ho1, ho2, _, ho4⟩ := ldSl_sound (P := P) Sd hx0 (Nat.le_refl n) hold
              obtain ⟨newCap, tail, g1, g2, g3⟩ := run_append_new (P := P) (w := w) (t := t) (u := u) ht hu hes hnb hpos hzero (base := some a') (n := n) (c := c) (os := os) hlen hz1' ho1 (by omega) hbig ty
              have hsz : (os.toArray ++ zs'.toArray ++ tail).size = newCap * e0 := by
               simp only [Array.size_append, List.size_toArray, ho4, hz4', g2, ← Nat.add_mul]
               congr 1
               omega
              have hall := ho2.append hz2'
              have hcells : CellsR φ ((cl.drop p.o).take (n * e0) ++ ys) 0 (os.toArray ++ zs'.toArray ++ tail) := by
               refine ⟨?_, fun i x hx => ?_⟩
               · have := hall.1
                 rw [hsz, Nat.zero_add, this]
                 simp only [List.length_append, ho4, hz4', ← Nat.add_mul]
                 exact Nat.mul_le_mul_right _ g1
               · obtain ⟨y, hy', hv'⟩ := hall.get hx
                 refine ⟨y, ?_, hv'⟩
                 have hi : i < (os ++ zs').length := (List.getElem?_eq_some_iff.1 hy').1
                 rw [Nat.zero_add, Array.getElem?_append_left (by simpa using hi)]
                 rw [← hy']
                 simp
              have hE := bump_sound S (b := p.b) (r := r) (r' := ⟨w.heap.size, 0, r.ver + 1, r.mode, newCap * e0⟩) (c := (cl.drop p.o).take (n * e0) ++ ys) (ty := e)
               (cc := os.toArray ++ zs'.toArray ++ tail) (w' := w.drew.alloc (.cells (os.toArray ++ zs'.toArray ++ tail) e)) h1 (Nat.lt_succ_self _) rfl hro (al_new _) hcells
               (fun es' hes' => hsz) (.inr rfl) (al_size _) (fun k hk _ => al_old _ hk)
               (fun _ => al_old _ (S.cb_lt (b := p.b) (k := r.cb) (by simp [h1, cbOf]))) rfl rfl rfl
              refine ⟨_, _, setPhi φ p.b (.live ⟨w.heap.size, 0, r.ver + 1, r.mode, newCap * e0⟩), g3, ?_, ?_⟩
              · rw [h3, h2] at hE ⊢
                exact hE
              · exact vres _ ⟨w.heap.size, 0, r.ver + 1, r.mode, newCap * e0⟩ newCap (setPhi_same _ _ _) (by rw [h3]) h2 (by simp) g1
          · simp at h
      · simp at h
    · simp at h
 | _ => simp [apnd] at h
theorem m_append (C : Ctx φ β ρ ah a w []) {dst type pos after guard} {args : Array Operand} {ts : Array TypeId} {k : AK}
 (hk : cOp P loc ⟨dst, .call ⟨.builtin .append, args, ts⟩, type, pos, after, guard⟩ = some k)
 {ret : AV → Heap → Up → Option R} (h : opM ρ ah k ret = some r) :
 ∃ v h' up, ret v h' up = some r ∧ MOk P φ β ρ ah a w ⟨dst, .call ⟨.builtin .append, args, ts⟩, type, pos, after, guard⟩ v h' up := by
 simp only [cOp] at hk
 split at hk <;> try (simp at hk; done)
 all_goals try (rename_i hq; simp at hq; done)
 all_goals try (rename_i hq _ _; simp at hq; done)
 rename_i ax ay t u hb hargs hts
 split at hk
 · rename_i e e' hut huu
   split at hk
   · rename_i z n m hz hn hm
     split at hk
     · rename_i hpos
       simp only [Option.some.injEq] at hk
       subst hk
       obtain ⟨x, y, hx1, hx, hy⟩ := cXs2 hargs
       have hx1 := toL1' hx1
       have hts := toL2 hts
       subst hx1; subst hts
       simp only [opM] at h
       split at h
       · rename_i va sb ny hva hvy
         rw [Option.bind_eq_some_iff] at h
         obtain ⟨ys, hys, h⟩ := h
         rw [Option.bind_eq_some_iff] at h
         obtain ⟨rr, hrr, h⟩ := h
         have e1 := getV_sound C hx hva
         have e2 := getV_sound C hy hvy
         obtain ⟨vc, w', φ', g1, g2, g3⟩ := apnd_sound (P := P) C.S hut huu hn hpos.1 hm hpos.2 hz e1 e2 hys hrr type
         obtain ⟨q, hq, h⟩ := gb_true h
         have hrl : rr.1 = .sl q.1 q.2 := by
          cases e : rr.1 <;> rw [e] at hq <;> simp [rL] at hq
          rw [← hq]
         rw [hrl] at g3
         refine ⟨_, rr.2, none, h, .value vc, vc, w', run_builtin ?_, .inl rfl, φ', g2, g3⟩
         simp only [builtin, Sem.run_bind, List.map_toArray, List.map_cons, List.map_nil, g1, Result.andThen, Sem.run_pure]
       · simp at h
     · simp at hk
   · simp at hk
 · simp at hk
theorem m_copy (C : Ctx φ β ρ ah a w []) {dst type pos after guard} {args : Array Operand} {ts : Array TypeId} {k : AK}
 (hk : cOp P loc ⟨dst, .call ⟨.builtin .copy, args, ts⟩, type, pos, after, guard⟩ = some k)
 {ret : AV → Heap → Up → Option R} (h : opM ρ ah k ret = some r) :
 ∃ v h' up, ret v h' up = some r ∧ MOk P φ β ρ ah a w ⟨dst, .call ⟨.builtin .copy, args, ts⟩, type, pos, after, guard⟩ v h' up := by
 simp only [cOp] at hk
 split at hk <;> try (simp at hk; done)
 all_goals try (rename_i hq; simp at hq; done)
 all_goals try (rename_i hq _ _; simp at hq; done)
 rename_i ax ay t u hb hargs hts
 split at hk
 · rename_i e e' hut huu
   split at hk
   · rename_i es hn
     simp only [Option.some.injEq] at hk
     subst hk
     obtain ⟨x, y, hx1, hx, hy⟩ := cXs2 hargs
     have hx1 := toL1' hx1
     have hts := toL2 hts
     subst hx1; subst hts
     simp only [opM] at h
     split at h
     · rename_i sa n sb m hva hvy
       rw [Option.bind_eq_some_iff] at h
       obtain ⟨ys, hys, h⟩ := h
       rw [Option.bind_eq_some_iff] at h
       obtain ⟨h', hst, h⟩ := h
       have e1 := getV_sound C hx hva
       have e2 := getV_sound C hy hvy
       have hlen := lenOf_sl (P := P) (w := w) e2
       obtain ⟨zs, z1, z2, z3, z4⟩ := ldSl_sound (P := P) C.S e2 (Nat.min_le_left m n) hys
       obtain ⟨o, c, hev, hle⟩ := vr_sl_shape e1
       have key : ∃ w', (match o with | some p => (storeCells p zs).run P w = .ok () w' | none => w' = w) ∧ Sim φ h' w' ∧ Fr (Owns φ) w w' ∧ ah.length ≤ h'.length := by
        by_cases h0 : min m n * es = 0
        · rw [h0] at hst
          simp only [Option.some.injEq] at hst
          subst hst
          have : zs = [] := List.eq_nil_of_length_eq_zero (by omega)
          subst this
          refine ⟨w, ?_, C.S, .refl _ _, Nat.le_refl _⟩
          cases o <;> rfl
        · have : ∃ q, sa = .pos q ∧ stN ah q ys = some h' := by
           split at hst
           · rename_i h00; exact absurd h00 h0
           · split at hst
             · exact ⟨_, rfl, hst⟩
             · simp at hst
          obtain ⟨q, hq, hst'⟩ := this
          subst hq
          rw [hev] at e1
          cases e1 with
          | sl ha hc hn' =>
          obtain ⟨w', g1, g2, g3⟩ := stN_sound P C.S ha z2 z3 hst'
          exact ⟨w', g1, g2, g3, stN_len hst'⟩
       obtain ⟨w', k1, k2, k3, k4⟩ := key
       refine ⟨.int .i64 (min m n : Nat), h', none, h, .value (goInt (min m n : Nat)), goInt (min m n : Nat), w', run_builtin ?_, .inl rfl, φ, .same k2 k3 k4, .int _ _⟩
       simp only [builtin, Sem.run_bind, List.map_toArray, List.map_cons, List.map_nil, hev, Builtin.copy_, List.getElem?_toArray, List.getElem?_cons_zero, List.getElem?_cons_succ, run_under hut, hlen, run_size hn, Result.andThen, Sem.run_pure]
       have z1' : (Builtin.firstCells es (m.min n) (a.eval y)).run P w = .ok zs.toArray w := z1
       simp only [z1']
       cases o with
       | none => simp only at k1; subst k1; rfl
       | some p => simp only at k1; simp [k1, Result.andThen]
     · simp at h
   · simp at hk
 · simp at hk
theorem opM_sound (C : Ctx φ β ρ ah a w []) {o : Oper} {k : AK} (hk : cOp P loc o = some k) {ret : AV → Heap → Up → Option R} (h : opM ρ ah k ret = some r) :
 ∃ v h' up, ret v h' up = some r ∧ MOk P φ β ρ ah a w o v h' up := by
 have hc := cOp_cls hk
 obtain ⟨dst, op, type, pos, after, guard⟩ := o
 cases k <;> try (simp [opM] at h; done)
 case store => obtain ⟨t, x, y, rfl⟩ := isOp5 hc; exact m_store C hk h
 case mapUpdate => obtain ⟨t, m, k, x, rfl⟩ := isOp6 hc; exact m_mapUpdate C hk h
 case append => obtain ⟨as, ts, rfl⟩ := isOp7 hc; exact m_append C hk h
 case copy => obtain ⟨as, ts, rfl⟩ := isOp8 hc; exact m_copy C hk h
 case clear => obtain ⟨as, ts, rfl⟩ := isOp9 hc; exact m_clear C hk h
end
end Go.Proofs.Ytnmdadadjneaiaa.Abs
/- Calls: the function that is entered, and its arguments. -/
set_option linter.unusedVariables false
set_option linter.unusedSimpArgs false
namespace Go.Proofs.Ytnmdadadjneaiaa.Abs
open Go
section
variable {P : Program} {φ : Phi} {β : Nat → Nat} {ρ : Nat → SV} {ah : Heap} {a : Act} {w : World} {R : Type} {gs : List (Nat × Bool)}
 {loc : Nat} {r : R}
def Enters (P : Program) (f : FuncId) : Prop := ∃ fn, P.funcs[f]? = some fn ∧ fn.body.isSome = true ∧ fn.name ≠ "runtime.NumGoroutine"
theorem run_callFunc {f : FuncId} (h : Enters P f) (args : Array Value) : (callFunc f args).run P w = .ok (.enter f args) w := by
 obtain ⟨fn, hf, hb, hn⟩ := h
 have hn' : (fn.name == "runtime.NumGoroutine") = false := by simpa using hn
 have hb' : fn.body.isNone = false := by
  cases e : fn.body with
  | none => rw [e] at hb; simp at hb
  | some c => rfl
 unfold callFunc
 have hb2 : fn.body ≠ none := by rw [Option.isSome_iff_ne_none] at hb; exact hb
 simp [program, Sem.run, hf, hn, hb2, Sem.run_bind, Result.andThen]
theorem cX_fn {x : Operand} {f : FuncId} (h : cX x = some (.c (.fn f [] []))) : x = .func f := by
 cases x with
 | tmp t => simp [cX] at h
 | const v =>
  simp only [cX] at h
  split at h
  · rename_i y hy
    simp only [Option.some.injEq, AX.c.injEq] at h
    subst h
    exfalso
    unfold ofVal at hy
    split at hy
    · split at hy <;> simp at hy
    · unfold ofCell at hy
      split at hy <;> simp at hy
  · simp at h
 | global g => simp [cX] at h
 | func g => simp [cX] at h; rw [h]
structure CallAt (P : Program) (φ : Phi) (a : Act) (w : World) (o : Oper) (f : FuncId) (as : List AV) : Prop where
 go : Enters P f → ∃ args : List Value, (execOp a.eval o).run P w = .ok (.enter f args.toArray) w ∧ VRs φ as args
theorem opF_sound (C : Ctx φ β ρ ah a w gs) {o : Oper} {k : AK} (hk : cOp P loc o = some k) {ret : FuncId → List AV → List VS → AV → Option R} (h : opF ρ gs k ret = some r) :
 ∃ f as rs z, ret f as rs z = some r ∧ CallAt P φ a w o f as := by
 have hc := cOp_cls hk
 obtain ⟨dst, op, type, pos, after, guard⟩ := o
 cases k <;> try (simp [opF] at h; done)
 case call f args rs z =>
  obtain ⟨fo, as, ts, rfl⟩ := isOp10 hc
  simp only [cOp] at hk
  split at hk
  · rename_i f' as' rs' hf has hrs
    simp only [Option.some.injEq, AK.call.injEq] at hk
    obtain ⟨rfl, rfl, rfl, rfl⟩ := hk
    simp only [opF] at h
    split at h
    · rename_i vs hvs
      refine ⟨_, _, _, _, h, ⟨fun hE => ?_⟩⟩
      have e := getVs_sound C has hvs
      have hfo : a.eval fo = .func (.func f') #[] #[] := by
       have := cX_fn hf
       subst this
       rfl
      refine ⟨_, ?_, e⟩
      simp only [execOp, resolve, hfo, Deferred.ofValue, Sem.run_bind, Sem.run_pure, Result.andThen, invoke]
      have : #[] ++ as.map a.eval ++ #[] = (as.toList.map a.eval).toArray := by apply Array.ext'; simp
      rw [this]
      exact run_callFunc hE _
    · simp at h
  · simp at hk
  · simp at hk
 case callV f args rs z =>
  obtain ⟨fo, as, ts, rfl⟩ := isOp10 hc
  simp only [cOp] at hk
  split at hk
  · simp at hk
  · rename_i f' as' rs' _ hf has hrs
    simp only [Option.some.injEq, AK.callV.injEq] at hk
    obtain ⟨rfl, rfl, rfl, rfl⟩ := hk
    simp only [opF] at h
    split at h
    · rename_i g first cap vs hv hvs
      refine ⟨_, _, _, _, h, ⟨fun hE => ?_⟩⟩
      have e := getVs_sound C has hvs
      have e1 := getV_sound C hf hv
      generalize hev : a.eval fo = vf at e1
      cases e1 with
      | fn _ h1 h2 h3 h4 =>
       rename_i fa ca
       refine ⟨fa.toList ++ as.toList.map a.eval ++ ca.toList, ?_, ((VRs.of_arr h1 h2).append e).append (VRs.of_arr h3 h4)⟩
       simp only [execOp, resolve, hev, Deferred.ofValue, Sem.run_bind, Sem.run_pure, Result.andThen, invoke]
       have : fa ++ as.map a.eval ++ ca = (fa.toList ++ as.toList.map a.eval ++ ca.toList).toArray := by apply Array.ext'; simp
       rw [this]
       exact run_callFunc hE _
    · simp at h
  · simp at hk
end
end Go.Proofs.Ytnmdadadjneaiaa.Abs
/- One operation of a region: what it does to the slots, the memory and the world. -/
set_option linter.unusedVariables false
set_option linter.unusedSimpArgs false
namespace Go.Proofs.Ytnmdadadjneaiaa.Abs
open Go
section
variable {P : Program} {φ φ' φ'' : Phi} {β : Nat → Nat} {ρ : Nat → SV} {ah ah' : Heap} {a : Act} {w w' : World} {R : Type} {gs : List (Nat × Bool)}
 {loc : Nat} {r : R}
theorem rdW_true {s : VS} {v : AV} {K : AV → Option R} (h : rdW s v true K = some r) : ∃ x, K x = some r ∧ ∀ φ vc, VR φ v vc → VR φ x vc := by
 cases s with
 | cell c =>
  simp only [rdW] at h
  obtain ⟨x, hx, h⟩ := rdC_true h
  cases hx
  exact ⟨v, h, fun _ _ h => h⟩
 | agg cs =>
  simp only [rdW] at h
  obtain ⟨l, hl, h⟩ := gb_true h
  obtain ⟨hlen, h⟩ := chk_some h
  simp only [forall_const] at hlen
  have h := rdL_true' h
  cases v <;> simp [rA] at hl
  subst hl
  refine ⟨_, h, fun φ vc hv => ?_⟩
  rw [List.drop_zero, List.take_of_length_le (by omega)]
  exact hv
 | raw n =>
  simp only [rdW] at h
  obtain ⟨l, hl, h⟩ := gb_true h
  obtain ⟨hlen, h⟩ := chk_some h
  cases v <;> simp [rA] at hl
  subst hl
  exact ⟨_, h, fun φ vc hv => hv⟩
theorem rdWs_true {l : List AV} : ∀ {ss : List VS} {i : Nat} {K : List AV → Option R}, rdWs l true ss i K = some r →
 ∃ as, K as = some r ∧ as.length = ss.length ∧ ∀ (j : Nat) x, as[j]? = some x → ∀ φ vc, VR φ (l.getD (i + j) .opq) vc → VR φ x vc := by
 intro ss
 induction ss with
 | nil => intro i K h; exact ⟨[], h, rfl, fun j x h => by simp at h⟩
 | cons s ss ih =>
  intro i K h
  simp only [rdWs] at h
  obtain ⟨x, h, hx⟩ := rdW_true h
  obtain ⟨as, h, hl, has⟩ := ih h
  refine ⟨x :: as, h, by simp [hl], fun j y hy φ vc hv => ?_⟩
  cases j with
  | zero => simp at hy; subst hy; exact hx φ vc (by simpa using hv)
  | succ j => simp at hy; exact has j y hy φ vc (by
   have e : i + 1 + j = i + (j + 1) := by omega
   rw [e]
   exact hv)
theorem rdRes_true {ss : List VS} {v : AV} {K : AV → Option R} (h : rdRes ss v true K = some r) : ∃ x, K x = some r ∧ ∀ φ vc, VR φ v vc → VR φ x vc := by
 unfold rdRes at h
 split at h
 · exact rdW_true h
 · obtain ⟨l, hl, h⟩ := gb_true h
   obtain ⟨as, h, hlen, has⟩ := rdWs_true h
   refine ⟨_, h, fun φ vc hv => ?_⟩
   cases v <;> simp [rT] at hl
   rename_i l0
   obtain ⟨hn, rfl⟩ := hl
   generalize hw : AV.tup l0 = v0 at hv
   cases hv with
   | tup h1 h2 =>
    rename_i l1 arr
    cases hw
    refine .tup (by omega) fun i x y hx hy => ?_
    have hi : i < as.length := (List.getElem?_eq_some_iff.1 hx).1
    refine has i x hx φ y ?_
    rw [Nat.zero_add, List.getD_eq_getElem?_getD]
    cases hg : l0[i]? with
    | none => rw [List.getElem?_eq_none_iff] at hg; omega
    | some z => exact h2 i z y hg hy
   | _ => cases hw
theorem rdWs_false {l : List AV} : ∀ {ss : List VS} {i : Nat} {K : List AV → Option R}, rdWs l false ss i K = some r → ∃ as, K as = some r := by
 intro ss
 induction ss with
 | nil => intro i K h; exact ⟨[], h⟩
 | cons s ss ih =>
  intro i K h
  simp only [rdWs] at h
  obtain ⟨x, h⟩ := rdW_false h
  obtain ⟨as, h⟩ := ih h
  exact ⟨_, h⟩
theorem rdRes_false {ss : List VS} {v : AV} {K : AV → Option R} (h : rdRes ss v false K = some r) : ∃ x, K x = some r := by
 unfold rdRes at h
 split at h
 · exact rdW_false h
 · obtain ⟨l, h⟩ := gb_false h
   obtain ⟨as, h⟩ := rdWs_false h
   exact ⟨_, h⟩
theorem Eff.trans {n : Nat} (E : Eff φ φ' n ah w w') {w'' : World} (F : Eff φ' φ'' n ah' w' w'') : Eff φ φ'' n ah' w w'' := by
 refine ⟨E.le.trans F.le, F.sim, E.fr.trans F.fr fun k hk ho => ?_, fun b k hk => ?_, fun k hk => ?_, F.len, fun b hb hu => F.un b hb (E.un b hb hu)⟩
 · rcases E.own k ho with h | h
   · exact h
   · omega
 · rcases F.cb b k hk with ⟨b', h⟩ | h
   · exact E.cb b' k h
   · exact .inr (Nat.le_trans E.fr.size h)
 · rcases F.own k hk with h | h
   · exact E.own k h
   · exact .inr (Nat.le_trans E.fr.size h)
theorem Eff.weaken {n m : Nat} (E : Eff φ φ' n ah w w') (h : m ≤ n) : Eff φ φ' m ah w w' :=
 ⟨E.le, E.sim, E.fr, E.cb, E.own, Nat.le_trans h E.len, fun b hb => E.un b (Nat.lt_of_lt_of_le hb h)⟩
theorem Eff.refl {n : Nat} (S : Sim φ ah w) (h : n ≤ ah.length) : Eff φ φ n ah w w := .same S (.refl _ _) h
theorem Sim.disjoint (S : Sim φ ah w) {k : Nat} (h : w.heap.size ≤ k) (b : Nat) : cbOf (φ b) ≠ some k := fun e => by
 have := S.cb_lt e
 omega
theorem Owns.cb {k : Nat} (h : Owns φ k) : ∃ b, cbOf (φ b) = some k := by
 obtain ⟨b, ⟨r, hr, _, rfl⟩ | hb⟩ := h
 · exact ⟨b, by rw [hr]; rfl⟩
 · exact ⟨b, by rw [hb]; rfl⟩
def setR (ρ : Nat → SV) (d : Nat) (x : SV) : Nat → SV := fun t => if t = d then x else ρ t
theorem setR_same (ρ : Nat → SV) (d : Nat) (x : SV) : setR ρ d x d = x := by simp [setR]
theorem setR_other (ρ : Nat → SV) {d t : Nat} (x : SV) (h : t ≠ d) : setR ρ d x t = ρ t := by simp [setR, h]
structure Sl (n0 : Nat) (φ : Phi) (β : Nat → Nat) (ρ : Nat → SV) (a : Act) (w : World) : Prop where
 H : ∀ t, SVR φ β w t (a.tmps.getD t undef) (ρ t)
 G : GEnv ρ
 bx : ∀ t cs, ρ t = .box cs → n0 ≤ β t ∧ (∀ b, cbOf (φ b) ≠ some (β t)) ∧ ∀ t' cs', ρ t' = .box cs' → β t' = β t → t' = t
 df : a.defers = []
theorem Sl.ctx {n0 : Nat} (L : Sl n0 φ β ρ a w) (S : Sim φ ah w) (c : conj ρ gs) : Ctx φ β ρ ah a w gs := ⟨S, L.H, L.G, c⟩
theorem SVR.size {t : Nat} {vc : Value} {cs : List AV} (h : SVR φ β w t vc (.box cs)) : β t < w.heap.size := by
 obtain ⟨_, cc, ty, hw, _⟩ := h
 exact (Array.getElem?_eq_some_iff.1 hw).1
theorem Sl.eff {n0 n : Nat} (L : Sl n0 φ β ρ a w) (E : Eff φ φ' n ah' w w') : Sl n0 φ' β ρ a w' := by
 refine ⟨fun t => ?_, L.G, fun t cs hb => ?_, L.df⟩
 · have h := L.H t
   cases e : ρ t with
   | any => trivial
   | g gs bc x => rw [e] at h; exact ⟨fun hb => (h.1 hb).mono E.le, h.2⟩
   | lref gs bc d off => rw [e] at h; exact h
   | box cs =>
    rw [e] at h
    have hsz := h.size
    obtain ⟨h1, cc, ty, h2, h3⟩ := h
    obtain ⟨b1, b2, b3⟩ := L.bx t cs e
    refine ⟨h1, cc, ty, ?_, h3.mono E.le⟩
    rw [E.fr.block _ hsz fun ho => by obtain ⟨b, hb⟩ := ho.cb; exact b2 b hb]
    exact h2
 · obtain ⟨b1, b2, b3⟩ := L.bx t cs hb
   have h := L.H t
   rw [hb] at h
   refine ⟨b1, fun b e => ?_, b3⟩
   rcases E.cb b _ e with ⟨b', e'⟩ | e'
   · exact b2 b' e'
   · have := h.size; omega
def GOk (ρ : Nat → SV) (sv : SV) : Prop :=
 (∀ gs bc x, sv = .g gs bc x → (bc = true ↔ conj ρ gs)) ∧ (∀ gs bc d off, sv = .lref gs bc d off → (bc = true ↔ conj ρ gs))
theorem noG_spec {d : Nat} {gs : List (Nat × Bool)} (h : noG d gs = true) : ∀ p ∈ gs, p.1 ≠ d := by
 induction gs with
 | nil => intro p hp; cases hp
 | cons q gs ih =>
  obtain ⟨t, b⟩ := q
  simp only [noG, Bool.and_eq_true, Bool.not_eq_true'] at h
  intro p hp
  cases hp with
  | head => intro e; subst e; have := h.1; simp at this
  | tail _ hp => exact ih h.2 p hp
theorem conj_setR {d : Nat} {x : SV} (h : ∀ p ∈ gs, p.1 ≠ d) : conj (setR ρ d x) gs ↔ conj ρ gs := by
 constructor
 · intro c p hp
   obtain ⟨g, bc, b, e, hl⟩ := c p hp
   rw [setR_other ρ x (h p hp)] at e
   exact ⟨g, bc, b, e, hl⟩
 · intro c p hp
   obtain ⟨g, bc, b, e, hl⟩ := c p hp
   exact ⟨g, bc, b, by rw [setR_other ρ x (h p hp)]; exact e, hl⟩
theorem GEnv.setR {d : Nat} {x : SV} (G : GEnv ρ) (hn : ∀ t, ∀ p ∈ gsOf (ρ t), p.1 ≠ d) (hx : GOk ρ x) (hd : ∀ p ∈ gsOf x, p.1 ≠ d) : GEnv (Abs.setR ρ d x) := by
 constructor
 · intro t gs bc y e
   by_cases ht : t = d
   · subst ht
     rw [setR_same] at e
     subst e
     have := conj_setR (ρ := ρ) (x := .g gs bc y) hd
     simp only [gsOf] at this
     rw [this]
     exact hx.1 gs bc y rfl
   · rw [setR_other ρ x ht] at e
     rw [conj_setR (by have := hn t; rw [e] at this; exact this)]
     exact G.1 t gs bc y e
 · intro t gs bc e' off e
   by_cases ht : t = d
   · subst ht
     rw [setR_same] at e
     subst e
     have := conj_setR (ρ := ρ) (x := .lref gs bc e' off) hd
     simp only [gsOf] at this
     rw [this]
     exact hx.2 gs bc e' off rfl
   · rw [setR_other ρ x ht] at e
     rw [conj_setR (by have := hn t; rw [e] at this; exact this)]
     exact G.2 t gs bc e' off e
theorem tmps_put {d : Nat} {vc : Value} (hd : d < a.tmps.size) (t : Nat) : (a.put (some d) vc).tmps.getD t undef = if t = d then vc else a.tmps.getD t undef := by
 simp only [Act.put]
 by_cases h : t = d
 · subst h
   simp [Array.getD, hd]
 · rw [if_neg h]
   simp only [Array.getD_eq_getD_getElem?]
   rw [Array.getElem?_setIfInBounds_ne (Ne.symm h)]
theorem Sl.put {n0 d : Nat} {vc : Value} {x : SV} (L : Sl n0 φ β ρ a w) (hd : d < a.tmps.size) (hx : SVR φ β w d vc x) (hb : isBoxS x = false)
 (hn : ∀ t, ∀ p ∈ gsOf (ρ t), p.1 ≠ d) (hg : GOk ρ x) (hgd : ∀ p ∈ gsOf x, p.1 ≠ d) : Sl n0 φ β (setR ρ d x) (a.put (some d) vc) w := by
 refine ⟨fun t => ?_, L.G.setR hn hg hgd, fun t cs e => ?_, L.df⟩
 · rw [tmps_put hd]
   by_cases h : t = d
   · subst h
     rw [if_pos rfl, setR_same]
     exact hx
   · rw [if_neg h, setR_other ρ x h]
     exact L.H t
 · by_cases h : t = d
   · subst h
     rw [setR_same] at e
     subst e
     simp [isBoxS] at hb
   · rw [setR_other ρ x h] at e
     obtain ⟨b1, b2, b3⟩ := L.bx t cs e
     refine ⟨b1, b2, fun t' cs' e' => ?_⟩
     by_cases h' : t' = d
     · subst h'
       rw [setR_same] at e'
       subst e'
       simp [isBoxS] at hb
     · rw [setR_other ρ x h'] at e'
       exact b3 t' cs' e'
def setN (β : Nat → Nat) (d k : Nat) : Nat → Nat := fun t => if t = d then k else β t
theorem setN_same (β : Nat → Nat) (d k : Nat) : setN β d k d = k := by simp [setN]
theorem setN_other (β : Nat → Nat) {d t : Nat} (k : Nat) (h : t ≠ d) : setN β d k t = β t := by simp [setN, h]
theorem Sl.box {n0 d : Nat} {cs : List AV} {cells : Array Value} {ty : TypeId} (L : Sl n0 φ β ρ a w) (S : Sim φ ah w) (h0 : n0 ≤ w.heap.size) (hd : d < a.tmps.size) (hc : VRs φ cs cells.toList)
 (hn : ∀ t, ∀ p ∈ gsOf (ρ t), p.1 ≠ d) (hl : ∀ t gs bc e off, ρ t = .lref gs bc e off → e ≠ d) :
 Sl n0 φ (setN β d w.heap.size) (setR ρ d (.box cs)) (a.put (some d) (.pointer (some ⟨w.heap.size, 0, none⟩))) (w.alloc (.cells cells ty)) := by
 have new : (w.alloc (.cells cells ty)).heap[w.heap.size]? = some (.cells cells ty (0, 0)) := by
  show (w.heap.push _)[w.heap.size]? = _
  simp
 have old : ∀ k, k < w.heap.size → (w.alloc (.cells cells ty)).heap[k]? = w.heap[k]? := fun k hk => by
  show (w.heap.push _)[k]? = _
  rw [Array.getElem?_push, if_neg (by omega)]
 refine ⟨fun t => ?_, L.G.setR hn ⟨fun _ _ _ h => by simp at h, fun _ _ _ _ h => by simp at h⟩ (fun p hp => by simp [gsOf] at hp), fun t cs' e => ?_, L.df⟩
 · rw [tmps_put hd]
   by_cases h : t = d
   · subst h
     rw [if_pos rfl, setR_same]
     exact ⟨by rw [setN_same], cells, ty, by rw [setN_same]; exact new, hc.cellsR⟩
   · rw [if_neg h, setR_other ρ _ h]
     have H := L.H t
     cases e : ρ t with
     | any => trivial
     | g gs bc x => rw [e] at H; exact H
     | lref gs bc d' off =>
      rw [e] at H
      have hne := hl t gs bc d' off e
      exact ⟨fun hb => by rw [setN_other β _ hne]; exact H.1 hb, H.2⟩
     | box cs' =>
      rw [e] at H
      have hsz := H.size
      obtain ⟨h1, cc, ty', h2, h3⟩ := H
      exact ⟨by rw [setN_other β _ h]; exact h1, cc, ty', by rw [setN_other β _ h, old _ hsz]; exact h2, h3⟩
 · by_cases h : t = d
   · subst h
     rw [setN_same]
     refine ⟨h0, fun b => S.disjoint (Nat.le_refl _) b, fun t' cs'' e' hb => ?_⟩
     by_cases h' : t' = t
     · exact h'
     · exfalso
       rw [setR_other ρ _ h'] at e'
       rw [setN_other β _ h'] at hb
       have H := L.H t'
       rw [e'] at H
       have := H.size
       omega
   · rw [setR_other ρ _ h] at e
     obtain ⟨b1, b2, b3⟩ := L.bx t cs' e
     rw [setN_other β _ h]
     refine ⟨b1, b2, fun t' cs'' e' hb => ?_⟩
     by_cases h' : t' = d
     · exfalso
       subst h'
       rw [setN_same] at hb
       have H := L.H t
       rw [e] at H
       have := H.size
       omega
     · rw [setR_other ρ _ h'] at e'
       rw [setN_other β _ h'] at hb
       exact b3 t' cs'' e' hb
theorem Sl.wr {n0 d : Nat} {cs cs0 : List AV} (L : Sl n0 φ β ρ a w) (hd : ρ d = .box cs0) (B : BoxEff φ β d cs ah w w') : Sl n0 φ β (setR ρ d (.box cs)) a w' := by
 refine ⟨fun t => ?_, ?_, fun t cs' e => ?_, L.df⟩
 · have H := L.H t
   by_cases h : t = d
   · subst h
     rw [setR_same]
     rw [hd] at H
     exact ⟨H.1, B.box⟩
   · rw [setR_other ρ _ h]
     cases e : ρ t with
     | any => trivial
     | g gs bc x => rw [e] at H; exact H
     | lref gs bc d' off => rw [e] at H; exact H
     | box cs' =>
      rw [e] at H
      have hsz := H.size
      obtain ⟨h1, cc, ty', h2, h3⟩ := H
      refine ⟨h1, cc, ty', ?_, h3⟩
      rw [B.fr.block _ hsz fun hb => h ((L.bx d cs0 hd).2.2 t cs' e hb)]
      exact h2
 · have same : ∀ t gs bc x, (setR ρ d (.box cs)) t = .g gs bc x ↔ ρ t = .g gs bc x := fun t gs bc x => by
    by_cases h : t = d
    · subst h; rw [setR_same, hd]; simp
    · rw [setR_other ρ _ h]
   have same2 : ∀ t gs bc e off, (setR ρ d (.box cs)) t = .lref gs bc e off ↔ ρ t = .lref gs bc e off := fun t gs bc x off => by
    by_cases h : t = d
    · subst h; rw [setR_same, hd]; simp
    · rw [setR_other ρ _ h]
   have cj : ∀ gs, conj (setR ρ d (.box cs)) gs ↔ conj ρ gs := fun gs => by
    constructor
    · intro c p hp
      obtain ⟨g, bc, b, e, hl⟩ := c p hp
      exact ⟨g, bc, b, (same _ _ _ _).1 e, hl⟩
    · intro c p hp
      obtain ⟨g, bc, b, e, hl⟩ := c p hp
      exact ⟨g, bc, b, (same _ _ _ _).2 e, hl⟩
   exact ⟨fun t gs bc x e => by rw [cj]; exact L.G.1 t gs bc x ((same _ _ _ _).1 e), fun t gs bc e' off e => by rw [cj]; exact L.G.2 t gs bc e' off ((same2 _ _ _ _ _).1 e)⟩
 · have back : ∀ t cs', setR ρ d (.box cs) t = .box cs' → ∃ cs'', ρ t = .box cs'' := fun t cs' e => by
    by_cases h : t = d
    · subst h; exact ⟨_, hd⟩
    · rw [setR_other ρ _ h] at e; exact ⟨_, e⟩
   obtain ⟨cs'', e''⟩ := back t cs' e
   obtain ⟨b1, b2, b3⟩ := L.bx t cs'' e''
   refine ⟨b1, b2, fun t' c' e' hb => ?_⟩
   obtain ⟨c'', e3⟩ := back t' c' e'
   exact b3 t' c'' e3 hb
theorem Eff.box {φ0 : Phi} {w0 : World} {n d : Nat} {cs : List AV} (E : Eff φ0 φ n ah w0 w) (B : BoxEff φ β d cs ah w w') (h0 : w0.heap.size ≤ β d) (hφ : ∀ b, cbOf (φ b) ≠ some (β d)) : Eff φ0 φ n ah w0 w' := by
 refine ⟨E.le, ?_, E.fr.trans B.fr fun k hk ho => ?_, E.cb, E.own, E.len, E.un⟩
 · have S := E.sim
   constructor
   · intro b r hr
     obtain ⟨c, cc, ty, fz, h1, h2, h3, h4, h5⟩ := S.live b r hr
     refine ⟨c, cc, ty, fz, h1, ?_, h3, h4, h5⟩
     rw [B.fr.block _ (S.cb_lt (b := b) (by rw [hr]; rfl)) fun hb => hφ b (by rw [hr]; show some r.cb = _; rw [hb])]
     exact h2
   · intro b c hr
     obtain ⟨es, ces, clk, h1, h2, h3⟩ := S.map b c hr
     refine ⟨es, ces, clk, h1, ?_, h3⟩
     rw [B.fr.block _ (S.cb_lt (b := b) (by rw [hr]; rfl)) fun hb => hφ b (by rw [hr]; show some c = _; rw [hb])]
     exact h2
   · exact S.dead
   · exact S.inj
 · exfalso
   subst ho
   omega
theorem Sim.alloc (S : Sim φ ah w) (o : Obj) : Sim φ ah (w.alloc o) := by
 have old : ∀ k, k < w.heap.size → (w.alloc o).heap[k]? = w.heap[k]? := fun k hk => by
  show (w.heap.push o)[k]? = _
  rw [Array.getElem?_push, if_neg (by omega)]
 constructor
 · intro b r hr
   obtain ⟨c, cc, ty, fz, h1, h2, h3, h4, h5⟩ := S.live b r hr
   exact ⟨c, cc, ty, fz, h1, by rw [old _ (S.cb_lt (b := b) (by rw [hr]; rfl))]; exact h2, h3, h4, h5⟩
 · intro b c hr
   obtain ⟨es, ces, clk, h1, h2, h3⟩ := S.map b c hr
   exact ⟨es, ces, clk, h1, by rw [old _ (S.cb_lt (b := b) (by rw [hr]; rfl))]; exact h2, h3⟩
 · exact S.dead
 · exact S.inj
theorem Fr.alloc (own : Nat → Prop) (o : Obj) : Fr own w (w.alloc o) :=
 ⟨rfl, rfl, rfl, by show _ ≤ (w.heap.push o).size; simp, fun k hk _ => by show (w.heap.push o)[k]? = _; rw [Array.getElem?_push, if_neg (by omega)]⟩
def Reach (P : Program) (o : Oper) (a : Act) (w : World) (K : Value → World → Prop) : Prop :=
 (∃ vc w', (execOp a.eval o).run P w = .ok (.value vc) w' ∧ K vc w') ∨
 (∃ w', (execOp a.eval o).run P w = .ok .skip w' ∧ K undef w') ∨
 (∃ f args, (execOp a.eval o).run P w = .ok (.enter f args) w ∧ Calls P f args w fun e w' => ∃ vc, e = .returned vc ∧ K vc w')
theorem Reach.wp {o : Oper} {K : Value → World → Prop} (h : Reach P o a w K) {next : Act → World → Prop} {Q : Exit → Act → World → Prop} (hn : ∀ vc w', K vc w' → next (a.put o.dst vc) w') : o.wp P a w next Q := by
 unfold Oper.wp
 rcases h with ⟨vc, w', e, h⟩ | ⟨w', e, h⟩ | ⟨f, args, e, h⟩
 · rw [e]; exact hn _ _ h
 · rw [e]; exact hn _ _ h
 · rw [e]
   simp only [Oper.upon]
   refine Calls.mono h fun en w' hk => ?_
   obtain ⟨vc, rfl, hk⟩ := hk
   exact hn _ _ hk
inductive Chg (n : Nat) (φ : Phi) (β : Nat → Nat) (ρ : Nat → SV) (ah : Heap) (w : World) (gs : List (Nat × Bool)) (sv : SV) (h : Heap) (up : Up) (vc : Value) (w' : World) : Prop where
 | val (φ' : Phi) : up = none → Eff φ φ' n h w w' → ((∃ x, sv = .g gs true x ∧ VR φ' x vc) ∨ (∃ d off, sv = .lref gs true d off ∧ vc = .pointer (some ⟨β d, off, none⟩))) → Chg n φ β ρ ah w gs sv h up vc w'
 | box (cs : List AV) (cells : Array Value) (ty : TypeId) : up = none → h = ah → sv = .box cs → vc = .pointer (some ⟨w.heap.size, 0, none⟩) → w' = w.alloc (.cells cells ty) → VRs φ cs cells.toList → Chg n φ β ρ ah w gs sv h up vc w'
 | wr (d : Nat) (cs : List AV) (x : AV) : gs = [] → up = some (d, cs) → h = ah → sv = .v x → VR φ x vc → BoxEff φ β d cs ah w w' → (∃ cs0, ρ d = .box cs0) → Chg n φ β ρ ah w gs sv h up vc w'
def CSound (P : Program) (C : FuncId → List AV → Heap → Res) : Prop :=
 ∀ f as ah v ah', C f as ah = some (v, ah') → Enters P f ∧ ∀ (φ : Phi) (w : World) (args : List Value), VRs φ as args → Sim φ ah w →
  Calls P f args.toArray w fun e w' => ∃ vc, e = .returned vc ∧ ∃ φ', VR φ' v vc ∧ Eff φ φ' ah.length ah' w w'
theorem opA_reach (Cx : Ctx φ β ρ ah a w gs) {o : Oper} {k : AK} (hk : cOp P loc o = some k) {ret : SV → Option R} (h : opA ρ ah gs true k ret = some r) :
 ∃ sv, ret sv = some r ∧ Reach P o a w (Chg ah.length φ β ρ ah w gs sv ah none) := by
 obtain ⟨sv, h, vc, e, hs⟩ := opA_sound Cx hk h
 exact ⟨sv, h, .inl ⟨vc, w, e, .val φ rfl (.refl Cx.S (Nat.le_refl _)) hs⟩⟩
theorem opX_reach (Cx : Ctx φ β ρ ah a w []) {o : Oper} {k : AK} (hk : cOp P loc o = some k) {ret : List AV → Option R} (h : opX ρ k ret = some r) :
 ∃ cs, ret cs = some r ∧ Reach P o a w (Chg ah.length φ β ρ ah w [] (.box cs) ah none) := by
 obtain ⟨cs, cells, ty, h1, h2, h3⟩ := opX_sound Cx hk h
 exact ⟨cs, h1, .inl ⟨_, _, h2, .box cs cells ty rfl rfl rfl rfl rfl h3⟩⟩
theorem opB_reach (Cx : Ctx φ β ρ ah a w []) {o : Oper} {k : AK} (hk : cOp P loc o = some k) {ret : AV → Blk → Option R} (h : opB ρ k ah.length ret = some r) :
 ∃ x b, ret x b = some r ∧ Reach P o a w (Chg ah.length φ β ρ ah w [] (.v x) (ah ++ [b]) none) := by
 obtain ⟨x, blk, obj, vc, st, h1, h2, h3, h4⟩ := opB_sound Cx hk h
 have hE := Eff.born (Cx.S.add [blk]) h3 (Cx.S.unborn (n := ah.length) (by simp)) (by simp) (w' := w.alloc obj) rfl rfl rfl rfl (Nat.le_refl ah.length)
 exact ⟨x, blk, h1, .inl ⟨vc, _, h2, .val _ rfl hE (.inl ⟨x, rfl, h4 _ (setPhi_same _ _ _)⟩)⟩⟩
theorem opM_reach (Cx : Ctx φ β ρ ah a w []) {o : Oper} {k : AK} (hk : cOp P loc o = some k) {ret : AV → Heap → Up → Option R} (h : opM ρ ah k ret = some r) :
 ∃ x h' up, ret x h' up = some r ∧ Reach P o a w (Chg ah.length φ β ρ ah w [] (.v x) h' up) := by
 obtain ⟨x, h', up, h1, nx, vc, w', h2, h3, h4⟩ := opM_sound Cx hk h
 refine ⟨x, h', up, h1, ?_⟩
 have fin : Chg ah.length φ β ρ ah w [] (.v x) h' up vc w' := by
  cases up with
  | none => obtain ⟨φ', hE, hv⟩ := h4; exact .val φ' rfl hE (.inl ⟨x, rfl, hv⟩)
  | some p =>
   obtain ⟨d, cs⟩ := p
   obtain ⟨e1, e2, e3, e4⟩ := h4
   exact .wr d cs x rfl rfl e1 rfl e2 e3 e4
 rcases h3 with rfl | ⟨rfl, rfl⟩
 · exact .inl ⟨vc, w', h2, fin⟩
 · exact .inr (.inl ⟨w', h2, fin⟩)
theorem opF_reach {C : FuncId → List AV → Heap → Res} (hC : CSound P C) (Cx : Ctx φ β ρ ah a w gs) {o : Oper} {k : AK} (hk : cOp P loc o = some k) {K : SV → Heap → Up → Option R}
 (h : opF ρ gs k (fun f as rs z => (C f as ah).bind fun r => rdRes rs r.1 true fun a => K (.g gs true a) r.2 none) = some r) :
 ∃ x h', K (.g gs true x) h' none = some r ∧ Reach P o a w (Chg ah.length φ β ρ ah w gs (.g gs true x) h' none) := by
 obtain ⟨f, as, rs, z, h, hat⟩ := opF_sound Cx hk h
 rw [Option.bind_eq_some_iff] at h
 obtain ⟨⟨v, h'⟩, hc, h⟩ := h
 obtain ⟨x, h, hx⟩ := rdRes_true h
 obtain ⟨hE, hcall⟩ := hC f as ah v h' hc
 obtain ⟨args, hrun, hargs⟩ := hat.go hE
 refine ⟨x, h', h, .inr (.inr ⟨f, args.toArray, hrun, Calls.mono (hcall φ w args hargs Cx.S) fun e w' hk => ?_⟩)⟩
 obtain ⟨vc, rfl, φ', hv, hEff⟩ := hk
 exact ⟨vc, rfl, .val φ' rfl hEff (.inl ⟨x, rfl, hx φ' vc hv⟩)⟩
theorem opF_any {k : AK} {ret : FuncId → List AV → List VS → AV → Option R} (h : opF ρ gs k ret = some r) : ∃ f as rs z, ret f as rs z = some r := by
 cases k <;> simp only [opF] at h <;> try (simp at h; done)
 · split at h
   · exact ⟨_, _, _, _, h⟩
   · simp at h
 · split at h
   · exact ⟨_, _, _, _, h⟩
   · simp at h
theorem opK_reach {C : FuncId → List AV → Heap → Res} (hC : CSound P C) (Cx : Ctx φ β ρ ah a w gs) {o : Oper} {k : AK} (hk : cOp P loc o = some k) {K : SV → Heap → Up → Option R}
 (h : opK C ρ ah gs true k K = some r) :
 ∃ sv h' up, K sv h' up = some r ∧ Reach P o a w (Chg ah.length φ β ρ ah w gs sv h' up) := by
 have X : ∀ k', k = k' → gs = [] → opX ρ k' (fun cs => K (.box cs) ah none) = some r → ∃ sv h' up, K sv h' up = some r ∧ Reach P o a w (Chg ah.length φ β ρ ah w gs sv h' up) := by
  rintro k' rfl rfl h
  obtain ⟨cs, h1, h2⟩ := opX_reach Cx hk h
  exact ⟨_, _, _, h1, h2⟩
 have B : ∀ k', k = k' → gs = [] → opB ρ k' ah.length (fun a b => K (.v a) (ah ++ [b]) none) = some r → ∃ sv h' up, K sv h' up = some r ∧ Reach P o a w (Chg ah.length φ β ρ ah w gs sv h' up) := by
  rintro k' rfl rfl h
  obtain ⟨x, b, h1, h2⟩ := opB_reach Cx hk h
  exact ⟨_, _, _, h1, h2⟩
 have M : ∀ k', k = k' → gs = [] → opM ρ ah k' (fun a h u => K (.v a) h u) = some r → ∃ sv h' up, K sv h' up = some r ∧ Reach P o a w (Chg ah.length φ β ρ ah w gs sv h' up) := by
  rintro k' rfl rfl h
  obtain ⟨x, h', up, h1, h2⟩ := opM_reach Cx hk h
  exact ⟨_, _, _, h1, h2⟩
 have A : opA ρ ah gs true k (fun sv => K sv ah none) = some r → ∃ sv h' up, K sv h' up = some r ∧ Reach P o a w (Chg ah.length φ β ρ ah w gs sv h' up) := by
  intro h
  obtain ⟨sv, h1, h2⟩ := opA_reach Cx hk h
  exact ⟨_, _, _, h1, h2⟩
 have F : opF ρ gs k (fun f as rs z => (C f as ah).bind fun r => rdRes rs r.1 true fun a => K (.g gs true a) r.2 none) = some r → ∃ sv h' up, K sv h' up = some r ∧ Reach P o a w (Chg ah.length φ β ρ ah w gs sv h' up) := by
  intro h
  obtain ⟨x, h', h1, h2⟩ := opF_reach hC Cx hk h
  exact ⟨_, _, _, h1, h2⟩
 cases k <;> simp only [opK] at h
 case boxL x =>
  split at h
  · exact X _ rfl rfl h
  · simp at h
 case allocL x =>
  split at h
  · exact X _ rfl rfl h
  · simp at h
 case boxH x =>
  split at h
  · exact B _ rfl rfl h
  · simp at h
 case allocH x =>
  split at h
  · exact B _ rfl rfl h
  · simp at h
 case buildSl z es ps =>
  split at h
  · exact B _ rfl rfl h
  · simp at h
 case makeMap =>
  split at h
  · exact B _ rfl rfl h
  · simp at h
 case makeSl z n l c =>
  split at h
  · exact B _ rfl rfl h
  · simp at h
 case store n x y =>
  split at h
  · exact M _ rfl rfl h
  · simp at h
 case clear z x =>
  split at h
  · exact M _ rfl rfl h
  · simp at h
 case mapUpdate m k x =>
  split at h
  · exact M _ rfl rfl h
  · simp at h
 case append z es n x y =>
  split at h
  · exact M _ rfl rfl h
  · simp at h
 case copy es x y =>
  split at h
  · exact M _ rfl rfl h
  · simp at h
 case call f args rs z =>
  refine F ?_
  cases gs with
  | nil => exact h
  | cons p gs => exact h
 case callV f args rs z =>
  refine F ?_
  cases gs with
  | nil => exact h
  | cons p gs => exact h
 all_goals exact A h
theorem opK_idle {C : FuncId → List AV → Heap → Res} {k : AK} {K : SV → Heap → Up → Option R} (hgs : gs ≠ []) (h : opK C ρ ah gs false k K = some r) :
 ∃ sv, K sv ah none = some r ∧ Idle gs sv := by
 have A : opA ρ ah gs false k (fun sv => K sv ah none) = some r → ∃ sv, K sv ah none = some r ∧ Idle gs sv := fun h => opA_false h
 have F : opF ρ gs k (fun f as rs z => (if false = true then C f as ah else some (z, ah)).bind fun r => rdRes rs r.1 false fun a => K (.g gs false a) r.2 none) = some r → ∃ sv, K sv ah none = some r ∧ Idle gs sv := by
  intro h
  obtain ⟨f, as, rs, z, h⟩ := opF_any h
  simp only [Bool.false_eq_true, if_false, Option.bind_some] at h
  obtain ⟨x, h⟩ := rdRes_false h
  exact ⟨_, h, .inl ⟨x, rfl⟩⟩
 cases k <;> simp only [opK] at h
 case call f args rs z => exact F h
 case callV f args rs z => exact F h
 all_goals first
  | exact A h
  | (exfalso
     split at h
     · exact hgs rfl
     · simp at h)
end
end Go.Proofs.Ytnmdadadjneaiaa.Abs
/- Regions whose order is the text's; code; functions. -/
set_option linter.unusedVariables false
set_option linter.unusedSimpArgs false
namespace Go.Proofs.Ytnmdadadjneaiaa.Abs
open Go
section
variable {P : Program} {φ φ' φ'' φ0 : Phi} {β : Nat → Nat} {ρ : Nat → SV} {ah ah' : Heap} {a : Act} {w w' w0 : World} {R : Type} {gs : List (Nat × Bool)}
 {loc : Nat} {r : R} {n : Nat}
def putR (ρ : Nat → SV) (d : Option Nat) (x : SV) : Nat → SV := match d with | none => ρ | some d => setR ρ d x
def updR (ρ : Nat → SV) (u : Up) : Nat → SV := match u with | none => ρ | some (d, cs) => setR ρ d (.box cs)
def DOk (dst : Option Nat) (sv : SV) (ρ : Nat → SV) (a : Act) : Prop :=
 match dst with
 | none => isBoxS sv = false
 | some d => d < a.tmps.size ∧ (∀ t, ∀ p ∈ gsOf (ρ t), p.1 ≠ d) ∧ (∀ p ∈ gsOf sv, p.1 ≠ d) ∧
  (isBoxS sv = true → ∀ t gs bc e off, ρ t = .lref gs bc e off → e ≠ d) ∧ isBoxS (ρ d) = false
theorem setR_comm (ρ : Nat → SV) {d e : Nat} (x y : SV) (h : d ≠ e) : setR (setR ρ d x) e y = setR (setR ρ e y) d x := by
 funext t
 simp only [setR]
 split <;> split <;> simp_all
theorem GOk.g {x : AV} (c : conj ρ gs) : GOk ρ (.g gs true x) := by
 constructor
 · intro gs' bc y h; cases h; exact ⟨fun _ => c, fun _ => rfl⟩
 · intro gs' bc d off h; cases h
theorem GOk.l {d off : Nat} (c : conj ρ gs) : GOk ρ (.lref gs true d off) := by
 constructor
 · intro gs' bc y h; cases h
 · intro gs' bc d off h; cases h; exact ⟨fun _ => c, fun _ => rfl⟩
theorem GOk.gF {x : AV} (c : ¬ conj ρ gs) : GOk ρ (.g gs false x) := by
 constructor
 · intro gs' bc y h; cases h; exact ⟨fun h => Bool.noConfusion h, fun h => absurd h c⟩
 · intro gs' bc d off h; cases h
theorem GOk.lF {d off : Nat} (c : ¬ conj ρ gs) : GOk ρ (.lref gs false d off) := by
 constructor
 · intro gs' bc y h; cases h
 · intro gs' bc d off h; cases h; exact ⟨fun h => Bool.noConfusion h, fun h => absurd h c⟩
theorem Sl.step {m : Nat} {sv : SV} {h : Heap} {up : Up} {vc : Value} {dst : Option Nat} (L : Sl w0.heap.size φ β ρ a w) (E : Eff φ0 φ n ah w0 w) (c : Chg m φ β ρ ah w gs sv h up vc w') (hm : n ≤ m)
 (cj : conj ρ gs) (D : DOk dst sv ρ a) : ∃ φ' β', Eff φ0 φ' n h w0 w' ∧ Sl w0.heap.size φ' β' (updR (putR ρ dst sv) up) (a.put dst vc) w' ∧ ∀ b, b < m → φ b = .unborn → φ' b = .unborn := by
 cases c with
 | val φ' hup hE hs =>
  subst hup
  refine ⟨φ', β, E.trans (hE.weaken hm), ?_, hE.un⟩
  have L' := L.eff hE
  cases dst with
  | none => exact L'
  | some d =>
   obtain ⟨d1, d2, d3, d4, d5⟩ := D
   refine L'.put d1 ?_ ?_ d2 ?_ d3
   · rcases hs with ⟨x, rfl, hv⟩ | ⟨e, off, rfl, rfl⟩
     · exact ⟨fun _ => hv, fun h => by simp at h⟩
     · exact ⟨fun _ => rfl, fun h => by simp at h⟩
   · rcases hs with ⟨x, rfl, hv⟩ | ⟨e, off, rfl, rfl⟩ <;> rfl
   · rcases hs with ⟨x, rfl, hv⟩ | ⟨e, off, rfl, rfl⟩
     · exact .g cj
     · exact .l cj
 | box cs cells ty hup hh hsv hvc hw hc =>
  subst hup; subst hh; subst hsv; subst hvc; subst hw
  cases dst with
  | none => simp [DOk, isBoxS] at D
  | some d =>
   obtain ⟨d1, d2, d3, d4, d5⟩ := D
   refine ⟨φ, setN β d w.heap.size, E.trans (.same (E.sim.alloc _) (.alloc _ _) E.len), ?_, fun _ _ h => h⟩
   exact L.box E.sim E.fr.size d1 hc d2 (d4 rfl)
 | wr d cs x hgs hup hh hsv hv B hb =>
  subst hgs; subst hup; subst hh; subst hsv
  obtain ⟨cs0, hb⟩ := hb
  obtain ⟨b1, b2, b3⟩ := L.bx d cs0 hb
  refine ⟨φ, β, E.box B b1 b2, ?_, fun _ _ h => h⟩
  have L' := L.wr hb B
  cases dst with
  | none => exact L'
  | some d' =>
   obtain ⟨d1, d2, d3, d4, d5⟩ := D
   have hne : d' ≠ d := by
    rintro rfl
    rw [hb] at d5
    simp [isBoxS] at d5
   show Sl w0.heap.size φ β (setR (setR ρ d' (.v x)) d (.box cs)) _ _
   rw [setR_comm ρ _ _ hne]
   refine L'.put d1 ⟨fun _ => hv, fun h => Bool.noConfusion h⟩ rfl (fun t p hp => ?_) (.g (conj_nil _)) d3
   by_cases ht : t = d
   · subst ht
     rw [setR_same] at hp
     cases hp
   · rw [setR_other ρ _ ht] at hp
     exact d2 t p hp
theorem Sl.idle {sv : SV} {dst : Option Nat} (L : Sl w0.heap.size φ β ρ a w) (hi : Idle gs sv) (cj : ¬ conj ρ gs) (D : DOk dst sv ρ a) : Sl w0.heap.size φ β (putR ρ dst sv) (a.put dst undef) w := by
 cases dst with
 | none => exact L
 | some d =>
  obtain ⟨d1, d2, d3, d4, d5⟩ := D
  refine L.put d1 ?_ ?_ d2 ?_ d3
  · rcases hi with ⟨x, rfl⟩ | ⟨e, off, rfl⟩
    · exact ⟨fun h => Bool.noConfusion h, fun _ => rfl⟩
    · exact ⟨fun h => Bool.noConfusion h, fun _ => rfl⟩
  · rcases hi with ⟨x, rfl⟩ | ⟨e, off, rfl⟩ <;> rfl
  · rcases hi with ⟨x, rfl⟩ | ⟨e, off, rfl⟩
    · exact .gF cj
    · exact .lF cj
theorem guardOf_spec {g : Option (Nat × Bool)} {bc : Bool} (G : GEnv ρ) (h : guardOf ρ g = some (gs, bc)) : (bc = true ↔ conj ρ gs) ∧ (bc = false → gs ≠ []) := by
 cases g with
 | none =>
  simp only [guardOf, Option.some.injEq, Prod.mk.injEq] at h
  obtain ⟨rfl, rfl⟩ := h
  exact ⟨⟨fun _ => conj_nil ρ, fun _ => rfl⟩, fun h => by cases h⟩
 | some p =>
  obtain ⟨t, wt⟩ := p
  simp only [guardOf] at h
  split at h
  · rename_i gs0 bc0 b e
    simp only [Option.some.injEq, Prod.mk.injEq] at h
    obtain ⟨rfl, rfl⟩ := h
    refine ⟨?_, fun _ => by simp⟩
    have h0 := G.1 t gs0 bc0 (.bool b) e
    constructor
    · intro hb
      cases bc0 with
      | false => cases hb
      | true =>
       have c := h0.1 rfl
       intro p hp
       cases hp with
       | head => exact ⟨gs0, true, b, e, hb⟩
       | tail _ hp => exact c p hp
    · intro c
      have c0 : conj ρ gs0 := fun p hp => c p (.tail _ hp)
      have hbc := h0.2 c0
      subst hbc
      obtain ⟨g', bc', b', e', hl⟩ := c (t, wt) (.head _)
      rw [e] at e'
      cases e'
      exact hl
  · simp at h
theorem wanted_spec {ops : Array Oper} {o : Oper} {g : Option (Nat × Bool)} {bc : Bool} (hg : gSlot ops.toList o = some g) (L : Sl w0.heap.size φ β ρ a w) (h : guardOf ρ g = some (gs, bc)) :
 Region.wanted o (yielded ops a.tmps) = bc := by
 unfold gSlot at hg
 cases ho : o.guard with
 | none =>
  simp only [ho, Option.some.injEq] at hg
  subst hg
  simp only [guardOf, Option.some.injEq, Prod.mk.injEq] at h
  simp [Region.wanted, ho, h.2]
 | some p =>
  obtain ⟨j, wt⟩ := p
  simp only [ho] at hg
  cases hj : ops.toList[j]? with
  | none => simp [hj] at hg
  | some og =>
   simp only [hj] at hg
   cases hd : og.dst with
   | none => simp [hd] at hg
   | some t =>
    simp only [hd, Option.some.injEq] at hg
    subst hg
    simp only [guardOf] at h
    split at h
    · rename_i gs0 bc0 b e
      simp only [Option.some.injEq, Prod.mk.injEq] at h
      obtain ⟨rfl, rfl⟩ := h
      have H := L.H t
      rw [e] at H
      have hy : yielded ops a.tmps j = match a.tmps[t]? with | some (.bool b) => some b | _ => none := by
       have : ops[j]? = some og := by simpa using hj
       simp only [yielded, this, Option.bind_some, hd]
       rfl
      simp only [Region.wanted, ho, hy]
      cases bc0 with
      | true =>
       have hv := H.1 rfl
       have hv := vr_bool hv
       rw [Array.getD_eq_getD_getElem?] at hv
       cases ht : a.tmps[t]? with
       | none => rw [ht] at hv; simp [undef] at hv
       | some v =>
        rw [ht] at hv
        simp only [Option.getD_some] at hv
        subst hv
        simp only [andB]
        cases b <;> cases wt <;> rfl
      | false =>
       have hv := H.2 rfl
       rw [Array.getD_eq_getD_getElem?] at hv
       simp only [andB]
       cases ht : a.tmps[t]? with
       | none => cases wt <;> rfl
       | some v =>
        rw [ht] at hv
        simp only [Option.getD_some] at hv
        subst hv
        cases wt <;> rfl
    · simp at h
abbrev envF (env : List SV) : Nat → SV := fun t => env.getD t .any
theorem envF_set {env : List SV} {d : Nat} (hd : d < env.length) (x : SV) : envF (env.set d x) = setR (envF env) d x := by
 funext t
 simp only [envF, List.getD_eq_getElem?_getD, List.getElem?_set, setR]
 by_cases h : d = t
 · subst h; simp [hd]
 · rw [if_neg h, if_neg (Ne.symm h)]
theorem envOk_spec {bx : Bool} {d : Nat} {env : List SV} (h : envOk bx d env = true) :
 ∀ x ∈ env, (∀ p ∈ gsOf x, p.1 ≠ d) ∧ (bx = true → ∀ gs bc e off, x = .lref gs bc e off → e ≠ d) := by
 induction env with
 | nil => intro x hx; cases hx
 | cons y env ih =>
  intro x hx
  have hy : envOk bx d env = true ∧ (∀ p ∈ gsOf y, p.1 ≠ d) ∧ (bx = true → ∀ gs bc e off, y = .lref gs bc e off → e ≠ d) := by
   cases y with
   | any => exact ⟨h, fun p hp => (nomatch hp), fun _ _ _ _ _ h => nomatch h⟩
   | box cs => exact ⟨h, fun p hp => (nomatch hp), fun _ _ _ _ _ h => nomatch h⟩
   | g gs bc v =>
    simp only [envOk, Bool.and_eq_true] at h
    exact ⟨h.2, noG_spec h.1, fun _ _ _ _ _ h => nomatch h⟩
   | lref gs bc e off =>
    simp only [envOk, Bool.and_eq_true] at h
    refine ⟨h.2, noG_spec h.1.1, fun hb gs' bc' e' off' he => ?_⟩
    cases he
    have := h.1.2
    subst hb
    rintro rfl
    simp at this
  cases hx with
  | head => exact hy.2
  | tail _ hx => exact ih hy.1 x hx
theorem envF_mem {env : List SV} (t : Nat) : envF env t = .any ∨ envF env t ∈ env := by
 simp only [envF, List.getD_eq_getElem?_getD]
 cases h : env[t]? with
 | none => exact .inl rfl
 | some x => exact .inr (List.mem_of_getElem? h)
theorem dstOk_spec {dst : Option Nat} {sv : SV} {env : List SV} (h : dstOk dst sv env = true) (hl : env.length ≤ a.tmps.size) :
 DOk dst sv (envF env) a ∧ ∀ d, dst = some d → d < env.length := by
 cases dst with
 | none => exact ⟨by simpa [dstOk, DOk] using h, fun d h => by cases h⟩
 | some d =>
  simp only [dstOk, Bool.and_eq_true, Bool.not_eq_true', Nat.blt_eq] at h
  obtain ⟨⟨⟨h1, h2⟩, h3⟩, h4⟩ := h
  have sp := envOk_spec h1
  refine ⟨⟨by omega, fun t => ?_, noG_spec h2, fun hb t gs bc e off he => ?_, h3⟩, fun d' hd => by cases hd; exact h4⟩
  · rcases envF_mem (env := env) t with e | e
    · rw [e]; intro p hp; cases hp
    · exact (sp _ e).1
  · rcases envF_mem (env := env) t with e' | e'
    · rw [e'] at he; cases he
    · exact (sp _ e').2 hb gs bc e off he
theorem chkC_some' {p : Prop} [Decidable p] {K : Option R} (h : chkC p K = some r) : K = some r := (chkC_some h).2
theorem reChk_some {ρ : Nat → SV} {h h' : Heap} {up : Up} {K : Option R} : ∀ {l : List Re}, reChk ρ h h' up l K = some r → K = some r := by
 intro l
 induction l with
 | nil => intro h; exact h
 | cons x l ih =>
  intro hh
  cases x with
  | load n t g =>
   simp only [reChk] at hh
   repeat' split at hh
   all_goals first
    | exact ih hh
    | exact ih (chkC_some' hh)
    | exact nomatch hh
  | sl t g =>
   simp only [reChk] at hh
   repeat' split at hh
   all_goals first
    | exact ih hh
    | exact ih (chkC_some' hh)
    | exact nomatch hh
  | blk t =>
   simp only [reChk] at hh
   repeat' split at hh
   all_goals first
    | exact ih (chkC_some' hh)
    | exact nomatch hh
structure Inv (φ0 : Phi) (n : Nat) (w0 : World) (φ : Phi) (β : Nat → Nat) (σ : St) (a : Act) (w : World) : Prop where
 E : Eff φ0 φ n σ.ah w0 w
 L : Sl w0.heap.size φ β (envF σ.env) a w
 len : σ.env.length ≤ a.tmps.size
def Inv' (φ0 : Phi) (n : Nat) (w0 : World) (σ : St) (a : Act) (w : World) : Prop := ∃ φ β, Inv φ0 n w0 φ β σ a w
theorem put_size (a : Act) (dst : Option Nat) (v : Value) : (a.put dst v).tmps.size = a.tmps.size := by
 cases dst <;> simp [Act.put]
theorem put_len (env : List SV) (dst : Option Nat) (x : SV) : (put env dst x).length = env.length := by cases dst <;> simp [put]
theorem upd_len (env : List SV) (u : Up) : (upd env u).length = env.length := by
 cases u with
 | none => rfl
 | some p => obtain ⟨d, cs⟩ := p; simp [upd]
theorem envF_put {env : List SV} {dst : Option Nat} (h : ∀ d, dst = some d → d < env.length) (x : SV) : envF (put env dst x) = putR (envF env) dst x := by
 cases dst with
 | none => rfl
 | some d => exact envF_set (h d rfl) x
def G0 (env : List SV) : Prop := ∀ x ∈ env, gsOf x = []
theorem G0.put {env : List SV} {dst : Option Nat} {x : SV} (G : G0 env) (h : gsOf x = []) : G0 (Abs.put env dst x) := by
 cases dst with
 | none => exact G
 | some d =>
  intro y hy
  rcases List.mem_or_eq_of_mem_set hy with h' | h'
  · exact G y h'
  · rw [h']; exact h
theorem G0.upd {env : List SV} {up : Up} (G : G0 env) : G0 (Abs.upd env up) := by
 cases up with
 | none => exact G
 | some p =>
  obtain ⟨d, cs⟩ := p
  intro y hy
  rcases List.mem_or_eq_of_mem_set hy with h' | h'
  · exact G y h'
  · rw [h']; rfl
theorem guardOf_none {ops : List Oper} {o : Oper} {g : Option (Nat × Bool)} {bc : Bool} (hg : gSlot ops o = some g) (ho : o.guard = none) (h : guardOf ρ g = some (gs, bc)) : gs = [] := by
 unfold gSlot at hg
 simp only [ho, Option.some.injEq] at hg
 subst hg
 simp only [guardOf, Option.some.injEq, Prod.mk.injEq] at h
 exact h.1.symm
theorem Chg.gs0 {m : Nat} {sv : SV} {h : Heap} {up : Up} {vc : Value} (c : Chg m φ β ρ ah w gs sv h up vc w') (hg : gs = []) : gsOf sv = [] := by
 subst hg
 cases c with
 | val φ' _ _ hs => rcases hs with ⟨x, rfl, _⟩ | ⟨e, off, rfl, _⟩ <;> rfl
 | box cs cells ty _ _ hsv => subst hsv; rfl
 | wr d cs x _ _ _ hsv => subst hsv; rfl
theorem stepOp_sound {C : FuncId → List AV → Heap → Res} (hC : CSound P C) {ops : Array Oper} {o : Oper} {re : List Re} {ao : AOp} (hao : cOper P loc ops.toList o re = some ao) {σ : St} {K : St → Option R}
 (I : Inv' φ0 n w0 σ a w) (h : stepOp C ao σ K = some r) {i : Nat} (hi : ops[i]? = some o) {Q : Exit → Act → World → Prop} {next : Act → World → Prop}
 (hn : ∀ σ' a' w', K σ' = some r → Inv' φ0 n w0 σ' a' w' → (o.guard = none → G0 σ.env → G0 σ'.env) → next a' w') : wpOp P ops Q i next a w := by
 obtain ⟨φ, β, E, L, hl⟩ := I
 unfold cOper at hao
 split at hao
 · rename_i g k hg hk
   simp only [Option.some.injEq] at hao
   subst hao
   have h : (match guardOf (envF σ.env) g with
    | none => none
    | some (gs, bc) => opK C (envF σ.env) σ.ah gs bc k fun sv h up =>
     match dstOk o.dst sv σ.env with
     | true => reChk (envF σ.env) σ.ah h up re (K ⟨upd (put σ.env o.dst sv) up, h⟩)
     | false => none) = some r := h
   cases hgd : guardOf (envF σ.env) g with
   | none => rw [hgd] at h; exact nomatch h
   | some p =>
    obtain ⟨gs, bc⟩ := p
    rw [hgd] at h
    simp only at h
    obtain ⟨g1, g2⟩ := guardOf_spec L.G hgd
    have hw := wanted_spec hg L hgd
    unfold wpOp
    simp only [hi, hw]
    cases bc with
    | true =>
     have cj := g1.1 rfl
     obtain ⟨sv, h', up, h, hr⟩ := opK_reach hC (L.ctx E.sim cj) hk h
     split at h
     · rename_i hd
       have h := reChk_some h
       obtain ⟨D, hd'⟩ := dstOk_spec hd hl
       simp only [if_true]
       refine .inl (hr.wp fun vc w' hc => ?_)
       obtain ⟨φ', β', E', L', _⟩ := L.step E hc E.len cj D
       refine hn _ _ _ h ⟨φ', β', E', ?_, ?_⟩ fun hgn G => ?_
       · have e1 := envF_put hd' sv
         cases up with
         | none => simp only [upd]; rw [e1]; exact L'
         | some q =>
          obtain ⟨d, cs⟩ := q
          simp only [upd]
          rw [envF_set, e1]
          · exact L'
          · rw [put_len]
            cases hc with
            | val _ hup => cases hup
            | box _ _ _ hup => cases hup
            | wr d' cs' x _ hup _ _ _ _ hb =>
             cases hup
             obtain ⟨cs0, hb⟩ := hb
             rcases Nat.lt_or_ge d σ.env.length with hlt | hge
             · exact hlt
             · simp [envF, List.getD_eq_getElem?_getD, List.getElem?_eq_none hge] at hb
       · simp only [upd_len, put_len, put_size]
         exact hl
       · have hgs : gs = [] := guardOf_none hg hgn hgd
         exact (G.put (hc.gs0 hgs)).upd
     · simp at h
    | false =>
     have cj : ¬ conj (envF σ.env) gs := fun c => by have := g1.2 c; cases this
     obtain ⟨sv, h, hidle⟩ := opK_idle (g2 rfl) h
     split at h
     · rename_i hd
       have h := reChk_some h
       obtain ⟨D, hd'⟩ := dstOk_spec hd hl
       simp only [Bool.false_eq_true, if_false]
       refine hn _ _ _ h ⟨φ, β, E, ?_, ?_⟩ fun hgn G => absurd (guardOf_none hg hgn hgd) (g2 rfl)
       · simp only [upd]
         rw [envF_put hd']
         exact L.idle hidle cj D
       · simp only [upd_len, put_len, put_size]
         exact hl
     · simp at h
 · simp at hao
end
end Go.Proofs.Ytnmdadadjneaiaa.Abs
/- Code: regions in the text's order, branches, blocks, loops. Regions that are drawn are taken as shown elsewhere. -/
set_option linter.unusedVariables false
set_option linter.unusedSimpArgs false
namespace Go.Proofs.Ytnmdadadjneaiaa.Abs
open Go
section
variable {P : Program} {φ φ' φ'' φ0 : Phi} {β : Nat → Nat} {ρ : Nat → SV} {ah ah' : Heap} {a : Act} {w w' w0 : World} {R : Type} {gs : List (Nat × Bool)}
 {loc : Nat} {r : R} {n : Nat}
structure Inv0 (φ0 : Phi) (n : Nat) (w0 : World) (σ : St) (a : Act) (w : World) : Prop where
 I : Inv' φ0 n w0 σ a w
 G : G0 σ.env
theorem evalOps_sound {C : FuncId → List AV → Heap → Res} (hC : CSound P C) {ops : Array Oper} {Q : Exit → Act → World → Prop} {K : St → Option R} :
 ∀ (l : List Oper) (i : Nat) (L : List AOp) (σ : St) (a : Act) (w : World), ops.toList.drop i = l → cOpers P loc ops.toList l = some L → Inv' φ0 n w0 σ a w → evalOps C L σ K = some r →
  (∀ σ' a' w', K σ' = some r → Inv' φ0 n w0 σ' a' w' → ((∀ o ∈ l, o.guard = none) → G0 σ.env → G0 σ'.env) → Q .normal a' w') → wpOps P ops Q (List.range' i l.length) a w := by
 intro l
 induction l with
 | nil =>
  intro i L σ a w hd hc I h hQ
  simp only [cOpers, Option.some.injEq] at hc
  subst hc
  exact hQ σ a w h I fun _ g => g
 | cons o l ih =>
  intro i L σ a w hd hc I h hQ
  simp only [cOpers] at hc
  split at hc
  · rename_i ao L' h1 h2
    simp only [Option.some.injEq] at hc
    subst hc
    have hi : ops[i]? = some o := by
     have : (ops.toList.drop i)[0]? = some o := by rw [hd]; rfl
     simpa using this
    have hd' : ops.toList.drop (i + 1) = l := by
     have : (ops.toList.drop i).drop 1 = l := by rw [hd]; rfl
     rw [List.drop_drop] at this
     exact this
    simp only [List.length_cons, List.range'_succ]
    rw [wpOps_cons]
    simp only [evalOps] at h
    refine stepOp_sound hC h1 I h hi fun σ' a' w' h' I' hG => ?_
    refine ih (i + 1) L' σ' a' w' hd' h2 I' h' fun σ'' a'' w'' hk I'' hG' => ?_
    exact hQ σ'' a'' w'' hk I'' fun hall g => hG' (fun o' ho' => hall o' (.tail _ ho')) (hG (hall o (.head _)) g)
  · exact nomatch hc
theorem Inv'.mask {σ : St} {env' : List SV} (I : Inv' φ0 n w0 σ a w) (h : ∀ t, envF env' t = .any ∨ envF env' t = envF σ.env t) (hG : G0 env') (hl : env'.length = σ.env.length) : Inv0 φ0 n w0 ⟨env', σ.ah⟩ a w := by
 obtain ⟨φ, β, E, L, hlen⟩ := I
 have gs0 : ∀ t, gsOf (envF env' t) = [] := fun t => by
  rcases envF_mem (env := env') t with e | e
  · rw [e]; rfl
  · exact hG _ e
 refine ⟨⟨φ, β, E, ⟨fun t => ?_, ⟨fun t gs bc x e => ?_, fun t gs bc d off e => ?_⟩, fun t cs e => ?_, L.df⟩, by rw [hl]; exact hlen⟩, hG⟩
 · rcases h t with e | e
   · show SVR φ β w t _ (envF env' t)
     rw [e]; trivial
   · show SVR φ β w t _ (envF env' t)
     rw [e]; exact L.H t
 · have hgs := gs0 t
   have e : envF env' t = .g gs bc x := e
   rw [e] at hgs
   have hgs : gs = [] := hgs
   subst hgs
   rcases h t with e' | e'
   · rw [e] at e'; cases e'
   · rw [e'] at e
     have := L.G.1 t [] bc x e
     exact ⟨fun _ => conj_nil _, fun _ => this.2 (conj_nil _)⟩
 · have hgs := gs0 t
   have e : envF env' t = .lref gs bc d off := e
   rw [e] at hgs
   have hgs : gs = [] := hgs
   subst hgs
   rcases h t with e' | e'
   · rw [e] at e'; cases e'
   · rw [e'] at e
     have := L.G.2 t [] bc d off e
     exact ⟨fun _ => conj_nil _, fun _ => this.2 (conj_nil _)⟩
 · have e : envF env' t = .box cs := e
   rcases h t with e' | e'
   · rw [e] at e'; cases e'
   · rw [e'] at e
     obtain ⟨b1, b2, b3⟩ := L.bx t cs e
     refine ⟨b1, b2, fun t' cs' e2 => ?_⟩
     have e2 : envF env' t' = .box cs' := e2
     rcases h t' with e3 | e3
     · rw [e2] at e3; cases e3
     · rw [e3] at e2
       exact b3 t' cs' e2
theorem envF_cons_zero (x : SV) (l : List SV) : envF (x :: l) 0 = x := by simp [envF]
theorem envF_cons_succ (x : SV) (l : List SV) (t : Nat) : envF (x :: l) (t + 1) = envF l t := by simp [envF]
theorem scrubE_spec : ∀ (env : List SV), (∀ t, envF (scrubE env) t = .any ∨ envF (scrubE env) t = envF env t) ∧ G0 (scrubE env) ∧ (scrubE env).length = env.length := by
 intro env
 induction env with
 | nil => exact ⟨fun t => .inr rfl, fun x hx => (nomatch hx), rfl⟩
 | cons x l ih =>
  obtain ⟨h1, h2, h3⟩ := ih
  have key : ∀ y, (scrubE (x :: l) = y :: scrubE l) → (y = .any ∨ y = x) → gsOf y = [] → (∀ t, envF (scrubE (x :: l)) t = .any ∨ envF (scrubE (x :: l)) t = envF (x :: l) t) ∧ G0 (scrubE (x :: l)) ∧ (scrubE (x :: l)).length = (x :: l).length := by
   intro y e hy hg
   rw [e]
   refine ⟨fun t => ?_, fun z hz => ?_, by simp [h3]⟩
   · cases t with
     | zero =>
      rw [envF_cons_zero, envF_cons_zero]
      exact hy
     | succ t => rw [envF_cons_succ, envF_cons_succ]; exact h1 t
   · cases hz with
     | head => exact hg
     | tail _ hz => exact h2 z hz
  cases x with
  | any => exact key .any rfl (.inl rfl) rfl
  | box cs => exact key (.box cs) rfl (.inr rfl) rfl
  | g gs bc v =>
   cases gs with
   | nil => exact key (.g [] bc v) rfl (.inr rfl) rfl
   | cons p gs => exact key .any rfl (.inl rfl) rfl
  | lref gs bc d off =>
   cases gs with
   | nil => exact key (.lref [] bc d off) rfl (.inr rfl) rfl
   | cons p gs => exact key .any rfl (.inl rfl) rfl
theorem restrE_spec (m : Nat) : ∀ (env : List SV) (i : Nat), (∀ t, envF (restrE m i env) t = .any ∨ envF (restrE m i env) t = envF env t) ∧ (restrE m i env).length = env.length := by
 intro env
 induction env with
 | nil => intro i; exact ⟨fun t => .inr rfl, rfl⟩
 | cons x l ih =>
  intro i
  obtain ⟨h1, h2⟩ := ih (i + 1)
  refine ⟨fun t => ?_, by simp [restrE, h2]⟩
  simp only [restrE]
  cases t with
  | zero =>
   rw [envF_cons_zero, envF_cons_zero]
   split
   · exact .inr rfl
   · exact .inl rfl
  | succ t => rw [envF_cons_succ, envF_cons_succ]; exact h1 t
theorem G0.of_mask {env env' : List SV} (G : G0 env) (h : ∀ t, envF env' t = .any ∨ envF env' t = envF env t) : G0 env' := by
 intro x hx
 obtain ⟨t, ht⟩ := List.mem_iff_getElem?.1 hx
 have e : envF env' t = x := by simp [envF, ht]
 rcases h t with e' | e'
 · rw [← e, e']; rfl
 · rw [← e, e']
   rcases envF_mem (env := env) t with e2 | e2
   · rw [e2]; rfl
   · exact G _ e2
theorem Inv0.restr {σ : St} (I : Inv0 φ0 n w0 σ a w) (m : Nat) : Inv0 φ0 n w0 (Abs.restr m σ) a w := by
 obtain ⟨h1, h2⟩ := restrE_spec m σ.env 0
 exact I.I.mask h1 (I.G.of_mask h1) h2
theorem Inv'.scrub {σ : St} (I : Inv' φ0 n w0 σ a w) : Inv0 φ0 n w0 (Abs.scrub true σ) a w := by
 obtain ⟨h1, h2, h3⟩ := scrubE_spec σ.env
 exact I.mask h1 h2 h3
theorem anyGuard_false {l : List Oper} (h : anyGuard l = false) : ∀ o ∈ l, o.guard = none := by
 induction l with
 | nil => intro o ho; cases ho
 | cons p l ih =>
  simp only [anyGuard, Bool.or_eq_false_iff] at h
  intro o ho
  cases ho with
  | head => cases e : p.guard with
   | none => rfl
   | some x => rw [e] at h; simp at h
  | tail _ ho => exact ih h.2 o ho
def Post (φ0 : Phi) (n : Nat) (w0 : World) (Q : AE → St → Option R) (r : R) : Exit → Act → World → Prop
 | .normal, a, w => ∃ σ, Q .normal σ = some r ∧ Inv0 φ0 n w0 σ a w
 | .exit id, a, w => ∃ σ, Q (.exit id) σ = some r ∧ Inv0 φ0 n w0 σ a w
 | .ret, a, w => ∃ σ, Q .ret σ = some r ∧ Inv0 φ0 n w0 σ a w
 | _, _, _ => False
theorem region_sound {C : FuncId → List AV → Heap → Res} (hC : CSound P C) {ops : Array Oper} {id : Nat} {sc : Bool} {l : List AOp} (hc : cRegion P loc ops.toList false = some (sc, l)) {σ : St} {Q : AE → St → Option R}
 (I : Inv0 φ0 n w0 σ a w) (h : evalOps C l σ (fun σ' => Q .normal (scrub sc σ')) = some r) : (Code.region id ops false).wp P (Post φ0 n w0 Q r) a w := by
 unfold cRegion at hc
 simp only at hc
 split at hc
 · rename_i L hL
   simp only [Option.some.injEq, Prod.mk.injEq] at hc
   obtain ⟨rfl, rfl⟩ := hc
   refine wp_region ?_
   have hr : List.range ops.size = List.range' 0 ops.toList.length := by rw [List.range_eq_range', Array.length_toList]
   rw [hr]
   refine evalOps_sound hC ops.toList 0 L σ a w rfl hL I.I h fun σ' a' w' hk I' hG => ?_
   cases hg : anyGuard ops.toList with
   | true => rw [hg] at hk; exact ⟨_, hk, I'.scrub⟩
   | false => rw [hg] at hk; exact ⟨_, hk, I', hG (anyGuard_false hg) I.G⟩
 · exact nomatch hc
theorem wp_loop_fuel {c : Code} {Q : Exit → Act → World → Prop} (I : Nat → Act → World → Prop) {k : Nat} (h0 : I k a w)
 (round : ∀ k a w, I k a w → c.wp P (Exit.then (fun a' w' => ∃ m, m < k ∧ I m a' w') Q) a w) : (Code.loop c).wp P Q a w := by
 classical
 have least : ∀ a w, (∃ k, I k a w) → ∃ k, I k a w ∧ ∀ m, I m a w → k ≤ m := by
  intro a w ⟨k, hk⟩
  induction k using Nat.strongRecOn with
  | _ k ih =>
   by_cases hm : ∃ m, m < k ∧ I m a w
   · obtain ⟨m, hm, hI⟩ := hm
     exact ih m hm hI
   · exact ⟨k, hk, fun m hI => Nat.not_lt.1 fun hlt => hm ⟨m, hlt, hI⟩⟩
 let μ : Act → World → Nat := fun a w => if h : ∃ k, I k a w then (least a w h).choose else 0
 have hμ : ∀ a w, (∃ k, I k a w) → I (μ a w) a w ∧ ∀ m, I m a w → μ a w ≤ m := by
  intro a w h
  have := (least a w h).choose_spec
  simp only [μ, h, dif_pos]
  exact this
 refine wp_loop (fun a w => ∃ k, I k a w) μ ⟨k, h0⟩ fun a w hI => ?_
 obtain ⟨h1, h2⟩ := hμ a w hI
 refine wp_mono (round _ a w h1) fun e a' w' hq => ?_
 cases e with
 | normal =>
  obtain ⟨m, hm, hI'⟩ := hq
  exact ⟨⟨m, hI'⟩, Nat.lt_of_le_of_lt ((hμ a' w' ⟨m, hI'⟩).2 m hI') hm⟩
 | _ => exact hq
def DrawnOk (P : Program) (C : FuncId → List AV → Heap → Res) : Prop :=
 ∀ (loc : Nat) (ops : Array Oper) (id : Nat) (sc : Bool) (l : List AOp) (R : Type) (r : R) (φ0 : Phi) (n : Nat) (w0 : World) (σ : St) (Q : AE → St → Option R) (a : Act) (w : World),
  cRegion P loc ops.toList true = some (sc, l) → Inv0 φ0 n w0 σ a w → evalOps C l σ (fun σ' => Q .normal (scrub sc σ')) = some r →
  (Code.region id ops true).wp P (Post φ0 n w0 Q r) a w
theorem evalCode_meet {C : FuncId → List AV → Heap → Res} {k : Nat} (b : Bool) (n : Nat) (σ : St) (Q : AE → St → Option R) : evalCode C k (meet b n) σ Q = Q .normal (restr n σ) := by
 cases b <;> rfl
theorem evalCode_sound {C : FuncId → List AV → Heap → Res} (hC : CSound P C) (hD : DrawnOk P C) {rt k : Nat} : ∀ (c : Code) (m : Nat) (X : List (Nat × Nat)) (R : Type) (r : R) (σ : St) (Q : AE → St → Option R) (a : Act) (w : World),
 evalCode C k (cCode P loc rt c m X) σ Q = some r → Inv0 φ0 n w0 σ a w → c.wp P (Post φ0 n w0 Q r) a w := by
 intro c
 induction c with
 | skip => intro m X R r σ Q a w h I; exact wp_skip ⟨σ, h, I⟩
 | region id ops draw =>
  intro m X R r σ Q a w h I
  simp only [cCode] at h
  split at h
  · rename_i sc l hc
    simp only [evalCode] at h
    cases draw with
    | false => exact region_sound hC hc I h
    | true => exact hD loc ops id sc l R r φ0 n w0 σ Q a w hc I h
  · simp [evalCode] at h
 | seq x y ihx ihy =>
  intro m X R r σ Q a w h I
  simp only [cCode, evalCode, evalCode_meet] at h
  refine wp_seq (wp_mono (ihx _ _ R r σ _ a w h I) fun e a' w' hq => ?_)
  cases e with
  | normal => obtain ⟨σ', h', I'⟩ := hq; exact ihy _ _ R r σ' Q a' w' h' I'
  | exit id => obtain ⟨σ', h', I'⟩ := hq; exact ⟨σ', h', I'⟩
  | ret => obtain ⟨σ', h', I'⟩ := hq; exact ⟨σ', h', I'⟩
  | _ => exact hq.elim
 | cond t x y ihx ihy =>
  intro m X R r σ Q a w h I
  simp only [cCode] at h
  split at h
  · rename_i ax hx
    have fin : ∀ (c : Code) (Q1 : AE → St → Option R), (∀ σ', Q1 .normal σ' = Q .normal (restr m σ')) → (∀ id σ', Q1 (.exit id) σ' = Q (.exit id) σ') → (∀ σ', Q1 .ret σ' = Q .ret σ') →
     c.wp P (Post φ0 n w0 Q1 r) a w → c.wp P (Post φ0 n w0 Q r) a w := by
     intro c Q1 q1 q2 q3 hw
     refine wp_mono hw fun e a' w' hq => ?_
     cases e with
     | normal => obtain ⟨σ', h', I'⟩ := hq; rw [q1] at h'; exact ⟨_, h', I'.restr m⟩
     | exit id => obtain ⟨σ', h', I'⟩ := hq; rw [q2] at h'; exact ⟨σ', h', I'⟩
     | ret => obtain ⟨σ', h', I'⟩ := hq; rw [q3] at h'; exact ⟨σ', h', I'⟩
     | _ => exact hq.elim
    have h : (match getV [] (envF σ.env) ax with
     | some (.bool c) => if c = true then evalCode C k (cCode P loc rt x m X) σ (fun x σ' => match x with
      | .normal => Q .normal (restr m σ')
      | .exit id => Q (.exit id) σ'
      | .ret => Q .ret σ') else evalCode C k (cCode P loc rt y m X) σ (fun x σ' => match x with
      | .normal => Q .normal (restr m σ')
      | .exit id => Q (.exit id) σ'
      | .ret => Q .ret σ')
     | _ => none) = some r := by
     simp only [evalCode, evalCode_meet] at h
     exact h
    split at h
    · rename_i b hb
      obtain ⟨φ, β, E, L, hl⟩ := I.I
      have hv := vr_bool (getV_sound (L.ctx E.sim (conj_nil _)) hx hb)
      refine wp_cond hv ?_
      cases b with
      | true => exact fin _ (fun x σ' => match x with
       | .normal => Q .normal (restr m σ')
       | .exit id => Q (.exit id) σ'
       | .ret => Q .ret σ') (fun _ => rfl) (fun _ _ => rfl) (fun _ => rfl) (ihx _ _ R r σ _ a w (by rw [if_pos rfl] at h; exact h) I)
      | false => exact fin _ (fun x σ' => match x with
       | .normal => Q .normal (restr m σ')
       | .exit id => Q (.exit id) σ'
       | .ret => Q .ret σ') (fun _ => rfl) (fun _ _ => rfl) (fun _ => rfl) (ihy _ _ R r σ _ a w (by rw [if_neg (by simp)] at h; exact h) I)
    · exact nomatch h
  · simp [evalCode] at h
 | block id c ih =>
  intro m X R r σ Q a w h I
  simp only [cCode, evalCode, evalCode_meet] at h
  refine wp_block (wp_mono (ih _ _ R r σ _ a w h I) fun e a' w' hq => ?_)
  cases e with
  | normal => obtain ⟨σ', h', I'⟩ := hq; exact ⟨_, h', I'.restr m⟩
  | exit j =>
   obtain ⟨σ', h', I'⟩ := hq
   simp only at h'
   simp only [Exit.inBlock]
   split at h'
   · rename_i hj
     rw [if_pos (Nat.eq_of_beq_eq_true hj)]
     exact ⟨_, h', I'.restr m⟩
   · rename_i hj
     rw [if_neg (fun e => by subst e; simp at hj)]
     exact ⟨σ', h', I'⟩
  | ret => obtain ⟨σ', h', I'⟩ := hq; exact ⟨σ', h', I'⟩
  | _ => exact hq.elim
 | loop c ih =>
  intro m X R r σ Q a w h I
  simp only [cCode, evalCode, evalCode_meet] at h
  generalize hk : k = k0 at h
  revert h
  generalize lv rt c (lv rt c 0 X) X = kin
  generalize X.foldl (fun m p => Nat.lor m p.2) 0 = kout
  intro h
  have hB : ∀ (σ : St) (Q' : AE → St → Option R) a w, evalCode C k (cCode P loc rt c kin X) σ Q' = some r → Inv0 φ0 n w0 σ a w → c.wp P (Post φ0 n w0 Q' r) a w := fun σ Q' a w => ih kin X R r σ Q' a w
  refine wp_loop_fuel (fun j a w => ∃ σ, loopN (evalCode C k (cCode P loc rt c kin X)) kin kout j σ Q = some r ∧ Inv0 φ0 n w0 σ a w) (k := k0) ⟨σ, by rw [hk]; exact h, I⟩ ?_
  rintro j a w ⟨σ, h, I⟩
  cases j with
  | zero => simp [loopN] at h
  | succ j =>
   simp only [loopN] at h
   refine wp_mono (hB _ _ a w h (I.restr kin)) fun e a' w' hq => ?_
   cases e with
   | normal => obtain ⟨σ', h', I'⟩ := hq; exact ⟨j, Nat.lt_succ_self j, σ', h', I'⟩
   | exit id => obtain ⟨σ', h', I'⟩ := hq; exact ⟨_, h', I'.restr kout⟩
   | ret => obtain ⟨σ', h', I'⟩ := hq; exact ⟨σ', h', I'⟩
   | _ => exact hq.elim
 | exit id => intro m X R r σ Q a w h I; exact wp_exit ⟨_, h, I.restr _⟩
 | ret => intro m X R r σ Q a w h I; exact wp_ret ⟨_, h, I.restr _⟩
 | _ => intro m X R r σ Q a w h I; simp [cCode, evalCode] at h
end
end Go.Proofs.Ytnmdadadjneaiaa.Abs
/- Functions: what the evaluator answers, a call returns. -/
set_option linter.unusedVariables false
set_option linter.unusedSimpArgs false
namespace Go.Proofs.Ytnmdadadjneaiaa.Abs
open Go
section
variable {P : Program} {φ φ' φ'' φ0 : Phi} {β : Nat → Nat} {ρ : Nat → SV} {ah ah' : Heap} {a : Act} {w w' w0 : World} {R : Type} {gs : List (Nat × Bool)}
 {loc : Nat} {r : R} {n : Nat}
def resStep (tmps : Array Value) : ResultVar → Sem Value
 | .tmp t => pure (tmps.getD t undef)
 | .cell a t => do loadVar t (← asAddr (tmps.getD a undef))
theorem run_resCell {t : TypeId} {x : Nat} {vc : Value} {dst type pos after guard} (h : (execOp a.eval ⟨dst, .load t (.tmp x), type, pos, after, guard⟩).run P w = .ok (.value vc) w) :
 (resStep a.tmps (.cell x t)).run P w = .ok vc w := by
 have he : a.eval (.tmp x) = a.tmps.getD x undef := rfl
 simp only [execOp, he, Instr.loadAt, Sem.run_bind] at h
 simp only [resStep, Sem.run_bind]
 generalize a.tmps.getD x undef = v at h
 cases v
 case pointer o =>
  cases o with
  | none => simp [Instr.sureAddr, stuck, Sem.run, Result.andThen] at h
  | some ad =>
   simp only [Instr.sureAddr, Sem.run_pure, Result.andThen] at h
   simp only [asAddr, Sem.run_pure, Result.andThen]
   cases e : (loadVar t ad).run P w with
   | ok v w' => rw [e] at h; simp at h; obtain ⟨rfl, rfl⟩ := h; rfl
   | halt x w' => rw [e] at h; simp at h
 all_goals simp [Instr.sureAddr, stuck, Sem.run, Result.andThen] at h
theorem retG_sound {σ : St} (Cx : Ctx φ β (envF σ.env) σ.ah a w []) : ∀ (l : List ResultVar) (rs : List RV) {K : List AV → Res} {r : AV × Heap}, resRV P l = some rs → retG σ rs K = some r →
 ∃ as vs, K as = some r ∧ (l.mapM (resStep a.tmps)).run P w = .ok vs w ∧ VRs φ as vs := by
 intro l
 induction l with
 | nil =>
  intro rs K r h1 h2
  simp only [resRV, Option.some.injEq] at h1
  subst h1
  exact ⟨[], [], h2, by simp, .nil _⟩
 | cons x l ih =>
  intro rs K r h1 h2
  cases x with
  | tmp t =>
   simp only [resRV] at h1
   split at h1
   · rename_i rs' hrs
     simp only [Option.some.injEq] at h1
     subst h1
     have h2 : (match getV [] (envF σ.env) (.tmp t) with
      | some a => retG σ rs' fun as => K (a :: as)
      | none => none) = some r := h2
     split at h2
     · rename_i v hv
       have e := getV_sound Cx (x := .tmp t) rfl hv
       obtain ⟨as, vs, k1, k2, k3⟩ := ih rs' hrs h2
       refine ⟨v :: as, a.tmps.getD t undef :: vs, k1, ?_, .cons e k3⟩
       simp [List.mapM_cons, resStep, Sem.run_bind, Result.andThen, k2]
     · exact nomatch h2
   · exact nomatch h1
  | cell x t =>
   simp only [resRV] at h1
   split at h1
   · rename_i s rs' hs hrs
     simp only [Option.some.injEq] at h1
     subst h1
     have h2 : opA (envF σ.env) σ.ah [] true (.load s (.tmp x)) (fun sv => match sv with
      | .g _ _ a => retG σ rs' fun as => K (a :: as)
      | _ => none) = some r := h2
     have hk : cOp P 0 ⟨none, .load t (.tmp x), 0, "", #[], none⟩ = some (.load s (.tmp x)) := by simp [cOp, hs, cX]
     obtain ⟨sv, h2, vc, hrun, hsv⟩ := a_load Cx hk h2
     rcases hsv with ⟨y, rfl, hv⟩ | ⟨d, off, rfl, _⟩
     · obtain ⟨as, vs, k1, k2, k3⟩ := ih rs' hrs h2
       refine ⟨y :: as, vc :: vs, k1, ?_, .cons hv k3⟩
       have hr := run_resCell hrun
       simp [List.mapM_cons, Sem.run_bind, Result.andThen, k2, hr]
     · exact nomatch h2
   · exact nomatch h1
theorem results_eq (fn : Func) (tmps : Array Value) : results fn tmps = (do
 let vs ← fn.results.mapM (resStep tmps)
 pure (if h : vs.size = 1 then vs[0] else .tuple vs)) := rfl
theorem retV_sound {σ : St} (Cx : Ctx φ β (envF σ.env) σ.ah a w []) {fn : Func} {rs : List RV} {v : AV} (h1 : resRV P fn.results.toList = some rs) (h2 : retV rs σ = some (v, ah')) :
 ah' = σ.ah ∧ ∃ vc, (results fn a.tmps).run P w = .ok vc w ∧ VR φ v vc := by
 unfold retV at h2
 obtain ⟨as, vs, k1, k2, k3⟩ := retG_sound Cx fn.results.toList rs h1 h2
 have hm : (fn.results.mapM (resStep a.tmps)).run P w = .ok vs.toArray w := by
  rw [Array.mapM_eq_mapM_toList]
  simp [k2, Result.andThen]
 have hlen := k3.1
 split at k1
 · rename_i x
   simp only [Option.some.injEq, Prod.mk.injEq] at k1
   obtain ⟨rfl, rfl⟩ := k1
   obtain ⟨y, ys, rfl, hv, hrest⟩ := k3.cons_inv
   have : ys = [] := by
    have := hrest.1
    cases ys with
    | nil => rfl
    | cons z zs => simp at this
   subst this
   refine ⟨rfl, y, ?_, hv⟩
   rw [results_eq]
   simp [Sem.run_bind, hm, Result.andThen]
 · rename_i l hne
   simp only [Option.some.injEq, Prod.mk.injEq] at k1
   obtain ⟨rfl, rfl⟩ := k1
   refine ⟨rfl, .tuple vs.toArray, ?_, .tup_list k3⟩
   rw [results_eq]
   have : ¬ vs.length = 1 := by
    intro h
    rw [← hlen] at h
    match as, h with
    | [x], _ => exact hne x rfl
   simp [Sem.run_bind, hm, Result.andThen, this]
theorem initEnv_len : ∀ (l : List AV) (n : Nat), (initEnv l n).length = l.length + (n - l.length) := by
 intro l
 induction l with
 | nil => intro n; simp [initEnv]
 | cons x l ih => intro n; simp [initEnv, ih]; omega
theorem initEnv_get : ∀ (l : List AV) (n t : Nat), envF (initEnv l n) t = match l[t]? with | some x => .v x | none => .any := by
 intro l
 induction l with
 | nil =>
  intro n t
  simp only [initEnv, envF, List.getD_eq_getElem?_getD, List.getElem?_replicate]
  split <;> rfl
 | cons x l ih =>
  intro n t
  simp only [initEnv]
  cases t with
  | zero => rw [envF_cons_zero]; rfl
  | succ t => rw [envF_cons_succ, ih]; rfl
theorem init_inv {args : List AV} {vs : List Value} {nt : Nat} (hv : VRs φ args vs) (S : Sim φ ah w) :
 Inv0 φ ah.length w ⟨initEnv args nt, ah⟩ { tmps := vs.toArray ++ Array.replicate (nt - vs.toArray.size) undef, defers := [] } w := by
 have hlen := hv.1
 have get : ∀ t, envF (initEnv args nt) t = .any ∨ ∃ x, args[t]? = some x ∧ envF (initEnv args nt) t = .v x := fun t => by
  rw [initEnv_get]
  cases args[t]? with
  | none => exact .inl rfl
  | some x => exact .inr ⟨x, rfl, rfl⟩
 refine ⟨⟨φ, fun _ => 0, .refl S (Nat.le_refl _), ⟨fun t => ?_, ⟨fun t gs bc x e => ?_, fun t gs bc d off e => ?_⟩, fun t cs e => ?_, rfl⟩, ?_⟩, ?_⟩
 · rcases get t with e | ⟨x, hx, e⟩
   · show SVR _ _ _ _ _ (envF _ t)
     rw [e]; trivial
   · show SVR _ _ _ _ _ (envF _ t)
     rw [e]
     obtain ⟨y, hy, hvr⟩ := hv.get hx
     have ht : t < vs.length := (List.getElem?_eq_some_iff.1 hy).1
     refine ⟨fun _ => ?_, fun h => Bool.noConfusion h⟩
     rw [Array.getD_eq_getD_getElem?, Array.getElem?_append_left (by simpa using ht)]
     simp [hy]
     exact hvr
 · rcases get t with e' | ⟨x', hx, e'⟩
   · have e : envF (initEnv args nt) t = _ := e
     rw [e] at e'; cases e'
   · have e : envF (initEnv args nt) t = _ := e
     rw [e] at e'; cases e'
     exact ⟨fun _ => conj_nil _, fun _ => rfl⟩
 · rcases get t with e' | ⟨x', hx, e'⟩
   · have e : envF (initEnv args nt) t = _ := e
     rw [e] at e'; cases e'
   · have e : envF (initEnv args nt) t = _ := e
     rw [e] at e'; cases e'
 · rcases get t with e' | ⟨x', hx, e'⟩
   · have e : envF (initEnv args nt) t = _ := e
     rw [e] at e'; cases e'
   · have e : envF (initEnv args nt) t = _ := e
     rw [e] at e'; cases e'
 · simp [initEnv_len]
   omega
 · intro x hx
   obtain ⟨t, ht⟩ := List.mem_iff_getElem?.1 hx
   have e : envF (initEnv args nt) t = x := by simp [envF, ht]
   rcases get t with e' | ⟨x', _, e'⟩
   · rw [← e, e']; rfl
   · rw [← e, e']; rfl
def CallOk (P : Program) (f : FuncId) (as : List AV) (ah : Heap) (v : AV) (ah' : Heap) : Prop :=
 Enters P f ∧ ∀ (φ : Phi) (w : World) (args : List Value), VRs φ as args → Sim φ ah w →
  Calls P f args.toArray w fun e w' => ∃ vc, e = .returned vc ∧ ∃ φ', VR φ' v vc ∧ Eff φ φ' ah.length ah' w w'
theorem runFn_sound {C : FuncId → List AV → Heap → Res} (hC : CSound P C) (hD : DrawnOk P C) {k : Nat} {f : FuncId} {afn : AFn} (hf : cFn P f = some afn) {as : List AV} {v : AV}
 (h : runFn C k afn as ah = some (v, ah')) : CallOk P f as ah v ah' := by
 unfold cFn at hf
 split at hf
 · exact nomatch hf
 · rename_i fn hfn
   split at hf
   · rename_i c rs hb hrs
     split at hf
     · exact nomatch hf
     · rename_i hname
       simp only [Option.some.injEq] at hf
       subst hf
       refine ⟨⟨fn, hfn, by rw [hb]; rfl, hname⟩, fun φ w args hargs S => ?_⟩
       unfold runFn at h
       simp only at h
       refine calls_of_wp hfn hb ?_
       refine wp_mono (evalCode_sound hC hD c _ _ (AV × Heap) (v, ah') _ _ _ w h (init_inv hargs S)) fun e a' w' hq => ?_
       have fin : ∀ σ, retV rs σ = some (v, ah') → Inv0 φ ah.length w σ a' w' → a'.defers = [] ∧ ∃ vc, (results fn a'.tmps).run P w' = .ok vc w' ∧ ∃ vc', Ending.returned vc = .returned vc' ∧ ∃ φ', VR φ' v vc' ∧ Eff φ φ' ah.length ah' w w' := by
        intro σ hr I
        obtain ⟨φ', β, E, L, hl⟩ := I.I
        obtain ⟨rfl, vc, hrun, hv⟩ := retV_sound (L.ctx E.sim (conj_nil _)) hrs hr
        exact ⟨L.df, vc, hrun, vc, rfl, φ', hv, E⟩
       cases e with
       | normal => obtain ⟨σ, hr, I⟩ := hq; exact fin σ hr I
       | ret => obtain ⟨σ, hr, I⟩ := hq; exact fin σ hr I
       | exit id => obtain ⟨σ, hr, I⟩ := hq; exact nomatch hr
       | _ => exact hq.elim
   · exact nomatch hf
def PrimsOk (P : Program) (T : Prims) : Prop := ∀ f p, T f = some p → ∀ as ah v ah', p as ah = some (v, ah') → CallOk P f as ah v ah'
theorem evalF_sound {T : Prims} (hT : PrimsOk P T) (hD : ∀ C, CSound P C → DrawnOk P C) : ∀ (k : Nat), CSound P (evalF P T k) := by
 intro k
 induction k with
 | zero => intro f as ah v ah' h; simp [evalF] at h
 | succ k ih =>
  intro f as ah v ah' h
  simp only [evalF] at h
  split at h
  · rename_i p hp
    exact hT f p hp as ah v ah' h
  · split at h
    · exact nomatch h
    · rename_i afn hf
      exact runFn_sound ih (hD _ ih) hf h
end
end Go.Proofs.Ytnmdadadjneaiaa.Abs
