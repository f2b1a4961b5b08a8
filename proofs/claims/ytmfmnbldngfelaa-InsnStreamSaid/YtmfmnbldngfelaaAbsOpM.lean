/- Operations that make blocks, and operations that turn memory. -/
import Derived.Test.YtmfmnbldngfelaaAbsOpE
import Derived.Laws.Append
set_option linter.unusedVariables false
set_option linter.unusedSimpArgs false
namespace Go.Proofs.Ytmfmnbldngfelaa.Abs
open Go

section
variable {P : Program} {φ : Phi} {β : Nat → Nat} {ρ : Nat → SV} {ah : Heap} {a : Act} {w : World} {gs : List (Nat × Bool)} {R : Type}
  {loc : Nat} {r : R}

/-! ### Boxes of the frame -/

theorem run_newRow (t : TypeId) (cs : Array Value) : (newRow t cs).run P w = .ok ⟨w.heap.size, 0, none⟩ (w.alloc (.cells cs t)) := by
  simp [newRow, Result.andThen]

theorem x_box (C : Ctx φ β ρ ah a w []) {dst type pos after guard} {t : TypeId} {x : Operand} {ax : AX} (hx : cX x = some ax) {v : AV} (hv : getV [] ρ ax = some v) (hs : solid v = true) :
    (execOp a.eval ⟨dst, .box t x, type, pos, after, guard⟩).run P w = .ok (.value (.pointer (some ⟨w.heap.size, 0, none⟩))) (w.alloc (.cells (a.eval x).cells t)) ∧ VRs φ (cellsOf v) (a.eval x).cells.toList := by
  refine ⟨?_, cellsOf_sound (getV_sound C hx hv) (solid_ne hs)⟩
  simp only [execOp, Instr.box, newVar, Sem.run_bind, run_newRow, Result.andThen, Sem.run_pure]

theorem x_alloc {dst type pos after guard} {t : TypeId} {z : List AV} (hz : zeroOf P t = some z) :
    ∃ cs : Array Value, (execOp a.eval ⟨dst, .alloc t, type, pos, after, guard⟩).run P w = .ok (.value (.pointer (some ⟨w.heap.size, 0, none⟩))) (w.alloc (.cells cs t)) ∧ VRs φ z cs.toList := by
  obtain ⟨i, v, hi, hzv, hr, _⟩ := zeroOf_sound (φ := φ) hz
  refine ⟨v.cells, ?_, hr⟩
  simp only [execOp, Instr.alloc, Sem.run_bind, run_zero hi hzv, newVar, run_newRow, Result.andThen, Sem.run_pure]

def akCls : AK → Nat
  | .boxL _ | .allocL _ | .boxH _ | .allocH _ => 1
  | .buildSl _ _ _ => 2
  | .makeMap => 3
  | .makeSl _ _ _ _ => 4
  | .store _ _ _ => 5
  | .mapUpdate _ _ _ => 6
  | .append _ _ _ _ _ => 7
  | .copy _ _ _ => 8
  | .clear _ _ => 9
  | .call _ _ _ _ | .callV _ _ _ _ => 10
  | _ => 0

def opCls : Op → Nat
  | .alloc _ | .box _ _ => 1
  | .buildSlice _ _ _ => 2
  | .makeMap _ _ => 3
  | .makeSlice _ _ _ => 4
  | .store _ _ _ => 5
  | .mapUpdate _ _ _ _ => 6
  | .call ⟨.builtin .append, _, _⟩ => 7
  | .call ⟨.builtin .copy, _, _⟩ => 8
  | .call ⟨.builtin .clear, _, _⟩ => 9
  | .call ⟨.value _, _, _⟩ => 10
  | _ => 0

theorem cOp_cls {o : Oper} {k : AK} (hk : cOp P loc o = some k) : akCls k = opCls o.op := by
  obtain ⟨dst, op, type, pos, after, guard⟩ := o
  cases op
  case call c =>
    obtain ⟨callee, args, ts⟩ := c
    cases callee with
    | builtin b =>
      simp only [cOp] at hk
      repeat' split at hk
      all_goals first
        | (simp at hk; done)
        | (simp only [Option.some.injEq] at hk; subst hk; rfl)
    | value f =>
      simp only [cOp] at hk
      split at hk <;> simp at hk <;> subst hk <;> rfl
    | invoke rv m => simp [cOp] at hk
  case makeFunc fn first cap =>
    cases fn with
    | func f => simp only [cOp] at hk; split at hk <;> simp at hk; subst hk; rfl
    | _ => simp [cOp] at hk
  case makeMap t rv =>
    cases rv with
    | none => simp [cOp] at hk; subst hk; rfl
    | some x => simp [cOp] at hk
  all_goals
    simp only [cOp] at hk
  all_goals
    first
    | (simp at hk; done)
    | (repeat' split at hk
       all_goals first
        | (simp at hk; done)
        | (simp only [Option.some.injEq] at hk; subst hk; rfl)
        | (simp only [Option.some.injEq] at hk; subst hk; split <;> rfl))

theorem isOp1 {op : Op} (h : 1 = opCls op) : (∃ t, op = .alloc t) ∨ (∃ t x, op = .box t x) := by
  unfold opCls at h
  split at h <;> first | exact .inl ⟨_, rfl⟩ | exact .inr ⟨_, _, rfl⟩ | (simp at h; done)
theorem isOp2 {op : Op} (h : 2 = opCls op) : ∃ t n ps, op = .buildSlice t n ps := by
  unfold opCls at h
  split at h <;> first | exact ⟨_, _, _, rfl⟩ | (simp at h; done)
theorem isOp3 {op : Op} (h : 3 = opCls op) : ∃ t n, op = .makeMap t n := by
  unfold opCls at h
  split at h <;> first | exact ⟨_, _, rfl⟩ | (simp at h; done)
theorem isOp4 {op : Op} (h : 4 = opCls op) : ∃ t l c, op = .makeSlice t l c := by
  unfold opCls at h
  split at h <;> first | exact ⟨_, _, _, rfl⟩ | (simp at h; done)
theorem isOp5 {op : Op} (h : 5 = opCls op) : ∃ t x y, op = .store t x y := by
  unfold opCls at h
  split at h <;> first | exact ⟨_, _, _, rfl⟩ | (simp at h; done)
theorem isOp6 {op : Op} (h : 6 = opCls op) : ∃ t m k x, op = .mapUpdate t m k x := by
  unfold opCls at h
  split at h <;> first | exact ⟨_, _, _, _, rfl⟩ | (simp at h; done)
theorem isOp7 {op : Op} (h : 7 = opCls op) : ∃ as ts, op = .call ⟨.builtin .append, as, ts⟩ := by
  unfold opCls at h
  split at h <;> first | exact ⟨_, _, rfl⟩ | (simp at h; done)
theorem isOp8 {op : Op} (h : 8 = opCls op) : ∃ as ts, op = .call ⟨.builtin .copy, as, ts⟩ := by
  unfold opCls at h
  split at h <;> first | exact ⟨_, _, rfl⟩ | (simp at h; done)
theorem isOp9 {op : Op} (h : 9 = opCls op) : ∃ as ts, op = .call ⟨.builtin .clear, as, ts⟩ := by
  unfold opCls at h
  split at h <;> first | exact ⟨_, _, rfl⟩ | (simp at h; done)
theorem isOp10 {op : Op} (h : 10 = opCls op) : ∃ f as ts, op = .call ⟨.value f, as, ts⟩ := by
  unfold opCls at h
  split at h <;> first | exact ⟨_, _, _, rfl⟩ | (simp at h; done)

/-- Boxing, by what the compiled operation is. -/
theorem box_inv {dst type pos after guard} {t : TypeId} {x : Operand} {k : AK} (hk : cOp P loc ⟨dst, .box t x, type, pos, after, guard⟩ = some k) :
    ∃ ax, cX x = some ax ∧ (k = .boxL ax ∨ k = .boxH ax) := by
  simp only [cOp] at hk
  split at hk
  · rename_i ax d hx
    simp only [Option.some.injEq] at hk
    subst hk
    refine ⟨ax, hx, ?_⟩
    split
    · exact .inl rfl
    · exact .inr rfl
  · simp at hk
theorem alloc_inv {dst type pos after guard} {t : TypeId} {k : AK} (hk : cOp P loc ⟨dst, .alloc t, type, pos, after, guard⟩ = some k) :
    ∃ z, zeroOf P t = some z ∧ (k = .allocL z ∨ k = .allocH z) := by
  simp only [cOp] at hk
  split at hk
  · rename_i z d hz
    simp only [Option.some.injEq] at hk
    subst hk
    refine ⟨z, hz, ?_⟩
    split
    · exact .inl rfl
    · exact .inr rfl
  · simp at hk

theorem opX_sound (C : Ctx φ β ρ ah a w []) {o : Oper} {k : AK} (hk : cOp P loc o = some k) {ret : List AV → Option R} (h : opX ρ k ret = some r) :
    ∃ cs cells ty, ret cs = some r ∧ (execOp a.eval o).run P w = .ok (.value (.pointer (some ⟨w.heap.size, 0, none⟩))) (w.alloc (.cells cells ty)) ∧ VRs φ cs cells.toList := by
  have hc := cOp_cls hk
  obtain ⟨dst, op, type, pos, after, guard⟩ := o
  have h1 : 1 = opCls op := by
    cases k <;> simp only [opX] at h <;> first | exact hc | simp at h
  rcases isOp1 h1 with ⟨t, rfl⟩ | ⟨t, x, rfl⟩
  · obtain ⟨z, hz, rfl | rfl⟩ := alloc_inv hk
    · obtain ⟨cs, h2, h3⟩ := x_alloc (φ := φ) (a := a) (w := w) (dst := dst) (type := type) (pos := pos) (after := after) (guard := guard) hz
      exact ⟨z, cs, t, h, h2, h3⟩
    · simp [opX] at h
  · obtain ⟨ax, hx, rfl | rfl⟩ := box_inv hk
    · simp only [opX] at h
      split at h
      · rename_i v hv
        split at h
        · rename_i hs
          obtain ⟨h2, h3⟩ := x_box (dst := dst) (type := type) (pos := pos) (after := after) (guard := guard) (t := t) C hx hv hs
          exact ⟨_, _, t, h, h2, h3⟩
        · simp at h
      · simp at h
    · simp [opX] at h

/-! ### New blocks -/

inductive Born (φ : Phi) (w : World) : Blk → Obj → Stt → Prop where
  | cells {cs : List AV} {m : Mode} {cells : Array Value} {ty : TypeId} : CellsR φ cs 0 cells → m ≠ .ro → Born φ w (.cells cs m 0) (.cells cells ty) (.live ⟨w.heap.size, 0, 0, m, cells.size⟩)
  | map : Born φ w (.map []) (.map #[] 0) (.lmap w.heap.size)

theorem VRs.cellsR {cs : List AV} {cells : Array Value} (h : VRs φ cs cells.toList) : CellsR φ cs 0 cells :=
  ⟨by have := h.1; simp at this; omega, fun i x hx => by obtain ⟨y, hy, hv⟩ := h.get hx; exact ⟨y, by simpa using hy, hv⟩⟩

theorem ptr_born {n : Nat} {m : Mode} {sz : Nat} : ∀ φ' : Phi, φ' n = .live ⟨w.heap.size, 0, 0, m, sz⟩ → VR φ' (.ptr (some ⟨n, 0, 0⟩)) (.pointer (some ⟨w.heap.size, 0, none⟩)) := by
  intro φ' h
  refine .ptr ?_
  unfold AddrR
  simp only [h]
  exact ⟨Nat.le_refl _, fun _ => by trivial⟩

theorem sl_born {n len cap es sz : Nat} (hc : cap * es = sz) (hl : len ≤ cap) : ∀ φ' : Phi, φ' n = .live ⟨w.heap.size, 0, 0, .grow es, sz⟩ → VR φ' (.sl (.pos ⟨n, 0, 0⟩) len) (.slice (some ⟨w.heap.size, 0, none⟩) len cap) := by
  intro φ' h
  refine .sl ?_ ?_ hl
  · unfold AddrR
    simp only [h]
    exact ⟨Nat.le_refl _, fun _ => by trivial⟩
  · unfold CapR
    simp only [h]
    intro _ e he
    cases he
    omega

theorem repl_length (n : Nat) (z : List AV) : (repl n z).length = n * z.length := by
  unfold repl
  split
  · simp
  · simp

theorem flatten_rep_get {z : List AV} : ∀ (n i : Nat), i < n * z.length → (List.replicate n z).flatten[i]? = z[i % z.length]? := by
  intro n
  induction n with
  | zero => intro i h; simp at h
  | succ n ih =>
    intro i h
    rw [List.replicate_succ, List.flatten_cons]
    by_cases hc : i < z.length
    · rw [List.getElem?_append_left hc, Nat.mod_eq_of_lt hc]
    · rw [List.getElem?_append_right (by omega), ih (i - z.length) (by rw [Nat.succ_mul] at h; omega)]
      rw [← Nat.mod_eq_sub_mod (by omega)]

theorem repl_get {z : List AV} (n i : Nat) (h : i < n * z.length) : (repl n z)[i]? = z[i % z.length]? := by
  unfold repl
  split
  · rename_i x
    simp only [List.length_singleton, Nat.mul_one] at h
    rw [List.getElem?_replicate, if_pos h, List.length_singleton, Nat.mod_one]
    rfl
  · exact flatten_rep_get n i h

/-- Zero cells, loaded: at least as many as the abstract block has. -/
theorem zeros_vr {z : List AV} {zv : Array Value} (hz : VRs φ z zv.toList) (n m : Nat) (hnm : n ≤ m) (hpos : 0 < z.length) :
    CellsR φ (repl n z) 0 ((Array.range (m * zv.size)).map (zv[· % zv.size]!)) := by
  have hl : z.length = zv.size := by have := hz.1; simpa using this
  have hle : n * zv.size ≤ m * zv.size := Nat.mul_le_mul_right _ hnm
  constructor
  · rw [repl_length, hl]
    simp
    exact hle
  · intro i x hx
    have hi : i < n * z.length := by
      have := (List.getElem?_eq_some_iff.1 hx).1
      rwa [repl_length] at this
    rw [repl_get n i hi] at hx
    obtain ⟨y, hy, hv⟩ := hz.get hx
    refine ⟨y, ?_, hv⟩
    have hi' : i < m * zv.size := by rw [hl] at hi; omega
    have hmod : i % zv.size < zv.size := Nat.mod_lt _ (by omega)
    rw [Nat.zero_add]
    have : ((Array.range (m * zv.size)).map (zv[· % zv.size]!))[i]? = some (zv[i % zv.size]!) := by
      simp [hi']
    rw [this]
    rw [hl] at hy
    have : zv[i % zv.size]? = some y := by simpa using hy
    simp [getElem!_def, this]

theorem parts_es {es : Nat} : ∀ {l : List (Nat × Operand)} {j : Nat} {r : List (Nat × AX)}, cPartsS es j l = some r →
    cParts (fun i => some (i * es, es)) l = some (r.map fun p => (p.1, es, p.2)) ∧ r.length = l.length := by
  intro l
  induction l with
  | nil => intro j r h; simp [cPartsS] at h; subst h; exact ⟨rfl, rfl⟩
  | cons p l ih =>
    obtain ⟨i, x⟩ := p
    intro j r h
    simp only [cPartsS] at h
    split at h
    · rename_i hij
      split at h
      · rename_i a' r' h1 h2
        simp only [Option.some.injEq] at h
        subst h
        obtain ⟨g1, g2⟩ := ih h2
        exact ⟨by simp [cParts, h1, g1], by simp [g2]⟩
      · simp at h
    · simp at h

theorem wrapI {n : Int} (h0 : -9223372036854775808 ≤ n) (h1 : n < 9223372036854775808) : IntKind.i64.wrap n = n := by
  simp only [IntKind.wrap, IntKind.bits, IntKind.signed, Bool.true_and, decide_eq_true_eq, ge_iff_le]
  split <;> omega

theorem opB_sound (C : Ctx φ β ρ ah a w []) {o : Oper} {k : AK} (hk : cOp P loc o = some k) {n : Nat} {ret : AV → Blk → Option R} (h : opB ρ k n ret = some r) :
    ∃ x blk obj vc st, ret x blk = some r ∧ (execOp a.eval o).run P w = .ok (.value vc) (w.alloc obj) ∧ Born φ w blk obj st ∧ (∀ φ' : Phi, φ' n = st → VR φ' x vc) := by
  have hc := cOp_cls hk
  obtain ⟨dst, op, type, pos, after, guard⟩ := o
  cases k <;> simp only [opB] at h <;> try (simp at h; done)
  case boxH x =>
    rcases isOp1 hc with ⟨t, rfl⟩ | ⟨t, y, rfl⟩
    · obtain ⟨z, hz, e | e⟩ := alloc_inv hk <;> cases e
    · obtain ⟨ax, hx, e | e⟩ := box_inv hk <;> cases e
      split at h
      · rename_i v hv
        split at h
        · rename_i hs
          obtain ⟨h2, h3⟩ := x_box (dst := dst) (type := type) (pos := pos) (after := after) (guard := guard) (t := t) C hx hv hs
          exact ⟨_, _, _, _, _, h, h2, .cells h3.cellsR (by simp), ptr_born⟩
        · simp at h
      · simp at h
  case allocH z =>
    rcases isOp1 hc with ⟨t, rfl⟩ | ⟨t, y, rfl⟩
    · obtain ⟨z, hz, e | e⟩ := alloc_inv hk <;> cases e
      obtain ⟨cs, h2, h3⟩ := x_alloc (φ := φ) (a := a) (w := w) (dst := dst) (type := type) (pos := pos) (after := after) (guard := guard) hz
      exact ⟨_, _, _, _, _, h, h2, .cells h3.cellsR (by simp), ptr_born⟩
    · obtain ⟨ax, hx, e | e⟩ := box_inv hk <;> cases e
  case buildSl z es ps =>
    obtain ⟨t, len, qs, rfl⟩ := isOp2 hc
    simp only [cOp] at hk
    split at hk
    · rename_i e hu
      split at hk
      · rename_i z0 m rr hz0 hm hr
        split at hk
        · rename_i hcond
          obtain ⟨hlen, hbig, hpos⟩ := hcond
          simp only [Option.some.injEq, AK.buildSl.injEq] at hk
          obtain ⟨rfl, rfl, rfl⟩ := hk
          rw [hm, Option.getD_some] at hr
          obtain ⟨hp, hpl⟩ := parts_es hr
          split at h
          · rename_i vs hvs
            rw [Option.bind_eq_some_iff] at h
            obtain ⟨cs, hcs, h⟩ := h
            obtain ⟨i, zv, hi, hzv, hzr, hzl⟩ := zeroOf_sound (φ := φ) hz0
            have hsz : i.size = m := by
              obtain ⟨i', hi', rfl⟩ := size_of_info hm
              rw [hi] at hi'; cases hi'; rfl
            have hzs : zv.cells.size = m := by have := hzr.1; simp at this; omega
            have hz := zeros_vr (φ := φ) hzr len len (Nat.le_refl _) (by omega)
            rw [hzs] at hz
            have hz' : VRs φ (repl len z0) ((Array.range (len * m)).map (zv.cells[· % zv.cells.size]!)).toList := by
              rw [hzs]
              refine ⟨by rw [repl_length]; simp; rw [hzl, hsz], fun i x y hx hy => ?_⟩
              obtain ⟨y', hy', hv⟩ := hz.get i x hx
              rw [Nat.zero_add] at hy'
              have : y' = y := by
                rw [Array.getElem?_toList] at hy
                rw [hy'] at hy
                exact Option.some.inj hy
              rw [← this]
              exact hv
            obtain ⟨cs', hf, hv⟩ := parts_sound C (pl' := fun i => some (i * m, m)) (fun i p hp => hp) hp hvs hz' hcs
            have hmp : (qs.map fun (i, x) => (i, a.eval x)).toList = qs.toList.map fun p => (p.1, a.eval p.2) := by simp
            refine ⟨_, _, .cells cs' e, .slice (some ⟨w.heap.size, 0, none⟩) len len, .live ⟨w.heap.size, 0, 0, .grow m, cs'.size⟩, h, ?_, .cells hv.cellsR (by simp), ?_⟩
            · have hb : ¬ len * m > 2 ^ 24 := by omega
              by_cases h0 : len * m = 0
              · have hr : (Array.range (len * m)).map ((#[] : Array Value)[· % (#[] : Array Value).size]!) = ((Array.range (len * m)).map (zv.cells[· % zv.cells.size]!)) := by rw [h0]; simp
                simp only [execOp, Instr.buildSlice, Sem.run_bind, run_under hu, run_size hm, Result.andThen, hmp, if_neg hb, if_pos h0, Sem.run_pure, hr, hf, run_newRow]
              · simp only [execOp, Instr.buildSlice, Sem.run_bind, run_under hu, run_size hm, Result.andThen, hmp, if_neg hb, if_neg h0, Sem.run_pure, run_zero hi hzv, hf, run_newRow]
            · rw [hlen]
              refine sl_born ?_ (Nat.le_refl _)
              have h1 := hv.1
              have hcl : cs.length = (repl len z0).length := by
                have : ∀ (vs : List (Nat × Nat × List AV)) (z cs : List AV), buildGo z vs = some cs → cs.length = z.length := by
                  intro vs
                  induction vs with
                  | nil => intro z cs h; simp [buildGo] at h; rw [h]
                  | cons p vs ih =>
                    intro z cs h
                    simp only [buildGo] at h
                    split at h
                    · rename_i hc
                      rw [ih _ _ h, splice_length _ _ _ (by omega)]
                    · simp at h
                exact this _ _ _ hcs
              rw [repl_length] at hcl
              simp at h1
              rw [← h1, hcl, hzl, hsz]
          · simp at h
        · simp at hk
      · simp at hk
    · simp at hk
  case makeMap =>
    obtain ⟨t, rv, rfl⟩ := isOp3 hc
    cases rv with
    | some x => simp [cOp] at hk
    | none =>
      refine ⟨_, _, .map #[] 0, .map (some w.heap.size), .lmap w.heap.size, h, ?_, .map, fun φ' h' => .map h'⟩
      simp [execOp, Instr.makeMap, Result.andThen]
  case makeSl z bytes len cap =>
    obtain ⟨t, l0, c0, rfl⟩ := isOp4 hc
    simp only [cOp] at hk
    split at hk
    · rename_i e hu
      split at hk
      · rename_i z0 nb al ac hz0 hnb hal hac
        split at hk
        · rename_i hpos
          simp only [Option.some.injEq, AK.makeSl.injEq] at hk
          obtain ⟨rfl, rfl, rfl, rfl⟩ := hk
          split at h
          · rename_i l c hl hcv
            obtain ⟨⟨h0, hlc, hcb⟩, h⟩ := chk_some h
            have e1 := vr_int (getV_sound C hal hl)
            have e2 := vr_int (getV_sound C hac hcv)
            obtain ⟨i, zv, hi, hzv, hzr, hzl⟩ := zeroOf_sound (φ := φ) hz0
            have hbytes : i.bytes = nb := by
              unfold bytesOfT at hnb
              rw [hi] at hnb
              simpa using hnb
            have hsize : zv.cells.size = i.size := by have := hzr.1; simp at this; omega
            have hnbpos : 0 < nb := hpos.2
            have hc46 : c ≤ 70368744177664 := by
              have h1 : c * 1 ≤ c * nb := Int.mul_le_mul_of_nonneg_left (by omega) (by omega)
              omega
            have w1 : IntKind.i64.wrap l = l := wrapI (by omega) (by omega)
            have w2 : IntKind.i64.wrap c = c := wrapI (by omega) (by omega)
            have hcn : ((c.toNat : Nat) : Int) = c := Int.toNat_of_nonneg (by omega)
            have hlarge : ∀ n : Int, 0 ≤ n → n ≤ c → (decide (n < 0) || decide ((nb : Int) * n > 2 ^ 48)) = false := by
              intro n g1 g2
              have h1 : n * nb ≤ c * nb := Int.mul_le_mul_of_nonneg_right g2 (by omega)
              have h2 : (nb : Int) * n = n * nb := Int.mul_comm _ _
              simp only [Bool.or_eq_false_iff, decide_eq_false_iff_not]
              omega
            have hroom : (askRoom (c.toNat * nb)).run P w = .ok () w := by
              unfold askRoom
              split <;> rfl
            have hsz : (Go.sizeOf e).run P w = .ok i.size w := by simp [Go.sizeOf, run_typeInfo' hi, Result.andThen]
            refine ⟨_, _, .cells ((Array.range (c.toNat * zv.cells.size)).map (zv.cells[· % zv.cells.size]!)) e, .slice (some ⟨w.heap.size, 0, none⟩) l.toNat c.toNat, _, h, ?_,
              .cells (zeros_vr hzr l.toNat c.toNat (by omega) hpos.1) (by simp), sl_born ?_ (by omega)⟩
            · have hl1 := hlarge c (by omega) (Int.le_refl _)
              simp only [execOp, Instr.makeSlice, Sem.run_bind, run_under hu, e1, e2, asInt, asIntOf, Sem.run_pure, run_typeInfo' hi, hbytes, Result.andThen, w1, w2, hl1, Bool.false_or]
              have hl2 : (decide (l < 0) || decide (l > c)) = false := by simp; omega
              by_cases hc0 : c.toNat * i.size = 0
              · have hr : (Array.range (c.toNat * i.size)).map ((#[] : Array Value)[· % (#[] : Array Value).size]!) = ((Array.range (c.toNat * zv.cells.size)).map (zv.cells[· % zv.cells.size]!)) := by rw [hsize, hc0]; simp
                simp only [hl2, Bool.false_eq_true, if_false, Sem.run_bind, hroom, Result.andThen, hsz, if_pos hc0, Sem.run_pure, hr, run_newRow]
              · simp only [hl2, Bool.false_eq_true, if_false, Sem.run_bind, hroom, Result.andThen, hsz, if_neg hc0, run_zero hi hzv, hsize, run_newRow, Sem.run_pure]
            · rw [hzl, ← hsize]; simp
          · simp at h
        · simp at hk
      · simp at hk
    · simp at hk

end
end Go.Proofs.Ytmfmnbldngfelaa.Abs
