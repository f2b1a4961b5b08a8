/- Operations that read, at most: composite values, maps, lengths; equality of structs; all kinds together. -/
import Derived.Test.YtmfmnbldngfelaaAbsOpB
set_option linter.unusedVariables false
set_option linter.unusedSimpArgs false
namespace Go.Proofs.Ytmfmnbldngfelaa.Abs
open Go

section
variable {P : Program} {φ : Phi} {β : Nat → Nat} {ρ : Nat → SV} {ah : Heap} {a : Act} {w : World} {gs : List (Nat × Bool)} {R : Type}
  {loc : Nat} {ret : SV → Option R} {r : R}

/-! ### Composite values -/

theorem size_of_info {t : TypeId} {n : Nat} (h : sizeOfT P t = some n) : ∃ i, P.info? t = some i ∧ i.size = n := by
  unfold sizeOfT at h
  split at h
  · rename_i i hi; simp at h; exact ⟨i, hi, h⟩
  · simp at h

theorem zeroOf_sound {t : TypeId} {z : List AV} (h : zeroOf P t = some z) : ∃ i v, P.info? t = some i ∧ i.zero = some v ∧ VRs φ z v.cells.toList ∧ z.length = i.size := by
  unfold zeroOf at h
  split at h
  · rename_i i hi
    split at h
    · rename_i v hv
      split at h
      · rename_i l hl
        split at h
        · rename_i he; simp at h; subst h; exact ⟨i, v, hi, hv, ofCells_sound hl, he⟩
        · simp at h
      · simp at h
    · simp at h
  · simp at h

/-- The fold by which a part is put in. -/
theorem fold_put (off : Nat) : ∀ (vs : List Value) (j : Nat) (cs : Array Value), off + j + vs.length ≤ cs.size →
    ((vs.zipIdx j).foldl (fun cs (p : Value × Nat) => cs.setIfInBounds (off + p.2) p.1) cs).toList = cs.toList.take (off + j) ++ vs ++ cs.toList.drop (off + j + vs.length) := by
  intro vs
  induction vs with
  | nil => intro j cs h; simp
  | cons v vs ih =>
    intro j cs h
    simp only [List.length_cons] at h
    simp only [List.zipIdx_cons, List.foldl_cons]
    rw [ih (j + 1) (cs.setIfInBounds (off + j) v) (by simp; omega)]
    simp only [Array.toList_setIfInBounds]
    apply List.ext_getElem?
    intro i
    by_cases h1 : i < off + j
    · rw [List.append_assoc, List.append_assoc, List.getElem?_append_left (by simp; omega), List.getElem?_append_left (by simp; omega), List.getElem?_take, List.getElem?_take, if_pos (by omega), if_pos (by omega), List.getElem?_set, if_neg (by omega)]
    · by_cases h2 : i = off + j
      · subst h2
        rw [List.append_assoc, List.getElem?_append_left (by simp; omega), List.append_assoc, List.getElem?_append_right (by simp; omega)]
        rw [List.getElem?_take, if_pos (by omega), List.getElem?_set, if_pos rfl, if_pos (by simp; omega)]
        simp
        have : off + j - min (off + j) cs.size = 0 := by omega
        rw [this]
        simp
      · by_cases h3 : i < off + j + 1 + vs.length
        · rw [List.append_assoc, List.getElem?_append_right (by simp; omega), List.getElem?_append_left (by simp; omega), List.append_assoc, List.getElem?_append_right (by simp; omega), List.getElem?_append_left (by simp; omega)]
          have e1 : i - (List.take (off + (j + 1)) (cs.toList.set (off + j) v)).length = i - (off + j + 1) := by simp; omega
          have e2 : i - (List.take (off + j) cs.toList).length = (i - (off + j + 1)) + 1 := by simp; omega
          rw [e1, e2]
          simp
        · rw [List.getElem?_append_right (by simp; omega), List.getElem?_append_right (by simp; omega), List.getElem?_drop, List.getElem?_drop, List.getElem?_set, if_neg (by simp; omega)]
          congr 1
          simp
          omega

theorem fold_put' (off : Nat) (v : Value) (cs : Array Value) (h : off + v.cells.size ≤ cs.size) :
    (v.cells.zipIdx.foldl (fun cs (c, j) => cs.setIfInBounds (off + j) c) cs).toList = cs.toList.take off ++ v.cells.toList ++ cs.toList.drop (off + v.cells.size) := by
  have := fold_put off v.cells.toList 0 cs (by simpa using h)
  rw [← Array.foldl_toList, Array.toList_zipIdx]
  simpa using this

theorem splice_vr {cs xs : List AV} {cs' ys : List Value} {o : Nat} (h : VRs φ cs cs') (hx : VRs φ xs ys) (hl : o + xs.length ≤ cs.length) :
    VRs φ (splice o xs cs) (cs'.take o ++ ys ++ cs'.drop (o + ys.length)) := by
  have hc : CellsR φ cs 0 cs'.toArray := ⟨by simp [h.1], fun i x hx' => by obtain ⟨y, hy, hv⟩ := h.get hx'; exact ⟨y, by simpa using hy, hv⟩⟩
  have := CellsR.spliced hc hl hx
  refine ⟨?_, fun i x y hx' hy' => ?_⟩
  · rw [splice_length _ _ _ hl]
    have := h.1
    have := hx.1
    simp
    omega
  · obtain ⟨y', hy, hv⟩ := this.get i x hx'
    simp at hy
    have : (cs'.take o ++ ys ++ cs'.drop (o + ys.length))[i]? = some y' := by simpa using hy
    rw [this] at hy'
    cases hy'
    exact hv

theorem solid_ne {x : AV} (h : solid x = true) : x ≠ .opq := by
  rintro rfl
  simp [solid] at h

theorem parts_sound (C : Ctx φ β ρ ah a w gs) {pl : Nat → Option (Nat × Nat)} {pl' : Nat → Option (Nat × Nat)} (hpl : ∀ i p, pl i = some p → pl' i = some p) :
    ∀ {ps : List (Nat × Operand)} {cps : List (Nat × Nat × AX)}, cParts pl ps = some cps → ∀ {vs : List (Nat × Nat × List AV)}, getParts gs ρ cps = some vs →
    ∀ {z cs : List AV} {z' : Array Value}, VRs φ z z'.toList → buildGo z vs = some cs →
    ∃ cs' : Array Value, Instr.fill pl' z' (ps.map fun p => (p.1, a.eval p.2)) = some cs' ∧ VRs φ cs cs'.toList := by
  intro ps
  induction ps with
  | nil =>
    intro cps h vs hv z cs z' hz hb
    simp [cParts] at h; subst h
    simp [getParts] at hv; subst hv
    simp [buildGo] at hb; subst hb
    exact ⟨z', rfl, hz⟩
  | cons p ps ih =>
    obtain ⟨i, x⟩ := p
    intro cps h vs hv z cs z' hz hb
    simp only [cParts] at h
    split at h
    · rename_i off n ax r h1 h2 h3
      simp at h; subst h
      simp only [getParts] at hv
      split at hv
      · rename_i u r' hu hr
        split at hv
        · rename_i hso
          simp at hv; subst hv
          simp only [buildGo] at hb
          split at hb
          · rename_i hlen
            have e1 := getV_sound C h2 hu
            have e2 := cellsOf_sound e1 (solid_ne hso)
            have hsz : (a.eval x).cells.size = n := by have := e2.1; simp at this; omega
            have hz' : z'.size = z.length := by have := hz.1; simpa using this.symm
            have hle : off + (a.eval x).cells.size ≤ z'.size := by omega
            obtain ⟨cs', hc1, hc2⟩ := ih h3 hr (z' := ((a.eval x).cells.zipIdx.foldl (fun cs (c, j) => cs.setIfInBounds (off + j) c) z')) (by
              rw [fold_put' off (a.eval x) z' hle]
              have := splice_vr hz e2 (o := off) (by omega)
              simpa using this) hb
            refine ⟨cs', ?_, hc2⟩
            simp only [List.map_cons, Instr.fill, hpl _ _ h1]
            have : ¬ ((a.eval x).cells.size ≠ n ∨ off + (a.eval x).cells.size > z'.size) := by omega
            simp only [Bool.or_eq_true, decide_eq_true_eq, ne_eq]
            rw [if_neg (by simpa using this)]
            exact hc1
          · simp at hb
        · simp at hv
      · simp at hv
    · simp at h

theorem run_sizes {fs : List Field} (h : sizesOk P fs = true) :
    (fs.mapM fun f => (do pure (f.offset, ← Go.sizeOf f.type) : Sem (Nat × Nat))).run P w = .ok (fs.map fun f => (f.offset, (sizeOfT P f.type).getD 0)) w := by
  induction fs with
  | nil => simp
  | cons f fs ih =>
    simp only [sizesOk, Bool.and_eq_true, Option.isSome_iff_exists] at h
    obtain ⟨⟨n, hn⟩, h2⟩ := h
    simp only [List.mapM_cons, Sem.run_bind, run_size hn, Result.andThen, Sem.run_pure, ih h2, List.map_cons, hn, Option.getD_some]

theorem a_build (C : Ctx φ β ρ ah a w gs) {dst type pos after guard} {t : TypeId} {ps : Array (Nat × Operand)} {k : AK} (hk : cOp P loc ⟨dst, .build t ps, type, pos, after, guard⟩ = some k)
    (h : opA ρ ah gs true k ret = some r) : ∃ sv, ret sv = some r ∧ AOk P φ β a w ⟨dst, .build t ps, type, pos, after, guard⟩ gs sv := by
  simp only [cOp] at hk
  split at hk
  · rename_i z fs hz hu
    split at hk
    · simp at hk
    · rename_i hok
      have hok : sizesOk P fs.toList = true := by simpa using hok
      split at hk
      · rename_i cps hcp
        simp at hk; subst hk
        simp only [opA] at h
        split at h
        · rename_i vs hvs
          obtain ⟨cs, hcs, h⟩ := gb_true h
          obtain ⟨i, zv, hi, hzv, hzr, hzl⟩ := zeroOf_sound (φ := φ) hz
          have hrun := run_sizes (w := w) hok
          obtain ⟨cs', hf, hv⟩ := parts_sound C (pl' := fun i => (fs.toList.map fun f => (f.offset, (sizeOfT P f.type).getD 0))[i]?) (fun i p hp => by
              split at hp
              · rename_i f hf
                split at hp
                · rename_i n hn
                  have hf : fs.toList[i]? = some f := by simpa using hf
                  rw [List.getElem?_map, hf]
                  simp at hp; subst hp
                  simp [hn]
                · simp at hp
              · simp at hp) hcp hvs hzr hcs
          refine ⟨_, h, .val (vc := .agg cs') ?_ (.agg (by simpa using hv.1) fun i x y hx hy => hv.2 i x y hx (by simpa using hy))⟩
          have hm : (fs.mapM fun f => (do pure (f.offset, ← Go.sizeOf f.type) : Sem (Nat × Nat))).run P w = .ok (fs.toList.map fun f => (f.offset, (sizeOfT P f.type).getD 0)).toArray w := by
            rw [Array.mapM_eq_mapM_toList]
            exact (Sem.run_map P w _ _).trans (by rw [hrun]; rfl)
          have hmp : (ps.map fun (i, x) => (i, a.eval x)).toList = ps.toList.map fun p => (p.1, a.eval p.2) := by simp
          simp only [execOp, Sem.run_bind, Instr.build, run_zero hi hzv, run_under hu, Result.andThen, hm, hmp]
          simp only [List.getElem?_toArray, hf]
          rfl
        · simp at h
      · simp at hk
  · rename_i z n e hz hu
    split at hk
    · rename_i m hm
      split at hk
      · rename_i cps hcp
        simp at hk; subst hk
        simp only [opA] at h
        split at h
        · rename_i vs hvs
          obtain ⟨cs, hcs, h⟩ := gb_true h
          obtain ⟨i, zv, hi, hzv, hzr, hzl⟩ := zeroOf_sound (φ := φ) hz
          obtain ⟨cs', hf, hv⟩ := parts_sound C (pl' := fun i => some (i * m, m)) (fun i p hp => hp) hcp hvs hzr hcs
          refine ⟨_, h, .val (vc := .agg cs') ?_ (.agg (by simpa using hv.1) fun i x y hx hy => hv.2 i x y hx (by simpa using hy))⟩
          have hmp : (ps.map fun (i, x) => (i, a.eval x)).toList = ps.toList.map fun p => (p.1, a.eval p.2) := by simp
          simp only [execOp, Sem.run_bind, Instr.build, run_zero hi hzv, run_under hu, Result.andThen, run_size hm, hmp, hf]
          rfl
        · simp at h
      · simp at hk
    · simp at hk
  · simp at hk

/-! ### Lengths, minima, maxima -/

theorem rdInts_sound {l : List AV} : ∀ {ns : List Int} {vs : List Value}, rdInts l = some ns → VRs φ l vs → vs = ns.map (Value.int .i64) := by
  induction l with
  | nil =>
    intro ns vs h hv
    simp [rdInts] at h; subst h
    have := hv.1
    cases vs <;> simp_all
  | cons x l ih =>
    intro ns vs h hv
    obtain ⟨y, ys, rfl, h1, h2⟩ := hv.cons_inv
    cases x with
    | int kk n =>
      cases kk with
      | i64 =>
        simp only [rdInts] at h
        split at h
        · rename_i r hr
          simp at h; subst h
          rw [vr_int h1, ih hr h2]
          rfl
        · simp at h
      | _ => simp [rdInts] at h
    | _ => simp [rdInts] at h

theorem run_fold_min (ns : List Int) : ∀ (x : Int), ((ns.map (Value.int .i64)).foldlM Builtin.min2 (.int .i64 x)).run P w = .ok (.int .i64 (foldMM false x ns)) w := by
  induction ns with
  | nil => intro x; simp [foldMM]
  | cons n ns ih => intro x; simp only [List.map_cons, List.foldlM_cons, Sem.run_bind, Builtin.min2, Sem.run_pure, Result.andThen, foldMM]; exact ih _
theorem run_fold_max (ns : List Int) : ∀ (x : Int), ((ns.map (Value.int .i64)).foldlM Builtin.max2 (.int .i64 x)).run P w = .ok (.int .i64 (foldMM true x ns)) w := by
  induction ns with
  | nil => intro x; simp [foldMM]
  | cons n ns ih => intro x; simp only [List.map_cons, List.foldlM_cons, Sem.run_bind, Builtin.max2, Sem.run_pure, Result.andThen, foldMM]; exact ih _

def resQ (z : Value) : Option (Nat × Value) → Value
  | some (_, v) => v
  | none => z

def foundR (φ : Phi) : Option AV → Option (Nat × Value) → Prop
  | none, none => True
  | some x, some (_, v) => VR φ x v
  | _, _ => False

def resL (ok : Bool) (z : Value) (q : Option (Nat × Value)) : Value :=
  match ok with
  | true => .tuple #[resQ z q, .bool q.isSome]
  | false => resQ z q

theorem mapFind_sound {kk : IntKind} {ka : AV} {vk : Value} (e2 : VR φ ka vk) {f : Option AV} : ∀ (es : List (AV × AV)) (ms : List MapEntry) (i : Nat), MapR φ es ms → mapFind ka es = some f →
    ∃ q, Instr.findNow (.int kk) vk ms i = some q ∧ foundR φ f q := by
  intro es
  induction es with
  | nil => intro ms i hr hf; cases hr; simp [mapFind] at hf; subst hf; exact ⟨none, rfl, trivial⟩
  | cons p es ih =>
    intro ms i hr hf
    cases hr with
    | cons g1 g2 g3 =>
      rename_i k1 v1 e0 es0
      cases ka with
      | int k2 x2 =>
        cases k1 with
        | int k3 x3 =>
          simp only [mapFind] at hf
          have e2' := vr_int e2
          subst e2'
          have e3' := vr_int g1
          split at hf
          · rename_i hkk
            subst hkk
            split at hf
            · rename_i hx
              simp at hf; subst hf
              exact ⟨some (i, e0.val), by simp [Instr.findNow, Instr.sameNow, e3', hx], g2⟩
            · rename_i hx
              obtain ⟨q, hq1, hq2⟩ := ih es0 (i + 1) g3 hf
              refine ⟨q, ?_, hq2⟩
              have : (x2 == x3) = false := by simpa using hx
              simp only [Instr.findNow, Instr.sameNow, e3', if_true, this]
              exact hq1
          · simp at hf
        | _ => simp [mapFind] at hf
      | _ => cases k1 <;> simp [mapFind] at hf

theorem run_checkKey {b : Bool} {kt : TypeId} {kk : IntKind} (hkt : P.underlying kt = some (.int kk)) (v : Value) : (Instr.checkKey b 10000 kt v).run P w = .ok () w := by
  show (Instr.checkKey b (9999 + 1) kt v).run P w = _
  rw [Instr.checkKey]
  simp only [Sem.run_bind, run_under hkt, Result.andThen]
  rfl

theorem run_findKey {kt : TypeId} {kk : IntKind} (hkt : P.underlying kt = some (.int kk)) {v : Value} {ms : List MapEntry} {q : Option (Nat × Value)} (h : Instr.findNow (.int kk) v ms 0 = some q) :
    (Instr.findKey kt v ms).run P w = .ok q w := by
  simp only [Instr.findKey, Sem.run_bind, run_under hkt, Result.andThen, h]
  rfl

theorem run_lookup {t kt e : TypeId} {kk : IntKind} (hu : P.underlying t = some (.map kt e)) (hkt : P.underlying kt = some (.int kk)) {z : Value} (hz : (zeroValue e).run P w = .ok z w)
    {vm vk : Value} {ms : Array MapEntry} (h1 : (vm = .map none ∧ ms = #[]) ∨ ∃ r' clk, vm = .map (some r') ∧ w.heap[r']? = some (.map ms clk))
    {q : Option (Nat × Value)} (hq : Instr.findNow (.int kk) vk ms.toList 0 = some q) (ok : Bool) :
    (Instr.lookup t vm vk ok).run P w = .ok (resL ok z q) w := by
  have hfk := run_findKey (P := P) (w := w) hkt hq
  rcases h1 with ⟨rfl, rfl⟩ | ⟨r', clk, rfl, hr'⟩
  · simp only [Instr.lookup, Sem.run_bind, run_under hu, Result.andThen, Sem.run_pure, run_checkKey hkt, hfk]
    cases q with
    | none => cases ok <;> simp [hz, Result.andThen, resL, resQ]
    | some q => cases ok <;> simp [Result.andThen, resL, resQ]
  · have hg : (getObj r').run P w = .ok (.map ms clk) w := by simp [getObj, Sem.run, hr']
    simp only [Instr.lookup, Sem.run_bind, run_under hu, Result.andThen, hg, Sem.run_pure, run_checkKey hkt, hfk]
    cases q with
    | none => cases ok <;> simp [hz, Result.andThen, resL, resQ]
    | some q => cases ok <;> simp [Result.andThen, resL, resQ]

theorem found_val {e : TypeId} {z : Value} (hz : VR φ (zeroV P e) z) {f : Option AV} {q : Option (Nat × Value)} (h : foundR φ f q) :
    VR φ (f.getD (zeroV P e)) (resQ z q) ∧ f.isSome = q.isSome := by
  cases f with
  | none => cases q with
    | none => exact ⟨hz, rfl⟩
    | some q => exact h.elim
  | some x => cases q with
    | none => exact h.elim
    | some q => exact ⟨h, rfl⟩

theorem a_lookup (C : Ctx φ β ρ ah a w gs) {dst type pos after guard} {t : TypeId} {m kx : Operand} {ok : Bool} {k : AK} (hk : cOp P loc ⟨dst, .lookup t m kx ok, type, pos, after, guard⟩ = some k)
    (h : opA ρ ah gs true k ret = some r) : ∃ sv, ret sv = some r ∧ AOk P φ β a w ⟨dst, .lookup t m kx ok, type, pos, after, guard⟩ gs sv := by
  simp only [cOp] at hk
  split at hk
  · rename_i kt e am ak hu hm hkx
    split at hk
    · rename_i kk c hkt hs
      simp at hk; subst hk
      simp only [opA] at h
      split at h
      · rename_i rr ka hrr hka
        have e1 := getV_sound C hm hrr
        have e2 := getV_sound C hkx hka
        obtain ⟨f, hf, h⟩ := gb_true h
        simp only [rdW] at h
        obtain ⟨x, hx, h⟩ := rdC_true h
        simp only [Option.some.injEq] at hx
        subst hx
        have hzero : ∃ z, (zeroValue e).run P w = .ok z w ∧ VR φ (zeroV P e) z := by
          unfold vsOf at hs
          split at hs
          · rename_i i d hi hd
            split at hs
            · rename_i z hz
              refine ⟨z, run_zero hi hz, ?_⟩
              simp only [zeroV, hi, hz]
              cases ho : ofVal z with
              | none => exact .opq _
              | some x => exact ofVal_sound ho
            · simp at hs
          · simp at hs
        obtain ⟨z, hz1, hz2⟩ := hzero
        have fin : ∀ (ms : Array MapEntry) (q : Option (Nat × Value)), ((a.eval m = .map none ∧ ms = #[]) ∨ ∃ r' clk, a.eval m = .map (some r') ∧ w.heap[r']? = some (.map ms clk)) →
            Instr.findNow (.int kk) (a.eval kx) ms.toList 0 = some q → foundR φ f q → ∃ sv, ret sv = some r ∧ AOk P φ β a w ⟨dst, .lookup t m kx ok, type, pos, after, guard⟩ gs sv := by
          intro ms q h1 h2 h3
          obtain ⟨g1, g2⟩ := found_val hz2 h3
          have hrun : (execOp a.eval ⟨dst, .lookup t m kx ok, type, pos, after, guard⟩).run P w = .ok (.value (resL ok z q)) w := by
            simp only [execOp, Sem.run_bind, run_lookup hu hkt hz1 h1 h2 ok, Result.andThen, Sem.run_pure]
          cases ok with
          | true => exact ⟨_, h, .val hrun (by rw [g2]; exact VR.tup_list (.cons g1 (.cons (.bool _) (.nil _))))⟩
          | false => exact ⟨_, h, .val hrun g1⟩
        cases rr with
        | none =>
          simp only [Option.some.injEq] at hf
          subst hf
          have : a.eval m = .map none := by generalize a.eval m = vm at e1; cases e1; rfl
          exact fin #[] none (.inl ⟨this, rfl⟩) rfl trivial
        | some b =>
          have : ∃ r', a.eval m = .map (some r') ∧ φ b = .lmap r' := by generalize a.eval m = vm at e1; cases e1; exact ⟨_, rfl, by assumption⟩
          obtain ⟨r', hm', hb⟩ := this
          obtain ⟨es, ces, clk, g1, g2, g3⟩ := C.S.map _ _ hb
          simp only [g1] at hf
          obtain ⟨q, hq1, hq2⟩ := mapFind_sound (kk := kk) e2 es ces.toList 0 g3 hf
          exact fin ces q (.inr ⟨_, clk, hm', g2⟩) hq1 hq2
      · simp at h
    · simp at hk
  · simp at hk

theorem MapR.length {es : List (AV × AV)} {ms : List MapEntry} (h : MapR φ es ms) : es.length = ms.length := by
  induction h with
  | nil => rfl
  | cons _ _ _ ih => simp [ih]

theorem a_builtin (C : Ctx φ β ρ ah a w gs) {dst type pos after guard} {b : Builtin} {args : Array Operand} {ts : Array TypeId} {k : AK}
    (hk : cOp P loc ⟨dst, .call ⟨.builtin b, args, ts⟩, type, pos, after, guard⟩ = some k)
    (h : opA ρ ah gs true k ret = some r) : ∃ sv, ret sv = some r ∧ AOk P φ β a w ⟨dst, .call ⟨.builtin b, args, ts⟩, type, pos, after, guard⟩ gs sv := by
  simp only [cOp] at hk
  have go : ∀ (v : Value), (builtin b ts type (args.map fun | .const _ => true | _ => false) (args.map a.eval)).run P w = .ok (.value v) w →
      (execOp a.eval ⟨dst, .call ⟨.builtin b, args, ts⟩, type, pos, after, guard⟩).run P w = .ok (.value v) w := by
    intro v hv
    simp only [execOp, resolve, Sem.run_bind, Sem.run_pure, Result.andThen, invoke]
    exact hv
  have toL : ∀ {α : Type} {xs : Array α} {x : α}, xs.toList = [x] → xs = #[x] := fun h => by apply Array.ext'; simpa using h
  split at hk
  · -- len
    rename_i ax t hargs hts
    have hts := toL hts
    obtain ⟨x, hx1, hx⟩ : ∃ x, args.toList = [x] ∧ cX x = some ax := by
      cases hl : args.toList with
      | nil => rw [hl] at hargs; simp [cXs] at hargs
      | cons x l =>
        rw [hl] at hargs
        cases l with
        | nil => simp only [cXs] at hargs; split at hargs <;> simp at hargs; rename_i a' r' h1 h2; obtain ⟨rfl, rfl⟩ := hargs; exact ⟨x, rfl, h1⟩
        | cons y l =>
          simp only [cXs] at hargs
          split at hargs
          · rename_i a' r' h1 h2
            split at h2 <;> simp at h2
            subst h2
            simp at hargs
          · simp at hargs
    have hx1 := toL hx1
    subst hx1; subst hts
    split at hk
    · rename_i e hu
      simp at hk; subst hk
      simp only [opA] at h
      split at h
      · rename_i sa n hsa
        obtain ⟨o, c, hv, hnc⟩ := vr_sl_shape (getV_sound C hx hsa)
        exact ⟨_, h, .val (go (.int .i64 n) (by simp [builtin, Builtin.len_, hv, run_under hu, Result.andThen, goInt])) (.int _ _)⟩
      · simp at h
    · rename_i hu
      simp at hk; subst hk
      simp only [opA] at h
      split at h
      · rename_i s hs
        have hv := vr_str (getV_sound C hx hs)
        exact ⟨_, h, .val (go (.int .i64 s.size) (by simp [builtin, Builtin.len_, hv, run_under hu, Result.andThen, goInt])) (.int _ _)⟩
      · simp at h
    · rename_i kt e hu
      simp at hk; subst hk
      simp only [opA] at h
      split at h
      · rename_i rr hrr
        have e1 := getV_sound C hx hrr
        obtain ⟨n, hn, h⟩ := gb_true h
        cases rr with
        | none =>
          simp only [Option.some.injEq] at hn
          subst hn
          have : a.eval x = .map none := by generalize a.eval x = vm at e1; cases e1; rfl
          exact ⟨_, h, .val (go (.int .i64 0) (by simp [builtin, Builtin.len_, this, run_under hu, Result.andThen, goInt])) (.int _ _)⟩
        | some b =>
          have : ∃ r', a.eval x = .map (some r') ∧ φ b = .lmap r' := by generalize a.eval x = vm at e1; cases e1; exact ⟨_, rfl, by assumption⟩
          obtain ⟨r', hm', hb⟩ := this
          obtain ⟨es, ces, clk, g1, g2, g3⟩ := C.S.map _ _ hb
          simp only [g1, Option.some.injEq] at hn
          subst hn
          have := g3.length
          have hg : (getObj r').run P w = .ok (.map ces clk) w := by simp [getObj, Sem.run, g2]
          refine ⟨_, h, .val (go (.int .i64 ces.size) (by simp [builtin, Builtin.len_, hm', run_under hu, hg, Result.andThen, goInt])) ?_⟩
          have : es.length = ces.size := by simpa using this
          rw [this]
          exact .int _ _
      · simp at h
    · rename_i n e hu
      simp at hk; subst hk
      simp only [opA] at h
      exact ⟨_, h, .val (go (.int .i64 n) (by simp [builtin, Builtin.len_, run_under hu, Result.andThen, goInt])) (.int _ _)⟩
    · simp at hk
  · -- append
    split at hk
    · split at hk
      · split at hk
        · simp at hk; subst hk; simp [opA] at h
        · simp at hk
      · simp at hk
    · simp at hk
  · split at hk
    · split at hk
      · simp at hk; subst hk; simp [opA] at h
      · simp at hk
    · simp at hk
  · split at hk
    · split at hk
      · split at hk
        · simp at hk; subst hk; simp [opA] at h
        · simp at hk
      · simp at hk
    · simp at hk
  · -- min
    rename_i as t ts' hargs hts
    split at hk
    · simp at hk; subst hk
      simp only [opA] at h
      split at h
      · rename_i n l hv
        obtain ⟨ns, hns, h⟩ := gb_true h
        have e := getVs_sound C hargs hv
        obtain ⟨y, ys, hy, h1, h2⟩ := e.cons_inv
        have h3 := rdInts_sound hns h2
        refine ⟨_, h, .val (go (.int .i64 (foldMM false n ns)) ?_) (.int _ _)⟩
        have hm : (args.map a.eval).toList = .int .i64 n :: ns.map (Value.int .i64) := by
          rw [Array.toList_map, hy, vr_int h1, h3]
        simp only [builtin, Builtin.min_, hm, Sem.run_bind, run_fold_min, Result.andThen, Sem.run_pure]
      · simp at h
    · simp at hk
  · rename_i as t ts' hargs hts
    split at hk
    · simp at hk; subst hk
      simp only [opA] at h
      split at h
      · rename_i n l hv
        obtain ⟨ns, hns, h⟩ := gb_true h
        have e := getVs_sound C hargs hv
        obtain ⟨y, ys, hy, h1, h2⟩ := e.cons_inv
        have h3 := rdInts_sound hns h2
        refine ⟨_, h, .val (go (.int .i64 (foldMM true n ns)) ?_) (.int _ _)⟩
        have hm : (args.map a.eval).toList = .int .i64 n :: ns.map (Value.int .i64) := by
          rw [Array.toList_map, hy, vr_int h1, h3]
        simp only [builtin, Builtin.max_, hm, Sem.run_bind, run_fold_max, Result.andThen, Sem.run_pure]
      · simp at h
    · simp at hk
  · simp at hk

end
end Go.Proofs.Ytmfmnbldngfelaa.Abs
