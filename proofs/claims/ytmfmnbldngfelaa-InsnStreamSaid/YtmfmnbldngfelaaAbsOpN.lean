/- Operations that turn memory: stores, clear, maps, append, copy. -/
import Derived.Test.YtmfmnbldngfelaaAbsOpM
set_option linter.unusedVariables false
set_option linter.unusedSimpArgs false
namespace Go.Proofs.Ytmfmnbldngfelaa.Abs
open Go

section
variable {P : Program} {φ : Phi} {β : Nat → Nat} {ρ : Nat → SV} {ah : Heap} {a : Act} {w : World} {R : Type}
  {loc : Nat} {r : R}

/-- What an operation may do to the memory, abstract and loaded. -/
structure Eff (φ φ' : Phi) (n : Nat) (ah' : Heap) (w w' : World) : Prop where
  le : Le φ φ'
  sim : Sim φ' ah' w'
  fr : Fr (Owns φ) w w'
  cb : ∀ b k, cbOf (φ' b) = some k → (∃ b', cbOf (φ b') = some k) ∨ w.heap.size ≤ k
  own : ∀ k, Owns φ' k → Owns φ k ∨ w.heap.size ≤ k
  len : n ≤ ah'.length
  un : ∀ b, b < n → φ b = .unborn → φ' b = .unborn

theorem Eff.same {ah' : Heap} {w' : World} {n : Nat} (s : Sim φ ah' w') (f : Fr (Owns φ) w w') (hl : n ≤ ah'.length) : Eff φ φ n ah' w w' :=
  ⟨Le.refl φ, s, f, fun b k h => .inl ⟨b, h⟩, fun k h => .inl h, hl, fun _ _ h => h⟩

theorem stN_len {h h' : Heap} {p : Ad} {xs : List AV} (hs : stN h p xs = some h') : h.length ≤ h'.length := by
  unfold stN at hs
  split at hs
  · split at hs
    · simp only [Option.some.injEq] at hs
      subst hs
      simp
    · simp at hs
  · simp at hs

/-- The box at slot d gets other cells. -/
structure BoxEff (φ : Phi) (β : Nat → Nat) (d : Nat) (cs : List AV) (ah : Heap) (w w' : World) : Prop where
  fr : Fr (· = β d) w w'
  size : w'.heap.size = w.heap.size
  box : ∃ cc ty, w'.heap[β d]? = some (.cells cc ty (0, 0)) ∧ CellsR φ cs 0 cc

theorem boxAt_box {d : Nat} {cs : List AV} (h : boxAt ρ d = some cs) : ∃ cs0, ρ d = .box cs0 := by
  unfold boxAt at h
  split at h
  · exact ⟨_, by assumption⟩
  · simp at h

def MOk (P : Program) (φ : Phi) (β : Nat → Nat) (ρ : Nat → SV) (ah : Heap) (a : Act) (w : World) (o : Oper) (x : AV) (h' : Heap) (up : Up) : Prop :=
  ∃ nx vc w', (execOp a.eval o).run P w = .ok nx w' ∧ (nx = .value vc ∨ (nx = .skip ∧ vc = undef)) ∧
    match up with
    | none => ∃ φ', Eff φ φ' ah.length h' w w' ∧ VR φ' x vc
    | some (d, cs) => h' = ah ∧ VR φ x vc ∧ BoxEff φ β d cs ah w w' ∧ ∃ cs0, ρ d = .box cs0

theorem Sim.of_heap {ah : Heap} {w w' : World} (S : Sim φ ah w) (h : w'.heap = w.heap) : Sim φ ah w' := by
  constructor
  · intro b r hr; rw [h]; exact S.live b r hr
  · intro b c hr; rw [h]; exact S.map b c hr
  · exact S.dead
  · exact S.inj

/-- Cells stored into a box of the frame. -/
theorem box_store {d : Nat} {cs xs : List AV} {ys : List Value} {cc : Array Value} {ty : TypeId} {off : Nat} (hw : w.heap[β d]? = some (.cells cc ty (0, 0))) (hc : CellsR φ cs 0 cc)
    (hx : VRs φ xs ys) (hf : flatL xs = true) (hle : off + xs.length ≤ cs.length) :
    ∃ w', (storeCells ⟨β d, off, none⟩ ys).run P w = .ok () w' ∧ BoxEff φ β d (splice off xs cs) ah w w' := by
  have hlen := hc.len
  have hxy := hx.1
  have hrun := run_storeCells_at (P := P) (β d) off ty ys 0 cc w hw (by omega) (flat_cells hx hf)
  refine ⟨_, hrun, ⟨rfl, rfl, rfl, by rw [setRow_size]; exact Nat.le_refl _, fun k hk hno => setRow_get _ _ _ _ hno⟩, setRow_size _ _ _, ?_⟩
  refine ⟨_, ty, setRow_heap _ _ _ _ _ _ hw, ?_⟩
  have := hc.spliced hle hx
  simpa using this

theorem run_storeVar {t : TypeId} {n : Nat} (hn : sizeOfT P t = some n) {ad : Addr} {v : Value} (hv : v.cells.size = n) :
    (storeVar t ad v).run P w = (storeCells ad v.cells.toList).run P w := by
  simp [storeVar, run_size hn, Result.andThen, hv]

theorem flat_one {x : AV} (h : flatA x = true) : flatL [x] = true := by simp [flatL, h]

theorem m_store (C : Ctx φ β ρ ah a w []) {dst type pos after guard} {t : TypeId} {x y : Operand} {k : AK} (hk : cOp P loc ⟨dst, .store t x y, type, pos, after, guard⟩ = some k)
    {ret : AV → Heap → Up → Option R} (h : opM ρ ah k ret = some r) :
    ∃ v h' up, ret v h' up = some r ∧ MOk P φ β ρ ah a w ⟨dst, .store t x y, type, pos, after, guard⟩ v h' up := by
  simp only [cOp] at hk
  split at hk
  · rename_i n ax ay hn hx hy
    simp only [Option.some.injEq] at hk
    subst hk
    simp only [opM] at h
    split at h
    · rename_i v hv
      have e := getV_sound C hy hv
      obtain ⟨p, h, hp⟩ := place_sound C hx h
      have run : ∀ (ad : Addr) (w' : World), a.eval x = .pointer (some ad) → (a.eval y).cells.size = n → (storeCells ad (a.eval y).cells.toList).run P w = .ok () w' →
          (execOp a.eval ⟨dst, .store t x y, type, pos, after, guard⟩).run P w = .ok .skip w' := by
        intro ad w' he hsz hst
        simp only [execOp, he, Instr.storeAt, Instr.sureAddr, Sem.run_bind, Sem.run_pure, Result.andThen, run_storeVar hn hsz, hst]
      have fin : ∀ (xs : List AV) (hx : cellsOf v = xs) (hl : xs.length = n) (hf : flatL xs = true),
          (∀ q h', stN ah q xs = some h' → p = .heap q → ∃ v h'' up, ret (.tup []) h' none = some r → ret v h'' up = some r ∧ MOk P φ β ρ ah a w ⟨dst, .store t x y, type, pos, after, guard⟩ v h'' up) ∧
          (∀ d off cs, boxAt ρ d = some cs → p = .loc d off → off + n ≤ cs.length → ∃ v h'' up, ret (.tup []) ah (some (d, splice off xs cs)) = some r → ret v h'' up = some r ∧ MOk P φ β ρ ah a w ⟨dst, .store t x y, type, pos, after, guard⟩ v h'' up) := by
        intro xs hxs hl hf
        have hne : v ≠ .opq := by
          rintro rfl
          rw [← hxs] at hf
          simp [cellsOf, flatL, flatA] at hf
        have hc := cellsOf_sound e hne
        rw [hxs] at hc
        have hsz : (a.eval y).cells.size = n := by have := hc.1; simp at this; omega
        refine ⟨fun q h' hst hpq => ?_, fun d off cs hb hpl hle => ?_⟩
        · subst hpq
          obtain ⟨a', he, ha⟩ := hp
          obtain ⟨w', g1, g2, g3⟩ := stN_sound P C.S ha hc hf hst
          exact ⟨.tup [], h', none, fun hr => ⟨hr, .skip, undef, w', run a' w' he hsz g1, .inr ⟨rfl, rfl⟩, φ, .same g2 g3 (stN_len hst), .tup rfl (fun i x y h => by simp at h)⟩⟩
        · subst hpl
          obtain ⟨cc, ty, hw, hcc⟩ := boxAt_sound C hb
          obtain ⟨w', g1, g2⟩ := box_store (P := P) (ah := ah) (off := off) hw hcc hc hf (by omega)
          exact ⟨.tup [], ah, _, fun hr => ⟨hr, .skip, undef, w', run _ w' hp hsz g1, .inr ⟨rfl, rfl⟩, rfl, .tup rfl (fun i x y h => by simp at h), g2, boxAt_box hb⟩⟩
      cases p with
      | heap q =>
        simp only at h
        split at h
        · split at h
          · rename_i z hz
            obtain ⟨hfz, h⟩ := chk_some h
            rw [Option.bind_eq_some_iff] at h
            obtain ⟨h', hst, h⟩ := h
            rw [st1_eq] at hst
            obtain ⟨v', h'', up, hh⟩ := (fin [z] hz rfl (flat_one hfz)).1 q h' hst rfl
            exact ⟨v', h'', up, hh h⟩
          · simp at h
        · rename_i hn1
          obtain ⟨⟨hl, hf⟩, h⟩ := chk_some h
          rw [Option.bind_eq_some_iff] at h
          obtain ⟨h', hst, h⟩ := h
          obtain ⟨v', h'', up, hh⟩ := (fin _ rfl hl hf).1 q h' hst rfl
          exact ⟨v', h'', up, hh h⟩
      | loc d off =>
        simp only at h
        split at h
        · simp at h
        · rename_i cs hcs
          split at h
          · split at h
            · rename_i z hz
              obtain ⟨⟨hfz, hlt⟩, h⟩ := chk_some h
              rw [← splice_set _ _ _ hlt] at h
              obtain ⟨v', h'', up, hh⟩ := (fin [z] hz rfl (flat_one hfz)).2 d off cs hcs rfl (by omega)
              exact ⟨v', h'', up, hh h⟩
            · simp at h
          · obtain ⟨⟨hl, hf, hle⟩, h⟩ := chk_some h
            obtain ⟨v', h'', up, hh⟩ := (fin _ rfl hl hf).2 d off cs hcs rfl hle
            exact ⟨v', h'', up, hh h⟩
    · simp at h
  · simp at hk

theorem toL1 {α : Type} {xs : Array α} {x : α} (h : xs.toList = [x]) : xs = #[x] := by apply Array.ext'; simpa using h
theorem toL2 {α : Type} {xs : Array α} {x y : α} (h : xs.toList = [x, y]) : xs = #[x, y] := by apply Array.ext'; simpa using h

theorem cXs1 {l : List Operand} {a : AX} (h : cXs l = some [a]) : ∃ x, l = [x] ∧ cX x = some a := by
  cases l with
  | nil => simp [cXs] at h
  | cons x l =>
    simp only [cXs] at h
    split at h
    · rename_i b r h1 h2
      simp only [Option.some.injEq, List.cons.injEq] at h
      obtain ⟨rfl, rfl⟩ := h
      cases l with
      | nil => exact ⟨x, rfl, h1⟩
      | cons y l => simp only [cXs] at h2; split at h2 <;> simp at h2
    · simp at h

theorem cXs2 {l : List Operand} {a b : AX} (h : cXs l = some [a, b]) : ∃ x y, l = [x, y] ∧ cX x = some a ∧ cX y = some b := by
  cases l with
  | nil => simp [cXs] at h
  | cons x l =>
    simp only [cXs] at h
    split at h
    · rename_i b' r h1 h2
      simp only [Option.some.injEq, List.cons.injEq] at h
      obtain ⟨rfl, rfl⟩ := h
      obtain ⟨y, rfl, h3⟩ := cXs1 h2
      exact ⟨x, y, rfl, h1, h3⟩
    · simp at h

theorem run_builtin {dst type pos after guard} {b : Builtin} {args : Array Operand} {ts : Array TypeId} {nx : Next} {w' : World}
    (h : (builtin b ts type (args.map fun | .const _ => true | _ => false) (args.map a.eval)).run P w = .ok nx w') :
    (execOp a.eval ⟨dst, .call ⟨.builtin b, args, ts⟩, type, pos, after, guard⟩).run P w = .ok nx w' := by
  simp only [execOp, resolve, Sem.run_bind, Sem.run_pure, Result.andThen, invoke]
  exact h

theorem flatL_iff {l : List AV} : flatL l = true ↔ ∀ x ∈ l, flatA x = true := by
  induction l with
  | nil => simp [flatL]
  | cons x l ih => simp [flatL, ih]

theorem flat_repl {z : List AV} (h : flatL z = true) (n : Nat) : flatL (repl n z) = true := by
  rw [flatL_iff] at h ⊢
  intro x hx
  unfold repl at hx
  split at hx
  · rw [List.mem_replicate] at hx
    rw [hx.2]
    exact h _ (by simp)
  · rw [List.mem_flatten] at hx
    obtain ⟨l, hl, hx⟩ := hx
    rw [List.mem_replicate] at hl
    rw [hl.2] at hx
    exact h x hx

theorem m_clear (C : Ctx φ β ρ ah a w []) {dst type pos after guard} {args : Array Operand} {ts : Array TypeId} {k : AK}
    (hk : cOp P loc ⟨dst, .call ⟨.builtin .clear, args, ts⟩, type, pos, after, guard⟩ = some k)
    {ret : AV → Heap → Up → Option R} (h : opM ρ ah k ret = some r) :
    ∃ v h' up, ret v h' up = some r ∧ MOk P φ β ρ ah a w ⟨dst, .call ⟨.builtin .clear, args, ts⟩, type, pos, after, guard⟩ v h' up := by
  simp only [cOp] at hk
  split at hk <;> try (simp at hk; done)
  all_goals try (rename_i hq; simp at hq; done)
  all_goals try (rename_i hq _ _; simp at hq; done)
  rename_i ax t hb hargs hts
  split at hk
  · rename_i e hu
    split at hk
    · rename_i z hz
      split at hk
      · rename_i hpos
        simp only [Option.some.injEq] at hk
        subst hk
        obtain ⟨x, hx1, hx⟩ := cXs1 hargs
        have hx1 := toL1 hx1
        have hts := toL1 hts
        subst hx1; subst hts
        simp only [opM] at h
        split at h
        · rename_i sa n hsa
          rw [Option.bind_eq_some_iff] at h
          obtain ⟨h', hst, h⟩ := h
          have e1 := getV_sound C hx hsa
          obtain ⟨i, zv, hi, hzv, hzr, hzl⟩ := zeroOf_sound (φ := φ) hz
          cases n with
          | zero =>
            simp only [Option.some.injEq] at hst
            subst hst
            refine ⟨.tup [], ah, none, h, .value (.tuple #[]), _, w, run_builtin ?_, .inl rfl, φ, .same C.S (.refl _ _) (Nat.le_refl _), .tup rfl (fun i x y h => by simp at h)⟩
            obtain ⟨o, c, hv, _⟩ := vr_sl_shape e1
            cases o <;> simp [builtin, Builtin.clear_, hv, run_under hu, Result.andThen]
          | succ n =>
            cases sa with
            | pos q =>
              simp only at hst
              generalize hev : a.eval x = vx at e1
              cases e1 with
              | sl ha hc hn =>
                rename_i a' c
                have hzc := zeros_vr (φ := φ) hzr (n + 1) (n + 1) (Nat.le_refl _) hpos.1
                have hzs : VRs φ (repl (n + 1) z) (Builtin.zeroCells zv.cells (n + 1)).toList := by
                  have hl : z.length = zv.cells.size := by have := hzr.1; simpa using this
                  refine ⟨by rw [repl_length]; simp [Builtin.zeroCells, hl], fun i x y hx hy => ?_⟩
                  obtain ⟨y', hy', hv⟩ := hzc.get i x hx
                  rw [Nat.zero_add] at hy'
                  rw [Array.getElem?_toList] at hy
                  have : (Builtin.zeroCells zv.cells (n + 1))[i]? = some y' := hy'
                  rw [this] at hy
                  cases hy
                  exact hv
                have hflat : flatL (repl (n + 1) z) = true := by
                  exact flat_repl hpos.2 _
                obtain ⟨w', g1, g2, g3⟩ := stN_sound P C.S ha hzs hflat hst
                refine ⟨.tup [], h', none, h, .value (.tuple #[]), _, w', run_builtin ?_, .inl rfl, φ, .same g2 g3 (stN_len hst), .tup rfl (fun i x y h => by simp at h)⟩
                simp only [builtin, Builtin.clear_, hev, run_under hu, run_zero hi hzv, Sem.run_bind, Sem.run_pure, Result.andThen, g1, List.map_toArray, List.map_cons, List.map_nil]
                simp [run_under hu, run_zero hi hzv, g1, Result.andThen]
            | _ => simp at hst
        · simp at h
      · simp at hk
    · simp at hk
  · simp at hk

/-! ### Maps -/

theorem findNow_lt {d : TypeDesc} {v : Value} : ∀ {ms : List MapEntry} {i j : Nat} {u : Value}, Instr.findNow d v ms i = some (some (j, u)) → i ≤ j ∧ j < i + ms.length := by
  intro ms
  induction ms with
  | nil => intro i j u h; simp [Instr.findNow] at h
  | cons e ms ih =>
    intro i j u h
    simp only [Instr.findNow] at h
    split at h
    · simp at h; simp; omega
    · have := ih h; simp; omega
    · simp at h

/-- A map's entry put in: the entry found is replaced, else one is added. -/
theorem mapPut_sound {kk : IntKind} {ka x : AV} {vk vx : Value} (e2 : VR φ ka vk) (e3 : VR φ x vx) : ∀ (es : List (AV × AV)) (ms : List MapEntry) (i : Nat) {es' : List (AV × AV)}, MapR φ es ms → mapPut ka x es = some es' →
    ∃ q, Instr.findNow (.int kk) vk ms i = some q ∧
      (q = none → ∀ cl, MapR φ es' (ms ++ [⟨vk, vx, cl⟩])) ∧
      (∀ j u, q = some (j, u) → i ≤ j ∧ (∃ e, ms[j - i]? = some e ∧ e.key = vk) ∧ MapR φ es' (ms.modify (j - i) fun e => { e with key := vk, val := vx })) := by
  intro es
  induction es with
  | nil =>
    intro ms i es' hr hp
    cases hr
    simp [mapPut] at hp; subst hp
    exact ⟨none, rfl, fun _ cl => .cons e2 e3 .nil, fun j u h => by simp at h⟩
  | cons p es ih =>
    intro ms i es' hr hp
    cases hr with
    | cons g1 g2 g3 =>
      rename_i k1 v1 e0 es0
      cases ka with
      | int k2 x2 =>
        cases k1 with
        | int k3 x3 =>
          simp only [mapPut] at hp
          have e2' := vr_int e2
          subst e2'
          have e3' := vr_int g1
          split at hp
          · rename_i hkk
            subst hkk
            split at hp
            · rename_i hx
              subst hx
              simp at hp; subst hp
              refine ⟨some (i, e0.val), by simp [Instr.findNow, Instr.sameNow, e3'], fun h => by simp at h, fun j u h => ?_⟩
              simp at h
              obtain ⟨rfl, rfl⟩ := h
              refine ⟨Nat.le_refl _, ⟨e0, by simp, e3'⟩, ?_⟩
              simp only [Nat.sub_self, List.modify_zero_cons]
              exact .cons e2 e3 g3
            · rename_i hx
              split at hp
              · rename_i r hr
                simp at hp; subst hp
                obtain ⟨q, hq1, hq2, hq3⟩ := ih es0 (i + 1) g3 hr
                have hne : (x2 == x3) = false := by simpa using hx
                refine ⟨q, ?_, fun h cl => .cons g1 g2 (hq2 h cl), fun j u h => ?_⟩
                · simp only [Instr.findNow, Instr.sameNow, e3', if_true, hne]
                  exact hq1
                · obtain ⟨h1, ⟨e, he, hek⟩, h3⟩ := hq3 j u h
                  have hji : j - i = (j - (i + 1)) + 1 := by omega
                  refine ⟨by omega, ⟨e, by rw [hji]; simpa using he, hek⟩, ?_⟩
                  rw [hji]
                  simp only [List.modify_succ_cons]
                  exact .cons g1 g2 h3
              · simp at hp
          · simp at hp
        | _ => simp [mapPut] at hp
      | _ => cases k1 <;> simp [mapPut] at hp

theorem setObj_sound (S : Sim φ ah w) {b cb : Nat} (hb : φ b = .lmap cb) {es' : List (AV × AV)} {ces' : Array MapEntry} {clk : Nat} (hm : MapR φ es' ces'.toList) :
    (setObj cb (.map ces' clk)).run P w = .ok () { w with heap := w.heap.setIfInBounds cb (.map ces' clk) } ∧
    Sim φ (ah.set b (.map es')) { w with heap := w.heap.setIfInBounds cb (.map ces' clk) } ∧ Fr (Owns φ) w { w with heap := w.heap.setIfInBounds cb (.map ces' clk) } := by
  obtain ⟨es, ces, clk0, g1, g2, g3⟩ := S.map b cb hb
  have hlt : cb < w.heap.size := (Array.getElem?_eq_some_iff.1 g2).1
  have hbl : b < ah.length := (List.getElem?_eq_some_iff.1 g1).1
  have hother : ∀ k, k ≠ cb → (w.heap.setIfInBounds cb (.map ces' clk))[k]? = w.heap[k]? := fun k hk => by rw [Array.getElem?_setIfInBounds_ne (Ne.symm hk)]
  have hset : ∀ k, k ≠ b → (ah.set b (.map es'))[k]? = ah[k]? := fun k hk => by rw [List.getElem?_set, if_neg (Ne.symm hk)]
  refine ⟨by simp [setObj, Sem.run, g2], ?_, ?_⟩
  · constructor
    · intro k r hr
      have hkb : k ≠ b := by rintro rfl; rw [hb] at hr; cases hr
      obtain ⟨c', cc', ty', fz', h1, h2, h3, h4, h5⟩ := S.live k r hr
      refine ⟨c', cc', ty', fz', by rw [hset k hkb]; exact h1, ?_, h3, h4, h5⟩
      show (w.heap.setIfInBounds cb (.map ces' clk))[r.cb]? = _
      rw [hother r.cb (fun h => hkb (S.inj k b r.cb (by simp [hr, cbOf]) (by simp [hb, cbOf, h])))]
      exact h2
    · intro k c hr
      by_cases e : k = b
      · subst e
        rw [hb] at hr
        cases hr
        refine ⟨es', ces', clk, by simp [List.getElem?_set, hbl], ?_, hm⟩
        show (w.heap.setIfInBounds cb (.map ces' clk))[cb]? = _
        simp [hlt]
      · obtain ⟨es1, ces1, clk1, h1, h2, h3⟩ := S.map k c hr
        refine ⟨es1, ces1, clk1, by rw [hset k e]; exact h1, ?_, h3⟩
        show (w.heap.setIfInBounds cb (.map ces' clk))[c]? = _
        rw [hother c (fun h => e (S.inj k b c (by simp [hr, cbOf]) (by simp [hb, cbOf, h])))]
        exact h2
    · intro k hr
      have hkb : k ≠ b := by rintro rfl; rw [hb] at hr; cases hr
      rw [hset k hkb]
      exact S.dead k hr
    · exact S.inj
  · refine ⟨rfl, rfl, rfl, by simp, fun k hk hno => ?_⟩
    show (w.heap.setIfInBounds cb (.map ces' clk))[k]? = _
    exact hother k (fun h => hno ⟨b, .inr (by rw [hb, h])⟩)

theorem MapR.nil_inv {l : List MapEntry} (h : MapR φ [] l) : l = [] := by
  cases h
  rfl

theorem m_mapUpdate (C : Ctx φ β ρ ah a w []) {dst type pos after guard} {t : TypeId} {m kx x : Operand} {k : AK} (hk : cOp P loc ⟨dst, .mapUpdate t m kx x, type, pos, after, guard⟩ = some k)
    {ret : AV → Heap → Up → Option R} (h : opM ρ ah k ret = some r) :
    ∃ v h' up, ret v h' up = some r ∧ MOk P φ β ρ ah a w ⟨dst, .mapUpdate t m kx x, type, pos, after, guard⟩ v h' up := by
  simp only [cOp] at hk
  split at hk
  · rename_i kt e am ak ax hu hm hkx hx
    split at hk
    · rename_i kk hkt
      simp only [Option.some.injEq] at hk
      subst hk
      simp only [opM] at h
      split at h
      · rename_i b ka va hb hka hva
        rw [Option.bind_eq_some_iff] at h
        obtain ⟨h', hst, h⟩ := h
        have e1 := getV_sound C hm hb
        have e2 := getV_sound C hkx hka
        have e3 := getV_sound C hx hva
        have : ∃ r', a.eval m = .map (some r') ∧ φ b = .lmap r' := by generalize a.eval m = vm at e1; cases e1; exact ⟨_, rfl, by assumption⟩
        obtain ⟨cb, hm', hbφ⟩ := this
        obtain ⟨es, ces, clk, g1, g2, g3⟩ := C.S.map _ _ hbφ
        simp only [g1] at hst
        split at hst
        · rename_i es' hes'
          simp only [Option.some.injEq] at hst
          subst hst
          obtain ⟨q, hq1, hq2, hq3⟩ := mapPut_sound (kk := kk) e2 e3 es ces.toList 0 g3 hes'
          have hfk := run_findKey (P := P) (w := w) hkt hq1
          have hg : (getObj cb).run P w = .ok (.map ces clk) w := by simp [getObj, Sem.run, g2]
          cases q with
          | none =>
            have hmr : MapR φ es' (ces.push ⟨a.eval kx, a.eval x, clk⟩).toList := by simpa using hq2 rfl clk
            obtain ⟨s1, s2, s3⟩ := setObj_sound (P := P) C.S hbφ (clk := clk + 1) hmr
            refine ⟨.tup [], _, none, h, .skip, undef, _, ?_, .inr ⟨rfl, rfl⟩, φ, .same s2 s3 (by simp), .tup rfl (fun i x y h => by simp at h)⟩
            simp only [execOp, hm', Instr.mapUpdate, Sem.run_bind, run_under hu, Result.andThen, hg, run_checkKey hkt, hfk, s1, Sem.run_pure]
          | some q =>
            obtain ⟨j, u⟩ := q
            obtain ⟨_, ⟨e0, he0, hek⟩, hmr⟩ := hq3 j u rfl
            simp only [Nat.sub_zero] at he0 hmr
            have hmr : MapR φ es' (ces.modify j fun e => { e with key := a.eval kx, val := a.eval x }).toList := by simpa using hmr
            obtain ⟨s1, s2, s3⟩ := setObj_sound (P := P) C.S hbφ (clk := clk) hmr
            refine ⟨.tup [], _, none, h, .skip, undef, _, ?_, .inr ⟨rfl, rfl⟩, φ, .same s2 s3 (by simp), .tup rfl (fun i x y h => by simp at h)⟩
            have hstay : (Instr.keyThatStays (((ces[j]?).map (·.key)).getD (a.eval kx)) (a.eval kx)).run P w = .ok (a.eval kx) w := by
              have : ces[j]? = some e0 := by simpa using he0
              rw [this]
              simp only [Option.map_some, Option.getD_some, hek, Instr.keyThatStays]
              have : ∃ n i, a.eval kx = .int n i := by
                cases ka with
                | int n i => exact ⟨n, i, vr_int e2⟩
                | _ => cases es <;> first | (simp [mapPut] at hes'; done) | (rename_i p es; obtain ⟨k1, v1⟩ := p; cases k1 <;> simp [mapPut] at hes') | (have := g3.nil_inv; rw [this] at he0; simp at he0)
              obtain ⟨n, i, hn⟩ := this
              rw [hn]
              show (if Instr.sameBits (9999 + 1) (.int n i) (.int n i) then pure (.int n i) else _ : Sem Value).run P w = _
              simp [Instr.sameBits]
            simp only [execOp, hm', Instr.mapUpdate, Sem.run_bind, run_under hu, Result.andThen, hg, run_checkKey hkt, hfk, hstay, s1, Sem.run_pure]
        · simp at hst
      · simp at h
    · simp at hk
  · simp at hk

/-! ### append, copy -/

theorem ldSl_pos {h : Heap} {sa : SA} {n : Nat} (h0 : n ≠ 0) : ldSl h sa n = (match adP sa with | some a => ldN h a n | none => none) := by
  cases n with
  | zero => exact absurd rfl h0
  | succ n => cases sa <;> rfl

theorem ldSl_sound (S : Sim φ ah w) {sa : SA} {n : Nat} {v : Value} (hv : VR φ (.sl sa n) v) {es : Nat} {k : Nat} (hk : k ≤ n) {ys : List AV} (h : ldSl ah sa (k * es) = some ys) :
    ∃ zs : List Value, (Builtin.firstCells es k v).run P w = .ok zs.toArray w ∧ VRs φ ys zs ∧ flatL ys = true ∧ zs.length = k * es := by
  by_cases h0 : k * es = 0
  · rw [h0] at h
    simp [ldSl] at h
    subst h
    refine ⟨[], ?_, .nil _, rfl, by rw [h0]; rfl⟩
    obtain ⟨o, c, rfl, _⟩ := vr_sl_shape hv
    cases o with
    | none => rfl
    | some p => simp [Builtin.firstCells, h0, loadCells, loadCellsFrom]
  · rw [ldSl_pos h0] at h
    cases hv with
    | sl ha hc hle =>
      simp only [adP] at h
      obtain ⟨zs, h1, h2, h3, h4⟩ := run_ldN P S ha h
      exact ⟨zs, by simp only [Builtin.firstCells]; exact h1, h3, h4, h2⟩
    | _ => simp [adP] at h

theorem Sim.add (S : Sim φ ah w) (l : List Blk) : Sim φ (ah ++ l) w := by
  have ext : ∀ (b : Nat) (x : Blk), ah[b]? = some x → (ah ++ l)[b]? = some x := fun b x h => by rw [List.getElem?_append_left (List.getElem?_eq_some_iff.1 h).1]; exact h
  constructor
  · intro b r hr
    obtain ⟨c, cc, ty, fz, h1, h2, h3, h4, h5⟩ := S.live b r hr
    exact ⟨c, cc, ty, fz, ext _ _ h1, h2, h3, h4, h5⟩
  · intro b c hr
    obtain ⟨es, ces, clk, h1, h2, h3⟩ := S.map b c hr
    exact ⟨es, ces, clk, ext _ _ h1, h2, h3⟩
  · exact fun b hr => ext _ _ (S.dead b hr)
  · exact S.inj

theorem Sim.unborn (S : Sim φ ah w) {n : Nat} (h : ah[n]? = none) : φ n = .unborn := by
  cases e : φ n with
  | unborn => rfl
  | dead => have := S.dead n e; rw [h] at this; cases this
  | live r => obtain ⟨c, cc, ty, fz, h1, _⟩ := S.live n r e; rw [h] at h1; cases h1
  | lmap c => obtain ⟨es, ces, clk, h1, _⟩ := S.map n c e; rw [h] at h1; cases h1

theorem Sim.cb_lt (S : Sim φ ah w) {b k : Nat} (h : cbOf (φ b) = some k) : k < w.heap.size := by
  cases e : φ b with
  | unborn => simp [e, cbOf] at h
  | dead => simp [e, cbOf] at h
  | live r =>
    simp [e, cbOf] at h
    obtain ⟨c, cc, ty, fz, _, h2, _⟩ := S.live b r e
    rw [h] at h2
    exact (Array.getElem?_eq_some_iff.1 h2).1
  | lmap c =>
    simp [e, cbOf] at h
    obtain ⟨es, ces, clk, _, h2, _⟩ := S.map b c e
    rw [h] at h2
    exact (Array.getElem?_eq_some_iff.1 h2).1

def setPhi (φ : Phi) (n : Nat) (s : Stt) : Phi := fun k => if k = n then s else φ k

theorem setPhi_same (φ : Phi) (n : Nat) (s : Stt) : setPhi φ n s n = s := by simp [setPhi]
theorem setPhi_other (φ : Phi) (s : Stt) {n k : Nat} (h : k ≠ n) : setPhi φ n s k = φ k := by simp [setPhi, h]

/-- A block is born: abstract block n, which is there already, and a new block of the loaded memory. -/
theorem Sim.born (S : Sim φ ah w) {n : Nat} {blk : Blk} {obj : Obj} {st : Stt} (hb : Born φ w blk obj st) (hn : φ n = .unborn) (hblk : ah[n]? = some blk) {w' : World} (hw : w'.heap = w.heap.push obj) :
    Sim (setPhi φ n st) ah w' ∧ Le φ (setPhi φ n st) := by
  have le : Le φ (setPhi φ n st) := by
    intro b
    by_cases e : b = n
    · subst e; rw [hn]; trivial
    · rw [setPhi_other φ st e]; exact .refl _
  refine ⟨?_, le⟩
  have old : ∀ k, k < w.heap.size → w'.heap[k]? = w.heap[k]? := fun k hk => by rw [hw, Array.getElem?_push, if_neg (by omega)]
  have new : w'.heap[w.heap.size]? = some obj := by rw [hw]; simp
  have cbst : cbOf st = some w.heap.size := by cases hb <;> rfl
  constructor
  · intro b r hr
    by_cases e : b = n
    · subst e
      rw [setPhi_same] at hr
      subst hr
      cases hb with
      | cells hc hm =>
        rename_i cs m cells ty
        exact ⟨cs, cells, ty, (0, 0), hblk, new, hc.mono le, fun _ => rfl, fun _ _ => rfl⟩
    · rw [setPhi_other φ st e] at hr
      obtain ⟨c, cc, ty, fz, h1, h2, h3, h4, h5⟩ := S.live b r hr
      exact ⟨c, cc, ty, fz, h1, by rw [old _ (S.cb_lt (b := b) (by simp [hr, cbOf]))]; exact h2, h3.mono le, h4, h5⟩
  · intro b c hr
    by_cases e : b = n
    · subst e
      rw [setPhi_same] at hr
      subst hr
      cases hb with
      | map => exact ⟨[], #[], 0, hblk, new, .nil⟩
    · rw [setPhi_other φ st e] at hr
      obtain ⟨es, ces, clk, h1, h2, h3⟩ := S.map b c hr
      exact ⟨es, ces, clk, h1, by rw [old _ (S.cb_lt (b := b) (by simp [hr, cbOf]))]; exact h2, h3.mono le⟩
  · intro b hr
    by_cases e : b = n
    · subst e
      rw [setPhi_same] at hr
      subst hr
      cases hb
    · rw [setPhi_other φ st e] at hr
      exact S.dead b hr
  · intro b b' c hc hc'
    by_cases e : b = n
    · by_cases e' : b' = n
      · rw [e, e']
      · subst e
        rw [setPhi_same, cbst] at hc
        rw [setPhi_other φ st e'] at hc'
        cases hc
        exact absurd (S.cb_lt hc') (by omega)
    · by_cases e' : b' = n
      · subst e'
        rw [setPhi_same, cbst] at hc'
        rw [setPhi_other φ st e] at hc
        cases hc'
        exact absurd (S.cb_lt hc) (by omega)
      · rw [setPhi_other φ st e] at hc
        rw [setPhi_other φ st e'] at hc'
        exact S.inj b b' c hc hc'

theorem Eff.born (S : Sim φ ah w) {n : Nat} {blk : Blk} {obj : Obj} {st : Stt} (hb : Born φ w blk obj st) (hn : φ n = .unborn) (hblk : ah[n]? = some blk) {w' : World} (hw : w'.heap = w.heap.push obj)
    (h1 : w'.os = w.os) (h2 : w'.tape = w.tape) (h3 : w'.output = w.output) {m : Nat} (hmn : m ≤ n) : Eff φ (setPhi φ n st) m ah w w' := by
  obtain ⟨s, le⟩ := S.born hb hn hblk hw
  have cbst : cbOf st = some w.heap.size := by cases hb <;> rfl
  refine ⟨le, s, ⟨h1, h2, h3, by rw [hw]; simp, fun k hk _ => by rw [hw, Array.getElem?_push, if_neg (by omega)]⟩, fun b k hk => ?_, fun k hk => ?_, Nat.le_trans hmn (Nat.le_of_lt (List.getElem?_eq_some_iff.1 hblk).1), fun b hbm hbu => by rw [setPhi_other φ _ (by omega)]; exact hbu⟩
  · by_cases e : b = n
    · subst e
      rw [setPhi_same, cbst] at hk
      cases hk
      exact .inr (Nat.le_refl _)
    · rw [setPhi_other φ st e] at hk
      exact .inl ⟨b, hk⟩
  · obtain ⟨b, hb'⟩ := hk
    by_cases e : b = n
    · subst e
      rw [setPhi_same] at hb'
      right
      rcases hb' with ⟨r, hr, _, rfl⟩ | hr
      · rw [hr] at cbst; simp [cbOf] at cbst; omega
      · rw [hr] at cbst; simp [cbOf] at cbst; omega
    · rw [setPhi_other φ st e] at hb'
      exact .inl ⟨b, hb'⟩

theorem stN_eq {h : Heap} {p : Ad} {c : List AV} {m : Mode} {v : Nat} (hb : h[p.b]? = some (.cells c m v)) (hv : p.v = v) (hm : m ≠ .ro) {ys : List AV} {k : Nat} (hk : p.o + k + ys.length ≤ c.length) :
    stN h (p.add k) ys = some (h.set p.b (.cells (splice (p.o + k) ys c) m v)) := by
  have e1 : (p.add k).b = p.b := rfl
  have e2 : (p.add k).v = p.v := rfl
  have e3 : (p.add k).o = p.o + k := rfl
  simp only [stN, e1, hb, e2, e3]
  rw [if_pos ⟨hv, hm, hk⟩]

/-- The row of a block under a new version. -/
theorem bump_sound (S : Sim φ ah w) {b : Nat} {r r' : Row} {c : List AV} {cc : Array Value} {ty : TypeId} {w' : World} (hr : φ b = .live r) (hv : r.ver < r'.ver) (hm : r'.mode = r.mode) (hro : r.mode ≠ .ro)
    (hw : w'.heap[r'.cb]? = some (.cells cc ty (0, 0))) (hcell : CellsR φ c r'.base cc) (hg : ∀ es, r'.mode = .grow es → cc.size = r'.size)
    (hcb : r'.cb = r.cb ∨ r'.cb = w.heap.size) (hsz : w.heap.size ≤ w'.heap.size) (hoth : ∀ k, k < w.heap.size → k ≠ r.cb → w'.heap[k]? = w.heap[k]?)
    (hoth2 : r'.cb ≠ r.cb → w'.heap[r.cb]? = w.heap[r.cb]?)
    (h1 : w'.os = w.os) (h2 : w'.tape = w.tape) (h3 : w'.output = w.output) :
    Eff φ (setPhi φ b (.live r')) ah.length (ah.set b (.cells c r'.mode r'.ver)) w w' := by
  obtain ⟨c0, cc0, ty0, fz0, g1, g2, g3, g4, g5⟩ := S.live b r hr
  have hbl : b < ah.length := (List.getElem?_eq_some_iff.1 g1).1
  have hrlt : r.cb < w.heap.size := S.cb_lt (b := b) (by simp [hr, cbOf])
  have le : Le φ (setPhi φ b (.live r')) := by
    intro k
    by_cases e : k = b
    · subst e
      rw [setPhi_same, hr]
      exact ⟨r', rfl, hm, .inr hv⟩
    · rw [setPhi_other φ _ e]; exact .refl _
  refine ⟨le, ?_, ⟨h1, h2, h3, hsz, fun k hk hno => ?_⟩, fun k n hn => ?_, fun k hk => ?_, by simp, fun k hk hku => by rw [setPhi_other φ _ (by rintro rfl; rw [hr] at hku; cases hku)]; exact hku⟩
  · refine S.put le hbl (setPhi_same _ _ _) (fun k hk => setPhi_other φ _ hk) hw (hcell.mono le) hg (fun k hk hc => ?_) (fun k hk n hn => ?_)
    · rcases hcb with e | e
      · rw [e] at hc
        exact hk (S.inj k b r.cb hc (by simp [hr, cbOf]))
      · rw [e] at hc
        exact absurd (S.cb_lt hc) (by omega)
    · refine hoth n (S.cb_lt hn) (fun e => ?_)
      subst e
      exact hk (S.inj k b r.cb hn (by simp [hr, cbOf]))
  · by_cases e : k = r.cb
    · exact absurd ⟨b, .inl ⟨r, hr, hro, e.symm⟩⟩ hno
    · exact hoth k hk e
  · by_cases e : k = b
    · subst e
      rw [setPhi_same] at hn
      simp [cbOf] at hn
      rcases hcb with e | e
      · exact .inl ⟨k, by simp [hr, cbOf]; omega⟩
      · exact .inr (by omega)
    · rw [setPhi_other φ _ e] at hn
      exact .inl ⟨k, hn⟩
  · obtain ⟨k', hk'⟩ := hk
    by_cases e : k' = b
    · subst e
      rw [setPhi_same] at hk'
      rcases hk' with ⟨q, hq, hqm, rfl⟩ | hq
      · cases hq
        rcases hcb with e | e
        · exact .inl ⟨k', .inl ⟨r, hr, hro, e.symm⟩⟩
        · exact .inr (by omega)
      · cases hq
    · rw [setPhi_other φ _ e] at hk'
      exact .inl ⟨k', hk'⟩

theorem tail_cells {c : List AV} {base o n : Nat} {cc : Array Value} (h : CellsR φ c base cc) {ys : List AV} {zs : List Value} (hy : VRs φ ys zs) (hle : o + n ≤ c.length) (hfit : base + o + n + ys.length ≤ cc.size) :
    CellsR φ ((c.drop o).take n ++ ys) (base + o) (cc.toList.take (base + o + n) ++ zs ++ cc.toList.drop (base + o + n + zs.length)).toArray := by
  have hlen := h.len
  have hyl := hy.1
  constructor
  · simp
    omega
  · intro i x hx
    by_cases hi : i < n
    · rw [List.getElem?_append_left (by simp; omega), List.getElem?_take, if_pos hi, List.getElem?_drop] at hx
      obtain ⟨y, hy', hv⟩ := h.get _ _ hx
      refine ⟨y, ?_, hv⟩
      rw [List.getElem?_toArray, List.append_assoc, List.getElem?_append_left (by simp; omega), List.getElem?_take, if_pos (by omega)]
      have : base + o + i = base + (o + i) := by omega
      rw [this]
      simpa using hy'
    · rw [List.getElem?_append_right (by simp; omega)] at hx
      have e1 : (List.take n (List.drop o c)).length = n := by simp; omega
      rw [e1] at hx
      obtain ⟨y, hy', hv⟩ := hy.get hx
      refine ⟨y, ?_, hv⟩
      have hil : i - n < zs.length := (List.getElem?_eq_some_iff.1 hy').1
      rw [List.getElem?_toArray, List.append_assoc, List.getElem?_append_right (by simp; omega), List.getElem?_append_left (by simp; omega)]
      rw [← hy']
      congr 1
      simp
      omega

end
end Go.Proofs.Ytmfmnbldngfelaa.Abs
