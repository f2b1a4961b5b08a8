/- Operations that read, at most, one kind after the other. -/
import Derived.Test.YtmfmnbldngfelaaAbsOps
set_option linter.unusedVariables false
set_option linter.unusedSimpArgs false
namespace Go.Proofs.Ytmfmnbldngfelaa.Abs
open Go

def AOk (P : Program) (φ : Phi) (β : Nat → Nat) (a : Act) (w : World) (o : Oper) (gs : List (Nat × Bool)) (sv : SV) : Prop :=
  ∃ vc, (execOp a.eval o).run P w = .ok (.value vc) w ∧
    ((∃ x, sv = .g gs true x ∧ VR φ x vc) ∨ (∃ d off, sv = .lref gs true d off ∧ vc = .pointer (some ⟨β d, off, none⟩)))

section
variable {P : Program} {φ : Phi} {β : Nat → Nat} {ρ : Nat → SV} {ah : Heap} {a : Act} {w : World} {gs : List (Nat × Bool)} {R : Type}
  {loc : Nat} {ret : SV → Option R} {r : R}

theorem AOk.val {o : Oper} {x : AV} {vc : Value} (h : (execOp a.eval o).run P w = .ok (.value vc) w) (hv : VR φ x vc) : AOk P φ β a w o gs (.g gs true x) :=
  ⟨vc, h, .inl ⟨x, rfl, hv⟩⟩

theorem run_v {s : Sem Value} {v : Value} (h : s.run P w = .ok v w) : (do pure (Next.value (← s)) : Sem Next).run P w = .ok (.value v) w := by
  simp [h, Result.andThen]

theorem a_move (C : Ctx φ β ρ ah a w gs) {dst type pos after guard} {x : Operand} {k : AK} (hk : cOp P loc ⟨dst, .move x, type, pos, after, guard⟩ = some k)
    (h : opA ρ ah gs true k ret = some r) : ∃ sv, ret sv = some r ∧ AOk P φ β a w ⟨dst, .move x, type, pos, after, guard⟩ gs sv := by
  simp only [cOp] at hk
  split at hk
  · rename_i ax hx
    simp at hk; subst hk
    simp only [opA] at h
    split at h
    · rename_i v hv
      exact ⟨_, h, .val rfl (getV_sound C hx hv)⟩
    · simp at h
  · simp at hk

theorem a_assign (C : Ctx φ β ρ ah a w gs) {dst type pos after guard} {x : Operand} {k : AK} (hk : cOp P loc ⟨dst, .assign x, type, pos, after, guard⟩ = some k)
    (h : opA ρ ah gs true k ret = some r) : ∃ sv, ret sv = some r ∧ AOk P φ β a w ⟨dst, .assign x, type, pos, after, guard⟩ gs sv := by
  simp only [cOp] at hk
  split at hk
  · rename_i ax hx
    simp at hk; subst hk
    simp only [opA] at h
    split at h
    · rename_i v hv
      exact ⟨_, h, .val rfl (getV_sound C hx hv)⟩
    · simp at h
  · simp at hk

theorem conj_cons {t : Nat} {wt : Bool} {g : List (Nat × Bool)} {bc b : Bool} (he : ρ t = .g g bc (.bool b)) (hb : lit wt b = true) (c : conj ρ gs) : conj ρ ((t, wt) :: gs) := by
  intro p hp
  cases hp with
  | head => exact ⟨g, bc, b, he, hb⟩
  | tail _ hp => exact c p hp

theorem getV_tmp {t : Nat} {v : AV} (h : getV gs ρ (.tmp t) = some v) : ∃ g bc, ρ t = .g g bc v ∧ allIn g gs = true := by
  unfold getV at h
  cases e : ρ t <;> simp [e] at h
  rename_i g bc x
  exact ⟨g, bc, by rw [h.2], h.1⟩

theorem cX_tmp {x : Operand} {t : Nat} (h : cX x = some (.tmp t)) : x = .tmp t := by
  cases x with
  | tmp s => simp [cX] at h; rw [h]
  | const c => simp only [cX] at h; split at h <;> simp at h
  | global g => simp [cX] at h
  | func f => simp [cX] at h

theorem vr_bool {b : Bool} {v : Value} (h : VR φ (.bool b) v) : v = .bool b := by cases h; rfl
theorem vr_int {k : IntKind} {n : Int} {v : Value} (h : VR φ (.int k n) v) : v = .int k n := by cases h; rfl
theorem vr_str {s : ByteArray} {v : Value} (h : VR φ (.str s) v) : v = .string s := by cases h; rfl

theorem a_pick (C : Ctx φ β ρ ah a w gs) {dst type pos after guard} {c x y : Operand} {k : AK} (hk : cOp P loc ⟨dst, .pick c x y, type, pos, after, guard⟩ = some k)
    (h : opA ρ ah gs true k ret = some r) : ∃ sv, ret sv = some r ∧ AOk P φ β a w ⟨dst, .pick c x y, type, pos, after, guard⟩ gs sv := by
  simp only [cOp] at hk
  split at hk
  · rename_i c' x' y' hc hx hy
    simp at hk; subst hk
    cases c' with
    | c v => simp [opA] at h
    | tmp t =>
      simp only [opA] at h
      split at h
      · rename_i bv hbv
        have e1 := vr_bool (getV_sound C hc hbv)
        obtain ⟨g, bc, hg, _⟩ := getV_tmp hbv
        have run : ∀ v, v = (if bv = true then a.eval x else a.eval y) → (execOp a.eval ⟨dst, .pick c x y, type, pos, after, guard⟩).run P w = .ok (.value v) w := by
          intro v hv
          simp [execOp, e1, asBool, Result.andThen, hv]
        have vx : bv = true → ∀ v, getV ((t, true) :: gs) ρ x' = some v → VR φ v (a.eval x) := fun hb v hv =>
          getV_sound ⟨C.S, C.H, C.G, conj_cons hg (by simpa [lit] using hb) C.cj⟩ hx hv
        have vy : bv = false → ∀ v, getV ((t, false) :: gs) ρ y' = some v → VR φ v (a.eval y) := fun hb v hv =>
          getV_sound ⟨C.S, C.H, C.G, conj_cons hg (by simp [lit, hb]) C.cj⟩ hy hv
        split at h
        · rename_i p q hp hq
          refine ⟨_, h, .val (run _ rfl) ?_⟩
          cases bv with
          | true => simpa using vx rfl _ hp
          | false => simpa using vy rfl _ hq
        · rename_i p q hno hp hq
          cases bv with
          | true => exact ⟨_, by simpa using h, .val (run _ rfl) (by simpa using vx rfl _ (by assumption))⟩
          | false => exact ⟨_, by simpa using h, .val (run _ rfl) (by simpa using vy rfl _ (by assumption))⟩
        · simp at h
      · simp at h
  · simp at hk

theorem a_un (C : Ctx φ β ρ ah a w gs) {dst type pos after guard} {op : UnOp} {t : TypeId} {x : Operand} {k : AK} (hk : cOp P loc ⟨dst, .unOp op t x, type, pos, after, guard⟩ = some k)
    (h : opA ρ ah gs true k ret = some r) : ∃ sv, ret sv = some r ∧ AOk P φ β a w ⟨dst, .unOp op t x, type, pos, after, guard⟩ gs sv := by
  simp only [cOp] at hk
  split at hk
  · rename_i ax hx
    simp at hk; subst hk
    simp only [opA] at h
    split at h
    · rename_i b hb
      have e := vr_bool (getV_sound C hx hb)
      exact ⟨_, h, .val (by simp [execOp, e, Op.unary, Result.andThen]) (.bool _)⟩
    · rename_i kk n hb
      have e := vr_int (getV_sound C hx hb)
      exact ⟨_, h, .val (by simp [execOp, e, Op.unary, Op.intArith, Result.andThen]) (.int _ _)⟩
    · rename_i kk n hb
      have e := vr_int (getV_sound C hx hb)
      exact ⟨_, h, .val (by simp [execOp, e, Op.unary, intBits_xor, Result.andThen]) (.int _ _)⟩
    · simp at h
  · simp at hk

theorem a_conv (C : Ctx φ β ρ ah a w gs) {dst type pos after guard} {s d : TypeId} {x : Operand} {k : AK} (hk : cOp P loc ⟨dst, .convert s d x, type, pos, after, guard⟩ = some k)
    (h : opA ρ ah gs true k ret = some r) : ∃ sv, ret sv = some r ∧ AOk P φ β a w ⟨dst, .convert s d x, type, pos, after, guard⟩ gs sv := by
  simp only [cOp] at hk
  split at hk
  · rename_i k1 k2 ax h1 h2 hx
    simp at hk; subst hk
    simp only [opA] at h
    split at h
    · rename_i kk n hb
      have e := vr_int (getV_sound C hx hb)
      exact ⟨_, h, .val (by simp [execOp, e, convert, run_under h1, run_under h2, Conv.intToInt, Result.andThen]) (.int _ _)⟩
    · simp at h
  · simp at hk

theorem a_makeFn (C : Ctx φ β ρ ah a w gs) {dst type pos after guard} {f : FuncId} {first cap : Array Operand} {k : AK} (hk : cOp P loc ⟨dst, .makeFunc (.func f) first cap, type, pos, after, guard⟩ = some k)
    (h : opA ρ ah gs true k ret = some r) : ∃ sv, ret sv = some r ∧ AOk P φ β a w ⟨dst, .makeFunc (.func f) first cap, type, pos, after, guard⟩ gs sv := by
  simp only [cOp] at hk
  split at hk
  · rename_i as bs h1 h2
    simp at hk; subst hk
    simp only [opA] at h
    split at h
    · rename_i xs ys hx hy
      have e1 := getVs_sound C h1 hx
      have e2 := getVs_sound C h2 hy
      refine ⟨_, h, .val (vc := .func (.func f) (first.map a.eval) (cap.map a.eval)) (by simp [execOp, Instr.makeFunc, Result.andThen]) ?_⟩
      exact .fn f (by simpa using e1.1) (fun i x y ha hb => e1.2 i x y ha (by simpa using hb)) (by simpa using e2.1) (fun i x y ha hb => e2.2 i x y ha (by simpa using hb))
    · simp at h
  · simp at hk

theorem a_extract (C : Ctx φ β ρ ah a w gs) {dst type pos after guard} {x : Operand} {i : Nat} {k : AK} (hk : cOp P loc ⟨dst, .extract x i, type, pos, after, guard⟩ = some k)
    (h : opA ρ ah gs true k ret = some r) : ∃ sv, ret sv = some r ∧ AOk P φ β a w ⟨dst, .extract x i, type, pos, after, guard⟩ gs sv := by
  simp only [cOp] at hk
  split at hk
  · rename_i ax hx
    simp at hk; subst hk
    simp only [opA] at h
    split at h
    · rename_i vs hv
      split at h
      · rename_i v hi
        have e := getV_sound C hx hv
        generalize hev : a.eval x = vc at e
        cases e with
        | tup h1 h2 =>
          rename_i vs'
          have hlt : i < vs'.size := by have := (List.getElem?_eq_some_iff.1 hi).1; omega
          have hg : vs'[i]? = some vs'[i] := by simp
          exact ⟨_, h, .val (by simp [execOp, hev, Instr.extract, hg, Result.andThen]) (h2 i v _ hi hg)⟩
      · simp at h
    · simp at h
  · simp at hk

theorem a_nilCheck (C : Ctx φ β ρ ah a w gs) {dst type pos after guard} {x : Operand} {k : AK} (hk : cOp P loc ⟨dst, .nilCheck x, type, pos, after, guard⟩ = some k)
    (h : opA ρ ah gs true k ret = some r) : ∃ sv, ret sv = some r ∧ AOk P φ β a w ⟨dst, .nilCheck x, type, pos, after, guard⟩ gs sv := by
  simp only [cOp] at hk
  split at hk
  · rename_i ax hx
    simp at hk; subst hk
    cases ax with
    | c v => simp [opA] at h
    | tmp t =>
      have := cX_tmp hx
      subst this
      have hev : a.eval (.tmp t) = a.tmps.getD t undef := rfl
      have H := C.H t
      simp only [opA] at h
      split at h
      · rename_i cs e
        rw [e] at H
        have hv : a.eval (.tmp t) = .pointer (some ⟨β t, 0, none⟩) := by rw [hev]; exact H.1
        exact ⟨_, h, _, by simp only [execOp, hv]; rfl, .inr ⟨t, 0, rfl, rfl⟩⟩
      · rename_i g bc d off e
        split at h
        · rename_i hin
          rw [e] at H
          have hb := (C.G.2 t g bc d off e).2 (allIn_conj hin C.cj)
          have hv : a.eval (.tmp t) = .pointer (some ⟨β d, off, none⟩) := by rw [hev]; exact H.1 hb
          exact ⟨_, h, _, by simp only [execOp, hv]; rfl, .inr ⟨d, off, rfl, rfl⟩⟩
        · simp at h
      · rename_i g bc y e
        split at h
        · rename_i hin
          rw [e] at H
          have hb := (C.G.1 t g bc y e).2 (allIn_conj hin C.cj)
          have hv := H.1 hb
          rw [← hev] at hv
          split at h
          · rename_i p
            obtain ⟨p', rfl, h⟩ := gb_true h
            generalize hz : a.eval (.tmp t) = z at hv
            cases hv with
            | ptr ha => exact ⟨_, h, .val (by simp only [execOp, hz]; rfl) (.ptr ha)⟩
          · rename_i f b c
            generalize hz : a.eval (.tmp t) = z at hv
            cases hv with
            | fn f h1 h2 h3 h4 => exact ⟨_, h, .val (by simp only [execOp, hz]; rfl) (.fn f h1 h2 h3 h4)⟩
          · simp at h
        · simp at h
      · simp at h
  · simp at hk

theorem addrR_add {p : Ad} {a' : Addr} (ha : AddrR φ p a') (n : Nat) : AddrR φ (p.add n) (a'.add n) := by
  have e : (p.add n).b = p.b := rfl
  unfold AddrR at ha ⊢
  rw [e]
  cases hp : φ p.b with
  | live r =>
    rw [hp] at ha
    exact ⟨ha.1, fun hv => by rw [ha.2 hv, addr_add]; simp [Ad.add, Nat.add_assoc]⟩
  | dead => trivial
  | unborn => rw [hp] at ha; exact ha
  | lmap c => rw [hp] at ha; exact ha

theorem a_fieldAddr (C : Ctx φ β ρ ah a w gs) {dst type pos after guard} {s : TypeId} {x : Operand} {f : Nat} {k : AK} (hk : cOp P loc ⟨dst, .fieldAddr s x f, type, pos, after, guard⟩ = some k)
    (h : opA ρ ah gs true k ret = some r) : ∃ sv, ret sv = some r ∧ AOk P φ β a w ⟨dst, .fieldAddr s x f, type, pos, after, guard⟩ gs sv := by
  simp only [cOp] at hk
  split at hk
  · rename_i fs ax hs hx
    split at hk
    · rename_i fd hfd
      split at hk
      · rename_i n hn
        split at hk
        · rename_i hpos
          simp at hk; subst hk
          simp only [opA] at h
          obtain ⟨p, h, hp⟩ := place_sound C hx h
          have run : ∀ b off, a.eval x = .pointer (some ⟨b, off, none⟩) → (execOp a.eval ⟨dst, .fieldAddr s x f, type, pos, after, guard⟩).run P w = .ok (.value (.pointer (some ⟨b, off + fd.offset, none⟩))) w := by
            intro b off he
            have hne : n ≠ 0 := by omega
            simp [execOp, he, Instr.fieldAt, run_under hs, hfd, Instr.sureAddr, fieldPlace, run_size hn, Result.andThen, hne, addr_add]
          cases p with
          | heap q =>
            obtain ⟨a', he, ha⟩ := hp
            have hr : ∀ a'' : Addr, (Instr.fieldAt s (.pointer (some a'')) f).run P w = .ok (.pointer (some (a''.add fd.offset))) w := by
              intro a''
              have hne : n ≠ 0 := by omega
              simp [Instr.fieldAt, run_under hs, hfd, Instr.sureAddr, fieldPlace, run_size hn, Result.andThen, hne]
            refine ⟨_, h, .val (vc := .pointer (some (a'.add fd.offset))) (by simp [execOp, he, hr, Result.andThen]) (.ptr ?_)⟩
            exact addrR_add ha _
          | loc d off => exact ⟨_, h, _, run _ _ hp, .inr ⟨d, off + fd.offset, rfl, rfl⟩⟩
        · simp at hk
      · simp at hk
    · simp at hk
  · simp at hk

theorem a_load (C : Ctx φ β ρ ah a w gs) {dst type pos after guard} {t : TypeId} {x : Operand} {k : AK} (hk : cOp P loc ⟨dst, .load t x, type, pos, after, guard⟩ = some k)
    (h : opA ρ ah gs true k ret = some r) : ∃ sv, ret sv = some r ∧ AOk P φ β a w ⟨dst, .load t x, type, pos, after, guard⟩ gs sv := by
  simp only [cOp] at hk
  split at hk
  · rename_i s ax hs hx
    simp at hk; subst hk
    simp only [opA] at h
    obtain ⟨p, h, hp⟩ := place_sound C hx h
    -- the run, out of the cells
    have run : ∀ (ad : Addr) (v : Value), a.eval x = .pointer (some ad) → (loadVar t ad).run P w = .ok v w →
        (execOp a.eval ⟨dst, .load t x, type, pos, after, guard⟩).run P w = .ok (.value v) w := by
      intro ad v he hv
      simp [execOp, he, Instr.loadAt, Instr.sureAddr, hv, Result.andThen]
    cases p with
    | heap q =>
      obtain ⟨a', he, ha⟩ := hp
      have many : ∀ n xs, ldN ah q n = some xs → n = s.size → (∀ c, s ≠ .cell c) → ∃ v, (loadVar t a').run P w = .ok v w ∧ VR φ (.agg xs) v := by
        intro n xs hl hns hnc
        obtain ⟨ys, h1, h2, h3, h4⟩ := ldN_sound C.S ha hl
        obtain ⟨v, hv1, hv2⟩ := run_loadVar hs (ad := a') (ys := ys) (by omega) (run_loadCells_list w a' ys h2) (fun v hv => by have := h2 0 v hv; simpa [Addr.add] using this)
        refine ⟨v, hv1, ?_⟩
        cases s with
        | cell c => exact absurd rfl (hnc c)
        | agg l => simp at hv2; subst hv2; exact VR.agg_list h3
        | raw m => simp at hv2; subst hv2; exact VR.agg_list h3
      cases s with
      | cell c =>
        simp only at h
        obtain ⟨v, hv, h⟩ := rdC_true h
        obtain ⟨y, hy, hvr, hf⟩ := ld1_sound C.S ha hv
        obtain ⟨v', hv1, hv2⟩ := run_loadVar hs (ad := a') (ys := [y]) rfl (run_loadCells_list w a' [y] (fun j u hj => by
            cases j with
            | zero => simp at hj; subst hj; simpa [Addr.add] using hy
            | succ j => simp at hj)) (fun u hu => by simp at hu; subst hu; exact hy)
        simp at hv2; subst hv2
        exact ⟨_, h, .val (run _ _ he hv1) hvr⟩
      | agg l =>
        simp only [rdV] at h
        obtain ⟨xs, hxs, h⟩ := gb_true h
        have h := rdL_true' h
        obtain ⟨v, hv, hvr⟩ := many _ _ hxs rfl (fun c => by simp)
        refine ⟨_, h, .val (run _ _ he hv) ?_⟩
        have hlen : xs.length = l.length := by
          obtain ⟨ys, h1, h2, h3, h4⟩ := ldN_sound C.S ha hxs
          rw [h3.1, h1]
        rw [List.drop_zero, List.take_of_length_le (by omega)]
        exact hvr
      | raw n =>
        simp only [rdV] at h
        obtain ⟨xs, hxs, h⟩ := gb_true h
        obtain ⟨v, hv, hvr⟩ := many _ _ hxs rfl (fun c => by simp)
        exact ⟨_, h, .val (run _ _ he hv) hvr⟩
    | loc d off =>
      have he : a.eval x = .pointer (some ⟨β d, off, none⟩) := hp
      simp only at h
      split at h
      · simp at h
      · rename_i cs hcs
        obtain ⟨cc, ty, hw, hc⟩ := boxAt_sound C hcs
        have hlen := hc.len
        have many : ∀ n, n = s.size → off + n ≤ cs.length → (∀ c, s ≠ .cell c) → ∃ v, (loadVar t ⟨β d, off, none⟩).run P w = .ok v w ∧ VR φ (.agg ((cs.drop off).take n)) v := by
          intro n hns hle hnc
          have h2 : ∀ j v, ((cc.toList.drop off).take n)[j]? = some v → w.cell? ((⟨β d, off, none⟩ : Addr).add j) = some v := by
            intro j v hj
            rw [List.getElem?_take] at hj
            split at hj
            · rw [List.getElem?_drop] at hj
              rw [addr_add]
              have : cc[off + j]? = some v := by simpa using hj
              simp [World.cell?, hw, this]
            · simp at hj
          have hl : ((cc.toList.drop off).take n).length = n := by simp; omega
          obtain ⟨v, hv1, hv2⟩ := run_loadVar hs (ad := ⟨β d, off, none⟩) (ys := (cc.toList.drop off).take n) (by omega) (run_loadCells_list w _ _ h2) (fun v hv => by have := h2 0 v hv; simpa [Addr.add] using this)
          have h3 : VRs φ ((cs.drop off).take n) ((cc.toList.drop off).take n) := by
            refine ⟨by rw [hl]; simp; omega, fun i x y hx hy => ?_⟩
            rw [List.getElem?_take] at hx hy
            split at hx
            · rename_i hi
              rw [if_pos hi, List.getElem?_drop] at hy
              rw [List.getElem?_drop] at hx
              obtain ⟨y', hy', hvr⟩ := hc.get _ _ hx
              have : cc.toList[off + i]? = some y' := by simpa using hy'
              rw [this] at hy
              cases hy
              exact hvr
            · simp at hx
          refine ⟨v, hv1, ?_⟩
          cases s with
          | cell c => exact absurd rfl (hnc c)
          | agg l => simp at hv2; subst hv2; exact VR.agg_list h3
          | raw m => simp at hv2; subst hv2; exact VR.agg_list h3
        cases s with
        | cell c =>
          simp only at h
          obtain ⟨v, hv, h⟩ := rdC_true h
          obtain ⟨y, hy, hvr⟩ := hc.get _ _ hv
          have hcell : w.cell? ⟨β d, off, none⟩ = some y := by
            have : cc[off]? = some y := by simpa using hy
            simp [World.cell?, hw, this]
          obtain ⟨v', hv1, hv2⟩ := run_loadVar hs (ad := ⟨β d, off, none⟩) (ys := [y]) rfl (run_loadCells_list w _ [y] (fun j u hj => by
              cases j with
              | zero => simp at hj; subst hj; simpa [Addr.add] using hcell
              | succ j => simp at hj)) (fun u hu => by simp at hu; subst hu; exact hcell)
          simp at hv2; subst hv2
          exact ⟨_, h, .val (run _ _ he hv1) hvr⟩
        | agg l =>
          simp only at h
          obtain ⟨hle, h⟩ := chk_some h
          have h := rdL_true' h
          obtain ⟨v, hv, hvr⟩ := many l.length rfl (hle trivial) (fun c => by simp)
          exact ⟨_, h, .val (run _ _ he hv) hvr⟩
        | raw n =>
          simp only at h
          obtain ⟨hle, h⟩ := chk_some h
          obtain ⟨v, hv, hvr⟩ := many n rfl (hle trivial) (fun c => by simp)
          exact ⟨_, h, .val (run _ _ he hv) hvr⟩
  · simp at hk

theorem extract_vr {cs : List AV} {cc : Array Value} (h1 : cs.length = cc.size) (h2 : ∀ (i : Nat) x y, cs[i]? = some x → cc[i]? = some y → VR φ x y) (off n : Nat) :
    VR φ (.agg ((cs.drop off).take n)) (.agg (cc.extract off (off + n))) := by
  refine .agg (by simp; omega) fun i x y hx hy => ?_
  rw [List.getElem?_take] at hx
  split at hx
  · rename_i hi
    rw [List.getElem?_drop] at hx
    rw [Array.getElem?_extract] at hy
    split at hy
    · exact h2 _ _ _ hx hy
    · simp at hy
  · simp at hx

theorem a_field (C : Ctx φ β ρ ah a w gs) {dst type pos after guard} {s : TypeId} {x : Operand} {f : Nat} {k : AK} (hk : cOp P loc ⟨dst, .field s x f, type, pos, after, guard⟩ = some k)
    (h : opA ρ ah gs true k ret = some r) : ∃ sv, ret sv = some r ∧ AOk P φ β a w ⟨dst, .field s x f, type, pos, after, guard⟩ gs sv := by
  simp only [cOp] at hk
  split at hk
  · rename_i fs ax hs hx
    split at hk
    · rename_i fd hfd
      split at hk
      · rename_i vs hvs
        simp at hk; subst hk
        simp only [opA] at h
        split at h
        · rename_i cs hcs
          have e := getV_sound C hx hcs
          generalize hev : a.eval x = vc at e
          cases e with
          | agg h1 h2 =>
            rename_i cc
            have run : ∀ v, (part fd.type cc fd.offset).run P w = .ok v w → (execOp a.eval ⟨dst, .field s x f, type, pos, after, guard⟩).run P w = .ok (.value v) w := by
              intro v hv
              simp [execOp, hev, Instr.field, run_under hs, hfd, asAgg, hv, Result.andThen]
            cases vs with
            | cell c =>
              simp only at h
              obtain ⟨v, hv, h⟩ := rdC_true h
              have hlt := (List.getElem?_eq_some_iff.1 hv).1
              obtain ⟨v', hv1, hv2⟩ := run_part hvs (cs := cc) (off := fd.offset) (by simp [VS.size]; omega)
              exact ⟨_, h, .val (run _ hv1) (h2 _ _ _ hv hv2)⟩
            | agg l =>
              simp only at h
              obtain ⟨hle, h⟩ := chk_some h
              have h := rdL_true' h
              obtain ⟨v', hv1, hv2⟩ := run_part hvs (cs := cc) (off := fd.offset) (by have := hle trivial; simp [VS.size]; omega)
              simp only at hv2
              refine ⟨_, h, .val (run _ hv1) ?_⟩
              rw [hv2]
              exact extract_vr h1 h2 _ _
            | raw n =>
              simp only at h
              obtain ⟨hle, h⟩ := chk_some h
              obtain ⟨v', hv1, hv2⟩ := run_part hvs (cs := cc) (off := fd.offset) (by have := hle trivial; simp [VS.size]; omega)
              simp only at hv2
              refine ⟨_, h, .val (run _ hv1) ?_⟩
              rw [hv2]
              exact extract_vr h1 h2 _ _
        · simp at h
      · simp at hk
    · simp at hk
  · simp at hk

theorem a_index (C : Ctx φ β ρ ah a w gs) {dst type pos after guard} {t : TypeId} {x i : Operand} {k : AK} (hk : cOp P loc ⟨dst, .index t x i, type, pos, after, guard⟩ = some k)
    (h : opA ρ ah gs true k ret = some r) : ∃ sv, ret sv = some r ∧ AOk P φ β a w ⟨dst, .index t x i, type, pos, after, guard⟩ gs sv := by
  simp only [cOp] at hk
  split at hk
  · rename_i len e ax ai hs hx hi
    split at hk
    · rename_i n s hn hvs
      simp at hk; subst hk
      simp only [opA] at h
      split at h
      · rename_i cs kk j hcs hj
        have e1 := getV_sound C hx hcs
        have e2 := vr_int (getV_sound C hi hj)
        generalize hev : a.eval x = vc at e1
        cases e1 with
        | agg h1 h2 =>
          rename_i cc
          obtain ⟨hr, h⟩ := chk_some h
          have hr := hr trivial
          split at h
          · rename_i c
            obtain ⟨v, hv, h⟩ := rdC_true h
            have hlt := (List.getElem?_eq_some_iff.1 hv).1
            obtain ⟨v', hv1, hv2⟩ := run_part (w := w) hvs (cs := cc) (off := j.toNat * n) (by simp [VS.size]; omega)
            refine ⟨_, h, .val (vc := v') ?_ (h2 _ _ _ hv hv2)⟩
            simp [execOp, hev, e2, Instr.index, asIntOf, run_under hs, run_size hn, hr, hv1, Result.andThen]
          · simp at h
      · simp at h
    · simp at hk
  · rename_i ax ai hs hx hi
    simp at hk; subst hk
    simp only [opA] at h
    split at h
    · rename_i sb kk j hcs hj
      have e1 := vr_str (getV_sound C hx hcs)
      have e2 := vr_int (getV_sound C hi hj)
      obtain ⟨b, hb, h⟩ := gb_true h
      refine ⟨_, h, .val (vc := .int .u8 b.toNat) ?_ (.int _ _)⟩
      simp [execOp, e1, e2, Instr.index, asIntOf, run_under hs, Result.andThen]
      split at hb
      · rename_i h0
        simp [h0, hb]
      · simp at hb
    · simp at h
  · simp at hk

theorem a_indexAddr (C : Ctx φ β ρ ah a w gs) {dst type pos after guard} {t : TypeId} {x i : Operand} {k : AK} (hk : cOp P loc ⟨dst, .indexAddr t x i, type, pos, after, guard⟩ = some k)
    (h : opA ρ ah gs true k ret = some r) : ∃ sv, ret sv = some r ∧ AOk P φ β a w ⟨dst, .indexAddr t x i, type, pos, after, guard⟩ gs sv := by
  simp only [cOp] at hk
  split at hk
  · rename_i e ax ai hs hx hi
    split at hk
    · rename_i n hn
      simp at hk; subst hk
      simp only [opA] at h
      split at h
      · rename_i sa len kk j hcs hj
        have e1 := getV_sound C hx hcs
        have e2 := vr_int (getV_sound C hi hj)
        obtain ⟨hr, h⟩ := chk_some h
        have hr := hr trivial
        obtain ⟨p, hp, h⟩ := gb_true h
        cases sa with
        | nil => simp [adP] at hp
        | lost => simp [adP] at hp
        | z => simp [adP] at hp
        | pos q =>
          simp [adP] at hp; subst hp
          generalize hev : a.eval x = vc at e1
          cases e1 with
          | sl ha hc hn' =>
            rename_i a' c
            refine ⟨_, h, .val (vc := .pointer (some (a'.add (j.toNat * n)))) ?_ (.ptr (addrR_add ha _))⟩
            simp [execOp, hev, e2, Instr.indexAt, asIntOf, run_under hs, run_size hn, hr, Result.andThen]
      · simp at h
    · simp at hk
  · rename_i len e ax ai hs hx hi
    split at hk
    · rename_i n hn
      simp at hk; subst hk
      simp only [opA] at h
      split at h
      · rename_i kk j hj
        have e2 := vr_int (getV_sound C hi hj)
        obtain ⟨p, h, hp⟩ := place_sound C hx h
        have run : ∀ a' : Addr, a.eval x = .pointer (some a') → 0 ≤ j ∧ j < len → (execOp a.eval ⟨dst, .indexAddr t x i, type, pos, after, guard⟩).run P w = .ok (.value (.pointer (some (a'.add (j.toNat * n))))) w := by
          intro a' he hr
          simp [execOp, he, e2, Instr.indexAt, Instr.sureAddr, asIntOf, run_under hs, run_size hn, hr, Result.andThen]
        cases p with
        | heap q =>
          obtain ⟨a', he, ha⟩ := hp
          obtain ⟨hr, h⟩ := chk_some h
          exact ⟨_, h, .val (run a' he (hr trivial)) (.ptr (addrR_add ha _))⟩
        | loc d off =>
          obtain ⟨hr, h⟩ := chk_some h
          have := run _ hp (hr trivial)
          rw [addr_add] at this
          exact ⟨_, h, _, this, .inr ⟨d, off + j.toNat * n, rfl, rfl⟩⟩
      · simp at h
    · simp at hk
  · simp at hk

end
end Go.Proofs.Ytmfmnbldngfelaa.Abs
