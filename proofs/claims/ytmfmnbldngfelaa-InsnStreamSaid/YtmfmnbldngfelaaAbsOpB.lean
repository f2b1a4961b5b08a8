/- Operations that read, at most: arithmetic, comparisons, slices, maps, lengths. -/
import Derived.Test.YtmfmnbldngfelaaAbsOpA
set_option linter.unusedVariables false
set_option linter.unusedSimpArgs false
namespace Go.Proofs.Ytmfmnbldngfelaa.Abs
open Go

section
variable {P : Program} {φ : Phi} {β : Nat → Nat} {ρ : Nat → SV} {ah : Heap} {a : Act} {w : World} {gs : List (Nat × Bool)} {R : Type}
  {loc : Nat} {ret : SV → Option R} {r : R}

theorem eqGuard_ok {op : BinOp} {t : TypeId} {x y : Operand} {u v : Value} (h : u ≠ .nilIface) (h2 : ∀ c, u ≠ .agg c) : (eqGuard op t x y u v).run P w = .ok () w := by
  cases u <;> first | exact absurd rfl h | exact absurd rfl (h2 _) | (cases op <;> rfl)

theorem run_bin {dst type pos after guard} {op : BinOp} {t yt : TypeId} {x y : Operand} {v : Value}
    (hg : (eqGuard op t x y (a.eval x) (a.eval y)).run P w = .ok () w) (hr : (binOp op t (a.eval x) (a.eval y)).run P w = .ok v w) :
    (execOp a.eval ⟨dst, .binOp op t x y yt, type, pos, after, guard⟩).run P w = .ok (.value v) w := by
  simp [execOp, hg, hr, Result.andThen]

theorem run_intDiv_quo (k : IntKind) (x y : Int) (h : y ≠ 0) : (Op.intDiv .quo k x y).run P w = .ok (.int k (k.wrap (x.tdiv y))) w := by
  simp [Op.intDiv, h]
theorem run_intDiv_rem (k : IntKind) (x y : Int) (h : y ≠ 0) : (Op.intDiv .rem k x y).run P w = .ok (.int k (x.tmod y)) w := by
  simp [Op.intDiv, h]

theorem binInt_sound {op : BinOp} {k : IntKind} {x y : Int} {K : AV → Option R} (hs : isShift op = false) (h : binInt true op k x y K = some r) (t : TypeId) :
    ∃ v vc, K v = some r ∧ (binOp op t (.int k x) (.int k y)).run P w = .ok vc w ∧ VR φ v vc := by
  cases op <;> simp only [binInt] at h
  case add => exact ⟨_, _, h, by simp [binOp_add, Op.intArith], .int _ _⟩
  case sub => exact ⟨_, _, h, by simp [binOp_sub, Op.intArith], .int _ _⟩
  case mul => exact ⟨_, _, h, by simp [binOp_mul, Op.intArith], .int _ _⟩
  case quo =>
    obtain ⟨hn, h⟩ := chk_some h
    exact ⟨_, _, h, by rw [binOp_quo]; exact run_intDiv_quo k x y (hn trivial), .int _ _⟩
  case rem =>
    obtain ⟨hn, h⟩ := chk_some h
    exact ⟨_, _, h, by rw [binOp_rem]; exact run_intDiv_rem k x y (hn trivial), .int _ _⟩
  case and => exact ⟨_, _, h, by simp [binOp, intBits_and], .int _ _⟩
  case or => exact ⟨_, _, h, by simp [binOp, intBits_or], .int _ _⟩
  case xor => exact ⟨_, _, h, by simp [binOp, intBits_xor], .int _ _⟩
  case andNot => exact ⟨_, _, h, by simp [binOp, intBits_andNot], .int _ _⟩
  case eql => exact ⟨_, .bool (x == y), h, by simp [binOp, Op.intCmp], .bool _⟩
  case neq => exact ⟨_, .bool (x != y), h, by simp [binOp, Op.intCmp], .bool _⟩
  case lss => exact ⟨_, _, h, by simp [binOp, Op.intCmp], .bool _⟩
  case leq => exact ⟨_, _, h, by simp [binOp, Op.intCmp], .bool _⟩
  case gtr => exact ⟨_, _, h, by simp [binOp, Op.intCmp], .bool _⟩
  case geq => exact ⟨_, _, h, by simp [binOp, Op.intCmp], .bool _⟩
  all_goals simp at h

theorem shInt_sound {op : BinOp} {k k' : IntKind} {x y : Int} {K : AV → Option R} (hs : isShift op = true) (h : shInt true op k x y K = some r) (t : TypeId) :
    ∃ v vc, K v = some r ∧ (binOp op t (.int k x) (.int k' y)).run P w = .ok vc w ∧ VR φ v vc := by
  cases op <;> simp only [shInt] at h
  case shl =>
    obtain ⟨hn, h⟩ := chk_some h
    have hn := hn trivial
    exact ⟨_, _, h, by simp [binOp, Op.shift, show ¬ y < 0 by omega], .int _ _⟩
  case shr =>
    obtain ⟨hn, h⟩ := chk_some h
    have hn := hn trivial
    exact ⟨_, _, h, by simp [binOp, Op.shift, show ¬ y < 0 by omega], .int _ _⟩
  all_goals simp at h

theorem tk_bool {t : TypeId} (h : tkOf P t = some .bool) : P.underlying t = some .bool := by
  unfold tkOf at h
  split at h <;> first | assumption | (simp at h; done) | skip
  all_goals
    split at h
    · split at h <;> simp at h
    · simp at h
theorem tk_ptr {t : TypeId} (h : tkOf P t = some .ptr) : ∃ e, P.underlying t = some (.pointer e) := by
  unfold tkOf at h
  split at h <;> first | exact ⟨_, by assumption⟩ | (simp at h; done) | skip
  all_goals
    split at h
    · split at h <;> simp at h
    · simp at h
theorem tk_sl {t : TypeId} (h : tkOf P t = some .sl) : ∃ e, P.underlying t = some (.slice e) := by
  unfold tkOf at h
  split at h <;> first | exact ⟨_, by assumption⟩ | (simp at h; done) | skip
  all_goals
    split at h
    · split at h <;> simp at h
    · simp at h

/-- Comparisons of values that are no numbers, and no structs. -/
theorem run_eq_of {op : BinOp} {t : TypeId} {u v : Value} {b : Bool} (hu : ∀ k n, u ≠ .int k n) (hu2 : ∀ s, u ≠ .string s) (hf : ∀ k n, u ≠ .float k n) (hc : ∀ k n m, u ≠ .complex k n m)
    (h : (Op.equal t u v).run P w = .ok b w) :
    (op = .eql → (binOp op t u v).run P w = .ok (.bool b) w) ∧ (op = .neq → (binOp op t u v).run P w = .ok (.bool (!b)) w) := by
  constructor
  · rintro rfl
    cases u <;> first
      | exact absurd rfl (hu _ _) | exact absurd rfl (hu2 _) | exact absurd rfl (hf _ _) | exact absurd rfl (hc _ _ _)
      | (cases v <;> simp [binOp, h, Result.andThen])
  · rintro rfl
    cases u <;> first
      | exact absurd rfl (hu _ _) | exact absurd rfl (hu2 _) | exact absurd rfl (hf _ _) | exact absurd rfl (hc _ _ _)
      | (cases v <;> simp [binOp, h, Result.andThen])

theorem sameAddr_none {e : TypeId} {t : TypeId} (h : P.underlying t = some (.pointer e)) (p : Option Addr) : (Op.equal t (.pointer none) (.pointer p)).run P w = .ok p.isNone w := by
  show (Op.equalIn (9999 + 1) t (.pointer none) (.pointer p)).run P w = _
  rw [Op.equalIn]
  simp [run_under h, Result.andThen]
theorem sameAddr_none' {e : TypeId} {t : TypeId} (h : P.underlying t = some (.pointer e)) (p : Addr) : (Op.equal t (.pointer (some p)) (.pointer none)).run P w = .ok false w := by
  show (Op.equalIn (9999 + 1) t (.pointer (some p)) (.pointer none)).run P w = _
  rw [Op.equalIn]
  simp [run_under h, Result.andThen]
theorem equal_bools {t : TypeId} (h : P.underlying t = some .bool) (a b : Bool) : (Op.equal t (.bool a) (.bool b)).run P w = .ok (a == b) w := by
  show (Op.equalIn (9999 + 1) t (.bool a) (.bool b)).run P w = _
  rw [Op.equalIn]
  simp [run_under h, Result.andThen]
theorem equal_slnil {e : TypeId} {t : TypeId} (h : P.underlying t = some (.slice e)) {s : SA} {n : Nat} {v : Value} (hv : VR φ (.sl s n) v) : (Op.equal t v (.slice none 0 0)).run P w = .ok s.isNil w := by
  show (Op.equalIn (9999 + 1) t v (.slice none 0 0)).run P w = _
  rw [Op.equalIn]
  cases hv <;> simp [run_under h, Result.andThen, SA.isNil]

theorem a_bin (C : Ctx φ β ρ ah a w gs) {dst type pos after guard} {op : BinOp} {t yt : TypeId} {x y : Operand} {k : AK} (hk : cOp P loc ⟨dst, .binOp op t x y yt, type, pos, after, guard⟩ = some k)
    (hagg : ∀ sh xs ys b, tkOf P t = some (.agg sh) → eqCells sh xs ys = some b → ∀ u v, VR φ (.agg xs) u → VR φ (.agg ys) v →
      (op = .eql ∨ op = .neq → (eqGuard op t x y u v).run P w = .ok () w) ∧ (Op.equal t u v).run P w = .ok b w)
    (h : opA ρ ah gs true k ret = some r) : ∃ sv, ret sv = some r ∧ AOk P φ β a w ⟨dst, .binOp op t x y yt, type, pos, after, guard⟩ gs sv := by
  simp only [cOp] at hk
  split at hk
  · rename_i ax ay tk hx hy htk
    simp at hk; subst hk
    simp only [opA] at h
    split at h
    · rename_i u v hu hv
      have e1 := getV_sound C hx hu
      have e2 := getV_sound C hy hv
      unfold binOpA at h
      split at h
      · rename_i k1 n1 k2 n2
        have e1 := vr_int e1
        have e2 := vr_int e2
        split at h
        · rename_i hs
          obtain ⟨z, vc, hK, hr, hvr⟩ := shInt_sound (P := P) (φ := φ) (w := w) (k' := k2) hs h t
          exact ⟨_, hK, .val (run_bin (by rw [e1]; exact eqGuard_ok (by simp) (by simp)) (by rw [e1, e2]; exact hr)) hvr⟩
        · rename_i hs
          split at h
          · rename_i he
            subst he
            obtain ⟨z, vc, hK, hr, hvr⟩ := binInt_sound (P := P) (φ := φ) (w := w) hs h t
            exact ⟨_, hK, .val (run_bin (by rw [e1]; exact eqGuard_ok (by simp) (by simp)) (by rw [e1, e2]; exact hr)) hvr⟩
          · simp at h
      · rename_i s1 s2
        have e1 := vr_str e1
        have e2 := vr_str e2
        split at h
        · exact ⟨_, h, .val (run_bin (by rw [e1]; exact eqGuard_ok (by simp) (by simp)) (by rw [e1, e2]; simp [binOp, Op.stringOp])) (.bool _)⟩
        · exact ⟨_, h, .val (run_bin (by rw [e1]; exact eqGuard_ok (by simp) (by simp)) (by rw [e1, e2]; simp [binOp, Op.stringOp])) (.bool _)⟩
        · simp at h
      · rename_i b1 b2
        have e1 := vr_bool e1
        have e2 := vr_bool e2
        split at h
        · have hq : (Op.equal t (.bool b1) (.bool b2)).run P w = .ok (b1 == b2) w := equal_bools (tk_bool htk) b1 b2
          have hb := run_eq_of (op := op) (by simp) (by simp) (by simp) (by simp) hq
          split at h
          · exact ⟨_, h, .val (run_bin (by rw [e1]; exact eqGuard_ok (by simp) (by simp)) (by rw [e1, e2]; exact hb.1 rfl)) (.bool _)⟩
          · exact ⟨_, h, .val (run_bin (by rw [e1]; exact eqGuard_ok (by simp) (by simp)) (by rw [e1, e2]; exact hb.2 rfl)) (.bool _)⟩
          · simp at h
        · simp at h
      · rename_i p1 p2
        split at h
        · obtain ⟨e, he⟩ := tk_ptr htk
          generalize hev1 : a.eval x = u1 at e1
          generalize hev2 : a.eval y = u2 at e2
          split at h
          · cases e2
            have hq : (Op.equal t u1 (.pointer none)).run P w = .ok p1.isNone w := by
              cases e1 with
              | ptrN => exact sameAddr_none he none
              | ptr ha => exact sameAddr_none' he _
            have hi : u1 ≠ .nilIface ∧ (∀ c, u1 ≠ .agg c) ∧ (∀ k n, u1 ≠ .int k n) ∧ (∀ s, u1 ≠ .string s) ∧ (∀ k n, u1 ≠ .float k n) ∧ (∀ k n m, u1 ≠ .complex k n m) := by
              cases e1 <;> simp
            have hb := run_eq_of (op := op) hi.2.2.1 hi.2.2.2.1 hi.2.2.2.2.1 hi.2.2.2.2.2 hq
            split at h
            · exact ⟨_, h, .val (run_bin (by rw [hev1]; exact eqGuard_ok hi.1 hi.2.1) (by rw [hev1, hev2]; exact hb.1 rfl)) (.bool _)⟩
            · exact ⟨_, h, .val (run_bin (by rw [hev1]; exact eqGuard_ok hi.1 hi.2.1) (by rw [hev1, hev2]; exact hb.2 rfl)) (.bool _)⟩
            · simp at h
          · split at h
            · cases e1
              cases e2 with
              | ptr ha =>
                rename_i q q'
                have hb := run_eq_of (op := op) (by simp) (by simp) (by simp) (by simp) (sameAddr_none (P := P) (w := w) he (some q'))
                split at h
                · exact ⟨_, h, .val (run_bin (by rw [hev1]; exact eqGuard_ok (by simp) (by simp)) (by rw [hev1, hev2]; exact hb.1 rfl)) (.bool _)⟩
                · exact ⟨_, h, .val (run_bin (by rw [hev1]; exact eqGuard_ok (by simp) (by simp)) (by rw [hev1, hev2]; exact hb.2 rfl)) (.bool _)⟩
                · simp at h
            · simp at h
        · simp at h
      · rename_i s1 n1
        split at h
        · obtain ⟨e, he⟩ := tk_sl htk
          generalize hev1 : a.eval x = u1 at e1
          generalize hev2 : a.eval y = u2 at e2
          cases e2
          have hq : (Op.equal t u1 (.slice none 0 0)).run P w = .ok s1.isNil w := equal_slnil he e1
          have hi : u1 ≠ .nilIface ∧ (∀ c, u1 ≠ .agg c) ∧ (∀ k n, u1 ≠ .int k n) ∧ (∀ s, u1 ≠ .string s) ∧ (∀ k n, u1 ≠ .float k n) ∧ (∀ k n m, u1 ≠ .complex k n m) := by
            cases e1 <;> simp
          have hb := run_eq_of (op := op) hi.2.2.1 hi.2.2.2.1 hi.2.2.2.2.1 hi.2.2.2.2.2 hq
          split at h
          · exact ⟨_, h, .val (run_bin (by rw [hev1]; exact eqGuard_ok hi.1 hi.2.1) (by rw [hev1, hev2]; exact hb.1 rfl)) (.bool _)⟩
          · exact ⟨_, h, .val (run_bin (by rw [hev1]; exact eqGuard_ok hi.1 hi.2.1) (by rw [hev1, hev2]; exact hb.2 rfl)) (.bool _)⟩
          · simp at h
        · simp at h
      · rename_i xs ys
        split at h
        · generalize hev1 : a.eval x = u1 at e1
          generalize hev2 : a.eval y = u2 at e2
          have hi : ∃ c, u1 = .agg c := by cases e1; exact ⟨_, rfl⟩
          obtain ⟨c, rfl⟩ := hi
          split at h
          · obtain ⟨b, hb, h⟩ := gb_true h
            obtain ⟨hg, hq⟩ := hagg _ xs ys b htk hb _ _ e1 e2
            have hb := run_eq_of (op := .eql) (by simp) (by simp) (by simp) (by simp) hq
            exact ⟨_, h, .val (run_bin (by rw [hev1, hev2]; exact hg (.inl rfl)) (by rw [hev1, hev2]; exact hb.1 rfl)) (.bool _)⟩
          · obtain ⟨b, hb, h⟩ := gb_true h
            obtain ⟨hg, hq⟩ := hagg _ xs ys b htk hb _ _ e1 e2
            have hb := run_eq_of (op := .neq) (by simp) (by simp) (by simp) (by simp) hq
            exact ⟨_, h, .val (run_bin (by rw [hev1, hev2]; exact hg (.inr rfl)) (by rw [hev1, hev2]; exact hb.2 rfl)) (.bool _)⟩
          · simp at h
        · simp at h
      · simp at h
    · simp at h
  · simp at hk

/-! ### Slices -/

theorem run_bound {k : IntKind} {i : Int} {y : Nat} {code : BoundsCode} (h0 : 0 ≤ i) (h1 : i ≤ y) : (Instr.sliceBound (.int k i) y code).run P w = .ok i.toNat w := by
  simp [Instr.sliceBound, asIntOf, Result.andThen, h0, h1]

/-- The capacity that a slice has at least. -/
theorem hiOk_le {sa : SA} {n es : Nat} {hi : Int} (S : Sim φ ah w) (hes : 0 < es) (h : hiOk ah sa n es hi) {o : Option Addr} {c : Nat} (hv : VR φ (.sl sa n) (.slice o n c)) : hi ≤ c := by
  rcases h with h | ⟨p, cc, v, rfl, hb, hpv, hle⟩
  · cases hv with
    | sl ha hc hn => omega
    | _ => omega
  · cases hv with
    | sl ha hc hn =>
      obtain ⟨r, cd, ty, fz, h1, h2, h3, h4, h5, h6, h7, h8⟩ := addr_live S ha hb hpv
      unfold CapR at hc
      rw [h1] at hc
      have hsz := hc (by rw [h3]; exact hpv) es h2
      have hl := h6.len
      have h8 := h8 es h2
      have : hi.toNat * es ≤ c * es := by omega
      have := Nat.le_of_mul_le_mul_right this hes
      omega

theorem vr_sl_shape {sa : SA} {n : Nat} {v : Value} (h : VR φ (.sl sa n) v) : ∃ o c, v = .slice o n c ∧ n ≤ c := by
  cases h with
  | slN => exact ⟨none, 0, rfl, by omega⟩
  | sl ha hc hn => exact ⟨_, _, rfl, hn⟩
  | slL => exact ⟨_, _, rfl, by omega⟩
  | slZ => exact ⟨_, 0, rfl, by omega⟩

theorem capR_add {p : Ad} {a' : Addr} {c es k : Nat} (ha : AddrR φ p a') (h : CapR φ p c) (hk : k ≤ c)
    (hes : ∀ r e, φ p.b = .live r → r.mode = .grow e → e = es) : CapR φ (p.add (k * es)) (c - k) := by
  have e : (p.add (k * es)).b = p.b := rfl
  unfold CapR at h ⊢
  rw [e]
  cases hp : φ p.b with
  | live r =>
    rw [hp] at h
    intro hv e' he'
    have := hes r e' hp he'
    subst this
    have := h hv e' he'
    have h1 : k * e' ≤ c * e' := Nat.mul_le_mul_right _ hk
    show r.base + (p.o + k * e') + (c - k) * e' = r.size
    rw [Nat.sub_mul]
    omega
  | dead => trivial
  | unborn => trivial
  | lmap c => trivial

/-- What a cut of a slice comes to. -/
theorem cut_vr {sa : SA} {n es : Nat} {o : Option Addr} {c l h : Nat} (hv : VR φ (.sl sa n) (.slice o n c)) (hlh : l ≤ h) (hhc : h ≤ c) (hin : h ≤ n ∨ ∃ p, sa = .pos p)
    (hes : ∀ p r e, sa = .pos p → φ p.b = .live r → r.mode = .grow e → e = es) :
    VR φ (.sl (adS sa (l * es) (h - l)) (h - l)) (.slice (if c = l then o else o.map (·.add (l * es))) (h - l) (c - l)) := by
  cases hv with
  | slN =>
    have : h = 0 := by omega
    have : l = 0 := by omega
    subst_vars
    simp [adS]
    exact .slN
  | slL =>
    rename_i a'
    have : h = 0 := by rcases hin with h | ⟨p, h⟩; omega; cases h
    have : l = 0 := by omega
    subst_vars
    simp [adS]
    split <;> exact .slL
  | slZ =>
    have : h = 0 := by omega
    have : l = 0 := by omega
    subst_vars
    simp [adS]
    exact .slZ
  | sl ha hc hn =>
    rename_i a a'
    by_cases e : h - l = 0
    · rw [e]
      simp only [adS]
      split <;> exact .slL
    · have hcl : c ≠ l := by omega
      rw [if_neg hcl]
      have : adS (.pos a) (l * es) (h - l) = .pos (a.add (l * es)) := by
        unfold adS
        cases hm : h - l with
        | zero => exact absurd hm e
        | succ m => rfl
      rw [this]
      exact .sl (addrR_add ha _) (capR_add ha hc (by omega) (fun r e h1 h2 => hes a r e rfl h1 h2)) (by omega)

theorem esOk_mode {sa : SA} {es : Nat} (S : Sim φ ah w) (h : esOk ah sa es) : ∀ p r e, sa = .pos p → φ p.b = .live r → r.mode = .grow e → e = es := by
  intro p r e hp hr hm
  obtain ⟨c, cc, ty, fz, h1, _⟩ := S.live _ _ hr
  rw [hm] at h1
  obtain ⟨b, hb, he⟩ := h p hp
  rw [h1] at hb
  cases hb
  exact he c e r.ver rfl

theorem hiOk_pos {sa : SA} {n es : Nat} {hi : Int} (h : hiOk ah sa n es hi) : hi ≤ n ∨ ∃ p, sa = .pos p := by
  rcases h with h | ⟨p, _, _, h, _⟩
  · exact .inl h
  · exact .inr ⟨p, h⟩

theorem sliceAt_sl {t e : TypeId} (h : P.underlying t = some (.slice e)) (x : Value) (lo hi mx : Option Value) : (Instr.sliceAt t x lo hi mx).run P w = (Instr.slice t x lo hi mx).run P w := by
  simp [Instr.sliceAt, run_under h, Result.andThen]

theorem a_slice (C : Ctx φ β ρ ah a w gs) {dst type pos after guard} {t : TypeId} {x : Operand} {lo hi mx : Option Operand} {k : AK}
    (hk : cOp P loc ⟨dst, .slice t x lo hi mx, type, pos, after, guard⟩ = some k)
    (h : opA ρ ah gs true k ret = some r) : ∃ sv, ret sv = some r ∧ AOk P φ β a w ⟨dst, .slice t x lo hi mx, type, pos, after, guard⟩ gs sv := by
  simp only [cOp] at hk
  split at hk
  · rename_i e he
    split at hk
    · rename_i es ax hes hx
      split at hk
      · simp at hk
      · rename_i hpos
        have hpos : 0 < es := by omega
        -- the run of a slice expression
        have run : ∀ (lo' hi' mx' : Option Value) (v : Value), lo.map a.eval = lo' → hi.map a.eval = hi' → mx.map a.eval = mx' →
            (Instr.slice t (a.eval x) lo' hi' mx').run P w = .ok v w → (execOp a.eval ⟨dst, .slice t x lo hi mx, type, pos, after, guard⟩).run P w = .ok (.value v) w := by
          intro lo' hi' mx' v h1 h2 h3 hv
          simp [execOp, h1, h2, h3, sliceAt_sl he, hv, Result.andThen]
        have cut : ∀ (o : Option Addr) (n c : Nat) (lo' hi' mx' : Option Value) (l h m : Nat), a.eval x = .slice o n c → (Instr.sliceBounds true n c lo' hi' mx').run P w = .ok (l, h, m) w →
            (Instr.slice t (a.eval x) lo' hi' mx').run P w = .ok (.slice (if m = l then o else o.map (·.add (l * es))) (h - l) (m - l)) w := by
          intro o n c lo' hi' mx' l h m hv hb
          simp [Instr.slice, hv, run_under he, hb, run_size hes, Result.andThen]
        split at hk
        · -- two indices at most
          split at hk
          · rename_i l' h' hlo hhi
            simp at hk; subst hk
            simp only [opA] at h
            split at h
            · rename_i sa n hsa
              have e1 := getV_sound C hx hsa
              obtain ⟨o, c, hv, hnc⟩ := vr_sl_shape e1
              rw [hv] at e1
              split at h
              · -- x[:]
                cases lo with
                | some z => simp only [cXo] at hlo; split at hlo <;> simp at hlo
                | none =>
                cases hi with
                | some z => simp only [cXo] at hhi; split at hhi <;> simp at hhi
                | none =>
                  have hb : (Instr.sliceBounds true n c none none none).run P w = .ok (0, n, c) w := by simp [Instr.sliceBounds, Result.andThen]
                  refine ⟨_, h, .val (run none none none _ rfl rfl rfl (cut o n c _ _ _ 0 n c hv hb)) ?_⟩
                  have : (if c = 0 then o else o.map (·.add (0 * es))) = o := by
                    split
                    · rfl
                    · cases o <;> simp [Addr.add]
                  rw [this]
                  simpa using e1
              · -- x[:h]
                rename_i hi'
                cases lo with
                | some z => simp only [cXo] at hlo; split at hlo <;> simp at hlo
                | none =>
                cases hi with
                | none => simp [cXo] at hhi
                | some z =>
                  have hz : cX z = some hi' := by simp only [cXo] at hhi; split at hhi <;> simp at hhi; subst hhi; assumption
                  split at h
                  · rename_i hh hgh
                    have e2 := vr_int (getV_sound C hz hgh)
                    obtain ⟨hr, h⟩ := chkC_some h
                    obtain ⟨h0, hok⟩ := hr trivial
                    have hcap := hiOk_le C.S hpos hok e1
                    have hb : (Instr.sliceBounds true n c none (some (.int .i64 hh)) none).run P w = .ok (0, hh.toNat, c) w := by
                      simp [Instr.sliceBounds, run_bound h0 hcap, Result.andThen]
                    refine ⟨_, h, .val (run none (some (.int .i64 hh)) none _ rfl (by simp [e2]) rfl (cut o n c _ _ _ 0 hh.toNat c hv hb)) ?_⟩
                    have : (if c = 0 then o else o.map (·.add (0 * es))) = o := by
                      split
                      · rfl
                      · cases o <;> simp [Addr.add]
                    rw [this]
                    simp only [Nat.sub_zero]
                    cases e1 with
                    | slN => have : hh.toNat = 0 := by omega
                             rw [this]; exact .slN
                    | slL =>
                      have : hh.toNat = 0 := by
                        rcases hiOk_pos hok with h | ⟨p, h⟩
                        · omega
                        · cases h
                      rw [this]; exact .slL
                    | slZ => have : hh.toNat = 0 := by omega
                             rw [this]; exact .slZ
                    | sl ha hc hn => exact .sl ha hc (by omega)
                  · simp at h
              · -- x[l:]
                rename_i lo'
                cases hi with
                | some z => simp only [cXo] at hhi; split at hhi <;> simp at hhi
                | none =>
                cases lo with
                | none => simp [cXo] at hlo
                | some z =>
                  have hz : cX z = some lo' := by simp only [cXo] at hlo; split at hlo <;> simp at hlo; subst hlo; assumption
                  split at h
                  · rename_i l hgl
                    have e2 := vr_int (getV_sound C hz hgl)
                    obtain ⟨hr, h⟩ := chkC_some h
                    obtain ⟨h0, h1, hes'⟩ := hr trivial
                    have hb : (Instr.sliceBounds true n c (some (.int .i64 l)) none none).run P w = .ok (l.toNat, n, c) w := by
                      simp [Instr.sliceBounds, run_bound h0 h1, Result.andThen]
                    refine ⟨_, h, .val (run (some (.int .i64 l)) none none _ (by simp [e2]) rfl rfl (cut o n c _ _ _ l.toNat n c hv hb)) ?_⟩
                    exact cut_vr e1 (by omega) hnc (.inl (Nat.le_refl _)) (esOk_mode C.S hes')
                  · simp at h
              · -- x[l:h]
                rename_i lo' hi'
                cases lo with
                | none => simp [cXo] at hlo
                | some z =>
                cases hi with
                | none => simp [cXo] at hhi
                | some y =>
                  have hz : cX z = some lo' := by simp only [cXo] at hlo; split at hlo <;> simp at hlo; subst hlo; assumption
                  have hy : cX y = some hi' := by simp only [cXo] at hhi; split at hhi <;> simp at hhi; subst hhi; assumption
                  split at h
                  · rename_i l hh hgl hgh
                    have e2 := vr_int (getV_sound C hz hgl)
                    have e3 := vr_int (getV_sound C hy hgh)
                    obtain ⟨hr, h⟩ := chkC_some h
                    obtain ⟨h0, h1, hok, hes'⟩ := hr trivial
                    have hcap := hiOk_le C.S hpos hok e1
                    have hb : (Instr.sliceBounds true n c (some (.int .i64 l)) (some (.int .i64 hh)) none).run P w = .ok (l.toNat, hh.toNat, c) w := by
                      simp [Instr.sliceBounds, run_bound (show 0 ≤ hh by omega) hcap, run_bound h0 (show l ≤ (hh.toNat : Int) by omega), Result.andThen]
                    refine ⟨_, h, .val (run (some (.int .i64 l)) (some (.int .i64 hh)) none _ (by simp [e2]) (by simp [e3]) rfl (cut o n c _ _ _ l.toNat hh.toNat c hv hb)) ?_⟩
                    refine cut_vr e1 (by omega) (by omega) ?_ (esOk_mode C.S hes')
                    rcases hiOk_pos hok with h | h
                    · exact .inl (by omega)
                    · exact .inr h
                  · simp at h
            · simp at h
          · simp at hk
        · rename_i m
          split at hk
          · -- x[:0:0]
            rename_i hz
            simp at hk; subst hk
            simp only [Bool.and_eq_true, Bool.or_eq_true] at hz
            obtain ⟨⟨hz1, hz2⟩, hz3⟩ := hz
            have zero : ∀ o : Option Operand, isZero o = true → ∃ kk, o.map a.eval = some (.int kk 0) := by
              intro o ho
              unfold isZero at ho
              split at ho
              · rename_i kk n
                have : n = 0 := by simpa using ho
                subst this
                exact ⟨kk, rfl⟩
              · simp at ho
            obtain ⟨k1, e1⟩ := zero _ hz1
            obtain ⟨k2, e2⟩ := zero _ hz2
            simp only [opA] at h
            split at h
            · rename_i sa n hsa
              have ev := getV_sound C hx hsa
              obtain ⟨o, c, hv, hnc⟩ := vr_sl_shape ev
              rw [hv] at ev
              have hb : (Instr.sliceBounds true n c (lo.map a.eval) (some (.int k1 0)) (some (.int k2 0))).run P w = .ok (0, 0, 0) w := by
                rcases hz3 with hz3 | hz3
                · cases lo with
                  | none => simp [Instr.sliceBounds, run_bound, Result.andThen]
                  | some z => simp at hz3
                · obtain ⟨k3, e3⟩ := zero _ hz3
                  rw [e3]
                  simp [Instr.sliceBounds, run_bound, Result.andThen]
              refine ⟨_, h, .val (run _ _ _ _ rfl e1 e2 (cut o n c _ _ _ 0 0 0 hv hb)) ?_⟩
              simp only [if_true, Nat.sub_self]
              cases ev with
              | slN => exact .slN
              | _ => exact .slZ
            · simp at h
          · split at hk
            · rename_i l' h' m' hlo hhi hm
              simp at hk; subst hk
              simp only [opA] at h
              split at h
              · rename_i sa n l hh mm hsa hgl hgh hgm
                have e1 := getV_sound C hx hsa
                obtain ⟨o, c, hv, hnc⟩ := vr_sl_shape e1
                rw [hv] at e1
                cases lo with
                | none => simp [cXo] at hlo
                | some z =>
                cases hi with
                | none => simp [cXo] at hhi
                | some y =>
                  have hz : cX z = some l' := by simp only [cXo] at hlo; split at hlo <;> simp at hlo; subst hlo; assumption
                  have hy : cX y = some h' := by simp only [cXo] at hhi; split at hhi <;> simp at hhi; subst hhi; assumption
                  have e2 := vr_int (getV_sound C hz hgl)
                  have e3 := vr_int (getV_sound C hy hgh)
                  have e4 := vr_int (getV_sound C hm hgm)
                  obtain ⟨hr, h⟩ := chkC_some h
                  obtain ⟨h0, h1, h2, hok⟩ := hr trivial
                  have hcap := hiOk_le C.S hpos hok e1
                  have hb : (Instr.sliceBounds true n c (some (.int .i64 l)) (some (.int .i64 hh)) (some (.int .i64 mm))).run P w = .ok (l.toNat, hh.toNat, mm.toNat) w := by
                    simp [Instr.sliceBounds, run_bound (show 0 ≤ mm by omega) hcap, run_bound (show 0 ≤ hh by omega) (show hh ≤ (mm.toNat : Int) by omega), run_bound h0 (show l ≤ (hh.toNat : Int) by omega), Result.andThen]
                  exact ⟨_, h, .val (run (some (.int .i64 l)) (some (.int .i64 hh)) (some (.int .i64 mm)) _ (by simp [e2]) (by simp [e3]) (by simp [e4]) (cut o n c _ _ _ _ _ _ hv hb)) (.opq _)⟩
              · simp at h
            · simp at hk
    · simp at hk
  · simp at hk

end
end Go.Proofs.Ytmfmnbldngfelaa.Abs
