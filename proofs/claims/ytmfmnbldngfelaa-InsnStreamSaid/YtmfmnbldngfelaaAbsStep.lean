/- One operation of a region: what it does to the slots, the memory and the world. -/
import Derived.Test.YtmfmnbldngfelaaAbsOpQ
import Derived.Orders
set_option linter.unusedVariables false
set_option linter.unusedSimpArgs false
namespace Go.Proofs.Ytmfmnbldngfelaa.Abs
open Go

section
variable {P : Program} {φ φ' φ'' : Phi} {β : Nat → Nat} {ρ : Nat → SV} {ah ah' : Heap} {a : Act} {w w' : World} {R : Type} {gs : List (Nat × Bool)}
  {loc : Nat} {r : R}

/-! ### What a call yields -/

theorem rdW_true {s : VS} {v : AV} {K : AV → Option R} (h : rdW s v true K = some r) : ∃ x, K x = some r ∧ ∀ φ vc, VR φ v vc → VR φ x vc := by
  cases s with
  | cell c =>
    simp only [rdW] at h
    obtain ⟨x, hx, h⟩ := rdC_true h
    cases hx
    exact ⟨v, h, fun _ _ h => h⟩
  | agg cs =>
    simp only [rdW] at h
    obtain ⟨l, hl, h⟩ := gb_true h
    obtain ⟨hlen, h⟩ := chk_some h
    simp only [forall_const] at hlen
    have h := rdL_true' h
    cases v <;> simp [rA] at hl
    subst hl
    refine ⟨_, h, fun φ vc hv => ?_⟩
    rw [List.drop_zero, List.take_of_length_le (by omega)]
    exact hv
  | raw n =>
    simp only [rdW] at h
    obtain ⟨l, hl, h⟩ := gb_true h
    obtain ⟨hlen, h⟩ := chk_some h
    cases v <;> simp [rA] at hl
    subst hl
    exact ⟨_, h, fun φ vc hv => hv⟩

theorem rdWs_true {l : List AV} : ∀ {ss : List VS} {i : Nat} {K : List AV → Option R}, rdWs l true ss i K = some r →
    ∃ as, K as = some r ∧ as.length = ss.length ∧ ∀ (j : Nat) x, as[j]? = some x → ∀ φ vc, VR φ (l.getD (i + j) .opq) vc → VR φ x vc := by
  intro ss
  induction ss with
  | nil => intro i K h; exact ⟨[], h, rfl, fun j x h => by simp at h⟩
  | cons s ss ih =>
    intro i K h
    simp only [rdWs] at h
    obtain ⟨x, h, hx⟩ := rdW_true h
    obtain ⟨as, h, hl, has⟩ := ih h
    refine ⟨x :: as, h, by simp [hl], fun j y hy φ vc hv => ?_⟩
    cases j with
    | zero => simp at hy; subst hy; exact hx φ vc (by simpa using hv)
    | succ j => simp at hy; exact has j y hy φ vc (by
        have e : i + 1 + j = i + (j + 1) := by omega
        rw [e]
        exact hv)

theorem rdRes_true {ss : List VS} {v : AV} {K : AV → Option R} (h : rdRes ss v true K = some r) : ∃ x, K x = some r ∧ ∀ φ vc, VR φ v vc → VR φ x vc := by
  unfold rdRes at h
  split at h
  · exact rdW_true h
  · obtain ⟨l, hl, h⟩ := gb_true h
    obtain ⟨as, h, hlen, has⟩ := rdWs_true h
    refine ⟨_, h, fun φ vc hv => ?_⟩
    cases v <;> simp [rT] at hl
    rename_i l0
    obtain ⟨hn, rfl⟩ := hl
    generalize hw : AV.tup l0 = v0 at hv
    cases hv with
    | tup h1 h2 =>
      rename_i l1 arr
      cases hw
      refine .tup (by omega) fun i x y hx hy => ?_
      have hi : i < as.length := (List.getElem?_eq_some_iff.1 hx).1
      refine has i x hx φ y ?_
      rw [Nat.zero_add, List.getD_eq_getElem?_getD]
      cases hg : l0[i]? with
      | none => rw [List.getElem?_eq_none_iff] at hg; omega
      | some z => exact h2 i z y hg hy
    | _ => cases hw

theorem rdWs_false {l : List AV} : ∀ {ss : List VS} {i : Nat} {K : List AV → Option R}, rdWs l false ss i K = some r → ∃ as, K as = some r := by
  intro ss
  induction ss with
  | nil => intro i K h; exact ⟨[], h⟩
  | cons s ss ih =>
    intro i K h
    simp only [rdWs] at h
    obtain ⟨x, h⟩ := rdW_false h
    obtain ⟨as, h⟩ := ih h
    exact ⟨_, h⟩

theorem rdRes_false {ss : List VS} {v : AV} {K : AV → Option R} (h : rdRes ss v false K = some r) : ∃ x, K x = some r := by
  unfold rdRes at h
  split at h
  · exact rdW_false h
  · obtain ⟨l, h⟩ := gb_false h
    obtain ⟨as, h⟩ := rdWs_false h
    exact ⟨_, h⟩

/-! ### Effects, one behind the other -/

theorem Eff.trans {n : Nat} (E : Eff φ φ' n ah w w') {w'' : World} (F : Eff φ' φ'' n ah' w' w'') : Eff φ φ'' n ah' w w'' := by
  refine ⟨E.le.trans F.le, F.sim, E.fr.trans F.fr fun k hk ho => ?_, fun b k hk => ?_, fun k hk => ?_, F.len, fun b hb hu => F.un b hb (E.un b hb hu)⟩
  · rcases E.own k ho with h | h
    · exact h
    · omega
  · rcases F.cb b k hk with ⟨b', h⟩ | h
    · exact E.cb b' k h
    · exact .inr (Nat.le_trans E.fr.size h)
  · rcases F.own k hk with h | h
    · exact E.own k h
    · exact .inr (Nat.le_trans E.fr.size h)

theorem Eff.weaken {n m : Nat} (E : Eff φ φ' n ah w w') (h : m ≤ n) : Eff φ φ' m ah w w' :=
  ⟨E.le, E.sim, E.fr, E.cb, E.own, Nat.le_trans h E.len, fun b hb => E.un b (Nat.lt_of_lt_of_le hb h)⟩

theorem Eff.refl {n : Nat} (S : Sim φ ah w) (h : n ≤ ah.length) : Eff φ φ n ah w w := .same S (.refl _ _) h

theorem Sim.disjoint (S : Sim φ ah w) {k : Nat} (h : w.heap.size ≤ k) (b : Nat) : cbOf (φ b) ≠ some k := fun e => by
  have := S.cb_lt e
  omega

theorem Owns.cb {k : Nat} (h : Owns φ k) : ∃ b, cbOf (φ b) = some k := by
  obtain ⟨b, ⟨r, hr, _, rfl⟩ | hb⟩ := h
  · exact ⟨b, by rw [hr]; rfl⟩
  · exact ⟨b, by rw [hb]; rfl⟩

/-! ### Slots -/

def setR (ρ : Nat → SV) (d : Nat) (x : SV) : Nat → SV := fun t => if t = d then x else ρ t

theorem setR_same (ρ : Nat → SV) (d : Nat) (x : SV) : setR ρ d x d = x := by simp [setR]
theorem setR_other (ρ : Nat → SV) {d t : Nat} (x : SV) (h : t ≠ d) : setR ρ d x t = ρ t := by simp [setR, h]

structure Sl (n0 : Nat) (φ : Phi) (β : Nat → Nat) (ρ : Nat → SV) (a : Act) (w : World) : Prop where
  H : ∀ t, SVR φ β w t (a.tmps.getD t undef) (ρ t)
  G : GEnv ρ
  bx : ∀ t cs, ρ t = .box cs → n0 ≤ β t ∧ (∀ b, cbOf (φ b) ≠ some (β t)) ∧ ∀ t' cs', ρ t' = .box cs' → β t' = β t → t' = t
  df : a.defers = []

theorem Sl.ctx {n0 : Nat} (L : Sl n0 φ β ρ a w) (S : Sim φ ah w) (c : conj ρ gs) : Ctx φ β ρ ah a w gs := ⟨S, L.H, L.G, c⟩

theorem SVR.size {t : Nat} {vc : Value} {cs : List AV} (h : SVR φ β w t vc (.box cs)) : β t < w.heap.size := by
  obtain ⟨_, cc, ty, hw, _⟩ := h
  exact (Array.getElem?_eq_some_iff.1 hw).1

/-- Memory behind an effect: the slots still stand for what they stood for. -/
theorem Sl.eff {n0 n : Nat} (L : Sl n0 φ β ρ a w) (E : Eff φ φ' n ah' w w') : Sl n0 φ' β ρ a w' := by
  refine ⟨fun t => ?_, L.G, fun t cs hb => ?_, L.df⟩
  · have h := L.H t
    cases e : ρ t with
    | any => trivial
    | g gs bc x => rw [e] at h; exact ⟨fun hb => (h.1 hb).mono E.le, h.2⟩
    | lref gs bc d off => rw [e] at h; exact h
    | box cs =>
      rw [e] at h
      have hsz := h.size
      obtain ⟨h1, cc, ty, h2, h3⟩ := h
      obtain ⟨b1, b2, b3⟩ := L.bx t cs e
      refine ⟨h1, cc, ty, ?_, h3.mono E.le⟩
      rw [E.fr.block _ hsz fun ho => by obtain ⟨b, hb⟩ := ho.cb; exact b2 b hb]
      exact h2
  · obtain ⟨b1, b2, b3⟩ := L.bx t cs hb
    have h := L.H t
    rw [hb] at h
    refine ⟨b1, fun b e => ?_, b3⟩
    rcases E.cb b _ e with ⟨b', e'⟩ | e'
    · exact b2 b' e'
    · have := h.size; omega

/-- What guards a slot's new value has. -/
def GOk (ρ : Nat → SV) (sv : SV) : Prop :=
  (∀ gs bc x, sv = .g gs bc x → (bc = true ↔ conj ρ gs)) ∧ (∀ gs bc d off, sv = .lref gs bc d off → (bc = true ↔ conj ρ gs))

theorem noG_spec {d : Nat} {gs : List (Nat × Bool)} (h : noG d gs = true) : ∀ p ∈ gs, p.1 ≠ d := by
  induction gs with
  | nil => intro p hp; cases hp
  | cons q gs ih =>
    obtain ⟨t, b⟩ := q
    simp only [noG, Bool.and_eq_true, Bool.not_eq_true'] at h
    intro p hp
    cases hp with
    | head => intro e; subst e; have := h.1; simp at this
    | tail _ hp => exact ih h.2 p hp

theorem conj_setR {d : Nat} {x : SV} (h : ∀ p ∈ gs, p.1 ≠ d) : conj (setR ρ d x) gs ↔ conj ρ gs := by
  constructor
  · intro c p hp
    obtain ⟨g, bc, b, e, hl⟩ := c p hp
    rw [setR_other ρ x (h p hp)] at e
    exact ⟨g, bc, b, e, hl⟩
  · intro c p hp
    obtain ⟨g, bc, b, e, hl⟩ := c p hp
    exact ⟨g, bc, b, by rw [setR_other ρ x (h p hp)]; exact e, hl⟩

theorem GEnv.setR {d : Nat} {x : SV} (G : GEnv ρ) (hn : ∀ t, ∀ p ∈ gsOf (ρ t), p.1 ≠ d) (hx : GOk ρ x) (hd : ∀ p ∈ gsOf x, p.1 ≠ d) : GEnv (Abs.setR ρ d x) := by
  constructor
  · intro t gs bc y e
    by_cases ht : t = d
    · subst ht
      rw [setR_same] at e
      subst e
      have := conj_setR (ρ := ρ) (x := .g gs bc y) hd
      simp only [gsOf] at this
      rw [this]
      exact hx.1 gs bc y rfl
    · rw [setR_other ρ x ht] at e
      rw [conj_setR (by have := hn t; rw [e] at this; exact this)]
      exact G.1 t gs bc y e
  · intro t gs bc e' off e
    by_cases ht : t = d
    · subst ht
      rw [setR_same] at e
      subst e
      have := conj_setR (ρ := ρ) (x := .lref gs bc e' off) hd
      simp only [gsOf] at this
      rw [this]
      exact hx.2 gs bc e' off rfl
    · rw [setR_other ρ x ht] at e
      rw [conj_setR (by have := hn t; rw [e] at this; exact this)]
      exact G.2 t gs bc e' off e

theorem tmps_put {d : Nat} {vc : Value} (hd : d < a.tmps.size) (t : Nat) : (a.put (some d) vc).tmps.getD t undef = if t = d then vc else a.tmps.getD t undef := by
  simp only [Act.put]
  by_cases h : t = d
  · subst h
    simp [Array.getD, hd]
  · rw [if_neg h]
    simp only [Array.getD_eq_getD_getElem?]
    rw [Array.getElem?_setIfInBounds_ne (Ne.symm h)]

/-- A slot takes a value that is no box. -/
theorem Sl.put {n0 d : Nat} {vc : Value} {x : SV} (L : Sl n0 φ β ρ a w) (hd : d < a.tmps.size) (hx : SVR φ β w d vc x) (hb : isBoxS x = false)
    (hn : ∀ t, ∀ p ∈ gsOf (ρ t), p.1 ≠ d) (hg : GOk ρ x) (hgd : ∀ p ∈ gsOf x, p.1 ≠ d) : Sl n0 φ β (setR ρ d x) (a.put (some d) vc) w := by
  refine ⟨fun t => ?_, L.G.setR hn hg hgd, fun t cs e => ?_, L.df⟩
  · rw [tmps_put hd]
    by_cases h : t = d
    · subst h
      rw [if_pos rfl, setR_same]
      exact hx
    · rw [if_neg h, setR_other ρ x h]
      exact L.H t
  · by_cases h : t = d
    · subst h
      rw [setR_same] at e
      subst e
      simp [isBoxS] at hb
    · rw [setR_other ρ x h] at e
      obtain ⟨b1, b2, b3⟩ := L.bx t cs e
      refine ⟨b1, b2, fun t' cs' e' => ?_⟩
      by_cases h' : t' = d
      · subst h'
        rw [setR_same] at e'
        subst e'
        simp [isBoxS] at hb
      · rw [setR_other ρ x h'] at e'
        exact b3 t' cs' e'

def setN (β : Nat → Nat) (d k : Nat) : Nat → Nat := fun t => if t = d then k else β t
theorem setN_same (β : Nat → Nat) (d k : Nat) : setN β d k d = k := by simp [setN]
theorem setN_other (β : Nat → Nat) {d t : Nat} (k : Nat) (h : t ≠ d) : setN β d k t = β t := by simp [setN, h]

/-- A slot takes a new box of the frame. -/
theorem Sl.box {n0 d : Nat} {cs : List AV} {cells : Array Value} {ty : TypeId} (L : Sl n0 φ β ρ a w) (S : Sim φ ah w) (h0 : n0 ≤ w.heap.size) (hd : d < a.tmps.size) (hc : VRs φ cs cells.toList)
    (hn : ∀ t, ∀ p ∈ gsOf (ρ t), p.1 ≠ d) (hl : ∀ t gs bc e off, ρ t = .lref gs bc e off → e ≠ d) :
    Sl n0 φ (setN β d w.heap.size) (setR ρ d (.box cs)) (a.put (some d) (.pointer (some ⟨w.heap.size, 0, none⟩))) (w.alloc (.cells cells ty)) := by
  have new : (w.alloc (.cells cells ty)).heap[w.heap.size]? = some (.cells cells ty (0, 0)) := by
    show (w.heap.push _)[w.heap.size]? = _
    simp
  have old : ∀ k, k < w.heap.size → (w.alloc (.cells cells ty)).heap[k]? = w.heap[k]? := fun k hk => by
    show (w.heap.push _)[k]? = _
    rw [Array.getElem?_push, if_neg (by omega)]
  refine ⟨fun t => ?_, L.G.setR hn ⟨fun _ _ _ h => by simp at h, fun _ _ _ _ h => by simp at h⟩ (fun p hp => by simp [gsOf] at hp), fun t cs' e => ?_, L.df⟩
  · rw [tmps_put hd]
    by_cases h : t = d
    · subst h
      rw [if_pos rfl, setR_same]
      exact ⟨by rw [setN_same], cells, ty, by rw [setN_same]; exact new, hc.cellsR⟩
    · rw [if_neg h, setR_other ρ _ h]
      have H := L.H t
      cases e : ρ t with
      | any => trivial
      | g gs bc x => rw [e] at H; exact H
      | lref gs bc d' off =>
        rw [e] at H
        have hne := hl t gs bc d' off e
        exact ⟨fun hb => by rw [setN_other β _ hne]; exact H.1 hb, H.2⟩
      | box cs' =>
        rw [e] at H
        have hsz := H.size
        obtain ⟨h1, cc, ty', h2, h3⟩ := H
        exact ⟨by rw [setN_other β _ h]; exact h1, cc, ty', by rw [setN_other β _ h, old _ hsz]; exact h2, h3⟩
  · by_cases h : t = d
    · subst h
      rw [setN_same]
      refine ⟨h0, fun b => S.disjoint (Nat.le_refl _) b, fun t' cs'' e' hb => ?_⟩
      by_cases h' : t' = t
      · exact h'
      · exfalso
        rw [setR_other ρ _ h'] at e'
        rw [setN_other β _ h'] at hb
        have H := L.H t'
        rw [e'] at H
        have := H.size
        omega
    · rw [setR_other ρ _ h] at e
      obtain ⟨b1, b2, b3⟩ := L.bx t cs' e
      rw [setN_other β _ h]
      refine ⟨b1, b2, fun t' cs'' e' hb => ?_⟩
      by_cases h' : t' = d
      · exfalso
        subst h'
        rw [setN_same] at hb
        have H := L.H t
        rw [e] at H
        have := H.size
        omega
      · rw [setR_other ρ _ h'] at e'
        rw [setN_other β _ h'] at hb
        exact b3 t' cs'' e' hb

/-- A box of the frame is written. -/
theorem Sl.wr {n0 d : Nat} {cs cs0 : List AV} (L : Sl n0 φ β ρ a w) (hd : ρ d = .box cs0) (B : BoxEff φ β d cs ah w w') : Sl n0 φ β (setR ρ d (.box cs)) a w' := by
  refine ⟨fun t => ?_, ?_, fun t cs' e => ?_, L.df⟩
  · have H := L.H t
    by_cases h : t = d
    · subst h
      rw [setR_same]
      rw [hd] at H
      exact ⟨H.1, B.box⟩
    · rw [setR_other ρ _ h]
      cases e : ρ t with
      | any => trivial
      | g gs bc x => rw [e] at H; exact H
      | lref gs bc d' off => rw [e] at H; exact H
      | box cs' =>
        rw [e] at H
        have hsz := H.size
        obtain ⟨h1, cc, ty', h2, h3⟩ := H
        refine ⟨h1, cc, ty', ?_, h3⟩
        rw [B.fr.block _ hsz fun hb => h ((L.bx d cs0 hd).2.2 t cs' e hb)]
        exact h2
  · have same : ∀ t gs bc x, (setR ρ d (.box cs)) t = .g gs bc x ↔ ρ t = .g gs bc x := fun t gs bc x => by
      by_cases h : t = d
      · subst h; rw [setR_same, hd]; simp
      · rw [setR_other ρ _ h]
    have same2 : ∀ t gs bc e off, (setR ρ d (.box cs)) t = .lref gs bc e off ↔ ρ t = .lref gs bc e off := fun t gs bc x off => by
      by_cases h : t = d
      · subst h; rw [setR_same, hd]; simp
      · rw [setR_other ρ _ h]
    have cj : ∀ gs, conj (setR ρ d (.box cs)) gs ↔ conj ρ gs := fun gs => by
      constructor
      · intro c p hp
        obtain ⟨g, bc, b, e, hl⟩ := c p hp
        exact ⟨g, bc, b, (same _ _ _ _).1 e, hl⟩
      · intro c p hp
        obtain ⟨g, bc, b, e, hl⟩ := c p hp
        exact ⟨g, bc, b, (same _ _ _ _).2 e, hl⟩
    exact ⟨fun t gs bc x e => by rw [cj]; exact L.G.1 t gs bc x ((same _ _ _ _).1 e), fun t gs bc e' off e => by rw [cj]; exact L.G.2 t gs bc e' off ((same2 _ _ _ _ _).1 e)⟩
  · have back : ∀ t cs', setR ρ d (.box cs) t = .box cs' → ∃ cs'', ρ t = .box cs'' := fun t cs' e => by
      by_cases h : t = d
      · subst h; exact ⟨_, hd⟩
      · rw [setR_other ρ _ h] at e; exact ⟨_, e⟩
    obtain ⟨cs'', e''⟩ := back t cs' e
    obtain ⟨b1, b2, b3⟩ := L.bx t cs'' e''
    refine ⟨b1, b2, fun t' c' e' hb => ?_⟩
    obtain ⟨c'', e3⟩ := back t' c' e'
    exact b3 t' c'' e3 hb

/-- A box of the frame lies beyond what was there at first. -/
theorem Eff.box {φ0 : Phi} {w0 : World} {n d : Nat} {cs : List AV} (E : Eff φ0 φ n ah w0 w) (B : BoxEff φ β d cs ah w w') (h0 : w0.heap.size ≤ β d) (hφ : ∀ b, cbOf (φ b) ≠ some (β d)) : Eff φ0 φ n ah w0 w' := by
  refine ⟨E.le, ?_, E.fr.trans B.fr fun k hk ho => ?_, E.cb, E.own, E.len, E.un⟩
  · have S := E.sim
    constructor
    · intro b r hr
      obtain ⟨c, cc, ty, fz, h1, h2, h3, h4, h5⟩ := S.live b r hr
      refine ⟨c, cc, ty, fz, h1, ?_, h3, h4, h5⟩
      rw [B.fr.block _ (S.cb_lt (b := b) (by rw [hr]; rfl)) fun hb => hφ b (by rw [hr]; show some r.cb = _; rw [hb])]
      exact h2
    · intro b c hr
      obtain ⟨es, ces, clk, h1, h2, h3⟩ := S.map b c hr
      refine ⟨es, ces, clk, h1, ?_, h3⟩
      rw [B.fr.block _ (S.cb_lt (b := b) (by rw [hr]; rfl)) fun hb => hφ b (by rw [hr]; show some c = _; rw [hb])]
      exact h2
    · exact S.dead
    · exact S.inj
  · exfalso
    subst ho
    omega

theorem Sim.alloc (S : Sim φ ah w) (o : Obj) : Sim φ ah (w.alloc o) := by
  have old : ∀ k, k < w.heap.size → (w.alloc o).heap[k]? = w.heap[k]? := fun k hk => by
    show (w.heap.push o)[k]? = _
    rw [Array.getElem?_push, if_neg (by omega)]
  constructor
  · intro b r hr
    obtain ⟨c, cc, ty, fz, h1, h2, h3, h4, h5⟩ := S.live b r hr
    exact ⟨c, cc, ty, fz, h1, by rw [old _ (S.cb_lt (b := b) (by rw [hr]; rfl))]; exact h2, h3, h4, h5⟩
  · intro b c hr
    obtain ⟨es, ces, clk, h1, h2, h3⟩ := S.map b c hr
    exact ⟨es, ces, clk, h1, by rw [old _ (S.cb_lt (b := b) (by rw [hr]; rfl))]; exact h2, h3⟩
  · exact S.dead
  · exact S.inj

theorem Fr.alloc (own : Nat → Prop) (o : Obj) : Fr own w (w.alloc o) :=
  ⟨rfl, rfl, rfl, by show _ ≤ (w.heap.push o).size; simp, fun k hk _ => by show (w.heap.push o)[k]? = _; rw [Array.getElem?_push, if_neg (by omega)]⟩

/-! ### One operation -/

/-- An operation comes to a value and a world, at once or behind a call. -/
def Reach (P : Program) (o : Oper) (a : Act) (w : World) (K : Value → World → Prop) : Prop :=
  (∃ vc w', (execOp a.eval o).run P w = .ok (.value vc) w' ∧ K vc w') ∨
  (∃ w', (execOp a.eval o).run P w = .ok .skip w' ∧ K undef w') ∨
  (∃ f args, (execOp a.eval o).run P w = .ok (.enter f args) w ∧ Calls P f args w fun e w' => ∃ vc, e = .returned vc ∧ K vc w')

theorem Reach.wp {o : Oper} {K : Value → World → Prop} (h : Reach P o a w K) {next : Act → World → Prop} {Q : Exit → Act → World → Prop} (hn : ∀ vc w', K vc w' → next (a.put o.dst vc) w') : o.wp P a w next Q := by
  unfold Oper.wp
  rcases h with ⟨vc, w', e, h⟩ | ⟨w', e, h⟩ | ⟨f, args, e, h⟩
  · rw [e]; exact hn _ _ h
  · rw [e]; exact hn _ _ h
  · rw [e]
    simp only [Oper.upon]
    refine Calls.mono h fun en w' hk => ?_
    obtain ⟨vc, rfl, hk⟩ := hk
    exact hn _ _ hk

/-- What an operation has done. -/
inductive Chg (n : Nat) (φ : Phi) (β : Nat → Nat) (ρ : Nat → SV) (ah : Heap) (w : World) (gs : List (Nat × Bool)) (sv : SV) (h : Heap) (up : Up) (vc : Value) (w' : World) : Prop where
  | val (φ' : Phi) : up = none → Eff φ φ' n h w w' → ((∃ x, sv = .g gs true x ∧ VR φ' x vc) ∨ (∃ d off, sv = .lref gs true d off ∧ vc = .pointer (some ⟨β d, off, none⟩))) → Chg n φ β ρ ah w gs sv h up vc w'
  | box (cs : List AV) (cells : Array Value) (ty : TypeId) : up = none → h = ah → sv = .box cs → vc = .pointer (some ⟨w.heap.size, 0, none⟩) → w' = w.alloc (.cells cells ty) → VRs φ cs cells.toList → Chg n φ β ρ ah w gs sv h up vc w'
  | wr (d : Nat) (cs : List AV) (x : AV) : gs = [] → up = some (d, cs) → h = ah → sv = .v x → VR φ x vc → BoxEff φ β d cs ah w w' → (∃ cs0, ρ d = .box cs0) → Chg n φ β ρ ah w gs sv h up vc w'

/-- The functions that are called do what their answers say. -/
def CSound (P : Program) (C : FuncId → List AV → Heap → Res) : Prop :=
  ∀ f as ah v ah', C f as ah = some (v, ah') → Enters P f ∧ ∀ (φ : Phi) (w : World) (args : List Value), VRs φ as args → Sim φ ah w →
    Calls P f args.toArray w fun e w' => ∃ vc, e = .returned vc ∧ ∃ φ', VR φ' v vc ∧ Eff φ φ' ah.length ah' w w'

theorem opA_reach (Cx : Ctx φ β ρ ah a w gs) {o : Oper} {k : AK} (hk : cOp P loc o = some k) {ret : SV → Option R} (h : opA ρ ah gs true k ret = some r) :
    ∃ sv, ret sv = some r ∧ Reach P o a w (Chg ah.length φ β ρ ah w gs sv ah none) := by
  obtain ⟨sv, h, vc, e, hs⟩ := opA_sound Cx hk h
  exact ⟨sv, h, .inl ⟨vc, w, e, .val φ rfl (.refl Cx.S (Nat.le_refl _)) hs⟩⟩

theorem opX_reach (Cx : Ctx φ β ρ ah a w []) {o : Oper} {k : AK} (hk : cOp P loc o = some k) {ret : List AV → Option R} (h : opX ρ k ret = some r) :
    ∃ cs, ret cs = some r ∧ Reach P o a w (Chg ah.length φ β ρ ah w [] (.box cs) ah none) := by
  obtain ⟨cs, cells, ty, h1, h2, h3⟩ := opX_sound Cx hk h
  exact ⟨cs, h1, .inl ⟨_, _, h2, .box cs cells ty rfl rfl rfl rfl rfl h3⟩⟩

theorem opB_reach (Cx : Ctx φ β ρ ah a w []) {o : Oper} {k : AK} (hk : cOp P loc o = some k) {ret : AV → Blk → Option R} (h : opB ρ k ah.length ret = some r) :
    ∃ x b, ret x b = some r ∧ Reach P o a w (Chg ah.length φ β ρ ah w [] (.v x) (ah ++ [b]) none) := by
  obtain ⟨x, blk, obj, vc, st, h1, h2, h3, h4⟩ := opB_sound Cx hk h
  have hE := Eff.born (Cx.S.add [blk]) h3 (Cx.S.unborn (n := ah.length) (by simp)) (by simp) (w' := w.alloc obj) rfl rfl rfl rfl (Nat.le_refl ah.length)
  exact ⟨x, blk, h1, .inl ⟨vc, _, h2, .val _ rfl hE (.inl ⟨x, rfl, h4 _ (setPhi_same _ _ _)⟩)⟩⟩

theorem opM_reach (Cx : Ctx φ β ρ ah a w []) {o : Oper} {k : AK} (hk : cOp P loc o = some k) {ret : AV → Heap → Up → Option R} (h : opM ρ ah k ret = some r) :
    ∃ x h' up, ret x h' up = some r ∧ Reach P o a w (Chg ah.length φ β ρ ah w [] (.v x) h' up) := by
  obtain ⟨x, h', up, h1, nx, vc, w', h2, h3, h4⟩ := opM_sound Cx hk h
  refine ⟨x, h', up, h1, ?_⟩
  have fin : Chg ah.length φ β ρ ah w [] (.v x) h' up vc w' := by
    cases up with
    | none => obtain ⟨φ', hE, hv⟩ := h4; exact .val φ' rfl hE (.inl ⟨x, rfl, hv⟩)
    | some p =>
      obtain ⟨d, cs⟩ := p
      obtain ⟨e1, e2, e3, e4⟩ := h4
      exact .wr d cs x rfl rfl e1 rfl e2 e3 e4
  rcases h3 with rfl | ⟨rfl, rfl⟩
  · exact .inl ⟨vc, w', h2, fin⟩
  · exact .inr (.inl ⟨w', h2, fin⟩)

theorem opF_reach {C : FuncId → List AV → Heap → Res} (hC : CSound P C) (Cx : Ctx φ β ρ ah a w gs) {o : Oper} {k : AK} (hk : cOp P loc o = some k) {K : SV → Heap → Up → Option R}
    (h : opF ρ gs k (fun f as rs z => (C f as ah).bind fun r => rdRes rs r.1 true fun a => K (.g gs true a) r.2 none) = some r) :
    ∃ x h', K (.g gs true x) h' none = some r ∧ Reach P o a w (Chg ah.length φ β ρ ah w gs (.g gs true x) h' none) := by
  obtain ⟨f, as, rs, z, h, hat⟩ := opF_sound Cx hk h
  rw [Option.bind_eq_some_iff] at h
  obtain ⟨⟨v, h'⟩, hc, h⟩ := h
  obtain ⟨x, h, hx⟩ := rdRes_true h
  obtain ⟨hE, hcall⟩ := hC f as ah v h' hc
  obtain ⟨args, hrun, hargs⟩ := hat.go hE
  refine ⟨x, h', h, .inr (.inr ⟨f, args.toArray, hrun, Calls.mono (hcall φ w args hargs Cx.S) fun e w' hk => ?_⟩)⟩
  obtain ⟨vc, rfl, φ', hv, hEff⟩ := hk
  exact ⟨vc, rfl, .val φ' rfl hEff (.inl ⟨x, rfl, hx φ' vc hv⟩)⟩

theorem opF_any {k : AK} {ret : FuncId → List AV → List VS → AV → Option R} (h : opF ρ gs k ret = some r) : ∃ f as rs z, ret f as rs z = some r := by
  cases k <;> simp only [opF] at h <;> try (simp at h; done)
  · split at h
    · exact ⟨_, _, _, _, h⟩
    · simp at h
  · split at h
    · exact ⟨_, _, _, _, h⟩
    · simp at h

/-- An operation whose guard holds. -/
theorem opK_reach {C : FuncId → List AV → Heap → Res} (hC : CSound P C) (Cx : Ctx φ β ρ ah a w gs) {o : Oper} {k : AK} (hk : cOp P loc o = some k) {K : SV → Heap → Up → Option R}
    (h : opK C ρ ah gs true k K = some r) :
    ∃ sv h' up, K sv h' up = some r ∧ Reach P o a w (Chg ah.length φ β ρ ah w gs sv h' up) := by
  have X : ∀ k', k = k' → gs = [] → opX ρ k' (fun cs => K (.box cs) ah none) = some r → ∃ sv h' up, K sv h' up = some r ∧ Reach P o a w (Chg ah.length φ β ρ ah w gs sv h' up) := by
    rintro k' rfl rfl h
    obtain ⟨cs, h1, h2⟩ := opX_reach Cx hk h
    exact ⟨_, _, _, h1, h2⟩
  have B : ∀ k', k = k' → gs = [] → opB ρ k' ah.length (fun a b => K (.v a) (ah ++ [b]) none) = some r → ∃ sv h' up, K sv h' up = some r ∧ Reach P o a w (Chg ah.length φ β ρ ah w gs sv h' up) := by
    rintro k' rfl rfl h
    obtain ⟨x, b, h1, h2⟩ := opB_reach Cx hk h
    exact ⟨_, _, _, h1, h2⟩
  have M : ∀ k', k = k' → gs = [] → opM ρ ah k' (fun a h u => K (.v a) h u) = some r → ∃ sv h' up, K sv h' up = some r ∧ Reach P o a w (Chg ah.length φ β ρ ah w gs sv h' up) := by
    rintro k' rfl rfl h
    obtain ⟨x, h', up, h1, h2⟩ := opM_reach Cx hk h
    exact ⟨_, _, _, h1, h2⟩
  have A : opA ρ ah gs true k (fun sv => K sv ah none) = some r → ∃ sv h' up, K sv h' up = some r ∧ Reach P o a w (Chg ah.length φ β ρ ah w gs sv h' up) := by
    intro h
    obtain ⟨sv, h1, h2⟩ := opA_reach Cx hk h
    exact ⟨_, _, _, h1, h2⟩
  have F : opF ρ gs k (fun f as rs z => (C f as ah).bind fun r => rdRes rs r.1 true fun a => K (.g gs true a) r.2 none) = some r → ∃ sv h' up, K sv h' up = some r ∧ Reach P o a w (Chg ah.length φ β ρ ah w gs sv h' up) := by
    intro h
    obtain ⟨x, h', h1, h2⟩ := opF_reach hC Cx hk h
    exact ⟨_, _, _, h1, h2⟩
  cases k <;> simp only [opK] at h
  case boxL x =>
    split at h
    · exact X _ rfl rfl h
    · simp at h
  case allocL x =>
    split at h
    · exact X _ rfl rfl h
    · simp at h
  case boxH x =>
    split at h
    · exact B _ rfl rfl h
    · simp at h
  case allocH x =>
    split at h
    · exact B _ rfl rfl h
    · simp at h
  case buildSl z es ps =>
    split at h
    · exact B _ rfl rfl h
    · simp at h
  case makeMap =>
    split at h
    · exact B _ rfl rfl h
    · simp at h
  case makeSl z n l c =>
    split at h
    · exact B _ rfl rfl h
    · simp at h
  case store n x y =>
    split at h
    · exact M _ rfl rfl h
    · simp at h
  case clear z x =>
    split at h
    · exact M _ rfl rfl h
    · simp at h
  case mapUpdate m k x =>
    split at h
    · exact M _ rfl rfl h
    · simp at h
  case append z es n x y =>
    split at h
    · exact M _ rfl rfl h
    · simp at h
  case copy es x y =>
    split at h
    · exact M _ rfl rfl h
    · simp at h
  case call f args rs z =>
    refine F ?_
    cases gs with
    | nil => exact h
    | cons p gs => exact h
  case callV f args rs z =>
    refine F ?_
    cases gs with
    | nil => exact h
    | cons p gs => exact h
  all_goals exact A h

theorem opK_idle {C : FuncId → List AV → Heap → Res} {k : AK} {K : SV → Heap → Up → Option R} (hgs : gs ≠ []) (h : opK C ρ ah gs false k K = some r) :
    ∃ sv, K sv ah none = some r ∧ Idle gs sv := by
  have A : opA ρ ah gs false k (fun sv => K sv ah none) = some r → ∃ sv, K sv ah none = some r ∧ Idle gs sv := fun h => opA_false h
  have F : opF ρ gs k (fun f as rs z => (if false = true then C f as ah else some (z, ah)).bind fun r => rdRes rs r.1 false fun a => K (.g gs false a) r.2 none) = some r → ∃ sv, K sv ah none = some r ∧ Idle gs sv := by
    intro h
    obtain ⟨f, as, rs, z, h⟩ := opF_any h
    simp only [Bool.false_eq_true, if_false, Option.bind_some] at h
    obtain ⟨x, h⟩ := rdRes_false h
    exact ⟨_, h, .inl ⟨x, rfl⟩⟩
  cases k <;> simp only [opK] at h
  case call f args rs z => exact F h
  case callV f args rs z => exact F h
  all_goals first
    | exact A h
    | (exfalso
       split at h
       · exact hgs rfl
       · simp at h)

end
end Go.Proofs.Ytmfmnbldngfelaa.Abs
