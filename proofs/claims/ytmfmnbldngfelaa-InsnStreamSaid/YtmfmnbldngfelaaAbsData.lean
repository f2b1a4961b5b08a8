/- The memory of a call, whole, as blocks that only are read; what the reading of an argument says of its cells. -/
import Derived.Test.YtmfmnbldngfelaaAbsLift
import GoSem.ClaimChange
set_option linter.unusedVariables false
set_option linter.unusedSimpArgs false
namespace Go.Proofs.Ytmfmnbldngfelaa.Abs
open Go

def blkOk (W : World) (b : Nat) : Bool := match W.heap[b]? with
  | some (.cells _ _ _) => true
  | _ => false

/-- A cell's value, seen abstractly. -/
def toAV (W : World) : Value → AV
  | .int k n => .int k n
  | .bool b => .bool b
  | .string s => .str s
  | .pointer none => .ptr none
  | .pointer (some ⟨b, o, none⟩) => if blkOk W b = true then .ptr (some ⟨b, 0, o⟩) else .opq
  | .slice none 0 0 => .sl .nil 0
  | .slice (some _) 0 _ => .sl .lost 0
  | .slice (some ⟨b, o, none⟩) (n + 1) c => if blkOk W b = true ∧ n + 1 ≤ c then .sl (.pos ⟨b, 0, o⟩) (n + 1) else .opq
  | .map none => .map none
  | .nilFunc => .nilFn
  | .nilIface => .nilIface
  | _ => .opq

def argAV (W : World) : Value → AV
  | .agg cs => .agg (cs.toList.map (toAV W))
  | v => toAV W v

def phiW (W : World) : Phi := fun b => match W.heap[b]? with
  | some (.cells cc _ _) => .live ⟨b, 0, 0, .ro, cc.size⟩
  | _ => .unborn

def blkW (W : World) : Obj → Blk
  | .cells cc _ _ => .cells (cc.toList.map (toAV W)) .ro 0
  | _ => .gone

def ahW (W : World) : Heap := W.heap.toList.map (blkW W)

theorem ahW_get (W : World) (b : Nat) : (ahW W)[b]? = (W.heap[b]?).map (blkW W) := by
  unfold ahW
  rw [List.getElem?_map, Array.getElem?_toList]

theorem roW (W : World) : RoPhi (phiW W) := by
  intro b
  unfold phiW
  split
  · exact ⟨fun r h => (by cases h; rfl), fun c h => (nomatch h)⟩
  · exact ⟨fun r h => (nomatch h), fun c h => (nomatch h)⟩

theorem blkOk_live {W : World} {b : Nat} (h : blkOk W b = true) : ∃ r, phiW W b = .live r ∧ r.cb = b ∧ r.base = 0 ∧ r.ver = 0 ∧ r.mode = .ro := by
  unfold blkOk at h
  unfold phiW
  split at h
  · exact ⟨_, rfl, rfl, rfl, rfl, rfl⟩
  · cases h

theorem addrW {W : World} {b o : Nat} (h : blkOk W b = true) : AddrR (phiW W) ⟨b, 0, o⟩ ⟨b, o, none⟩ := by
  obtain ⟨r, hr, h1, h2, h3, h4⟩ := blkOk_live h
  unfold AddrR
  simp only [hr]
  exact ⟨by omega, fun _ => by rw [h1, h2]; simp⟩

theorem capW {W : World} {b o c : Nat} : CapR (phiW W) ⟨b, 0, o⟩ c := by
  unfold CapR
  split
  · rename_i r hr
    intro _ es he
    rw [(roW W b).1 r hr] at he
    cases he
  · trivial

theorem toAV_vr (W : World) (v : Value) : VR (phiW W) (toAV W v) v := by
  unfold toAV
  split
  all_goals first
    | exact .int _ _
    | exact .bool _
    | exact .str _
    | exact .ptrN
    | exact .slN
    | exact .slL
    | exact .mapN
    | exact .nilFn
    | exact .nilIface
    | (split
       · rename_i h; exact .ptr (addrW h)
       · exact .opq _)
    | (split
       · rename_i h; exact .sl (addrW h.1) capW h.2
       · exact .opq _)
    | exact .opq _

theorem argAV_vr (W : World) (v : Value) : VR (phiW W) (argAV W v) v := by
  unfold argAV
  split
  · refine .agg (by simp) fun i x y hx hy => ?_
    rw [List.getElem?_map] at hx
    rw [Array.getElem?_toList, hy] at hx
    cases hx
    exact toAV_vr W y
  · exact toAV_vr W v

theorem argsAV_vr (W : World) : ∀ (l : List Value), VRs (phiW W) (l.map (argAV W)) l := by
  intro l
  induction l with
  | nil => exact .nil _
  | cons v l ih => exact .cons (argAV_vr W v) ih

theorem simW (W : World) : Sim (phiW W) (ahW W) W := by
  constructor
  · intro b r hr
    unfold phiW at hr
    split at hr
    · rename_i cc ty fz e
      cases hr
      refine ⟨cc.toList.map (toAV W), cc, ty, fz, ?_, e, ⟨by simp, fun i x hx => ?_⟩, fun h => absurd rfl h, fun es h => by cases h⟩
      · rw [ahW_get, e]; rfl
      · rw [List.getElem?_map] at hx
        cases hg : cc.toList[i]? with
        | none => rw [hg] at hx; cases hx
        | some y =>
          rw [hg] at hx
          cases hx
          exact ⟨y, by simpa using hg, toAV_vr W y⟩
    · cases hr
  · intro b c h; exact absurd h ((roW W b).2 c)
  · intro b h
    unfold phiW at h
    split at h <;> cases h
  · intro b b' c h1 h2
    have key : ∀ b, cbOf (phiW W b) = some c → b = c := by
      intro b h
      unfold phiW at h
      split at h
      · cases h; rfl
      · cases h
    rw [key b h1, key b' h2]

/-- What the reading of a value of a type says of its cells. -/
def IsTy (P : Program) (h : Heap) : Nat → TypeId → List AV → Prop
  | 0, _, _ => False
  | f + 1, t, cs => match P.underlying t with
    | some .bool => ∃ b, cs = [.bool b]
    | some (.int k) => ∃ n, cs = [.int k n] ∧ k.min ≤ n ∧ n ≤ k.max
    | some .string => ∃ s, cs = [.str s]
    | some (.slice e) => P.cellsOf e = 0 ∨ cs = [.sl .nil 0] ∨ cs = [.sl .lost 0] ∨ ∃ b o n c, 0 < n ∧ cs = [.sl (.pos ⟨b, 0, o⟩) n] ∧ h[b]? = some (.cells c .ro 0) ∧
        ∀ i, i < n → ((c.drop (o + i * P.cellsOf e)).take (P.cellsOf e)).length = P.cellsOf e ∧ IsTy P h f e ((c.drop (o + i * P.cellsOf e)).take (P.cellsOf e))
    | some (.struct fs) => cs.length = P.cellsOf t ∧ ∀ fd ∈ fs.toList, IsTy P h f fd.type ((cs.drop fd.offset).take (P.cellsOf fd.type))
    | some (.array n e) => cs.length = P.cellsOf t ∧ ∀ i, i < n → IsTy P h f e ((cs.drop (i * P.cellsOf e)).take (P.cellsOf e))
    | _ => True

theorem mapM_some_all {α β : Type} {F : α → Option β} : ∀ {l : List α} {r : List β}, l.mapM F = some r → ∀ x ∈ l, ∃ y, F x = some y := by
  intro l
  induction l with
  | nil => intro r h x hx; cases hx
  | cons a l ih =>
    intro r h x hx
    rw [List.mapM_cons] at h
    cases e : F a with
    | none => rw [e] at h; simp at h
    | some y =>
      rw [e] at h
      simp only [Option.pure_def, Option.bind_eq_bind, Option.bind_some] at h
      rw [Option.bind_eq_some_iff] at h
      obtain ⟨r', hr', h⟩ := h
      cases hx with
      | head => exact ⟨y, e⟩
      | tail _ hx => exact ih hr' x hx

theorem mapM_some_get {α β : Type} {F : α → Option β} : ∀ {l : List α} {r : List β}, l.mapM F = some r → r.length = l.length ∧ ∀ (i : Nat) x, l[i]? = some x → ∃ y, r[i]? = some y ∧ F x = some y := by
  intro l
  induction l with
  | nil => intro r h; simp at h; subst h; exact ⟨rfl, fun i x hx => by simp at hx⟩
  | cons a l ih =>
    intro r h
    rw [List.mapM_cons] at h
    cases e : F a with
    | none => rw [e] at h; simp at h
    | some y =>
      rw [e] at h
      simp only [Option.pure_def, Option.bind_eq_bind, Option.bind_some] at h
      rw [Option.bind_eq_some_iff] at h
      obtain ⟨r', hr', h⟩ := h
      cases h
      obtain ⟨h1, h2⟩ := ih hr'
      refine ⟨by simp [h1], fun i x hx => ?_⟩
      cases i with
      | zero => simp at hx; subst hx; exact ⟨y, rfl, e⟩
      | succ i => simp at hx; simpa using h2 i x hx

/-- Cells that are read lie in their block. -/
theorem cells_get {W : World} {b o : Nat} {sp : Option Nat} {n : Nat} {l : List Value} (h : W.cells? 0 ⟨b, o, sp⟩ n = some l) (hn : 0 < n) :
    sp = none ∧ ∃ cc ty fz, W.heap[b]? = some (.cells cc ty fz) ∧ l = (cc.toList.drop o).take n ∧ l.length = n := by
  unfold World.cells? at h
  rw [if_pos (Nat.zero_le _)] at h
  obtain ⟨h1, h2⟩ := mapM_some_get h
  obtain ⟨y0, _, hy0⟩ := h2 0 0 (by simp [hn])
  have hc : ∃ cc ty fz, W.heap[b]? = some (.cells cc ty fz) ∧ sp = none := by
    simp only [Addr.add, if_true, World.cell?] at hy0
    cases e : W.heap[b]? with
    | none => rw [e] at hy0; cases hy0
    | some ob =>
      rw [e] at hy0
      cases ob <;> simp only at hy0
      case cells cc ty fz =>
        split at hy0
        · cases hy0
        · rename_i hs
          exact ⟨cc, ty, fz, rfl, by simpa using hs⟩
      all_goals cases hy0
  obtain ⟨cc, ty, fz, e, rfl⟩ := hc
  refine ⟨rfl, cc, ty, fz, e, ?_, by simpa using h1⟩
  apply List.ext_getElem?
  intro i
  rw [List.getElem?_take]
  rcases Nat.lt_or_ge i n with hi | hi
  · rw [if_pos hi, List.getElem?_drop]
    obtain ⟨y, hy, hf⟩ := h2 i i (by simp [hi])
    rw [hy]
    have : (⟨b, o, none⟩ : Addr).add i = ⟨b, o + i, none⟩ := addr_add b o i
    rw [this] at hf
    simp only [World.cell?, e] at hf
    simpa using hf.symm
  · rw [if_neg (by omega), List.getElem?_eq_none (by simp at h1; omega)]

theorem isTy_of_trod {H : Type} {enc : TypeId × Value → H} {P : Program} {W : World} {spare : Nat → Bool} {held : Bool} : ∀ (f : Nat) (t : TypeId) (cs : List Value) (d : DataW H) (ps : List MemPlace),
    DataW.trod enc P W 0 spare held f t cs = some (d, ps) → (∀ e, P.underlying t = some (.slice e) → True) → IsTy P (ahW W) f t (cs.map (toAV W)) := by
  intro f
  induction f with
  | zero => intro t cs d ps h; simp [DataW.trod] at h
  | succ f ih =>
    intro t cs d ps h _
    have ih := fun t cs d ps h => ih t cs d ps h (fun _ _ => trivial)
    unfold DataW.trod at h
    unfold IsTy
    cases e : P.underlying t with
    | none => rw [e] at h; simp at h
    | some u =>
      rw [e] at h
      cases u with
      | bool =>
        match cs, h with
        | [.bool b], h => exact ⟨b, rfl⟩
      | int k =>
        match cs, h with
        | [.int k' n], h =>
          simp only at h
          split at h
          · rename_i hk
            obtain ⟨rfl, hw⟩ := hk
            simp only [Lit.wf, Bool.and_eq_true, decide_eq_true_eq] at hw
            exact ⟨n, rfl, hw.1, hw.2⟩
          · cases h
      | string =>
        match cs, h with
        | [.string s], h => exact ⟨s, rfl⟩
      | slice el =>
        match cs, h with
        | [.slice none 0 0], h => exact .inr (.inl rfl)
        | [.slice (some a) 0 c], h => exact .inr (.inr (.inl rfl))
        | [.slice (some ⟨b, o, sp⟩) (n + 1) c], h =>
          simp only at h
          split at h
          · rename_i hcond
            rw [Option.bind_eq_some_iff] at h
            obtain ⟨elems, hel, h⟩ := h
            have hall := mapM_some_all hel
            by_cases hz : P.cellsOf el = 0
            · exact .inl hz
            · have one : ∀ i, i < n + 1 → ∃ l x, W.cells? 0 (Addr.add ⟨b, o, sp⟩ (i * P.cellsOf el)) (P.cellsOf el) = some l ∧ DataW.trod enc P W 0 spare held f el l = some x := by
                intro i hi
                obtain ⟨x, hx⟩ := hall i (by simp; omega)
                rw [Option.bind_eq_some_iff] at hx
                obtain ⟨l, hl, hx⟩ := hx
                exact ⟨l, x, hl, hx⟩
              obtain ⟨l0, x0, hl0, _⟩ := one 0 (by omega)
              simp only [Nat.zero_mul, Addr.add, if_true] at hl0
              obtain ⟨rfl, cc, ty, fz, hh, _, _⟩ := cells_get hl0 (by omega)
              have hb : blkOk W b = true := by unfold blkOk; rw [hh]
              refine .inr (.inr (.inr ⟨b, o, n + 1, cc.toList.map (toAV W), by omega, ?_, by rw [ahW_get, hh]; rfl, fun i hi => ?_⟩))
              · simp only [List.map_cons, List.map_nil, toAV]
                rw [if_pos ⟨hb, hcond.2.1⟩]
              · obtain ⟨l, x, hl, hx⟩ := one i hi
                rw [addr_add] at hl
                obtain ⟨_, cc', ty', fz', hh', hl', hlen⟩ := cells_get hl (by omega)
                rw [hh] at hh'
                cases hh'
                have := ih el l x.1 x.2 hx
                rw [hl'] at this hlen
                rw [← List.map_drop, ← List.map_take]
                exact ⟨by simpa using hlen, this⟩
          · cases h
      | struct fs =>
        have h : (if cs.length = P.cellsOf t then (fs.toList.mapM fun fd => DataW.trod enc P W 0 spare held f fd.type ((cs.drop fd.offset).take (P.cellsOf fd.type))).map fun xs => (.agg (xs.map (·.1)), xs.flatMap (·.2)) else none) = some (d, ps) := by
          cases cs <;> exact h
        split at h
        · rename_i hlen
          rw [Option.map_eq_some_iff] at h
          obtain ⟨xs, hxs, _⟩ := h
          refine ⟨by simpa using hlen, fun fd hfd => ?_⟩
          obtain ⟨y, hy⟩ := mapM_some_all hxs fd hfd
          have := ih _ _ y.1 y.2 hy
          rw [← List.map_drop, ← List.map_take]
          exact this
        · cases h
      | array n el =>
        have h : (if cs.length = P.cellsOf t then ((List.range n).mapM fun i => DataW.trod enc P W 0 spare held f el ((cs.drop (i * P.cellsOf el)).take (P.cellsOf el))).map fun xs => (.agg (xs.map (·.1)), xs.flatMap (·.2)) else none) = some (d, ps) := by
          cases cs <;> exact h
        split at h
        · rename_i hlen
          rw [Option.map_eq_some_iff] at h
          obtain ⟨xs, hxs, _⟩ := h
          refine ⟨by simpa using hlen, fun i hi => ?_⟩
          obtain ⟨y, hy⟩ := mapM_some_all hxs i (by simp [hi])
          have := ih _ _ y.1 y.2 hy
          rw [← List.map_drop, ← List.map_take]
          exact this
        · cases h
      | _ => trivial

end Go.Proofs.Ytmfmnbldngfelaa.Abs
