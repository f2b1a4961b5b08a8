/- append and copy; all operations that turn memory together. -/
import Derived.Test.YtmfmnbldngfelaaAbsOpN
set_option linter.unusedVariables false
set_option linter.unusedSimpArgs false
namespace Go.Proofs.Ytmfmnbldngfelaa.Abs
open Go

section
variable {P : Program} {φ : Phi} {β : Nat → Nat} {ρ : Nat → SV} {ah : Heap} {a : Act} {w : World} {R : Type}
  {loc : Nat} {r : R}

theorem al_new (o : Obj) : (w.drew.alloc o).heap[w.heap.size]? = some o := by
  show (w.heap.push o)[w.heap.size]? = _
  simp
theorem al_old (o : Obj) {k : Nat} (h : k < w.heap.size) : (w.drew.alloc o).heap[k]? = w.heap[k]? := by
  show (w.heap.push o)[k]? = _
  rw [Array.getElem?_push, if_neg (by omega)]
theorem al_size (o : Obj) : w.heap.size ≤ (w.drew.alloc o).heap.size := by
  show _ ≤ (w.heap.push o).size
  simp

theorem not_int {e : TypeId} : (TypeDesc.slice e matches .int _) = false := rfl

/-- append, where the cells are there. -/
theorem run_append_in {t u e e' : TypeId} {es : Nat} (ht : P.underlying t = some (.slice e)) (hu : P.underlying u = some (.slice e')) (hes : sizeOfT P e = some es)
    {base : Option Addr} {n c : Nat} {x : Value} {m : Nat} {zs : List Value} (hx : (Builtin.lenOf x).run P w = .ok m w) (hz : (Builtin.firstCells es m x).run P w = .ok zs.toArray w)
    (hfit : n + m ≤ c) {w' : World} (hst : match base with | some p => (storeCells (p.add (n * es)) zs).run P w = .ok () w' | none => w' = w) (ty : TypeId) :
    (Builtin.append_ #[t, u] ty #[.slice base n c, x]).run P w = .ok (.slice base (n + m) c) w' := by
  simp only [Builtin.append_, List.getElem?_toArray, List.getElem?_cons_zero, List.getElem?_cons_succ, Sem.run_bind, run_under ht, run_size hes, run_under hu, Result.andThen, Sem.run_pure, Bool.false_eq_true, if_false, hx, if_pos hfit, Bool.not_false, if_true, hz]
  cases base with
  | none => simp only at hst; subst hst; simp [Result.andThen]
  | some p => simp only at hst; simp [hst, Result.andThen]

/-- append, where a new row is made. -/
theorem run_append_new {t u e e' : TypeId} {es nb : Nat} (ht : P.underlying t = some (.slice e)) (hu : P.underlying u = some (.slice e')) (hes : sizeOfT P e = some es)
    (hnb : bytesOfT P e = some nb) (hpos : 0 < nb) {z : List AV} (hzero : zeroOf P e = some z)
    {base : Option Addr} {n c : Nat} {x : Value} {m : Nat} {zs os : List Value} (hx : (Builtin.lenOf x).run P w = .ok m w) (hz : (Builtin.firstCells es m x).run P w.drew = .ok zs.toArray w.drew)
    (hos : (Builtin.firstCells es n (.slice base n c)).run P w.drew = .ok os.toArray w.drew)
    (hfit : c < n + m) (hbig : (n + m) * nb ≤ 70368744177664) (ty : TypeId) :
    ∃ newCap tail, n + m ≤ newCap ∧ tail.size = (newCap - (n + m)) * es ∧
      (Builtin.append_ #[t, u] ty #[.slice base n c, x]).run P w = .ok (.slice (some ⟨w.heap.size, 0, none⟩) (n + m) newCap) (w.drew.alloc (.cells (os.toArray ++ zs.toArray ++ tail) e)) := by
  obtain ⟨i, zv, hi, hzv, hzr, hzl⟩ := zeroOf_sound (φ := fun _ => .unborn) hzero
  have hbytes : i.bytes = nb := by
    unfold bytesOfT at hnb
    rw [hi] at hnb
    simpa using hnb
  have hsize : i.size = es := by
    obtain ⟨i', hi', rfl⟩ := size_of_info hes
    rw [hi] at hi'; cases hi'; rfl
  have hzs : zv.cells.size = es := by have := hzr.1; simp at this; omega
  have hgrow := growslice_fits (bytes := nb) hfit (by omega)
  refine ⟨(Question.appendCap (n + m) c e).cut (w.tape w.drawn (Question.appendCap (n + m) c e)), Builtin.zeroCells zv.cells ((Question.appendCap (n + m) c e).cut (w.tape w.drawn (Question.appendCap (n + m) c e)) - (n + m)), ?_, ?_, ?_⟩
  · simp only [Question.cut]; omega
  · simp [Builtin.zeroCells, hzs]
  · have h1 : ¬ n + m ≤ c := by omega
    have h3 : ¬ (((n + m : Nat) : Int) > IntKind.i64.max ∧ (False ∨ nb = 0)) := fun h => by rcases h.2 with h | h; exact h; omega
    have h4 : ¬ Builtin.nextslicecap (n + m) c * nb > 2 ^ 48 := by omega
    have hroom : ∀ k, (askRoom k).run P w.drew = .ok () w.drew := by
      intro k
      unfold askRoom
      split <;> rfl
    have hch : (choose (.appendCap (n + m) c e)).run P w = .ok ((Question.appendCap (n + m) c e).cut (w.tape w.drawn (Question.appendCap (n + m) c e))) w.drew := by
      rfl
    simp only [Builtin.append_, List.getElem?_toArray, List.getElem?_cons_zero, List.getElem?_cons_succ, Sem.run_bind, run_under ht, run_size hes, run_under hu, Result.andThen, Sem.run_pure, Bool.false_eq_true, if_false, hx, if_neg h1, run_typeInfo' hi, hbytes]
    rw [if_neg h3]
    simp only [Sem.run_bind, run_typeInfo' hi, hbytes, Result.andThen]
    rw [if_neg h4]
    simp only [Sem.run_bind, hch, Result.andThen, run_typeInfo' hi, hroom, hos, Bool.not_false, if_true, hz, run_zero hi hzv, run_newRow, Sem.run_pure]
    rfl

theorem toL1' {α : Type} {xs : Array α} {x y : α} (h : xs.toList = [x, y]) : xs = #[x, y] := by apply Array.ext'; simpa using h

theorem lenOf_sl {sa : SA} {n : Nat} {v : Value} (h : VR φ (.sl sa n) v) : (Builtin.lenOf v).run P w = .ok n w := by
  obtain ⟨o, c, rfl, _⟩ := vr_sl_shape h
  rfl

theorem fresh_sl {ys : List AV} {zs : List Value} {es n newCap : Nat} {tail : Array Value} {e : TypeId} (S : Sim φ ah w) (hy : VRs φ ys zs) (hlen : zs.length = n * es) (hc : n ≤ newCap) (ht : tail.size = (newCap - n) * es) :
    ∃ φ', Eff φ φ' ah.length (ah ++ [.cells ys (.grow es) 0]) w (w.drew.alloc (.cells (zs.toArray ++ tail) e)) ∧ VR φ' (.sl (.pos ⟨ah.length, 0, 0⟩) n) (.slice (some ⟨w.heap.size, 0, none⟩) n newCap) := by
  have hsz : (zs.toArray ++ tail).size = newCap * es := by
    simp only [Array.size_append, List.size_toArray, hlen, ht, ← Nat.add_mul]
    congr 1
    omega
  have hb : Born φ w (.cells ys (.grow es) 0) (.cells (zs.toArray ++ tail) e) (.live ⟨w.heap.size, 0, 0, .grow es, (zs.toArray ++ tail).size⟩) := by
    refine .cells ⟨?_, fun i x hx => ?_⟩ (by simp)
    · have := hy.1
      rw [hsz, Nat.zero_add, this, hlen]
      exact Nat.mul_le_mul_right _ hc
    · obtain ⟨y, hy', hv⟩ := hy.get hx
      refine ⟨y, ?_, hv⟩
      have hi : i < zs.length := (List.getElem?_eq_some_iff.1 hy').1
      rw [Nat.zero_add, Array.getElem?_append_left (by simpa using hi)]
      simpa using hy'
  have hE := Eff.born (S.add [.cells ys (.grow es) 0]) hb (S.unborn (n := ah.length) (by simp)) (by simp) (w' := w.drew.alloc (.cells (zs.toArray ++ tail) e)) rfl rfl rfl rfl (Nat.le_refl ah.length)
  refine ⟨_, hE, sl_born (by rw [hsz]) hc _ (setPhi_same _ _ _)⟩

theorem apnd_sound (S : Sim φ ah w) {t u e e' : TypeId} {es nb : Nat} (ht : P.underlying t = some (.slice e)) (hu : P.underlying u = some (.slice e')) (hes : sizeOfT P e = some es) (hespos : 0 < es)
    (hnb : bytesOfT P e = some nb) (hpos : 0 < nb) {z : List AV} (hzero : zeroOf P e = some z) {x : AV} {vx vy : Value} (hx : VR φ x vx) {sb : SA} {m : Nat} (hy : VR φ (.sl sb m) vy)
    {ys : List AV} (hys : ldSl ah sb (m * es) = some ys) {rr : AV × Heap} (h : apnd ah x es nb ys m = some rr) (ty : TypeId) :
    ∃ vc w' φ', (Builtin.append_ #[t, u] ty #[vx, vy]).run P w = .ok vc w' ∧ Eff φ φ' ah.length rr.2 w w' ∧ VR φ' rr.1 vc := by
  have hlen := lenOf_sl (P := P) (w := w) hy
  obtain ⟨zs, hz1, hz2, hz3, hz4⟩ := ldSl_sound (P := P) S hy (Nat.le_refl m) hys
  have Sd : Sim φ ah w.drew := S.of_heap rfl
  obtain ⟨zs', hz1', hz2', _, hz4'⟩ := ldSl_sound (P := P) Sd hy (Nat.le_refl m) hys
  have hylen : ys.length = m * es := by rw [hz2.1, hz4]
  cases x with
  | sl sa n =>
    obtain ⟨o, c, rfl, hnc⟩ := vr_sl_shape hx
    cases m with
    | zero =>
      simp only [apnd, Option.some.injEq] at h
      subst h
      have hzs : zs = [] := List.eq_nil_of_length_eq_zero (by omega)
      subst hzs
      refine ⟨_, w, φ, run_append_in ht hu hes hlen hz1 (by omega) ?_ ty, .same S (.refl _ _) (Nat.le_refl _), by simpa using hx⟩
      cases o with
      | none => rfl
      | some p => rfl
    | succ m =>
      simp only [apnd] at h
      cases sa with
      | lost => simp at h
      | nil =>
        simp only at h
        split at h
        · rename_i hc
          obtain ⟨hn0, hbig⟩ := hc
          simp only [Option.some.injEq] at h
          subst h; subst hn0
          cases hx
          obtain ⟨newCap, tail, g1, g2, g3⟩ := run_append_new (P := P) (w := w) (t := t) (u := u) ht hu hes hnb hpos hzero (base := none) (n := 0) (c := 0) (os := []) hlen hz1' rfl (by omega) (by simpa using hbig) ty
          rw [Nat.zero_add] at g1 g2 g3
          obtain ⟨φ', hE, hv⟩ := fresh_sl (n := m + 1) (newCap := newCap) (tail := tail) (e := e) S hz2' hz4' g1 g2
          refine ⟨_, _, φ', g3, ?_, hv⟩
          simpa using hE
        · simp at h
      | z =>
        simp only at h
        split at h
        · rename_i hc
          obtain ⟨hn0, hbig⟩ := hc
          simp only [Option.some.injEq] at h
          subst h; subst hn0
          cases hx with
          | slZ =>
          rename_i a'
          have hos : (Builtin.firstCells es 0 (.slice (some a') 0 0)).run P w.drew = .ok [].toArray w.drew := by simp [Builtin.firstCells, loadCells, loadCellsFrom]
          obtain ⟨newCap, tail, g1, g2, g3⟩ := run_append_new (P := P) (w := w) (t := t) (u := u) ht hu hes hnb hpos hzero (base := some a') (n := 0) (c := 0) (os := []) hlen hz1' hos (by omega) (by simpa using hbig) ty
          rw [Nat.zero_add] at g1 g2 g3
          obtain ⟨φ', hE, hv⟩ := fresh_sl (n := m + 1) (newCap := newCap) (tail := tail) (e := e) S hz2' hz4' g1 g2
          refine ⟨_, _, φ', g3, ?_, hv⟩
          simpa using hE
        · simp at h
      | pos p =>
        simp only at h
        split at h
        · rename_i cl e0 v0 hb
          split at h
          · rename_i hc
            obtain ⟨hv, he0, hle, hbig⟩ := hc
            subst he0
            have hx0 := hx
            cases hx with
            | sl ha hcap hn =>
            rename_i a'
            obtain ⟨r, cc, ty', fz, h1, h2, h3, h4, h5, h6, h7, h8⟩ := addr_live S ha hb hv
            have hro : r.mode ≠ .ro := by rw [h2]; simp
            have hfz := h7 hro
            subst hfz
            unfold CapR at hcap
            rw [h1] at hcap
            have hcap := hcap (by rw [h3]; exact hv) e0 h2
            have h8 := h8 e0 h2
            have hcl := h6.len
            split at h
            · -- in place, in cells that are known
              rename_i hfits
              simp only [Option.some.injEq] at h
              subst h
              have hmul : (n + (m + 1)) * e0 ≤ c * e0 := by omega
              have hin : n + (m + 1) ≤ c := Nat.le_of_mul_le_mul_right hmul hespos
              have hsplit : (n + (m + 1)) * e0 = n * e0 + (m + 1) * e0 := Nat.add_mul _ _ _
              have hst := stN_eq hb hv (by simp) (ys := ys) (k := n * e0) (by omega)
              obtain ⟨w', g1, g2, g3⟩ := stN_sound P S (addrR_add ha (n * e0)) hz2 hz3 hst
              refine ⟨_, w', φ, run_append_in ht hu hes hlen hz1 hin g1 ty, .same g2 g3 (by simp), .sl ha ?_ hin⟩
              unfold CapR
              rw [h1]
              intro _ e1 he1
              rw [h2] at he1
              cases he1
              exact hcap
            · split at h
              · rename_i hnf hflat
                simp only [Option.some.injEq] at h
                subst h
                have hsplit : (n + (m + 1)) * e0 = n * e0 + (m + 1) * e0 := Nat.add_mul _ _ _
                have vres : ∀ (φ' : Phi) (r' : Row) (c' : Nat), φ' p.b = .live r' → r'.ver = v0 + 1 → r'.mode = .grow e0 → r'.base + c' * e0 = r'.size → n + (m + 1) ≤ c' →
                    VR φ' (.sl (.pos ⟨p.b, v0 + 1, 0⟩) (n + (m + 1))) (.slice (some ⟨r'.cb, r'.base, none⟩) (n + (m + 1)) c') := by
                  intro φ' r' c' k1 k2 k3 k4 k5
                  refine .sl ?_ ?_ k5
                  · unfold AddrR
                    simp only [k1]
                    exact ⟨by omega, fun _ => rfl⟩
                  · unfold CapR
                    simp only [k1]
                    intro _ e1 he1
                    rw [k3] at he1
                    cases he1
                    omega
                by_cases hin : n + (m + 1) ≤ c
                · -- in place, in cells that are not known
                  have hmul : (n + (m + 1)) * e0 ≤ c * e0 := Nat.mul_le_mul_right _ hin
                  have hrun := run_storeCells_at (P := P) r.cb (r.base + p.o + n * e0) ty' zs 0 cc w h5 (by omega) (flat_cells hz2 hz3)
                  have hrun' : (storeCells (a'.add (n * e0)) zs).run P w = .ok () (w.setRow r.cb (cc.toList.take (r.base + p.o + n * e0) ++ zs ++ cc.toList.drop (r.base + p.o + n * e0 + zs.length)).toArray) := by
                    rw [h4, addr_add]
                    exact hrun
                  have hcells := tail_cells (o := p.o) (n := n * e0) h6 hz2 hle (by omega)
                  have hE := bump_sound S (b := p.b) (r := r) (r' := ⟨r.cb, r.base + p.o, r.ver + 1, r.mode, r.size⟩) (c := (cl.drop p.o).take (n * e0) ++ ys) (ty := ty')
                    (w' := w.setRow r.cb (cc.toList.take (r.base + p.o + n * e0) ++ zs ++ cc.toList.drop (r.base + p.o + n * e0 + zs.length)).toArray) h1 (Nat.lt_succ_self _) rfl hro (setRow_heap _ _ _ _ _ _ h5) hcells
                    (fun es' _ => by rw [← h8]; simp; omega) (.inl rfl) (by rw [setRow_size]; exact Nat.le_refl _) (fun k _ hk => setRow_get _ _ _ _ hk) (fun h => absurd rfl h) rfl rfl rfl
                  refine ⟨_, _, setPhi φ p.b (.live ⟨r.cb, r.base + p.o, r.ver + 1, r.mode, r.size⟩), run_append_in ht hu hes hlen hz1 hin hrun' ty, ?_, ?_⟩
                  · rw [h3, h2] at hE ⊢
                    exact hE
                  · rw [h4]
                    exact vres _ ⟨r.cb, r.base + p.o, r.ver + 1, r.mode, r.size⟩ c (setPhi_same _ _ _) (by rw [h3]) h2 hcap hin
                · -- a new row
                  have hold : ldSl ah (.pos p) (n * e0) = some ((cl.drop p.o).take (n * e0)) := by
                    by_cases h0 : n * e0 = 0
                    · rw [h0]; simp [ldSl]
                    · rw [ldSl_pos h0]
                      simp only [adP, ldN, hb]
                      rw [if_pos ⟨hv, hle, hflat⟩]
                  obtain ⟨os, ho1, ho2, _, ho4⟩ := ldSl_sound (P := P) Sd hx0 (Nat.le_refl n) hold
                  obtain ⟨newCap, tail, g1, g2, g3⟩ := run_append_new (P := P) (w := w) (t := t) (u := u) ht hu hes hnb hpos hzero (base := some a') (n := n) (c := c) (os := os) hlen hz1' ho1 (by omega) hbig ty
                  have hsz : (os.toArray ++ zs'.toArray ++ tail).size = newCap * e0 := by
                    simp only [Array.size_append, List.size_toArray, ho4, hz4', g2, ← Nat.add_mul]
                    congr 1
                    omega
                  have hall := ho2.append hz2'
                  have hcells : CellsR φ ((cl.drop p.o).take (n * e0) ++ ys) 0 (os.toArray ++ zs'.toArray ++ tail) := by
                    refine ⟨?_, fun i x hx => ?_⟩
                    · have := hall.1
                      rw [hsz, Nat.zero_add, this]
                      simp only [List.length_append, ho4, hz4', ← Nat.add_mul]
                      exact Nat.mul_le_mul_right _ g1
                    · obtain ⟨y, hy', hv'⟩ := hall.get hx
                      refine ⟨y, ?_, hv'⟩
                      have hi : i < (os ++ zs').length := (List.getElem?_eq_some_iff.1 hy').1
                      rw [Nat.zero_add, Array.getElem?_append_left (by simpa using hi)]
                      rw [← hy']
                      simp
                  have hE := bump_sound S (b := p.b) (r := r) (r' := ⟨w.heap.size, 0, r.ver + 1, r.mode, newCap * e0⟩) (c := (cl.drop p.o).take (n * e0) ++ ys) (ty := e)
                    (cc := os.toArray ++ zs'.toArray ++ tail) (w' := w.drew.alloc (.cells (os.toArray ++ zs'.toArray ++ tail) e)) h1 (Nat.lt_succ_self _) rfl hro (al_new _) hcells
                    (fun es' hes' => hsz) (.inr rfl) (al_size _) (fun k hk _ => al_old _ hk)
                    (fun _ => al_old _ (S.cb_lt (b := p.b) (k := r.cb) (by simp [h1, cbOf]))) rfl rfl rfl
                  refine ⟨_, _, setPhi φ p.b (.live ⟨w.heap.size, 0, r.ver + 1, r.mode, newCap * e0⟩), g3, ?_, ?_⟩
                  · rw [h3, h2] at hE ⊢
                    exact hE
                  · exact vres _ ⟨w.heap.size, 0, r.ver + 1, r.mode, newCap * e0⟩ newCap (setPhi_same _ _ _) (by rw [h3]) h2 (by simp) g1
              · simp at h
          · simp at h
        · simp at h
  | _ => simp [apnd] at h

theorem m_append (C : Ctx φ β ρ ah a w []) {dst type pos after guard} {args : Array Operand} {ts : Array TypeId} {k : AK}
    (hk : cOp P loc ⟨dst, .call ⟨.builtin .append, args, ts⟩, type, pos, after, guard⟩ = some k)
    {ret : AV → Heap → Up → Option R} (h : opM ρ ah k ret = some r) :
    ∃ v h' up, ret v h' up = some r ∧ MOk P φ β ρ ah a w ⟨dst, .call ⟨.builtin .append, args, ts⟩, type, pos, after, guard⟩ v h' up := by
  simp only [cOp] at hk
  split at hk <;> try (simp at hk; done)
  all_goals try (rename_i hq; simp at hq; done)
  all_goals try (rename_i hq _ _; simp at hq; done)
  rename_i ax ay t u hb hargs hts
  split at hk
  · rename_i e e' hut huu
    split at hk
    · rename_i z n m hz hn hm
      split at hk
      · rename_i hpos
        simp only [Option.some.injEq] at hk
        subst hk
        obtain ⟨x, y, hx1, hx, hy⟩ := cXs2 hargs
        have hx1 := toL1' hx1
        have hts := toL2 hts
        subst hx1; subst hts
        simp only [opM] at h
        split at h
        · rename_i va sb ny hva hvy
          rw [Option.bind_eq_some_iff] at h
          obtain ⟨ys, hys, h⟩ := h
          rw [Option.bind_eq_some_iff] at h
          obtain ⟨rr, hrr, h⟩ := h
          have e1 := getV_sound C hx hva
          have e2 := getV_sound C hy hvy
          obtain ⟨vc, w', φ', g1, g2, g3⟩ := apnd_sound (P := P) C.S hut huu hn hpos.1 hm hpos.2 hz e1 e2 hys hrr type
          obtain ⟨q, hq, h⟩ := gb_true h
          have hrl : rr.1 = .sl q.1 q.2 := by
            cases e : rr.1 <;> rw [e] at hq <;> simp [rL] at hq
            rw [← hq]
          rw [hrl] at g3
          refine ⟨_, rr.2, none, h, .value vc, vc, w', run_builtin ?_, .inl rfl, φ', g2, g3⟩
          simp only [builtin, Sem.run_bind, List.map_toArray, List.map_cons, List.map_nil, g1, Result.andThen, Sem.run_pure]
        · simp at h
      · simp at hk
    · simp at hk
  · simp at hk

theorem m_copy (C : Ctx φ β ρ ah a w []) {dst type pos after guard} {args : Array Operand} {ts : Array TypeId} {k : AK}
    (hk : cOp P loc ⟨dst, .call ⟨.builtin .copy, args, ts⟩, type, pos, after, guard⟩ = some k)
    {ret : AV → Heap → Up → Option R} (h : opM ρ ah k ret = some r) :
    ∃ v h' up, ret v h' up = some r ∧ MOk P φ β ρ ah a w ⟨dst, .call ⟨.builtin .copy, args, ts⟩, type, pos, after, guard⟩ v h' up := by
  simp only [cOp] at hk
  split at hk <;> try (simp at hk; done)
  all_goals try (rename_i hq; simp at hq; done)
  all_goals try (rename_i hq _ _; simp at hq; done)
  rename_i ax ay t u hb hargs hts
  split at hk
  · rename_i e e' hut huu
    split at hk
    · rename_i es hn
      simp only [Option.some.injEq] at hk
      subst hk
      obtain ⟨x, y, hx1, hx, hy⟩ := cXs2 hargs
      have hx1 := toL1' hx1
      have hts := toL2 hts
      subst hx1; subst hts
      simp only [opM] at h
      split at h
      · rename_i sa n sb m hva hvy
        rw [Option.bind_eq_some_iff] at h
        obtain ⟨ys, hys, h⟩ := h
        rw [Option.bind_eq_some_iff] at h
        obtain ⟨h', hst, h⟩ := h
        have e1 := getV_sound C hx hva
        have e2 := getV_sound C hy hvy
        have hlen := lenOf_sl (P := P) (w := w) e2
        obtain ⟨zs, z1, z2, z3, z4⟩ := ldSl_sound (P := P) C.S e2 (Nat.min_le_left m n) hys
        obtain ⟨o, c, hev, hle⟩ := vr_sl_shape e1
        have key : ∃ w', (match o with | some p => (storeCells p zs).run P w = .ok () w' | none => w' = w) ∧ Sim φ h' w' ∧ Fr (Owns φ) w w' ∧ ah.length ≤ h'.length := by
          by_cases h0 : min m n * es = 0
          · rw [h0] at hst
            simp only [Option.some.injEq] at hst
            subst hst
            have : zs = [] := List.eq_nil_of_length_eq_zero (by omega)
            subst this
            refine ⟨w, ?_, C.S, .refl _ _, Nat.le_refl _⟩
            cases o <;> rfl
          · have : ∃ q, sa = .pos q ∧ stN ah q ys = some h' := by
              split at hst
              · rename_i h00; exact absurd h00 h0
              · split at hst
                · exact ⟨_, rfl, hst⟩
                · simp at hst
            obtain ⟨q, hq, hst'⟩ := this
            subst hq
            rw [hev] at e1
            cases e1 with
            | sl ha hc hn' =>
            obtain ⟨w', g1, g2, g3⟩ := stN_sound P C.S ha z2 z3 hst'
            exact ⟨w', g1, g2, g3, stN_len hst'⟩
        obtain ⟨w', k1, k2, k3, k4⟩ := key
        refine ⟨.int .i64 (min m n : Nat), h', none, h, .value (goInt (min m n : Nat)), goInt (min m n : Nat), w', run_builtin ?_, .inl rfl, φ, .same k2 k3 k4, .int _ _⟩
        simp only [builtin, Sem.run_bind, List.map_toArray, List.map_cons, List.map_nil, hev, Builtin.copy_, List.getElem?_toArray, List.getElem?_cons_zero, List.getElem?_cons_succ, run_under hut, hlen, run_size hn, Result.andThen, Sem.run_pure]
        have z1' : (Builtin.firstCells es (m.min n) (a.eval y)).run P w = .ok zs.toArray w := z1
        simp only [z1']
        cases o with
        | none => simp only at k1; subst k1; rfl
        | some p => simp only at k1; simp [k1, Result.andThen]
      · simp at h
    · simp at hk
  · simp at hk

/-- Operations that turn memory. -/
theorem opM_sound (C : Ctx φ β ρ ah a w []) {o : Oper} {k : AK} (hk : cOp P loc o = some k) {ret : AV → Heap → Up → Option R} (h : opM ρ ah k ret = some r) :
    ∃ v h' up, ret v h' up = some r ∧ MOk P φ β ρ ah a w o v h' up := by
  have hc := cOp_cls hk
  obtain ⟨dst, op, type, pos, after, guard⟩ := o
  cases k <;> try (simp [opM] at h; done)
  case store => obtain ⟨t, x, y, rfl⟩ := isOp5 hc; exact m_store C hk h
  case mapUpdate => obtain ⟨t, m, k, x, rfl⟩ := isOp6 hc; exact m_mapUpdate C hk h
  case append => obtain ⟨as, ts, rfl⟩ := isOp7 hc; exact m_append C hk h
  case copy => obtain ⟨as, ts, rfl⟩ := isOp8 hc; exact m_copy C hk h
  case clear => obtain ⟨as, ts, rfl⟩ := isOp9 hc; exact m_clear C hk h

end
end Go.Proofs.Ytmfmnbldngfelaa.Abs
