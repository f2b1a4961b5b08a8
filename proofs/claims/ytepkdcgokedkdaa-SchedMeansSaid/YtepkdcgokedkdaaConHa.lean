/- slices.Insert of one whole number into a list of whole numbers, where there is room: the walk, and what it does to memory. -/
import Derived.Shelf.Spec.SlicesInsert
import Derived.Shelf.Spec.SlicesInsertGrow
import Derived.Test.YtepkdcgokedkdaaLibD
import Derived.Test.YtepkdcgokedkdaaProg
import Derived.KernelRfl
set_option linter.unusedVariables false
set_option linter.unusedSimpArgs false
namespace Go.Proofs.Ytepkdcgokedkdaa.H
open Go Go.Proofs Go.Shelf Go.RowKit Go.Lib
variable {P : Program} {ρ : Ren}

set_option maxHeartbeats 4000000 in
set_option maxRecDepth 100000 in
/-- There is room, ahead of the end: the cells from i on hold the values, then what stood there. The capacity may be any. -/
theorem ins_shift (L : Lays2.n21 P ρ) (b off n c i vb voff m vc : Nat) (cs vs : List Value) (w : World) (hi : i < n) (hm : 0 < m) (hroom : n + m ≤ c) (hnm : n + m ≤ 9223372036854775807) (hvb : vb ≠ b)
    (hcl : cs.length = n) (hvl : vs.length = m)
    (hcs : ∀ j v, cs[j]? = some v → w.cell? ⟨b, off + j, none⟩ = some v) (hsp : ∀ j, j < n + m → (w.cell? ⟨b, off + j, none⟩).isSome = true) (hfz : ∀ j, j < n + m → w.frozen? ⟨b, off + j, none⟩ = false)
    (hvs : ∀ j v, vs[j]? = some v → w.cell? ⟨vb, voff + j, none⟩ = some v) (h1c : ∀ v ∈ cs, v.oneCell' = true) (h1v : ∀ v ∈ vs, v.oneCell' = true)
    (tA tB : TypeId) (kA kB : Nat) (hsa : w.shape? vb = some (tA, kA)) (hsb : w.shape? b = some (tB, kB)) (hkB : kB ≠ 0) (hfa : w.frozen? ⟨vb, voff, none⟩ = false) (hfe : w.frozen? ⟨vb, kA, none⟩ = false) :
    Calls P (ρ.f 21) #[.slice (some ⟨b, off, none⟩) n c, .int .i64 i, .slice (some ⟨vb, voff, none⟩) m vc] w fun e w' =>
      e = .returned (.slice (some ⟨b, off, none⟩) (n + m) c) ∧ w' = (w.drew.setCells b (off + (i + m)) (cs.drop i)).setCells b (off + i) vs := by
  obtain ⟨mixed, -, -, -, -, -, t0, a0, z0, v0, t3, a3, z3, v3, t4, a4, z4, v4, t22, a22, z22, v22, i3⟩ := id L
  have u0 := run_underlying L.t0; have u3 := run_underlying L.t3; have u4 := run_underlying L.t4; have u22 := run_underlying L.t22
  have hz1 : ¬ ((m : Int) = 0) := by omega
  have hz2 : ¬ ((i : Int) = (n : Int)) := by omega
  have hsz : (P.info? (ρ.t 3)).map (·.size) = some 1 := by
    obtain ⟨i0, hi0, h0, h1, h2⟩ := info_parts L.i3
    rw [hi0]; simp [h1]
  have apart : ∀ lb cb, (callFunc (ρ.f 27) #[.slice (some ⟨vb, voff, none⟩) m vc, .slice (some ⟨b, off + (i + m), none⟩) lb cb]).run P w = .ok (.value (.bool false)) w := by
    intro lb cb
    rw [run_callFunc_extern L.f27 (by kernel_rfl) (by kernel_rfl) (by kernel_rfl) (e := Extern.SlicesOverlaps.overlaps #[(ρ.t 22), (ρ.t 22)] #[(ρ.t 4)]) (by kernel_rfl)]
    rw [Lib.run_overlaps_apart w (ρ.t 22) (ρ.t 4) (ρ.t 3) L.t22 1 L.z3 ⟨vb, voff, none⟩ ⟨b, off + (i + m), none⟩ m vc lb cb hvb tA tB kA kB hsa hsb hkB hfa hfe]
    rfl
  have rest : (cs.drop i).length = n - i := by rw [List.length_drop, hcl]
  have hw1 : IntKind.i64.wrap ((i : Int) + (m : Int)) = (i : Int) + (m : Int) := by rw [IntKind.wrap_i64]; omega
  have hb1 : (0 : Int) ≤ (i : Int) + (m : Int) := by omega
  have hin : i ≤ n := by omega
  have htn : ((i : Int) + (m : Int)).toNat = i + m := by omega
  have hb2 : ¬ (c = i + m) := by omega
  have hb3 : (i : Int) ≤ (n : Int) + (m : Int) := by omega
  have hb4 : ¬ (c = i) := by omega
  generalize hW1 : w.drew.setCells b (off + (i + m)) (cs.drop i) = W1
  have first : ∀ ty dc sc, (Builtin.copy_ #[(ρ.t 22), (ρ.t 22)] ty #[.slice (some ⟨b, off + (i + m), none⟩) (n + m - (i + m)) dc, .slice (some ⟨b, off + i, none⟩) (n + m - i) sc]).run P w.drew = .ok (goInt (cs.drop i).length) W1 := by
    intro ty dc sc
    rw [← hW1]
    refine run_copy_cells w.drew _ _ ty (ρ.t 3) b (off + (i + m)) (n + m - (i + m)) dc ⟨b, off + i, none⟩ (n + m - i) sc (cs.drop i) L.t22 hsz (by rw [rest]; simp only [Nat.min_def]; split <;> omega) ?_ ?_ ?_ (fun v hv => h1c v (List.mem_of_mem_drop hv))
    · intro j v hj
      rw [Addr.add_lit, Nat.add_assoc]
      exact hcs (i + j) v (by rwa [List.getElem?_drop] at hj)
    · intro j hj; rw [Nat.add_assoc]; exact hsp _ (by omega)
    · intro j hj; rw [Nat.add_assoc]; exact hfz _ (by omega)
  have there : ∀ k, k < n + m → (W1.cell? ⟨b, off + k, none⟩).isSome = true := by
    intro k hk
    rw [← hW1]
    exact isSome_setCells b _ _ _ (fun j hj => by rw [Nat.add_assoc]; exact hsp _ (by omega)) _ (hsp k hk)
  have second : ∀ (W : World), (∀ x, W.cell? x = W1.cell? x) → (∀ x, W.frozen? x = W1.frozen? x) → ∀ ty dc, (Builtin.copy_ #[(ρ.t 22), (ρ.t 22)] ty #[.slice (some ⟨b, off + i, none⟩) (n + m - i) dc, .slice (some ⟨vb, voff, none⟩) m vc]).run P W = .ok (goInt vs.length) (W.setCells b (off + i) vs) := by
    intro W hWc hWf ty dc
    refine run_copy_cells W _ _ ty (ρ.t 3) b (off + i) (n + m - i) dc ⟨vb, voff, none⟩ m vc vs L.t22 hsz (by rw [hvl]; simp only [Nat.min_def]; split <;> omega) ?_ ?_ ?_ h1v
    · intro j v hj
      rw [Addr.add_lit, hWc, ← hW1, World.cell?_setCells_out b _ _ _ _ (fun h _ => absurd h hvb)]
      exact hvs j v hj
    · intro j hj; rw [hWc, Nat.add_assoc]; exact there _ (by omega)
    · intro j hj; rw [hWf, ← hW1, World.frozen?_setCells, Nat.add_assoc]; exact hfz _ (by omega)
  go_enter L.f21, Body2.n21_ntmps ρ
  go_wp2_with (simp only [apart])
  go_region_law_o (refine step_copy_runI rfl _ _ (ρ.t 22) (ρ.t 22) rfl _ _ (by simp [Act.eval, Act.put]) (by simp [Act.eval, Act.put]) (first _ _ _) ?_)
  go_wp2_with (at_builtin; refine wpList_copy_runI _ rfl _ _ (ρ.t 22) (ρ.t 22) rfl _ _ rfl rfl (second _ (fun _ => rfl) (fun _ => rfl) _ _) ?_)
  go_ret
  exact ⟨rfl, rfl⟩

set_option maxHeartbeats 4000000 in
set_option maxRecDepth 100000 in
/-- There is room, at the end: the spare cells take the values. -/
theorem ins_end (L : Lays2.n21 P ρ) (b off n c vb voff m vc : Nat) (vs : List Value) (w : World) (hm : 0 < m) (hroom : n + m ≤ c) (hnm : n + m ≤ 9223372036854775807)
    (hvl : vs.length = m) (hsp : ∀ j, j < m → (w.cell? ⟨b, off + n + j, none⟩).isSome = true) (hfz : ∀ j, j < m → w.frozen? ⟨b, off + n + j, none⟩ = false)
    (hvs : ∀ j v, vs[j]? = some v → w.cell? ⟨vb, voff + j, none⟩ = some v) (h1v : ∀ v ∈ vs, v.oneCell' = true) :
    Calls P (ρ.f 21) #[.slice (some ⟨b, off, none⟩) n c, .int .i64 n, .slice (some ⟨vb, voff, none⟩) m vc] w fun e w' =>
      e = .returned (.slice (some ⟨b, off, none⟩) (n + m) c) ∧ w' = w.setCells b (off + n) vs := by
  obtain ⟨mixed, -, -, -, -, -, t0, a0, z0, v0, t3, a3, z3, v3, t4, a4, z4, v4, t22, a22, z22, v22, i3⟩ := id L
  have u0 := run_underlying L.t0; have u3 := run_underlying L.t3; have u4 := run_underlying L.t4; have u22 := run_underlying L.t22
  have hz1 : ¬ ((m : Int) = 0) := by omega
  have from1 : Src P 1 (ρ.t 22) (.slice (some ⟨vb, voff, none⟩) m vc) m vs w := Src.ofSlice w L.t22 ⟨vb, voff, none⟩ m vc vs (by omega) (fun j u hj => by rw [Addr.add_lit]; exact hvs j u hj) h1v
  go_enter L.f21, Body2.n21_ntmps ρ
  go_wp2_with (at_builtin; refine wpList_append_room1 _ rfl _ _ (ρ.t 22) (ρ.t 22) rfl (ρ.t 3) _ _ L.t22 L.i3 b off n c rfl _ rfl m vs from1 hroom (by rw [hvl]; exact hsp) (by rw [hvl]; exact hfz) ?_)
  go_ret
  exact ⟨rfl, rfl⟩

/-- Cells written over, one by one. -/
def spl (cc : Array Value) (o : Nat) : List Value → Array Value
  | [] => cc
  | v :: r => spl (cc.setIfInBounds o v) (o + 1) r

theorem spl_size : ∀ (vs : List Value) (cc : Array Value) (o : Nat), (spl cc o vs).size = cc.size
  | [], _, _ => rfl
  | v :: r, cc, o => by rw [spl, spl_size r]; simp

theorem spl_get : ∀ (vs : List Value) (cc : Array Value) (o j : Nat), o + vs.length ≤ cc.size → (spl cc o vs)[j]? = if o ≤ j ∧ j < o + vs.length then vs[j - o]? else cc[j]?
  | [], cc, o, j, _ => by rw [spl, if_neg (by simp only [List.length_nil]; omega)]
  | v :: r, cc, o, j, h => by
    simp only [List.length_cons] at h
    rw [spl, spl_get r _ _ _ (by simp; omega)]
    by_cases h1 : o + 1 ≤ j ∧ j < o + 1 + r.length
    · rw [if_pos h1, if_pos (by simp only [List.length_cons]; omega), show j - o = (j - (o + 1)) + 1 by omega, List.getElem?_cons_succ]
    · rw [if_neg h1, Array.getElem?_setIfInBounds]
      by_cases h2 : o = j
      · subst h2
        rw [if_pos rfl, if_pos (by omega), if_pos (by simp only [List.length_cons]; omega), Nat.sub_self, List.getElem?_cons_zero]
      · rw [if_neg h2, if_neg (by simp only [List.length_cons]; omega)]

theorem setCells_heap (b : Nat) : ∀ (vs : List Value) (o : Nat) (w : World) (cc : Array Value) (ty : TypeId) (fz : Nat × Nat), w.heap[b]? = some (.cells cc ty fz) → (w.setCells b o vs).heap[b]? = some (.cells (spl cc o vs) ty fz)
  | [], _, _, _, _, _, h => h
  | v :: r, o, w, cc, ty, fz, h => by
    rw [World.setCells, spl]
    refine setCells_heap b r (o + 1) _ _ ty fz ?_
    simp only [World.setCell, Array.getElem?_modify, if_pos rfl, h, Option.map_some]
    rfl

theorem setCells_same (b : Nat) : ∀ (vs : List Value) (o : Nat) (w : World), (w.setCells b o vs).heap.size = w.heap.size ∧ (w.setCells b o vs).os = w.os ∧ (w.setCells b o vs).tape = w.tape ∧ (w.setCells b o vs).output = w.output ∧ (∀ k, k ≠ b → (w.setCells b o vs).heap[k]? = w.heap[k]?)
  | [], _, _ => ⟨rfl, rfl, rfl, rfl, fun _ _ => rfl⟩
  | v :: r, o, w => by
    rw [World.setCells]
    obtain ⟨h1, h2, h3, h4, h5⟩ := setCells_same b r (o + 1) (w.setCell ⟨b, o, none⟩ v)
    refine ⟨h1.trans (by simp [World.setCell]), h2, h3, h4, fun k hk => (h5 k hk).trans ?_⟩
    simp only [World.setCell, Array.getElem?_modify]
    rw [if_neg (fun h => hk h.symm)]

end Go.Proofs.Ytepkdcgokedkdaa.H

/- slices.Insert of one whole number, abstractly: the rule, and that it says what the function does. -/
set_option linter.unusedVariables false
set_option linter.unusedSimpArgs false
namespace Go.Proofs.Ytepkdcgokedkdaa.H
open Go Go.Proofs.Ytepkdcgokedkdaa.Abs Go.Proofs Go.Shelf Go.RowKit

def insL (l : List Int) (k : Nat) (x : Int) : List Int := l.take k ++ x :: l.drop k

theorem insL_len (l : List Int) (k : Nat) (x : Int) (h : k ≤ l.length) : (insL l k x).length = l.length + 1 := by
  simp [insL]; omega

theorem insL_get (l : List Int) (k : Nat) (x : Int) (h : k ≤ l.length) (j : Nat) : (insL l k x)[j]? = if j < k then l[j]? else if j = k then some x else l[j - 1]? := by
  unfold insL
  rw [List.getElem?_append, List.length_take, show min k l.length = k by omega]
  by_cases h1 : j < k
  · rw [if_pos h1, if_pos h1, List.getElem?_take, if_pos h1]
  · rw [if_neg h1, if_neg h1]
    by_cases h2 : j = k
    · subst h2; simp
    · rw [if_neg h2, show j - k = (j - k - 1) + 1 by omega, List.getElem?_cons_succ, List.getElem?_drop]
      congr 1; omega

open Classical in
/-- What slices.Insert of one whole number answers. -/
noncomputable def insP (al : List AV) (h : Heap) : Res :=
  match al with
  | [.sl s n, .int .i64 i, .sl (.pos va) 1] =>
    match h[va.b]? with
    | some (.cells vc vm vv) =>
      match vc[va.o]? with
      | some (.int .i64 x) =>
        if va.v = vv ∧ vm ≠ .ro ∧ 0 ≤ i ∧ i ≤ n then
          match s with
          | .nil => if n = 0 then some (.sl (.pos ⟨h.length, 0, 0⟩) 1, h ++ [.cells [.int .i64 x] (.grow 1) 0]) else none
          | .pos p => match h[p.b]? with
            | some (.cells c (.grow 1) v) =>
              if hl : ∃ l : List Int, c.drop p.o = l.map (.int .i64) ∧ l.length = n then
                if p.v = v ∧ p.o ≤ c.length ∧ va.b ≠ p.b ∧ (n + 1) * 8 ≤ 70368744177664 then
                  some (.sl (.pos ⟨p.b, v + 1, 0⟩) (n + 1), h.set p.b (.cells ((insL hl.choose i.toNat x).map (.int .i64)) (.grow 1) (v + 1)))
                else none
              else none
            | _ => none
          | _ => none
        else none
      | _ => none
    | _ => none
  | _ => none

variable {P : Program} {ρ : Ren} {φ : Phi} {ah : Heap} {w : World}

theorem vr_int {x : Value} {k : IntKind} {n : Int} (h : VR φ (.int k n) x) : x = .int k n := by cases h; rfl

theorem vrs_ints {l : List Int} {zs : List Value} (h : VRs φ (l.map (.int .i64)) zs) : zs = l.map (Value.int .i64) := by
  apply List.ext_getElem?
  intro i
  by_cases hi : i < l.length
  · have hz : i < zs.length := by have := h.1; simp at this; omega
    have := h.2 i (.int .i64 l[i]) zs[i] (by simp [hi]) (by simp [hz])
    rw [List.getElem?_eq_getElem hz, vr_int this]
    simp [hi]
  · rw [List.getElem?_eq_none (by have := h.1; simp at this; omega), List.getElem?_eq_none (by simp; omega)]

theorem one_of {l : List Int} : ∀ v ∈ l.map (Value.int .i64), v.oneCell' = true := by
  intro v hv
  obtain ⟨x, _, rfl⟩ := List.mem_map.1 hv
  rfl

/-- Whole numbers in cells, as the list that they are. -/
theorem cells_ints {l : List Int} {base : Nat} {cc : Array Value} (hlen : base + l.length ≤ cc.size) (h : ∀ j v, l[j]? = some v → cc[base + j]? = some (.int .i64 v)) : CellsR φ (l.map (.int .i64)) base cc := by
  refine ⟨by simpa using hlen, fun i x hx => ?_⟩
  rw [List.getElem?_map] at hx
  cases e : l[i]? with
  | none => rw [e] at hx; cases hx
  | some v =>
    rw [e] at hx
    cases hx
    exact ⟨_, h i v e, .int _ _⟩

theorem insP_ok (L : Lays2.n21 P ρ) (hE : Abs.Enters P (ρ.f 21)) (al : List AV) (ah : Heap) (v : AV) (ah' : Heap) (h : insP al ah = some (v, ah')) : CallOk P (ρ.f 21) al ah v ah' := by
  refine ⟨hE, fun φ w args hargs S => ?_⟩
  unfold insP at h
  split at h
  · rename_i s n i va
    split at h
    · rename_i vc vm vv hvb
      split at h
      · rename_i x hvx
        split at h
        · rename_i hcnd
          obtain ⟨hvv, hvro, hi0, hin⟩ := hcnd
          obtain ⟨x0, x1, x2, rfl⟩ : ∃ x0 x1 x2, args = [x0, x1, x2] := by
            have := hargs.1
            match args, this with
            | [x0, x1, x2], _ => exact ⟨x0, x1, x2, rfl⟩
          have v0 := hargs.2 0 _ _ rfl rfl
          have v1 := hargs.2 1 _ _ rfl rfl
          have v2 := hargs.2 2 _ _ rfl rfl
          obtain rfl := vr_int v1
          obtain ⟨k, rfl⟩ := Int.eq_ofNat_of_zero_le hi0
          have hkn : k ≤ n := by omega
          cases v2 with
          | sl ha2 hcap2 hn2 =>
          rename_i a2 c2
          obtain ⟨r2, cc2, ty2, fz2, g1, g2, g3, g4, g5, g6, g7, g8⟩ := addr_live S ha2 hvb hvv
          subst g4
          have hfz2 := g7 (by rw [g2]; exact hvro)
          subst hfz2
          obtain ⟨y, hy, hyv⟩ := g6.get _ _ hvx
          obtain rfl := vr_int hyv
          have hvs : ∀ j v, [Value.int .i64 x][j]? = some v → w.cell? ⟨r2.cb, r2.base + va.o + j, none⟩ = some v := by
            intro j v hj
            match j, hj with
            | 0, hj =>
              cases hj
              simp only [World.cell?, g5, Nat.add_zero]
              exact hy
          cases s with
          | nil =>
            simp only at h
            split at h
            · rename_i hn0
              subst hn0
              obtain rfl : k = 0 := by omega
              cases v0
              simp only [Option.some.injEq, Prod.mk.injEq] at h
              obtain ⟨rfl, rfl⟩ := h
              have key := Any2.slices_Insert_int_end_grow L none 0 0 r2.cb (r2.base + va.o) 1 c2 [] [.int .i64 x] w (by omega) (by omega) (by omega) (by omega) rfl rfl (fun _ => rfl) (by simp) hvs (by simp [Value.oneCell'])
              refine key.mono fun e w' ⟨he, hw⟩ => ?_
              subst he hw
              have ge := grownCap_ge w (0 + 1) 0 (ρ.t 3)
              obtain ⟨φ', hEf, hv⟩ := fresh_sl (ys := [.int .i64 x]) (zs := [.int .i64 x]) (es := 1) (n := 1) (newCap := grownCap w (0 + 1) 0 (ρ.t 3)) (tail := Builtin.zeroCells (Value.int .i64 0).cells (grownCap w (0 + 1) 0 (ρ.t 3) - (0 + 1))) (e := ρ.t 3) S ⟨rfl, fun i x' y' h1 h2 => by
                match i, h1, h2 with
                | 0, h1, h2 => cases h1; cases h2; exact .int _ _⟩ rfl (by omega) (by simp [Builtin.zeroCells, Value.cells])
              exact ⟨_, rfl, φ', hv, hEf⟩
            · cases h
          | pos p =>
            simp only at h
            split at h
            · rename_i c v hpb
              split at h
              · rename_i hl
                split at h
                · rename_i hc
                  obtain ⟨hpv, hpo, hne, hbig⟩ := hc
                  obtain ⟨hl1, hl2⟩ := hl.choose_spec
                  generalize hl.choose = l at h hl1 hl2
                  simp only [Option.some.injEq, Prod.mk.injEq] at h
                  obtain ⟨rfl, rfl⟩ := h
                  cases v0 with
                  | sl ha hcap hn =>
                  rename_i a' cp
                  obtain ⟨r, cc, ty, fz, k1, k2, k3, k4, k5, k6, k7, k8⟩ := addr_live S ha hpb hpv
                  subst k4
                  have hro : r.mode ≠ .ro := by rw [k2]; simp
                  have hfz := k7 hro
                  subst hfz
                  unfold CapR at hcap
                  rw [k1] at hcap
                  have hcap := hcap (by rw [k3]; exact hpv) 1 k2
                  have k8 := k8 1 k2
                  have klen := k6.len
                  have hdl := congrArg List.length hl1
                  rw [List.length_drop, List.length_map, hl2] at hdl
                  have hrne : r2.cb ≠ r.cb := fun e => hne (S.inj _ _ r.cb (by rw [g1]; simp [cbOf, e]) (by rw [k1]; simp [cbOf]))
                  -- the numbers that are there
                  have hat : ∀ j u, l[j]? = some u → cc[r.base + p.o + j]? = some (.int .i64 u) := by
                    intro j u hu
                    have : c[p.o + j]? = some (.int .i64 u) := by
                      have e1 := congrArg (fun t => t[j]?) hl1
                      simp only [List.getElem?_drop, List.getElem?_map, hu, Option.map_some] at e1
                      exact e1
                    obtain ⟨y, hy, hyv⟩ := k6.get _ _ this
                    obtain rfl := vr_int hyv
                    rw [Nat.add_assoc]; exact hy
                  have hcs : ∀ j v, (l.map (Value.int .i64))[j]? = some v → w.cell? ⟨r.cb, r.base + p.o + j, none⟩ = some v := by
                    intro j u hu
                    rw [List.getElem?_map] at hu
                    cases e : l[j]? with
                    | none => rw [e] at hu; cases hu
                    | some y =>
                      rw [e] at hu
                      cases hu
                      simp only [World.cell?, k5]
                      exact hat j y e
                  have hzl := insL_len l k x (by omega)
                  have vres : ∀ (φ' : Phi) (r' : Row) (c' : Nat), φ' p.b = .live r' → r'.ver = v + 1 → r'.mode = .grow 1 → r'.base + c' = r'.size → n + 1 ≤ c' →
                      VR φ' (.sl (.pos ⟨p.b, v + 1, 0⟩) (n + 1)) (.slice (some ⟨r'.cb, r'.base, none⟩) (n + 1) c') := by
                    intro φ' r' c' q1 q2 q3 q4 q5
                    refine .sl ?_ ?_ q5
                    · unfold AddrR
                      simp only [q1]
                      exact ⟨by omega, fun _ => rfl⟩
                    · unfold CapR
                      simp only [q1]
                      intro _ e1 he1
                      rw [q3] at he1
                      cases he1
                      omega
                  -- in place
                  have place : ∀ (w' : World) (cc' : Array Value), w'.heap[r.cb]? = some (.cells cc' ty (0, 0)) → cc'.size = cc.size → w'.heap.size = w.heap.size → w'.os = w.os → w'.tape = w.tape → w'.output = w.output → (∀ q, q ≠ r.cb → w'.heap[q]? = w.heap[q]?) →
                      (∀ j u, (insL l k x)[j]? = some u → cc'[r.base + p.o + j]? = some (Value.int .i64 u)) → n + 1 ≤ cp →
                      ∃ φ', VR φ' (.sl (.pos ⟨p.b, v + 1, 0⟩) (n + 1)) (.slice (some ⟨r.cb, r.base + p.o, none⟩) (n + 1) cp) ∧ Eff φ φ' ah.length (ah.set p.b (.cells ((insL l k x).map (.int .i64)) (.grow 1) (v + 1))) w w' := by
                    intro w' cc' q1 q2 q3 q4 q5 q6 q7 q8 q9
                    have hEf := bump_sound S (b := p.b) (r := r) (r' := ⟨r.cb, r.base + p.o, r.ver + 1, r.mode, r.size⟩) (c := (insL l k x).map (.int .i64)) (cc := cc') (ty := ty) (w' := w') k1 (Nat.lt_succ_self _) rfl hro q1
                      (cells_ints (by show r.base + p.o + _ ≤ _; omega) q8) (fun es' _ => by show cc'.size = r.size; omega) (.inl rfl) (by omega) (fun q _ hq => q7 q hq) (fun h => absurd rfl h) q4 q5 q6
                    refine ⟨setPhi φ p.b (.live ⟨r.cb, r.base + p.o, r.ver + 1, r.mode, r.size⟩), vres _ ⟨r.cb, r.base + p.o, r.ver + 1, r.mode, r.size⟩ cp (setPhi_same _ _ _) (by show r.ver + 1 = v + 1; omega) k2 (by show r.base + p.o + cp = r.size; omega) q9, ?_⟩
                    rw [k3, k2] at hEf ⊢
                    exact hEf
                  -- a new row
                  have fresh : ∀ (w' : World) (cc' : Array Value) (ty' : TypeId) (G : Nat), w'.heap[w.heap.size]? = some (.cells cc' ty' (0, 0)) → cc'.size = G → w.heap.size ≤ w'.heap.size → w'.os = w.os → w'.tape = w.tape → w'.output = w.output → (∀ q, q < w.heap.size → w'.heap[q]? = w.heap[q]?) →
                      (∀ (j : Nat) (u : Int), (insL l k x)[j]? = some u → cc'[j]? = some (Value.int .i64 u)) → n + 1 ≤ G →
                      ∃ φ', VR φ' (.sl (.pos ⟨p.b, v + 1, 0⟩) (n + 1)) (.slice (some ⟨w.heap.size, 0, none⟩) (n + 1) G) ∧ Eff φ φ' ah.length (ah.set p.b (.cells ((insL l k x).map (.int .i64)) (.grow 1) (v + 1))) w w' := by
                    intro w' cc' ty' G q1 q2 q3 q4 q5 q6 q7 q8 q9
                    have hEf := bump_sound S (b := p.b) (r := r) (r' := ⟨w.heap.size, 0, r.ver + 1, r.mode, G⟩) (c := (insL l k x).map (.int .i64)) (cc := cc') (ty := ty') (w' := w') k1 (Nat.lt_succ_self _) rfl hro q1
                      (cells_ints (by show 0 + _ ≤ _; omega) (fun j u hu => by show cc'[0 + j]? = _; rw [Nat.zero_add]; exact q8 j u hu)) (fun es' _ => q2) (.inr rfl) q3 (fun q hq _ => q7 q hq) (fun _ => q7 _ (S.cb_lt (b := p.b) (k := r.cb) (by simp [k1, cbOf]))) q4 q5 q6
                    refine ⟨setPhi φ p.b (.live ⟨w.heap.size, 0, r.ver + 1, r.mode, G⟩), vres _ ⟨w.heap.size, 0, r.ver + 1, r.mode, G⟩ G (setPhi_same _ _ _) (by show r.ver + 1 = v + 1; omega) k2 (by show 0 + G = G; omega) q9, ?_⟩
                    rw [k3, k2] at hEf ⊢
                    exact hEf
                  have hsome : ∀ j, j < cp → (w.cell? ⟨r.cb, r.base + p.o + j, none⟩).isSome = true := by
                    intro j hj
                    simp only [World.cell?, k5]
                    have : r.base + p.o + j < cc.size := by omega
                    simp [this]
                  have hfrz : ∀ (o : Nat), w.frozen? ⟨r.cb, o, none⟩ = false := by
                    intro o
                    simp only [World.frozen?, k5]
                    simp
                  have hfrz2 : ∀ (o : Nat), w.frozen? ⟨r2.cb, o, none⟩ = false := by
                    intro o
                    simp only [World.frozen?, g5]
                    simp
                  have hgl : ∀ j u, (insL l k x)[j]? = some u → j < n + 1 := fun j u hu => by have := (List.getElem?_eq_some_iff.1 hu).1; omega
                  have hrlt : r.cb < w.heap.size := S.cb_lt (b := p.b) (k := r.cb) (by simp [k1, cbOf])
                  have hll : (l.map (Value.int .i64)).length = n := by rw [List.length_map, hl2]
                  by_cases hroom : n + 1 ≤ cp
                  · by_cases hk : k < n
                    · have key := ins_shift L r.cb (r.base + p.o) n cp k r2.cb (r2.base + va.o) 1 c2 (l.map (Value.int .i64)) [.int .i64 x] w hk (by omega) hroom (by omega) hrne hll rfl hcs (fun j hj => hsome j (by omega)) (fun j _ => hfrz _) hvs one_of (by simp [Value.oneCell'])
                        ty2 ty cc2.size cc.size (by simp only [World.shape?, g5]) (by simp only [World.shape?, k5]) (by omega) (hfrz2 _) (hfrz2 _)
                      refine key.mono fun e w' ⟨he, hw⟩ => ?_
                      subst he hw
                      have s1 := setCells_heap r.cb ((l.map (Value.int .i64)).drop k) (r.base + p.o + (k + 1)) w.drew cc ty (0, 0) k5
                      have s2 := setCells_heap r.cb [.int .i64 x] (r.base + p.o + k) _ _ ty (0, 0) s1
                      obtain ⟨a1, a2, a3, a4, a5⟩ := setCells_same r.cb ((l.map (Value.int .i64)).drop k) (r.base + p.o + (k + 1)) w.drew
                      obtain ⟨b1, b2, b3, b4, b5⟩ := setCells_same r.cb [.int .i64 x] (r.base + p.o + k) (w.drew.setCells r.cb (r.base + p.o + (k + 1)) ((l.map (Value.int .i64)).drop k))
                      have dl : ((l.map (Value.int .i64)).drop k).length = n - k := by rw [List.length_drop, hll]
                      obtain ⟨φ', hv, hEf⟩ := place _ _ s2 (by rw [spl_size, spl_size]) (b1.trans a1) (b2.trans a2) (b3.trans a3) (b4.trans a4) (fun q hq => (b5 q hq).trans (a5 q hq)) (fun j u hu => by
                        rw [spl_get _ _ _ _ (by rw [spl_size]; simp only [List.length_singleton]; omega), spl_get _ _ _ _ (by omega)]
                        have hj := hgl j u hu
                        rw [insL_get l k x (by omega)] at hu
                        simp only [List.length_singleton]
                        by_cases j1 : j < k
                        · rw [if_pos j1] at hu
                          rw [if_neg (by omega), if_neg (by omega)]
                          exact hat j u hu
                        · rw [if_neg j1] at hu
                          by_cases j2 : j = k
                          · subst j2
                            rw [if_pos rfl] at hu
                            cases hu
                            rw [if_pos (by omega), Nat.sub_self]; rfl
                          · rw [if_neg j2] at hu
                            rw [if_neg (by omega), if_pos (by omega), List.getElem?_drop, show k + (r.base + p.o + j - (r.base + p.o + (k + 1))) = j - 1 by omega, List.getElem?_map, hu]
                            rfl) hroom
                      exact ⟨_, rfl, φ', hv, hEf⟩
                    · obtain rfl : k = n := by omega
                      have key := ins_end L r.cb (r.base + p.o) k cp r2.cb (r2.base + va.o) 1 c2 [.int .i64 x] w (by omega) hroom (by omega) rfl (fun j hj => by rw [Nat.add_assoc]; exact hsome _ (by omega)) (fun j _ => hfrz _) hvs (by simp [Value.oneCell'])
                      refine key.mono fun e w' ⟨he, hw⟩ => ?_
                      subst he hw
                      have s2 := setCells_heap r.cb [.int .i64 x] (r.base + p.o + k) w cc ty (0, 0) k5
                      obtain ⟨b1, b2, b3, b4, b5⟩ := setCells_same r.cb [.int .i64 x] (r.base + p.o + k) w
                      obtain ⟨φ', hv, hEf⟩ := place _ _ s2 (by rw [spl_size]) b1 b2 b3 b4 (fun q hq => b5 q hq) (fun j u hu => by
                        rw [spl_get _ _ _ _ (by simp only [List.length_singleton]; omega)]
                        have hj := hgl j u hu
                        rw [insL_get l k x (by omega)] at hu
                        simp only [List.length_singleton]
                        by_cases j1 : j < k
                        · rw [if_pos j1] at hu
                          rw [if_neg (by omega)]
                          exact hat j u hu
                        · rw [if_neg j1, if_pos (by omega)] at hu
                          obtain rfl : j = k := by omega
                          cases hu
                          rw [if_pos (by omega), Nat.sub_self]; rfl) hroom
                      exact ⟨_, rfl, φ', hv, hEf⟩
                  · have ge := grownCap_ge w (n + 1) cp (ρ.t 3)
                    by_cases hk : k < n
                    · have key := Any2.slices_Insert_int_grow L r.cb (r.base + p.o) n cp k r2.cb (r2.base + va.o) 1 c2 (l.map (Value.int .i64)) [.int .i64 x] w hk (by omega) hn (by omega) (by omega) hll rfl hcs hvs one_of (by simp [Value.oneCell'])
                      refine key.mono fun e w' ⟨he, hw⟩ => ?_
                      subst he hw
                      generalize grownCap w (n + 1) cp (ρ.t 3) = G at ge ⊢
                      generalize hA : ((l.map (Value.int .i64)).take k).toArray ++ Builtin.zeroCells (Value.int .i64 0).cells (n + 1 - k) ++ Builtin.zeroCells (Value.int .i64 0).cells (G - (n + 1)) = A
                      have hAs : A.size = G := by
                        rw [← hA]
                        simp [Builtin.zeroCells, Value.cells, hl2]
                        omega
                      have hAg : ∀ j u, j < k → l[j]? = some u → A[j]? = some (.int .i64 u) := by
                        intro j u hj hu
                        rw [← hA, Array.getElem?_append_left (by simp [Builtin.zeroCells, Value.cells, hl2]; omega), Array.getElem?_append_left (by simp [hl2]; omega)]
                        simp [hj, hu]
                      have s0 := al_new (w := w) (.cells A (ρ.t 3) (0, 0))
                      have s1 := setCells_heap w.heap.size [.int .i64 x] k ((w.alloc (.cells A (ρ.t 3))).drew) A (ρ.t 3) (0, 0) s0
                      have s2 := setCells_heap w.heap.size ((l.map (Value.int .i64)).drop k) (k + 1) (((w.alloc (.cells A (ρ.t 3))).drew.setCells w.heap.size k [.int .i64 x]).drew) _ (ρ.t 3) (0, 0) s1
                      obtain ⟨a1, a2, a3, a4, a5⟩ := setCells_same w.heap.size [.int .i64 x] k ((w.alloc (.cells A (ρ.t 3))).drew)
                      obtain ⟨b1, b2, b3, b4, b5⟩ := setCells_same w.heap.size ((l.map (Value.int .i64)).drop k) (k + 1) (((w.alloc (.cells A (ρ.t 3))).drew.setCells w.heap.size k [.int .i64 x]).drew)
                      have dl : ((l.map (Value.int .i64)).drop k).length = n - k := by rw [List.length_drop, hll]
                      have z1 : w.heap.size ≤ ((w.alloc (.cells A (ρ.t 3))).drew).heap.size := al_size (w := w) (.cells A (ρ.t 3) (0, 0))
                      obtain ⟨φ', hv, hEf⟩ := fresh _ _ (ρ.t 3) G s2 (by rw [spl_size, spl_size, hAs]) (by rw [b1]; show _ ≤ (World.setCells _ _ _ _).heap.size; rw [a1]; exact z1) (b2.trans a2) (b3.trans a3) (b4.trans a4)
                        (fun q hq => (b5 q (by omega)).trans ((a5 q (by omega)).trans (al_old (w := w) (.cells A (ρ.t 3) (0, 0)) hq))) (fun j u hu => by
                        rw [spl_get _ _ _ _ (by rw [spl_size]; omega), spl_get _ _ _ _ (by simp only [List.length_singleton]; omega)]
                        have hj := hgl j u hu
                        rw [insL_get l k x (by omega)] at hu
                        simp only [List.length_singleton]
                        by_cases j1 : j < k
                        · rw [if_pos j1] at hu
                          rw [if_neg (by omega), if_neg (by omega)]
                          exact hAg j u j1 hu
                        · rw [if_neg j1] at hu
                          by_cases j2 : j = k
                          · subst j2
                            rw [if_pos rfl] at hu
                            cases hu
                            rw [if_neg (by omega), if_pos (by omega), Nat.sub_self]; rfl
                          · rw [if_neg j2] at hu
                            rw [if_pos (by omega), List.getElem?_drop, show k + (j - (k + 1)) = j - 1 by omega, List.getElem?_map, hu]
                            rfl) ge
                      exact ⟨_, rfl, φ', hv, hEf⟩
                    · obtain rfl : k = n := by omega
                      have key := Any2.slices_Insert_int_end_grow L (some ⟨r.cb, r.base + p.o, none⟩) k cp r2.cb (r2.base + va.o) 1 c2 (l.map (Value.int .i64)) [.int .i64 x] w (by omega) hn (by omega) (by omega) hll rfl (fun h => by cases h) (fun a ha j v hj => by
                        cases ha
                        rw [Addr.add_lit]
                        exact hcs j v hj) hvs (by simp [Value.oneCell'])
                      refine key.mono fun e w' ⟨he, hw⟩ => ?_
                      subst he hw
                      generalize grownCap w (k + 1) cp (ρ.t 3) = G at ge ⊢
                      generalize hA : (l.map (Value.int .i64) ++ [Value.int .i64 x]).toArray ++ Builtin.zeroCells (Value.int .i64 0).cells (G - (k + 1)) = A
                      have hAs : A.size = G := by
                        rw [← hA]
                        simp [Builtin.zeroCells, Value.cells, hl2]
                        omega
                      obtain ⟨φ', hv, hEf⟩ := fresh _ A (ρ.t 3) G (al_new (w := w) (.cells A (ρ.t 3) (0, 0))) hAs (al_size _) rfl rfl rfl (fun q hq => al_old _ hq) (fun j u hu => by
                        have hj := hgl j u hu
                        rw [insL_get l k x (by omega)] at hu
                        rw [← hA, Array.getElem?_append_left (by simp [hl2]; omega)]
                        simp only [List.getElem?_toArray, List.getElem?_append, hll]
                        by_cases j1 : j < k
                        · rw [if_pos j1] at hu
                          rw [if_pos j1, List.getElem?_map, hu]; rfl
                        · rw [if_neg j1, if_pos (by omega)] at hu
                          obtain rfl : j = k := by omega
                          cases hu
                          rw [if_neg j1, Nat.sub_self]; rfl) ge
                      exact ⟨_, rfl, φ', hv, hEf⟩
                · cases h
              · cases h
            · cases h
          | _ => simp at h
        · cases h
      · cases h
    · cases h
  · cases h

end Go.Proofs.Ytepkdcgokedkdaa.H

/- slices.Insert at the program: its number, its laying, and the evaluator that knows its rule. -/
set_option linter.unusedVariables false
set_option maxRecDepth 100000
namespace Go.Proofs.Ytepkdcgokedkdaa.H
open Go Go.Proofs.Ytepkdcgokedkdaa.Abs Go.Proofs Go.Shelf Go.RowKit

theorem EV_prim {P : Program} {T : Prims} {f : FuncId} {p : List AV → Heap → Res} (hT : T f = some p) (args : List AV) (ah : Heap) : EV P T f args ah = p args ah := by
  refine Option.same fun r => ?_
  rw [EV_iff]
  constructor
  · rintro ⟨k, h⟩
    cases k with
    | zero => simp [evalF] at h
    | succ k =>
      simp only [evalF, hT] at h
      exact h
  · intro h
    refine ⟨1, ?_⟩
    simp only [evalF, hT]
    exact h

/-- The numbers of the program that stand for those of the library's text. -/
def rho : Ren := ⟨fun k => if k = 21 then 48 else if k = 27 then 58 else if k = 28 then 59 else if k = 35 then 62 else if k = 39 then 63 else k, fun k => if k = 22 then 39 else k, fun k => k⟩

noncomputable def T0 : Prims := fun f => if f = 48 then some insP else none

theorem lays : Lays2.n21 Try.prog rho where
  mixed := by kernel_rfl
  f21 := Try.func48.trans (by kernel_rfl)
  f27 := Try.func58.trans (by kernel_rfl)
  f28 := Try.func59.trans (by kernel_rfl)
  f35 := Try.func62.trans (by kernel_rfl)
  f39 := Try.func63.trans (by kernel_rfl)
  t0 := Try.underlying0
  a0 := Try.isAgg0
  z0 := Try.sizeOf0
  v0 := Try.zeroValue0
  t3 := Try.underlying3
  a3 := Try.isAgg3
  z3 := Try.sizeOf3
  v3 := Try.zeroValue3
  t4 := Try.underlying4
  a4 := Try.isAgg4
  z4 := Try.sizeOf4
  v4 := Try.zeroValue4
  t22 := Try.underlying39
  a22 := Try.isAgg39
  z22 := Try.sizeOf39
  v22 := Try.zeroValue39
  i3 := by kernel_rfl

theorem enters48 : Abs.Enters Try.prog 48 := ⟨Try.f48, Try.func48, by kernel_rfl, by intro h; exact absurd h (by decide +kernel)⟩

theorem primsOk : PrimsOk Try.prog T0 := by
  intro f p hp al ah v ah' h
  unfold T0 at hp
  split at hp
  · rename_i hf
    subst hf
    cases hp
    exact insP_ok lays enters48 al ah v ah' h
  · cases hp

end Go.Proofs.Ytepkdcgokedkdaa.H
