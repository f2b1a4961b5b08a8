/- alloccheck: what accepts means; the states of all blocks in memory; the list of work. -/
import Derived.Test.YtnmdadadjneaiaaConDc
set_option linter.unusedVariables false
set_option linter.unusedSimpArgs false
namespace Go.Proofs.Ytnmdadadjneaiaa.D
open Go Go.Proofs.Ytnmdadadjneaiaa.Abs Go.Proofs
def LeG (g k : Nat → Nat → Bool) : Prop := ∀ p r, g p r = true → k p r = true
theorem LeG.refl (g : Nat → Nat → Bool) : LeG g g := fun _ _ h => h
theorem LeG.trans {a b c : Nat → Nat → Bool} (h1 : LeG a b) (h2 : LeG b c) : LeG a c := fun p r h => h2 p r (h1 p r h)
def initG (f : VF) (a : VA) : Nat → Nat → Bool := f.params.foldl (fun g r => defG g (placeV a r).toNat r.toNat fun _ => false) fun _ _ => false
def Flow (a : VA) (x : VB) (g : Nat → Nat → Bool) (T : Nat → Prop) (S : Nat → Nat → Nat → Bool) : Prop :=
 ∃ g', runG a x.ins g = some g' ∧ useG a g' (endL x.e) = true ∧ ∀ t ∈ x.e.to, T t.toNat ∧ LeG (S t.toNat) g'
structure Acc (f : VF) (a : VA) (T : Nat → Prop) (S : Nat → Nat → Nat → Bool) : Prop where
 t0 : T 0
 i0 : LeG (S 0) (initG f a)
 stp : ∀ (i : Nat) (x : VB), T i → f.blocks[i]? = some x → Flow a x (S i) T S
def accepts (f : VF) (a : VA) : Prop := ∃ T S, Acc f a T S
def stC (P : Nat) : Option Mt → AV
 | none => .sl .nil 0
 | some m => .sl (.pos ⟨m.B, 0, 0⟩) P
structure ST (h : Heap) (SB : Nat) (st : List (Option Mt)) (P n : Nat) : Prop where
 hd : h[SB]? = some (.cells (st.map (stC P)) (.grow 1) 0)
 mt : ∀ (i : Nat) (m : Mt), st[i]? = some (some m) → HM h m P n
 nd : ∀ (i j : Nat) (m m' : Mt), i ≠ j → st[i]? = some (some m) → st[j]? = some (some m') → ∀ b ∈ m.own, b ∉ m'.own
 sb : ∀ (i : Nat) (m : Mt), st[i]? = some (some m) → SB ∉ m.own
theorem ST.kp {S : Nat → Prop} {h h' : Heap} {SB : Nat} {st : List (Option Mt)} {P n : Nat} (H : ST h SB st P n) (k : Kp S h h') (h1 : ¬ S SB) (h2 : ∀ (i : Nat) (m : Mt), st[i]? = some (some m) → ∀ b ∈ m.own, ¬ S b) : ST h' SB st P n :=
 ⟨k _ _ H.hd h1, fun i m hm => (H.mt i m hm).kp k (h2 i m hm), H.nd, H.sb⟩
theorem ST.old {h h' : Heap} {SB : Nat} {st : List (Option Mt)} {P n : Nat} (H : ST h SB st P n) (k : Old h h') : ST h' SB st P n := H.kp (k.kp fun _ => False) (fun h => h) fun _ _ _ _ _ h => h
theorem ST.ld {h : Heap} {SB : Nat} {st : List (Option Mt)} {P n : Nat} (H : ST h SB st P n) {i : Nat} {o : Option Mt} (hi : st[i]? = some o) : ld1 h ⟨SB, 0, 0 + i * 1⟩ = some (stC P o) :=
 ld1_at H.hd (by rw [Nat.zero_add, Nat.mul_one, List.getElem?_map, hi]; rfl) (by cases o <;> rfl)
theorem ST.put {h : Heap} {SB : Nat} {st : List (Option Mt)} {P n : Nat} (H : ST h SB st P n) {i : Nat} (hi : i < st.length) {m : Mt} (hm : HM h m P n) (hs : SB ∉ m.own) (hd : ∀ (j : Nat) (m' : Mt), st[j]? = some (some m') → ∀ b ∈ m'.own, b ∉ m.own) :
 ∃ h', st1 h ⟨SB, 0, 0 + i * 1⟩ (.sl (.pos ⟨m.B, 0, 0⟩) P) = some h' ∧ Kp (· = SB) h h' ∧ h'.length = h.length ∧ ST h' SB (st.set i (some m)) P n := by
 have kp := kp_set (· = SB) SB h (.cells ((st.set i (some m)).map (stC P)) (.grow 1) 0) rfl
 refine ⟨_, ?_, kp, by simp, ⟨set_same H.hd, fun j m' hm' => ?_, fun j k m1 m2 hne h1 h2 => ?_, fun j m' hm' => ?_⟩⟩
 · rw [Nat.zero_add, Nat.mul_one, st1_at H.hd (by simp) (by rw [List.length_map]; exact hi), List.map_set]; rfl
 · rw [List.getElem?_set] at hm'
   split at hm'
   · cases hm'
     exact hm.kp kp fun b hb e => hs (e ▸ hb)
   · exact (H.mt j m' hm').kp kp fun b hb e => H.sb j m' hm' (e ▸ hb)
 · rw [List.getElem?_set] at h1 h2
   split at h1
   · rename_i e1
     cases h1
     rw [if_neg (by omega)] at h2
     intro b hb hb'
     exact hd k m2 h2 b hb' hb
   · split at h2
     · cases h2
       exact hd j m1 h1
     · exact H.nd j k m1 m2 hne h1 h2
 · rw [List.getElem?_set] at hm'
   split at hm'
   · cases hm'
     exact hs
   · exact H.sb j m' hm'
theorem ST.upd {h h' : Heap} {SB : Nat} {st : List (Option Mt)} {P n : Nat} (H : ST h SB st P n) {i : Nat} {m : Mt} (hi : st[i]? = some (some m)) (k : Kp (· ∈ m.own) h h') {L : List (List Bool)} (hm : HM h' ⟨m.B, m.qs, L⟩ P n) :
 ST h' SB (st.set i (some ⟨m.B, m.qs, L⟩)) P n := by
 have hil := (List.getElem?_eq_some_iff.1 hi).1
 have e : (st.set i (some ⟨m.B, m.qs, L⟩)).map (stC P) = st.map (stC P) := by
  rw [List.map_set]
  apply List.ext_getElem?
  intro j
  rw [List.getElem?_set]
  split
  · rename_i e; subst e
    rw [List.length_map, if_pos hil, List.getElem?_map, hi]; rfl
  · rfl
 have old : ∀ (j : Nat) (m' : Mt), (st.set i (some ⟨m.B, m.qs, L⟩))[j]? = some (some m') → ∃ m2, st[j]? = some (some m2) ∧ m'.own = m2.own ∧ (j = i → m' = ⟨m.B, m.qs, L⟩) ∧ (j ≠ i → m' = m2) := by
  intro j m' hj
  rw [List.getElem?_set] at hj
  split at hj
  · rename_i e; subst e
    cases hj
    exact ⟨m, hi, rfl, fun _ => rfl, fun h => absurd rfl h⟩
  · rename_i e
    exact ⟨m', hj, rfl, fun h => absurd h.symm e, fun _ => rfl⟩
 refine ⟨by rw [e]; exact k _ _ H.hd (H.sb i m hi), fun j m' hj => ?_, fun j k m1 m2 hne h1 h2 b hb => ?_, fun j m' hj => ?_⟩
 · obtain ⟨m2, a1, a2, a3, a4⟩ := old j m' hj
   by_cases hji : j = i
   · rw [a3 hji]; exact hm
   · rw [a4 hji]
     exact (H.mt j m2 a1).kp k fun b hb => H.nd j i m2 m hji a1 hi b hb
 · obtain ⟨n1, a1, a2, _⟩ := old j m1 h1
   obtain ⟨n2, b1, b2, _⟩ := old k m2 h2
   rw [a2] at hb
   rw [b2]
   exact H.nd j k n1 n2 hne a1 b1 b hb
 · obtain ⟨n1, a1, a2, _⟩ := old j m' hj
   rw [a2]
   exact H.sb j n1 a1
def WK (h : Heap) (W v : Nat) (l : List Nat) : Prop := ∃ c, h[W]? = some (.cells c (.grow 1) v) ∧ l.length ≤ c.length ∧ c.take l.length = l.map fun i => AV.int .i64 ((i : Nat) : Int)
theorem WK.kp {S : Nat → Prop} {h h' : Heap} {W v : Nat} {l : List Nat} (H : WK h W v l) (k : Kp S h h') (hs : ¬ S W) : WK h' W v l := by
 obtain ⟨c, h1, h2, h3⟩ := H
 exact ⟨c, k _ _ h1 hs, h2, h3⟩
def wt (P n : Nat) : Option Mt → Nat
 | none => P * n + 1
 | some m => P * n - offsL m.L
def wts (P n : Nat) (st : List (Option Mt)) : Nat := (st.map (wt P n)).foldr (· + ·) 0
theorem wts_set (P n : Nat) : ∀ (st : List (Option Mt)) (i : Nat) (o o' : Option Mt), st[i]? = some o → wts P n (st.set i o') + wt P n o = wts P n st + wt P n o'
 | [], i, o, o', h => by simp at h
 | x :: st, 0, o, o', h => by
  simp at h
  subst h
  simp only [wts, List.set_cons_zero, List.map_cons, List.foldr_cons]
  omega
 | x :: st, i + 1, o, o', h => by
  have := wts_set P n st i o o' (by simpa using h)
  simp only [wts, List.set_cons_succ, List.map_cons, List.foldr_cons] at this ⊢
  omega
theorem offs_len (l : List Bool) : offs l ≤ l.length := List.length_filter_le _ _
theorem offsL_len {n : Nat} : ∀ (L : List (List Bool)), (∀ M ∈ L, M.length = n) → offsL L ≤ L.length * n
 | [], _ => by simp [offsL]
 | M :: L, h => by
  have h1 := offsL_len L fun M hM => h M (.tail _ hM)
  have h2 := offs_len M
  have h3 := h M (.head _)
  have e : offsL (M :: L) = offs M + offsL L := rfl
  rw [e, List.length_cons, Nat.add_mul]
  omega
theorem HM.offs {h : Heap} {m : Mt} {P n : Nat} (H : HM h m P n) : offsL m.L ≤ P * n := by
 rw [← H.ll]
 refine offsL_len m.L fun M hM => ?_
 obtain ⟨j, hj, he⟩ := List.getElem_of_mem hM
 have h1 := H.lq
 have h2 := H.ll
 obtain ⟨q, hq⟩ := at_lt (l := m.qs) (i := j) (by omega)
 exact (H.cell j q M hq (by rw [List.getElem?_eq_getElem hj, he])).2
end Go.Proofs.Ytnmdadadjneaiaa.D
/- alloccheck: the ends of a block are carried on. -/
set_option linter.unusedVariables false
set_option linter.unusedSimpArgs false
namespace Go.Proofs.Ytnmdadadjneaiaa.D
open Go Go.Proofs.Ytnmdadadjneaiaa.Abs Go.Proofs
structure Wd (h0 h : Heap) (SB W v : Nat) (st : List (Option Mt)) (l : List Nat) (P n : Nat) : Prop where
 o : Old h0 h
 s : ST h SB st P n
 w : WK h W v l
 sb : h0.length ≤ SB
 wb : h0.length ≤ W
 ne : SB ≠ W
 ob : ∀ (i : Nat) (m : Mt), st[i]? = some (some m) → ∀ b ∈ m.own, h0.length ≤ b ∧ b ≠ W
 there : ∀ i ∈ l, ∃ m, st[i]? = some (some m)
theorem Wd.old {h0 h h' : Heap} {SB W v : Nat} {st : List (Option Mt)} {l : List Nat} {P n : Nat} (H : Wd h0 h SB W v st l P n) (k : Old h h') : Wd h0 h' SB W v st l P n :=
 ⟨H.o.trans k, H.s.old k, H.w.kp (k.kp fun _ => False) (fun h => h), H.sb, H.wb, H.ne, H.ob, H.there⟩
theorem WK.lt {h : Heap} {W v : Nat} {l : List Nat} (H : WK h W v l) : W < h.length := by
 obtain ⟨c, h1, _⟩ := H
 exact (List.getElem?_eq_some_iff.1 h1).1
structure Tr (P n : Nat) (g' : Nat → Nat → Bool) (to : List Int) (st : List (Option Mt)) (l : List Nat) (st' : List (Option Mt)) (l' : List Nat) : Prop where
 len : st'.length = st.length
 ge : ∀ (k : Nat) (m : Mt), st[k]? = some (some m) → ∃ m', st'[k]? = some (some m') ∧ LeG (gg m'.L) (gg m.L)
 sub : ∀ k ∈ l, k ∈ l'
 same : ∀ k, k ∉ l' → st'[k]? = st[k]?
 acc : ∀ (k : Nat) (m' : Mt) (X : Nat → Nat → Bool), st'[k]? = some (some m') → (∀ m, st[k]? = some (some m) → LeG X (gg m.L)) → ((∃ t ∈ to, t.toNat = k) → LeG X g') → LeG X (gg m'.L)
 new : ∀ (k : Nat) (m' : Mt), st'[k]? = some (some m') → (∃ m, st[k]? = some (some m)) ∨ ∃ t ∈ to, t.toNat = k
 ms : 2 * wts P n st' + l'.length ≤ 2 * wts P n st + l.length
theorem Tr.refl (P n : Nat) (g' : Nat → Nat → Bool) (to : List Int) (st : List (Option Mt)) (l : List Nat) : Tr P n g' to st l st l :=
 ⟨rfl, fun k m h => ⟨m, h, LeG.refl _⟩, fun k h => h, fun k _ => rfl, fun k m' X h1 h2 _ => h2 m' h1, fun k m' h => .inl ⟨m', h⟩, Nat.le_refl _⟩
theorem Tr.trans {P n : Nat} {g' : Nat → Nat → Bool} {to : List Int} {st l st1 l1 st2 l2} (a : Tr P n g' to st l st1 l1) (b : Tr P n g' to st1 l1 st2 l2) : Tr P n g' to st l st2 l2 := by
 refine ⟨b.len.trans a.len, fun k m h => ?_, fun k h => b.sub k (a.sub k h), fun k h => ?_, fun k m' X h1 h2 h3 => ?_, fun k m' h => ?_, Nat.le_trans b.ms a.ms⟩
 · obtain ⟨m1, h1, h2⟩ := a.ge k m h
   obtain ⟨m2, h3, h4⟩ := b.ge k m1 h1
   exact ⟨m2, h3, h4.trans h2⟩
 · rw [b.same k h, a.same k fun hk => h (b.sub k hk)]
 · exact b.acc k m' X h1 (fun m hm => a.acc k m X hm h2 h3) h3
 · rcases b.new k m' h with ⟨m1, h1⟩ | h1
   · exact a.new k m1 h1
   · exact .inr h1
theorem Tr.one {P n : Nat} {g' : Nat → Nat → Bool} {to : List Int} {st : List (Option Mt)} {l : List Nat} {t : Int} (ht : t ∈ to) {o : Option Mt} (ho : st[t.toNat]? = some o) {m' : Mt} (hle : ∀ m, o = some m → LeG (gg m'.L) (gg m.L))
 (hacc : ∀ X, (∀ m, o = some m → LeG X (gg m.L)) → LeG X g' → LeG X (gg m'.L)) (hw : wt P n (some m') < wt P n o) : Tr P n g' to st l (st.set t.toNat (some m')) (l ++ [t.toNat]) := by
 have hl := (List.getElem?_eq_some_iff.1 ho).1
 have gs : ∀ k : Nat, (st.set t.toNat (some m'))[k]? = if t.toNat = k then some (some m') else st[k]? := fun k => by
  rw [List.getElem?_set]
  by_cases e : t.toNat = k
  · rw [if_pos e, if_pos e, if_pos hl]
  · rw [if_neg e, if_neg e]
 refine ⟨by simp, fun k m h => ?_, fun k h => List.mem_append_left _ h, fun k h => ?_, fun k m2 X h1 h2 h3 => ?_, fun k m2 h => ?_, ?_⟩
 · rw [gs]
   by_cases e : t.toNat = k
   · subst e
     rw [if_pos rfl]
     rw [ho] at h; cases h
     exact ⟨m', rfl, hle m rfl⟩
   · rw [if_neg e]; exact ⟨m, h, LeG.refl _⟩
 · rw [gs, if_neg (fun e => h (by rw [e]; simp))]
 · rw [gs] at h1
   by_cases e : t.toNat = k
   · subst e
     rw [if_pos rfl] at h1
     cases h1
     exact hacc X (fun m hm => h2 m (by rw [ho, hm])) (h3 ⟨t, ht, rfl⟩)
   · rw [if_neg e] at h1; exact h2 m2 h1
 · rw [gs] at h
   by_cases e : t.toNat = k
   · exact .inr ⟨t, ht, e⟩
   · rw [if_neg e] at h; exact .inl ⟨m2, h⟩
 · have := wts_set P n st t.toNat o (some m') ho
   rw [List.length_append, List.length_singleton]
   omega
end Go.Proofs.Ytnmdadadjneaiaa.D
/- alloccheck.Accept. -/
set_option linter.unusedVariables false
set_option linter.unusedSimpArgs false
namespace Go.Proofs.Ytnmdadadjneaiaa.D
open Go Go.Proofs.Ytnmdadadjneaiaa.Abs Go.Proofs
structure MI (f : VF) (a : VA) (h0 h : Heap) (SB W v : Nat) (st : List (Option Mt)) (l : List Nat) (P n : Nat) : Prop where
 wd : Wd h0 h SB W v st l P n
 len : st.length = f.blocks.length
 i1 : ∀ T S, Acc f a T S → ∀ (i : Nat) (m : Mt), st[i]? = some (some m) → T i ∧ LeG (S i) (gg m.L)
 i2 : ∀ (i : Nat) (m : Mt) (x : VB), st[i]? = some (some m) → i ∉ l → f.blocks[i]? = some x → ∃ g', runG a x.ins (gg m.L) = some g' ∧ useG a g' (endL x.e) = true ∧ ∀ t ∈ x.e.to, ∃ mt, st[t.toNat]? = some (some mt) ∧ LeG (gg mt.L) g'
 i0 : ∃ m0, st[0]? = some (some m0) ∧ LeG (gg m0.L) (initG f a)
theorem MI.done {f : VF} {a : VA} {h0 h : Heap} {SB W v : Nat} {st : List (Option Mt)} {P n : Nat} (H : MI f a h0 h SB W v st [] P n) : accepts f a := by
 obtain ⟨m0, h1, h2⟩ := H.i0
 refine ⟨fun i => ∃ m, st[i]? = some (some m), fun i => match st[i]? with | some (some m) => gg m.L | _ => fun _ _ => false, ⟨⟨m0, h1⟩, ?_, fun i x ⟨m, hm⟩ hx => ?_⟩⟩
 · simp only [h1]; exact h2
 · obtain ⟨g', r1, r2, r3⟩ := H.i2 i m x hm (by simp) hx
   refine ⟨g', by simp only [hm]; exact r1, r2, fun t ht => ?_⟩
   obtain ⟨mt, e1, e2⟩ := r3 t ht
   exact ⟨⟨mt, e1⟩, by simp only [e1]; exact e2⟩
end Go.Proofs.Ytnmdadadjneaiaa.D
/- alloccheck.Accept, whole. -/
set_option linter.unusedVariables false
set_option linter.unusedSimpArgs false
namespace Go.Proofs.Ytnmdadadjneaiaa.D
open Go Go.Proofs.Ytnmdadadjneaiaa.Abs Go.Proofs
end Go.Proofs.Ytnmdadadjneaiaa.D
