/- alloccheck: what accepts means; the states of all blocks in memory; the list of work. -/
import Derived.Test.YtnmdadadjneaiaaConDc
set_option linter.unusedVariables false
set_option linter.unusedSimpArgs false
namespace Go.Proofs.Ytnmdadadjneaiaa.D
open Go Go.Proofs.Ytnmdadadjneaiaa.Abs Go.Proofs
def LeG (g k : Nat → Nat → Bool) : Prop := ∀ p r, g p r = true → k p r = true
theorem LeG.refl (g : Nat → Nat → Bool) : LeG g g := fun _ _ h => h
theorem LeG.trans {a b c : Nat → Nat → Bool} (h1 : LeG a b) (h2 : LeG b c) : LeG a c := fun p r h => h2 p r (h1 p r h)
theorem useG_mono {a : VA} {g k : Nat → Nat → Bool} (h : LeG g k) {l : List Int} (hu : useG a g l = true) : useG a k l = true := by
 unfold useG at *
 rw [List.all_eq_true] at *
 intro r hr
 have := hu r hr
 rw [Bool.and_eq_true] at *
 exact ⟨this.1, h _ _ this.2⟩
theorem callG_mono {g k : Nat → Nat → Bool} (h : LeG g k) : LeG (callG g) (callG k) := fun p r hp => by
 unfold callG at *
 split at hp
 · cases hp
 · rename_i hc; rw [if_neg hc]; exact h p r hp
theorem defG_mono {g k : Nat → Nat → Bool} (h : LeG g k) {A B : Nat → Bool} (hA : ∀ s, A s = true → B s = true) (p r : Nat) : LeG (defG g p r A) (defG k p r B) := fun q s hp => by
 unfold defG at *
 split at hp
 · rename_i hc
   rw [if_pos hc]
   rw [Bool.or_eq_true] at *
   rcases hp with h | h
   · exact .inl h
   · exact .inr (hA s h)
 · rename_i hc
   rw [if_neg hc]
   rw [Bool.and_eq_true] at *
   exact ⟨hp.1, h q s hp.2⟩
theorem setG_mono {g k : Nat → Nat → Bool} (h : LeG g k) (a : VA) (x : VI) : LeG (setG a x g) (setG a x k) := by
 unfold setG
 split
 · exact h
 · refine defG_mono h (fun s hs => ?_) _ _
   unfold mvG at *
   split at hs
   · rename_i hc; rw [if_pos hc]; exact h _ _ hs
   · cases hs
theorem stepG_mono {g k g' : Nat → Nat → Bool} (h : LeG g k) {a : VA} {x : VI} (hs : stepG a x g = some g') : ∃ k', stepG a x k = some k' ∧ LeG g' k' := by
 unfold stepG at *
 split at hs
 · rename_i hu
   cases hs
   rw [if_pos (useG_mono h hu)]
   refine ⟨_, rfl, setG_mono ?_ a x⟩
   split
   · exact callG_mono h
   · exact h
 · cases hs
theorem runG_mono {a : VA} : ∀ (xs : List VI) {g k g' : Nat → Nat → Bool}, LeG g k → runG a xs g = some g' → ∃ k', runG a xs k = some k' ∧ LeG g' k'
 | [], g, k, g', h, hr => by cases hr; exact ⟨k, rfl, h⟩
 | x :: xs, g, k, g', h, hr => by
  simp only [runG] at *
  cases hs : stepG a x g with
  | none => rw [hs] at hr; cases hr
  | some g1 =>
   rw [hs] at hr
   obtain ⟨k1, h1, h2⟩ := stepG_mono h hs
   obtain ⟨k', h3, h4⟩ := runG_mono xs h2 (show runG a xs g1 = some g' from hr)
   exact ⟨k', by rw [h1]; exact h3, h4⟩
def initG (f : VF) (a : VA) : Nat → Nat → Bool := f.params.foldl (fun g r => defG g (placeV a r).toNat r.toNat fun _ => false) fun _ _ => false
def Flow (a : VA) (x : VB) (g : Nat → Nat → Bool) (T : Nat → Prop) (S : Nat → Nat → Nat → Bool) : Prop :=
 ∃ g', runG a x.ins g = some g' ∧ useG a g' (endL x.e) = true ∧ ∀ t ∈ x.e.to, T t.toNat ∧ LeG (S t.toNat) g'
structure Acc (f : VF) (a : VA) (T : Nat → Prop) (S : Nat → Nat → Nat → Bool) : Prop where
 t0 : T 0
 i0 : LeG (S 0) (initG f a)
 stp : ∀ (i : Nat) (x : VB), T i → f.blocks[i]? = some x → Flow a x (S i) T S
def accepts (f : VF) (a : VA) : Prop := ∃ T S, Acc f a T S
def stC (P : Nat) : Option Mt → AV
 | none => .sl .nil 0
 | some m => .sl (.pos ⟨m.B, 0, 0⟩) P
structure ST (h : Heap) (SB : Nat) (st : List (Option Mt)) (P n : Nat) : Prop where
 hd : h[SB]? = some (.cells (st.map (stC P)) (.grow 1) 0)
 mt : ∀ (i : Nat) (m : Mt), st[i]? = some (some m) → HM h m P n
 nd : ∀ (i j : Nat) (m m' : Mt), i ≠ j → st[i]? = some (some m) → st[j]? = some (some m') → ∀ b ∈ m.own, b ∉ m'.own
 sb : ∀ (i : Nat) (m : Mt), st[i]? = some (some m) → SB ∉ m.own
theorem ST.kp {S : Nat → Prop} {h h' : Heap} {SB : Nat} {st : List (Option Mt)} {P n : Nat} (H : ST h SB st P n) (k : Kp S h h') (h1 : ¬ S SB) (h2 : ∀ (i : Nat) (m : Mt), st[i]? = some (some m) → ∀ b ∈ m.own, ¬ S b) : ST h' SB st P n :=
 ⟨k _ _ H.hd h1, fun i m hm => (H.mt i m hm).kp k (h2 i m hm), H.nd, H.sb⟩
theorem ST.old {h h' : Heap} {SB : Nat} {st : List (Option Mt)} {P n : Nat} (H : ST h SB st P n) (k : Old h h') : ST h' SB st P n := H.kp (k.kp fun _ => False) (fun h => h) fun _ _ _ _ _ h => h
theorem ST.ld {h : Heap} {SB : Nat} {st : List (Option Mt)} {P n : Nat} (H : ST h SB st P n) {i : Nat} {o : Option Mt} (hi : st[i]? = some o) : ld1 h ⟨SB, 0, 0 + i * 1⟩ = some (stC P o) :=
 ld1_at H.hd (by rw [Nat.zero_add, Nat.mul_one, List.getElem?_map, hi]; rfl) (by cases o <;> rfl)
theorem ST.put {h : Heap} {SB : Nat} {st : List (Option Mt)} {P n : Nat} (H : ST h SB st P n) {i : Nat} (hi : i < st.length) {m : Mt} (hm : HM h m P n) (hs : SB ∉ m.own) (hd : ∀ (j : Nat) (m' : Mt), st[j]? = some (some m') → ∀ b ∈ m'.own, b ∉ m.own) :
 ∃ h', st1 h ⟨SB, 0, 0 + i * 1⟩ (.sl (.pos ⟨m.B, 0, 0⟩) P) = some h' ∧ Kp (· = SB) h h' ∧ h'.length = h.length ∧ ST h' SB (st.set i (some m)) P n := by
 have kp := kp_set (· = SB) SB h (.cells ((st.set i (some m)).map (stC P)) (.grow 1) 0) rfl
 refine ⟨_, ?_, kp, by simp, ⟨set_same H.hd, fun j m' hm' => ?_, fun j k m1 m2 hne h1 h2 => ?_, fun j m' hm' => ?_⟩⟩
 · rw [Nat.zero_add, Nat.mul_one, st1_at H.hd (by simp) (by rw [List.length_map]; exact hi), List.map_set]; rfl
 · rw [List.getElem?_set] at hm'
   split at hm'
   · cases hm'
     exact hm.kp kp fun b hb e => hs (e ▸ hb)
   · exact (H.mt j m' hm').kp kp fun b hb e => H.sb j m' hm' (e ▸ hb)
 · rw [List.getElem?_set] at h1 h2
   split at h1
   · rename_i e1
     cases h1
     rw [if_neg (by omega)] at h2
     intro b hb hb'
     exact hd k m2 h2 b hb' hb
   · split at h2
     · cases h2
       exact hd j m1 h1
     · exact H.nd j k m1 m2 hne h1 h2
 · rw [List.getElem?_set] at hm'
   split at hm'
   · cases hm'
     exact hs
   · exact H.sb j m' hm'
theorem ST.upd {h h' : Heap} {SB : Nat} {st : List (Option Mt)} {P n : Nat} (H : ST h SB st P n) {i : Nat} {m : Mt} (hi : st[i]? = some (some m)) (k : Kp (· ∈ m.own) h h') {L : List (List Bool)} (hm : HM h' ⟨m.B, m.qs, L⟩ P n) :
 ST h' SB (st.set i (some ⟨m.B, m.qs, L⟩)) P n := by
 have hil := (List.getElem?_eq_some_iff.1 hi).1
 have e : (st.set i (some ⟨m.B, m.qs, L⟩)).map (stC P) = st.map (stC P) := by
  rw [List.map_set]
  apply List.ext_getElem?
  intro j
  rw [List.getElem?_set]
  split
  · rename_i e; subst e
    rw [List.length_map, if_pos hil, List.getElem?_map, hi]; rfl
  · rfl
 have old : ∀ (j : Nat) (m' : Mt), (st.set i (some ⟨m.B, m.qs, L⟩))[j]? = some (some m') → ∃ m2, st[j]? = some (some m2) ∧ m'.own = m2.own ∧ (j = i → m' = ⟨m.B, m.qs, L⟩) ∧ (j ≠ i → m' = m2) := by
  intro j m' hj
  rw [List.getElem?_set] at hj
  split at hj
  · rename_i e; subst e
    cases hj
    exact ⟨m, hi, rfl, fun _ => rfl, fun h => absurd rfl h⟩
  · rename_i e
    exact ⟨m', hj, rfl, fun h => absurd h.symm e, fun _ => rfl⟩
 refine ⟨by rw [e]; exact k _ _ H.hd (H.sb i m hi), fun j m' hj => ?_, fun j k m1 m2 hne h1 h2 b hb => ?_, fun j m' hj => ?_⟩
 · obtain ⟨m2, a1, a2, a3, a4⟩ := old j m' hj
   by_cases hji : j = i
   · rw [a3 hji]; exact hm
   · rw [a4 hji]
     exact (H.mt j m2 a1).kp k fun b hb => H.nd j i m2 m hji a1 hi b hb
 · obtain ⟨n1, a1, a2, _⟩ := old j m1 h1
   obtain ⟨n2, b1, b2, _⟩ := old k m2 h2
   rw [a2] at hb
   rw [b2]
   exact H.nd j k n1 n2 hne a1 b1 b hb
 · obtain ⟨n1, a1, a2, _⟩ := old j m' hj
   rw [a2]
   exact H.sb j n1 a1
def WK (h : Heap) (W v : Nat) (l : List Nat) : Prop := ∃ c, h[W]? = some (.cells c (.grow 1) v) ∧ l.length ≤ c.length ∧ c.take l.length = l.map fun i => AV.int .i64 ((i : Nat) : Int)
theorem WK.kp {S : Nat → Prop} {h h' : Heap} {W v : Nat} {l : List Nat} (H : WK h W v l) (k : Kp S h h') (hs : ¬ S W) : WK h' W v l := by
 obtain ⟨c, h1, h2, h3⟩ := H
 exact ⟨c, k _ _ h1 hs, h2, h3⟩
theorem wk_flat (l : List Nat) : flatL (l.map fun i => AV.int .i64 ((i : Nat) : Int)) = true := by
 induction l with
 | nil => rfl
 | cons x l ih => simpa [flatL, flatA] using ih
theorem WK.last {h : Heap} {W v i : Nat} {l : List Nat} (H : WK h W v (l ++ [i])) : ld1 h ⟨W, v, 0 + l.length * 1⟩ = some (.int .i64 i) ∧ WK h W v l := by
 obtain ⟨c, h1, h2, h3⟩ := H
 rw [List.length_append, List.length_singleton] at h2 h3
 refine ⟨ld1_at h1 ?_ rfl, c, h1, by omega, ?_⟩
 · have := congrArg (fun z => z[l.length]?) h3
   simp only [List.getElem?_take, List.map_append, List.map_cons, List.map_nil] at this
   rw [if_pos (by omega)] at this
   rw [Nat.zero_add, Nat.mul_one, this]
   simp
 · have := congrArg (fun z => z.take l.length) h3
   simp only [List.take_take, List.map_append] at this
   rw [Nat.min_eq_left (by omega), List.take_left' (by simp)] at this
   exact this
theorem splice_one : ∀ (c : List AV) (k : Nat) (x : AV), k < c.length → (splice k [x] c).take (k + 1) = c.take k ++ [x] ∧ (splice k [x] c).length = c.length
 | [], k, x, h => by simp at h
 | y :: c, 0, x, h => by cases c <;> simp [splice]
 | y :: c, k + 1, x, h => by
  obtain ⟨h1, h2⟩ := splice_one c k x (by simpa using h)
  simp [splice, h1, h2]
theorem WK.push {h : Heap} {W v : Nat} {l : List Nat} (H : WK h W v l) (i : Nat) (hl : l.length ≤ 10000000000000) :
 ∃ h' v', apnd h (.sl (.pos ⟨W, v, 0⟩) l.length) 1 8 [.int .i64 i] 1 = some (.sl (.pos ⟨W, v', 0⟩) (l.length + 1), h') ∧ Kp (· = W) h h' ∧ h'.length = h.length ∧ WK h' W v' (l ++ [i]) := by
 obtain ⟨c, h1, h2, h3⟩ := H
 by_cases hc : l.length + 1 ≤ c.length
 · obtain ⟨s1, s2⟩ := splice_one c l.length (.int .i64 i) (by omega)
   refine ⟨h.set W (.cells (splice l.length [.int .i64 i] c) (.grow 1) v), v, ?_, kp_set _ _ _ _ rfl, by simp, _, set_same h1, by simp; omega, ?_⟩
   · simp only [apnd, h1]
     rw [if_pos ⟨trivial, trivial, by omega, by omega⟩, if_pos (by omega), Nat.zero_add, Nat.mul_one]
   · rw [List.length_append, List.length_singleton, s1, h3]; simp
 · have ce : c.length = l.length := by omega
   have ct : c.take l.length = c := List.take_of_length_le (by omega)
   rw [ct] at h3
   refine ⟨h.set W (.cells (c ++ [.int .i64 i]) (.grow 1) (v + 1)), v + 1, ?_, kp_set _ _ _ _ rfl, by simp, _, set_same h1, by simp [ce], ?_⟩
   · simp only [apnd, h1]
     rw [if_pos ⟨trivial, trivial, by omega, by omega⟩, if_neg (by omega), List.drop_zero, Nat.mul_one, ct, if_pos (by rw [h3]; exact wk_flat l)]
   · rw [List.length_append, List.length_singleton, List.take_of_length_le (by simp [ce]), h3]; simp
def wt (P n : Nat) : Option Mt → Nat
 | none => P * n + 1
 | some m => P * n - offsL m.L
def wts (P n : Nat) (st : List (Option Mt)) : Nat := (st.map (wt P n)).foldr (· + ·) 0
theorem wts_set (P n : Nat) : ∀ (st : List (Option Mt)) (i : Nat) (o o' : Option Mt), st[i]? = some o → wts P n (st.set i o') + wt P n o = wts P n st + wt P n o'
 | [], i, o, o', h => by simp at h
 | x :: st, 0, o, o', h => by
  simp at h
  subst h
  simp only [wts, List.set_cons_zero, List.map_cons, List.foldr_cons]
  omega
 | x :: st, i + 1, o, o', h => by
  have := wts_set P n st i o o' (by simpa using h)
  simp only [wts, List.set_cons_succ, List.map_cons, List.foldr_cons] at this ⊢
  omega
theorem offs_len (l : List Bool) : offs l ≤ l.length := List.length_filter_le _ _
theorem offsL_len {n : Nat} : ∀ (L : List (List Bool)), (∀ M ∈ L, M.length = n) → offsL L ≤ L.length * n
 | [], _ => by simp [offsL]
 | M :: L, h => by
  have h1 := offsL_len L fun M hM => h M (.tail _ hM)
  have h2 := offs_len M
  have h3 := h M (.head _)
  have e : offsL (M :: L) = offs M + offsL L := rfl
  rw [e, List.length_cons, Nat.add_mul]
  omega
theorem HM.offs {h : Heap} {m : Mt} {P n : Nat} (H : HM h m P n) : offsL m.L ≤ P * n := by
 rw [← H.ll]
 refine offsL_len m.L fun M hM => ?_
 obtain ⟨j, hj, he⟩ := List.getElem_of_mem hM
 have h1 := H.lq
 have h2 := H.ll
 obtain ⟨q, hq⟩ := at_lt (l := m.qs) (i := j) (by omega)
 exact (H.cell j q M hq (by rw [List.getElem?_eq_getElem hj, he])).2
end Go.Proofs.Ytnmdadadjneaiaa.D
/- alloccheck: the ends of a block are carried on. -/
set_option linter.unusedVariables false
set_option linter.unusedSimpArgs false
namespace Go.Proofs.Ytnmdadadjneaiaa.D
open Go Go.Proofs.Ytnmdadadjneaiaa.Abs Go.Proofs
structure Wd (h0 h : Heap) (SB W v : Nat) (st : List (Option Mt)) (l : List Nat) (P n : Nat) : Prop where
 o : Old h0 h
 s : ST h SB st P n
 w : WK h W v l
 sb : h0.length ≤ SB
 wb : h0.length ≤ W
 ne : SB ≠ W
 ob : ∀ (i : Nat) (m : Mt), st[i]? = some (some m) → ∀ b ∈ m.own, h0.length ≤ b ∧ b ≠ W
 there : ∀ i ∈ l, ∃ m, st[i]? = some (some m)
theorem Wd.old {h0 h h' : Heap} {SB W v : Nat} {st : List (Option Mt)} {l : List Nat} {P n : Nat} (H : Wd h0 h SB W v st l P n) (k : Old h h') : Wd h0 h' SB W v st l P n :=
 ⟨H.o.trans k, H.s.old k, H.w.kp (k.kp fun _ => False) (fun h => h), H.sb, H.wb, H.ne, H.ob, H.there⟩
theorem WK.lt {h : Heap} {W v : Nat} {l : List Nat} (H : WK h W v l) : W < h.length := by
 obtain ⟨c, h1, _⟩ := H
 exact (List.getElem?_eq_some_iff.1 h1).1
theorem Wd.push {h0 h : Heap} {SB W v : Nat} {st : List (Option Mt)} {l : List Nat} {P n : Nat} (H : Wd h0 h SB W v st l P n) (t : Nat) (hl : l.length ≤ 10000000000000) (ht : ∃ m, st[t]? = some (some m)) :
 ∃ h' v', Kp (· = W) h h' ∧ h.length ≤ h'.length ∧ Wd h0 h' SB W v' st (l ++ [t]) P n ∧
  ∀ (i2x0 : Int) (s2x1 : SA) (n2x1 : Nat) (i2x2 : Int) (s2x3 : SA) (n2x3 : Nat) (p6 : Option Ad) (s8 : SA) (n8 : Nat) (s13 : SA) (n13 : Nat) (s111 : SA) (n111 : Nat) (i112 i113 : Int) (Q : Kont (AV × Heap)),
   J16x71 mk0 E i2x0 s2x1 n2x1 i2x2 s2x3 n2x3 p6 s8 n8 (.pos ⟨W, v, 0⟩) l.length s13 n13 ((t : Nat) : Int) s111 n111 i112 i113 h Q = J16x72 mk0 E i2x0 s2x1 n2x1 i2x2 s2x3 n2x3 p6 s8 n8 (.pos ⟨W, v', 0⟩) (l ++ [t]).length s13 n13 s111 n111 i112 i113 h' Q := by
 obtain ⟨h', v', a1, a2, a3, a4⟩ := (H.w.kp ((old_app h [.cells [.int .i64 ((t : Nat) : Int)] (.grow 1) 0]).kp fun _ => False) (fun h => h)).push t hl
 have kp : Kp (· = W) h h' := fun q x hq hn => a2 q x (app_old hq) hn
 refine ⟨h', v', kp, by rw [a3, List.length_append]; omega, ⟨kp.old H.o fun q hq e => by have := H.wb; omega, H.s.kp kp H.ne fun i m hm b hb => (H.ob i m hm b hb).2, a4, H.sb, H.wb, H.ne, H.ob, fun i hi => ?_⟩, ?_⟩
 · rcases List.mem_append.1 hi with hi | hi
   · exact H.there i hi
   · rw [List.mem_singleton] at hi
     subst hi; exact ht
 · intros
   have ld : ldSl (h ++ [.cells [.int .i64 ((t : Nat) : Int)] (.grow 1) 0]) (.pos ⟨h.length, 0, 0⟩) (1 * 1) = some [.int .i64 ((t : Nat) : Int)] := ldSl_at (last_get _ _) rfl rfl
   rw [J16x71xeq, newK_eq, ld, Option.bind_some, a1, Option.bind_some, gL_of, List.length_append, List.length_singleton]
structure Tr (P n : Nat) (g' : Nat → Nat → Bool) (to : List Int) (st : List (Option Mt)) (l : List Nat) (st' : List (Option Mt)) (l' : List Nat) : Prop where
 len : st'.length = st.length
 ge : ∀ (k : Nat) (m : Mt), st[k]? = some (some m) → ∃ m', st'[k]? = some (some m') ∧ LeG (gg m'.L) (gg m.L)
 sub : ∀ k ∈ l, k ∈ l'
 same : ∀ k, k ∉ l' → st'[k]? = st[k]?
 acc : ∀ (k : Nat) (m' : Mt) (X : Nat → Nat → Bool), st'[k]? = some (some m') → (∀ m, st[k]? = some (some m) → LeG X (gg m.L)) → ((∃ t ∈ to, t.toNat = k) → LeG X g') → LeG X (gg m'.L)
 new : ∀ (k : Nat) (m' : Mt), st'[k]? = some (some m') → (∃ m, st[k]? = some (some m)) ∨ ∃ t ∈ to, t.toNat = k
 ms : 2 * wts P n st' + l'.length ≤ 2 * wts P n st + l.length
theorem Tr.refl (P n : Nat) (g' : Nat → Nat → Bool) (to : List Int) (st : List (Option Mt)) (l : List Nat) : Tr P n g' to st l st l :=
 ⟨rfl, fun k m h => ⟨m, h, LeG.refl _⟩, fun k h => h, fun k _ => rfl, fun k m' X h1 h2 _ => h2 m' h1, fun k m' h => .inl ⟨m', h⟩, Nat.le_refl _⟩
theorem Tr.trans {P n : Nat} {g' : Nat → Nat → Bool} {to : List Int} {st l st1 l1 st2 l2} (a : Tr P n g' to st l st1 l1) (b : Tr P n g' to st1 l1 st2 l2) : Tr P n g' to st l st2 l2 := by
 refine ⟨b.len.trans a.len, fun k m h => ?_, fun k h => b.sub k (a.sub k h), fun k h => ?_, fun k m' X h1 h2 h3 => ?_, fun k m' h => ?_, Nat.le_trans b.ms a.ms⟩
 · obtain ⟨m1, h1, h2⟩ := a.ge k m h
   obtain ⟨m2, h3, h4⟩ := b.ge k m1 h1
   exact ⟨m2, h3, h4.trans h2⟩
 · rw [b.same k h, a.same k fun hk => h (b.sub k hk)]
 · exact b.acc k m' X h1 (fun m hm => a.acc k m X hm h2 h3) h3
 · rcases b.new k m' h with ⟨m1, h1⟩ | h1
   · exact a.new k m1 h1
   · exact .inr h1
theorem Tr.one {P n : Nat} {g' : Nat → Nat → Bool} {to : List Int} {st : List (Option Mt)} {l : List Nat} {t : Int} (ht : t ∈ to) {o : Option Mt} (ho : st[t.toNat]? = some o) {m' : Mt} (hle : ∀ m, o = some m → LeG (gg m'.L) (gg m.L))
 (hacc : ∀ X, (∀ m, o = some m → LeG X (gg m.L)) → LeG X g' → LeG X (gg m'.L)) (hw : wt P n (some m') < wt P n o) : Tr P n g' to st l (st.set t.toNat (some m')) (l ++ [t.toNat]) := by
 have hl := (List.getElem?_eq_some_iff.1 ho).1
 have gs : ∀ k : Nat, (st.set t.toNat (some m'))[k]? = if t.toNat = k then some (some m') else st[k]? := fun k => by
  rw [List.getElem?_set]
  by_cases e : t.toNat = k
  · rw [if_pos e, if_pos e, if_pos hl]
  · rw [if_neg e, if_neg e]
 refine ⟨by simp, fun k m h => ?_, fun k h => List.mem_append_left _ h, fun k h => ?_, fun k m2 X h1 h2 h3 => ?_, fun k m2 h => ?_, ?_⟩
 · rw [gs]
   by_cases e : t.toNat = k
   · subst e
     rw [if_pos rfl]
     rw [ho] at h; cases h
     exact ⟨m', rfl, hle m rfl⟩
   · rw [if_neg e]; exact ⟨m, h, LeG.refl _⟩
 · rw [gs, if_neg (fun e => h (by rw [e]; simp))]
 · rw [gs] at h1
   by_cases e : t.toNat = k
   · subst e
     rw [if_pos rfl] at h1
     cases h1
     exact hacc X (fun m hm => h2 m (by rw [ho, hm])) (h3 ⟨t, ht, rfl⟩)
   · rw [if_neg e] at h1; exact h2 m2 h1
 · rw [gs] at h
   by_cases e : t.toNat = k
   · exact .inr ⟨t, ht, e⟩
   · rw [if_neg e] at h; exact .inl ⟨m2, h⟩
 · have := wts_set P n st t.toNat o (some m') ho
   rw [List.length_append, List.length_singleton]
   omega
theorem edge_loop {h0 : Heap} {x : VB} (R : x.R h0) {P n SB W : Nat} (hP : P ≤ 1000000) (h0n : 0 < n) (hn8 : n ≤ 8192) (hl : x.e.to.length ≤ 2) {m : Mt} {N : Nat} (hto : ∀ t ∈ x.e.to, 1 ≤ t ∧ t < (N : Int))
 (i2x0 : Int) (s2x1 : SA) (n2x1 : Nat) (i2x2 : Int) (s2x3 : SA) (n2x3 : Nat) (p6 : Option Ad) (Q : Kont (AV × Heap)) :
 ∀ (k j : Nat), j + k = x.e.to.length → ∀ (h : Heap) (st : List (Option Mt)) (l : List Nat) (v : Nat), Wd h0 h SB W v st l P n → st.length = N → HM h m P n → (∀ b ∈ m.own, h0.length ≤ b ∧ b ≠ SB ∧ b ≠ W) → (∀ (i : Nat) (m' : Mt), st[i]? = some (some m') → ∀ b ∈ m'.own, b ∉ m.own) → 2 * wts P n st + l.length ≤ 10000000000000 →
  ∃ h' st' l' v', L16x56 mk0 E i2x0 s2x1 n2x1 i2x2 s2x3 n2x3 p6 (.pos ⟨SB, 0, 0⟩) N (.pos ⟨W, v, 0⟩) l.length (.pos ⟨m.B, 0, 0⟩) P x.e.s x.e.to.length ((x.e.to.length : Nat) : Int) ((j : Nat) : Int) h Q = Q (.exit 6) (S16xe6 i2x0 s2x1 n2x1 i2x2 s2x3 n2x3 p6 (.pos ⟨SB, 0, 0⟩) N (.pos ⟨W, v', 0⟩) l'.length h') ∧
   Wd h0 h' SB W v' st' l' P n ∧ Tr P n (gg m.L) x.e.to st l st' l' ∧ ∀ t ∈ x.e.to.drop j, ∃ mt, st'[t.toNat]? = some (some mt) ∧ LeG (gg mt.L) (gg m.L) := by
 intro k
 induction k with
 | zero =>
  intro j hj h st l v H hN hm hb hd hms
  rw [L16x56xeq, letK_eq, if_neg (by simp; omega), List.drop_eq_nil_of_le (by omega)]
  exact ⟨h, st, l, v, rfl, H, Tr.refl .., by simp⟩
 | succ k ih =>
  intro j hj h st l v H hN hm hb hd hms
  obtain ⟨t, ht⟩ := at_lt (l := x.e.to) (i := j) (by omega)
  have htm := List.mem_of_getElem? ht
  obtain ⟨t0, t1⟩ := hto t htm
  obtain ⟨a, ha, la⟩ := vs_ld1 (g := AV.int .i64) (vs_old R.e H.o) (fun _ => rfl) _ t ht
  obtain ⟨o, ho⟩ := at_lt (l := st) (i := t.toNat) (by omega)
  have ld := H.s.ld ho
  rw [L16x56xeq, letK_eq, if_pos (by simp; omega), chk_of (by intro _; omega), ha, atP_of, Int.toNat_natCast, la, gI_of, chk_of (by intro _; omega), adP_pos, atP_of, add_mk, ld]
  have fin : ∀ (h1 : Heap) (st1 : List (Option Mt)) (l1 : List Nat) (v1 : Nat), Wd h0 h1 SB W v1 st1 l1 P n → HM h1 m P n → (∀ (i : Nat) (m' : Mt), st1[i]? = some (some m') → ∀ b ∈ m'.own, b ∉ m.own) → Tr P n (gg m.L) x.e.to st l st1 l1 → (∃ mt, st1[t.toNat]? = some (some mt) ∧ LeG (gg mt.L) (gg m.L)) →
   ∃ h' st' l' v', J16x72 mk0 E i2x0 s2x1 n2x1 i2x2 s2x3 n2x3 p6 (.pos ⟨SB, 0, 0⟩) N (.pos ⟨W, v1, 0⟩) l1.length (.pos ⟨m.B, 0, 0⟩) P x.e.s x.e.to.length ((x.e.to.length : Nat) : Int) ((j : Nat) : Int) h1 Q = Q (.exit 6) (S16xe6 i2x0 s2x1 n2x1 i2x2 s2x3 n2x3 p6 (.pos ⟨SB, 0, 0⟩) N (.pos ⟨W, v', 0⟩) l'.length h') ∧
    Wd h0 h' SB W v' st' l' P n ∧ Tr P n (gg m.L) x.e.to st l st' l' ∧ ∀ t ∈ x.e.to.drop j, ∃ mt, st'[t.toNat]? = some (some mt) ∧ LeG (gg mt.L) (gg m.L) := by
   intro h1 st1 l1 v1 H1 hm1 hd1 T1 ⟨mt, hmt, hle⟩
   rw [J16x72xeq, letK_eq, wrap64 (by omega) (by omega), show ((j : Int) + 1) = ((j + 1 : Nat) : Int) by omega]
   have ms := T1.ms
   obtain ⟨h', st', l', v', r1, r2, r3, r4⟩ := ih (j + 1) (by omega) h1 st1 l1 v1 H1 (by have := T1.len; omega) hm1 hb hd1 (by omega)
   refine ⟨h', st', l', v', r1, r2, T1.trans r3, fun t' ht' => ?_⟩
   rw [drop_at ht] at ht'
   rcases List.mem_cons.1 ht' with rfl | ht'
   · obtain ⟨m2, b1, b2⟩ := r3.ge _ mt hmt
     exact ⟨m2, b1, b2.trans hle⟩
   · exact r4 t' ht'
  cases o with
  | none =>
   obtain ⟨h1, m1, c1, c2, c3, c4, c5⟩ := clone_ok hm hP h0n hn8
   have H1 := H.old c2
   have hlt := H.s.hd
   have SBl : SB < h.length := (List.getElem?_eq_some_iff.1 hlt).1
   have Wl := H.w.lt
   have h0l := H.o.le
   have own1 : ∀ (j : Nat) (m' : Mt), st[j]? = some (some m') → ∀ b ∈ m'.own, b ∉ m1.own := fun j m' hj b hb hb1 => by
    have h1 := (H.s.mt j m' hj).lt b hb
    have h2 := c4 b hb1
    omega
   obtain ⟨h2, p1, p2, p3, p4⟩ := H1.s.put (i := t.toNat) (by omega) c3 (fun e => by have := c4 _ e; omega) own1
   have hmB : ∀ b ∈ m.own, b ≠ SB := fun b hb' => (hb b hb').2.1
   have gs : ∀ k : Nat, (st.set t.toNat (some m1))[k]? = if t.toNat = k then some (some m1) else st[k]? := fun k => by
    rw [List.getElem?_set]
    by_cases e : t.toNat = k
    · rw [if_pos e, if_pos e, if_pos (by omega)]
    · rw [if_neg e, if_neg e]
   have H2 : Wd h0 h2 SB W v (st.set t.toNat (some m1)) l P n := by
    refine ⟨p2.old H1.o fun q hq e => by have := H.sb; omega, p4, H1.w.kp p2 (fun e => H.ne e.symm), H.sb, H.wb, H.ne, fun i m' hi b hb' => ?_, fun i hi => ?_⟩
    · rw [gs] at hi
      by_cases e : t.toNat = i
      · rw [if_pos e] at hi; cases hi
        have := c4 b hb'
        exact ⟨by omega, by omega⟩
      · rw [if_neg e] at hi; exact H.ob i m' hi b hb'
    · obtain ⟨m', hm'⟩ := H.there i hi
      rw [gs]
      by_cases e : t.toNat = i
      · rw [if_pos e]; exact ⟨_, rfl⟩
      · rw [if_neg e]; exact ⟨m', hm'⟩
   have hm2 : HM h2 m P n := (hm.old c2).kp p2 fun b hb' e => hmB b hb' e
   obtain ⟨h3, v3, q1, q2, q3, q4⟩ := H2.push t.toNat (by omega) ⟨m1, by rw [gs, if_pos rfl]⟩
   rw [show ((t.toNat : Nat) : Int) = t by omega] at q4
   show ∃ h' st' l' v', (gL (some (AV.sl .nil 0)) true _ : Option _) = _ ∧ _
   rw [gL_of, letK_eq, if_pos (show SA.isNil .nil = true from rfl), c1, Option.bind_some, gL_of, chk_of (by intro _; omega), atP_of, add_mk, p1, Option.bind_some, q4]
   refine fin h3 _ _ v3 q3 (hm2.kp q1 fun b hb' e => (hb b hb').2.2 e) (fun i m' hi b hb' => ?_) (Tr.one htm ho (by simp) (fun X _ hX => by rw [c5]; exact hX) (by show P * n - offsL m1.L < P * n + 1; omega)) ⟨m1, by rw [gs, if_pos rfl], by rw [c5]; exact LeG.refl _⟩
   rw [gs] at hi
   by_cases e : t.toNat = i
   · rw [if_pos e] at hi; cases hi
     intro hb2
     have h1 := c4 b hb'
     have h2 := hm.lt b hb2
     omega
   · rw [if_neg e] at hi; exact hd i m' hi b hb'
  | some mt =>
   have Hmt := H.s.mt _ mt ho
   obtain ⟨h1, L', b', c1, c2, c3, c4, c5, c6, c7⟩ := meet_ok Hmt hm (fun b hb1 hb2 => hd _ mt ho b hb2 hb1) hP hn8
   have le1 : LeG (gg L') (gg mt.L) := fun p s hps => by rw [c5] at hps; exact (Bool.and_eq_true _ _ ▸ hps).1
   have le2 : LeG (gg L') (gg m.L) := fun p s hps => by rw [c5] at hps; exact (Bool.and_eq_true _ _ ▸ hps).2
   have h0o : Old h0 h1 := c2.base H.o fun b hb => (H.ob _ mt ho b hb).1
   have gs : ∀ k : Nat, (st.set t.toNat (some ⟨mt.B, mt.qs, L'⟩))[k]? = if t.toNat = k then some (some ⟨mt.B, mt.qs, L'⟩) else st[k]? := fun k => by
    rw [List.getElem?_set]
    by_cases e : t.toNat = k
    · rw [if_pos e, if_pos e, if_pos (by omega)]
    · rw [if_neg e, if_neg e]
   have H1 : Wd h0 h1 SB W v (st.set t.toNat (some ⟨mt.B, mt.qs, L'⟩)) l P n := by
    refine ⟨h0o, H.s.upd ho c2 c4, H.w.kp c2 (fun e => (H.ob _ mt ho _ e).2 rfl), H.sb, H.wb, H.ne, fun i m' hi b hb' => ?_, fun i hi => ?_⟩
    · rw [gs] at hi
      by_cases e : t.toNat = i
      · rw [if_pos e] at hi; cases hi
        exact H.ob _ mt ho b hb'
      · rw [if_neg e] at hi; exact H.ob i m' hi b hb'
    · obtain ⟨m', hm'⟩ := H.there i hi
      rw [gs]
      by_cases e : t.toNat = i
      · rw [if_pos e]; exact ⟨_, rfl⟩
      · rw [if_neg e]; exact ⟨m', hm'⟩
   have hm1 : HM h1 m P n := hm.kp c2 fun b hb1 hb2 => hd _ mt ho b hb2 hb1
   have hd1 : ∀ (i : Nat) (m' : Mt), (st.set t.toNat (some ⟨mt.B, mt.qs, L'⟩))[i]? = some (some m') → ∀ b ∈ m'.own, b ∉ m.own := fun i m' hi b hb' => by
    rw [gs] at hi
    by_cases e : t.toNat = i
    · rw [if_pos e] at hi; cases hi
      exact hd _ mt ho b hb'
    · rw [if_neg e] at hi; exact hd i m' hi b hb'
   show ∃ h' st' l' v', (gL (some (AV.sl (.pos ⟨mt.B, 0, 0⟩) P)) true _ : Option _) = _ ∧ _
   rw [gL_of, letK_eq, if_neg (by simp [SA.isNil]), chk_of (by intro _; omega), atP_of, add_mk, ld]
   show ∃ h' st' l' v', (gL (some (AV.sl (.pos ⟨mt.B, 0, 0⟩) P)) true _ : Option _) = _ ∧ _
   rw [gL_of, c1, Option.bind_some, gB_of]
   cases hb' : b' with
   | false =>
    have e := c7 hb'
    rw [if_pos (by simp)]
    have est : st.set t.toNat (some ⟨mt.B, mt.qs, L'⟩) = st := by
     apply List.ext_getElem?
     intro i
     rw [gs]
     by_cases ei : t.toNat = i
     · subst ei; rw [if_pos rfl, ho, e]
     · rw [if_neg ei]
    rw [est] at H1 hd1
    exact fin h1 st l v H1 hm1 hd1 (Tr.refl ..) ⟨mt, ho, by rw [← e]; exact le2⟩
   | true =>
    have e := c6 hb'
    rw [if_neg (by simp)]
    obtain ⟨h3, v3, q1, q2, q3, q4⟩ := H1.push t.toNat (by omega) ⟨_, by rw [gs, if_pos rfl]⟩
    rw [show ((t.toNat : Nat) : Int) = t by omega] at q4
    rw [q4]
    have of := c4.offs
    refine fin h3 _ _ v3 q3 (hm1.kp q1 fun b hb1 e => (hb b hb1).2.2 e) hd1 (Tr.one htm ho (fun m2 hm2 => by cases hm2; exact le1) (fun X h1 h2 p s hX => ?_) ?_) ⟨_, by rw [gs, if_pos rfl], le2⟩
    · show gg L' p s = true
      rw [c5]
      show (gg mt.L p s && gg m.L p s) = true
      rw [h1 mt rfl p s hX, h2 p s hX]; rfl
    · show P * n - offsL L' < P * n - offsL mt.L
      simp only at of
      omega
end Go.Proofs.Ytnmdadadjneaiaa.D
/- alloccheck.Accept. -/
set_option linter.unusedVariables false
set_option linter.unusedSimpArgs false
namespace Go.Proofs.Ytnmdadadjneaiaa.D
open Go Go.Proofs.Ytnmdadadjneaiaa.Abs Go.Proofs
theorem vs_part {α : Type} {f : α → List AV} {es n : Nat} {h : Heap} {s : SA} {l : List α} (H : VS f es h s n l) (i k w : Nat) (x : α) (y : List AV) (hi : l[i]? = some x) (hk : k + w ≤ es) (hy : ((f x).drop k).take w = y) (fy : flatL y = true) :
 ∃ a, adP s = some a ∧ ldN h (Ad.add (Ad.add a (i * es)) k) w = some y := by
 obtain ⟨hl, H | ⟨b, v, o, c, m, rfl, hb, hc⟩⟩ := H
 · have := (List.getElem?_eq_some_iff.1 hi).1
   omega
 · obtain ⟨h1, h2⟩ := hc i x hi
   refine ⟨_, rfl, ?_⟩
   have e : (c.drop (o + i * es + k)).take w = y := by
    rw [← hy, ← h2, List.drop_take, List.drop_drop, List.take_take, Nat.min_eq_left (by omega)]
   simp only [ldN, Ad.add, hb]
   rw [if_pos ⟨trivial, by omega, by rw [e]; exact fy⟩, e]
structure MI (f : VF) (a : VA) (h0 h : Heap) (SB W v : Nat) (st : List (Option Mt)) (l : List Nat) (P n : Nat) : Prop where
 wd : Wd h0 h SB W v st l P n
 len : st.length = f.blocks.length
 i1 : ∀ T S, Acc f a T S → ∀ (i : Nat) (m : Mt), st[i]? = some (some m) → T i ∧ LeG (S i) (gg m.L)
 i2 : ∀ (i : Nat) (m : Mt) (x : VB), st[i]? = some (some m) → i ∉ l → f.blocks[i]? = some x → ∃ g', runG a x.ins (gg m.L) = some g' ∧ useG a g' (endL x.e) = true ∧ ∀ t ∈ x.e.to, ∃ mt, st[t.toNat]? = some (some mt) ∧ LeG (gg mt.L) g'
 i0 : ∃ m0, st[0]? = some (some m0) ∧ LeG (gg m0.L) (initG f a)
theorem MI.done {f : VF} {a : VA} {h0 h : Heap} {SB W v : Nat} {st : List (Option Mt)} {P n : Nat} (H : MI f a h0 h SB W v st [] P n) : accepts f a := by
 obtain ⟨m0, h1, h2⟩ := H.i0
 refine ⟨fun i => ∃ m, st[i]? = some (some m), fun i => match st[i]? with | some (some m) => gg m.L | _ => fun _ _ => false, ⟨⟨m0, h1⟩, ?_, fun i x ⟨m, hm⟩ hx => ?_⟩⟩
 · simp only [h1]; exact h2
 · obtain ⟨g', r1, r2, r3⟩ := H.i2 i m x hm (by simp) hx
   refine ⟨g', by simp only [hm]; exact r1, r2, fun t ht => ?_⟩
   obtain ⟨mt, e1, e2⟩ := r3 t ht
   exact ⟨⟨mt, e1⟩, by simp only [e1]; exact e2⟩
theorem main_loop {h0 : Heap} {c : Nat} {f : VF} {a : VA} (C : CK h0 c f a) (A : a.R h0) (R : f.R h0) (fo : f.ok) (ok : a.ok f.regs) {P n SB W : Nat} (hn : ((n : Nat) : Int) = f.regs) (hP : ((P : Nat) : Int) = 11 + a.slots) :
 ∀ (φ : Nat) (h : Heap) (st : List (Option Mt)) (l : List Nat) (v : Nat), 2 * wts P n st + l.length ≤ φ → φ ≤ 10000000000000 → MI f a h0 h SB W v st l P n →
  ∃ h', ∃ e : Int, L16x25 mk0 E f.nm f.sp f.params.length f.regs f.sb f.blocks.length (some ⟨c, 0, 0⟩) (.pos ⟨SB, 0, 0⟩) f.blocks.length (.pos ⟨W, v, 0⟩) l.length h (Q16x25 mk0 E) = some (.int .i64 e, h') ∧ Old h0 h' ∧ (e = 0 ∨ e = 14) ∧ (e = 0 ↔ accepts f a) := by
 have hsl := ok.sl
 have fr := fo.regs
 have okB := okB_of fr.1 fo.blk fo.sum
 have nb := fo.nb
 intro φ
 induction φ with
 | zero =>
  intro h st l v hφ _ H
  have : l = [] := List.length_eq_zero_iff.1 (by omega)
  subst this
  rw [L16x25xeq, letK_eq, if_neg (by simp), X16x25xe2]
  exact ⟨h, 0, rfl, H.wd.o, .inl rfl, fun _ => H.done, fun _ => rfl⟩
 | succ φ ih =>
  intro h st l v hφ hφ2 H
  rcases List.eq_nil_or_concat l with rfl | ⟨l0, i, rfl⟩
  · rw [L16x25xeq, letK_eq, List.length_nil, if_neg (by simp), X16x25xe2]
    exact ⟨h, 0, rfl, H.wd.o, .inl rfl, fun _ => H.done, fun _ => rfl⟩
  rw [List.concat_eq_append] at hφ H ⊢
  rw [List.length_append, List.length_singleton] at hφ
  obtain ⟨w1, w2⟩ := H.wd.w.last
  obtain ⟨m, hm⟩ := H.wd.there i (by simp)
  have hil := (List.getElem?_eq_some_iff.1 hm).1
  have hlen := H.len
  obtain ⟨x, hx⟩ := at_lt (l := f.blocks) (i := i) (by omega)
  have hxm := List.mem_of_getElem? hx
  have okx := okB x hxm
  have blx := fo.blk x hxm
  obtain ⟨_, _, toE, _, _, toR⟩ := end_of (by omega) blx.2
  have Hm := H.wd.s.mt i m hm
  have ldm := H.wd.s.ld hm
  obtain ⟨h1, m1, c1, c2, c3, c4, c5⟩ := clone_ok Hm (by omega) (by omega) (by omega)
  have W1 := H.wd.old c2
  have le0 := H.wd.o.le
  have le1 := c2.le
  obtain ⟨ab, hab, lab⟩ := vs_cell (vs_old R.b W1.o) i 0 x (.sl x.s x.ins.length) hx (by omega) rfl rfl
  have sm := sumI_mem hxm
  have fs := fo.sum
  rw [L16x25xeq, letK_eq, List.length_append, List.length_singleton, if_pos (by simp), letK_eq, wrap64 (by omega) (by omega), show ((l0.length + 1 : Nat) : Int) - 1 = ((l0.length : Nat) : Int) by omega, chk_of (by intro _; omega), adP_pos, atP_of, Int.toNat_natCast, add_mk, w1, gI_of, letK_eq, chkC_of (by intro _; exact ⟨by omega, .inl (by omega)⟩), letK_eq,
   chk_of (by intro _; omega), adP_pos, atP_of, Int.toNat_natCast, Int.toNat_natCast, add_mk, ldm]
  show ∃ h', ∃ e : Int, (gL (some (AV.sl (.pos ⟨m.B, 0, 0⟩) P)) true _ : Option _) = _ ∧ _
  rw [gL_of, c1, Option.bind_some, gL_of, chk_of (by intro _; omega), hab, atP_of, lab, gL_of]
  have sep1 : ∀ b ∈ m1.own, h0.length ≤ b := fun b hb => by have := c4 b hb; omega
  obtain ⟨h2, IL⟩ := insns_loop C A (R.r x hxm) ok hn (by omega) (by omega) hP (fun y hy => by have := okx.ins y hy; rw [show f.regs.toNat = n by omega] at this; exact this) (by omega) f.nm f.sp f.params.length f.regs f.sb f.blocks.length (.pos ⟨SB, 0, 0⟩) f.blocks.length (.pos ⟨W, v, 0⟩) l0.length ((i : Nat) : Int) (Q16x37 mk0 E (Q16x25 mk0 E)) x.ins.length 0 (by omega) h1 m1 W1.o c3 sep1
  rw [show (((0 : Nat) : Int)) = 0 from rfl, List.drop_zero, c5] at IL
  rcases IL with ⟨r1, r2, r3⟩ | ⟨m2, r1, r2, r3, r4, r5, r6, r7⟩
  · rw [r2, X16x37xr, X16x25xr]
    refine ⟨h2, 14, rfl, r3, .inr rfl, by simp, fun ⟨T, S, hA⟩ => ?_⟩
    obtain ⟨t1, t2⟩ := H.i1 T S hA i m hm
    obtain ⟨g', s1, _⟩ := hA.stp i x t1 hx
    obtain ⟨k', s2, _⟩ := runG_mono x.ins t2 s1
    rw [r1] at s2; cases s2
  have o2 : Old h0 h2 := r6.base W1.o sep1
  have own2 : ∀ b ∈ m2.own, h.length ≤ b := fun b hb => by
   rcases r5 b hb with hb | hb
   · exact c4 b hb
   · omega
  obtain ⟨ac, hac, lac⟩ := vs_part (vs_old R.b o2) i 1 6 x x.e.cells hx (by omega) rfl rfl
  obtain ⟨h3, sE, u1, u2, u3, u4⟩ := endUses_ok x.e h2
  have el : (endL x.e).length ≤ 2 := List.length_filter_le _ [x.e.a, x.e.b]
  have o3 := o2.trans u2
  have ul := used_ok (o3 _ _ C) (A.old o3) ok (r3.old u2) hn hP u3 (by omega) (fun r hr => by have := okx.e r hr; omega)
  unfold VE.cells at lac u1
  rw [r2, X16x37xe4, chk_of (by intro _; omega), hac, atP_of, Int.toNat_natCast, lac, gCells_of]
  simp only [List.getElem?_cons_zero, List.getElem?_cons_succ]
  rw [gI_of, gI_of, gI_of, gI_of, gI_of, gL_of, u1, Option.bind_some, gL_of, ← r4, ul, Option.bind_some, gB_of]
  have acc : ∀ T S, Acc f a T S → useG a (gg m2.L) (endL x.e) = true ∧ ∀ t ∈ x.e.to, T t.toNat ∧ LeG (S t.toNat) (gg m2.L) := fun T S hA => by
   obtain ⟨t1, t2⟩ := H.i1 T S hA i m hm
   obtain ⟨g', s1, s2, s3⟩ := hA.stp i x t1 hx
   obtain ⟨k', e1, e2⟩ := runG_mono x.ins t2 s1
   rw [r1] at e1
   cases e1
   exact ⟨useG_mono e2 s2, fun t ht => ⟨(s3 t ht).1, (s3 t ht).2.trans e2⟩⟩
  cases hu : useG a (gg m2.L) (endL x.e) with
  | false =>
   rw [if_pos (by simp), X16x25xr]
   refine ⟨h3, 14, rfl, o3, .inr rfl, by simp, fun ⟨T, S, hA⟩ => ?_⟩
   rw [(acc T S hA).1] at hu; cases hu
  | true =>
   obtain ⟨ad, had, lad⟩ := vs_cell (vs_old R.b o3) i 6 x (.sl x.e.s x.e.to.length) hx (by omega) rfl rfl
   have Wl := H.wd.w.lt
   have SBl : SB < h.length := (List.getElem?_eq_some_iff.1 H.wd.s.hd).1
   have kp3 : Kp (· ∈ m1.own) h1 h3 := fun q z hq hno => u2 q z (r6 q z hq hno)
   have hno1 : ∀ b, b < h.length → b ∉ m1.own := fun b hb hm => by have := c4 b hm; omega
   have W3 : Wd h0 h3 SB W v st l0 P n :=
    ⟨o3, W1.s.kp kp3 (hno1 _ SBl) fun j mj hj b hb => hno1 b ((H.wd.s.mt j mj hj).lt b hb), (w2.kp (c2.kp fun _ => False) (fun h => h)).kp kp3 (hno1 _ Wl), H.wd.sb, H.wd.wb, H.wd.ne, H.wd.ob, fun j hj => H.wd.there j (by simp [hj])⟩
   have tl : x.e.to.length ≤ 2 := by
    have : manyE x.e.kind ≤ 2 := by
     unfold manyE
     split
     · omega
     · split <;> omega
    omega
   obtain ⟨h4, st', l', v', q1, q2, q3, q4⟩ := edge_loop (R.r x hxm) (by omega) (by omega) (by omega) tl toR f.nm f.sp f.params.length f.regs f.sb f.blocks.length (some ⟨c, 0, 0⟩) (Q16x56 mk0 E (Q16x25 mk0 E)) x.e.to.length 0 (by omega) h3 st l0 v W3 (by omega) (r3.old u2) (fun b hb => by have := own2 b hb; omega) (fun j mj hj b hb hb2 => by
    have := (H.wd.s.mt j mj hj).lt b hb
    have := own2 b hb2
    omega) (by omega)
   rw [show (((0 : Nat) : Int)) = 0 from rfl] at q1
   rw [List.drop_zero] at q4
   rw [add_add] at lad
   rw [hac] at had
   cases had
   rw [if_neg (by simp), chk_of (by intro _; omega), atP_of, add_add, add_add]
   have lad' : ld1 h3 (Ad.add ac (i * 7 + 1 + 5)) = some (.sl x.e.s x.e.to.length) := lad
   rw [lad', gL_of, q1, X16x56xe6]
   have ms := q3.ms
   refine ih h4 st' l' v' (by omega) (by omega) ⟨q2, by rw [q3.len, hlen], fun T S hA j mj hj => ?_, fun j mj y hj hjl hy => ?_, ?_⟩
   · have ac := acc T S hA
     refine ⟨?_, q3.acc j mj (S j) hj (fun m' hm' => (H.i1 T S hA j m' hm').2) fun ⟨t, ht, e⟩ => by rw [← e]; exact (ac.2 t ht).2⟩
     rcases q3.new j mj hj with ⟨m', hm'⟩ | ⟨t, ht, e⟩
     · exact (H.i1 T S hA j m' hm').1
     · rw [← e]; exact (ac.2 t ht).1
   · have hs := q3.same j hjl
     rw [hj] at hs
     by_cases hji : j = i
     · subst hji
       rw [hm] at hs
       cases hs
       rw [hx] at hy; cases hy
       exact ⟨_, r1, hu, q4⟩
     · have hjl0 : j ∉ l0 := fun h => hjl (q3.sub j h)
       obtain ⟨g', s1, s2, s3⟩ := H.i2 j mj y hs.symm (by simp [hjl0, hji]) hy
       refine ⟨g', s1, s2, fun t ht => ?_⟩
       obtain ⟨mt, e1, e2⟩ := s3 t ht
       obtain ⟨mt', e3, e4⟩ := q3.ge _ mt e1
       exact ⟨mt', e3, e4.trans e2⟩
   · obtain ⟨m0, e1, e2⟩ := H.i0
     obtain ⟨m0', e3, e4⟩ := q3.ge 0 m0 e1
     exact ⟨m0', e3, e4.trans e2⟩
end Go.Proofs.Ytnmdadadjneaiaa.D
/- alloccheck.Accept, whole. -/
set_option linter.unusedVariables false
set_option linter.unusedSimpArgs false
namespace Go.Proofs.Ytnmdadadjneaiaa.D
open Go Go.Proofs.Ytnmdadadjneaiaa.Abs Go.Proofs
def stepI (a : VA) (g : Nat → Nat → Bool) (r : Int) : Nat → Nat → Bool := defG g (placeV a r).toNat r.toNat fun _ => false
theorem init_loop {h0 : Heap} {f : VF} {a : VA} (R : f.R h0) (A : a.R h0) (ok : a.ok f.regs) (hp : ∀ r ∈ f.params, 1 ≤ r ∧ r < f.regs) (hpl : f.params.length ≤ 6) {P n SB N : Nat} (hn : ((n : Nat) : Int) = f.regs) (hn8 : n ≤ 8192) (hP : ((P : Nat) : Int) = 11 + a.slots) (hN : 0 < N) (hSB : h0.length ≤ SB) (p6 : Option Ad) (Q : Kont (AV × Heap)) :
 ∀ (k j : Nat), j + k = f.params.length → ∀ (h : Heap) (m : Mt) (c : List AV), Old h0 h → h[SB]? = some (.cells c (.grow 1) 0) → c[0]? = some (.sl (.pos ⟨m.B, 0, 0⟩) P) → HM h m P n → SB ∉ m.own → (∀ b ∈ m.own, h0.length ≤ b) →
  ∃ h' m', L16x14 mk0 E f.nm f.sp f.params.length f.regs f.sb f.blocks.length a.s0 a.reg.length a.s1 a.slot.length a.slots p6 (.pos ⟨SB, 0, 0⟩) N f.sp f.params.length ((f.params.length : Nat) : Int) ((j : Nat) : Int) h Q = Q (.exit 0) (S16xe0 f.nm f.sp f.params.length f.regs f.sb f.blocks.length p6 (.pos ⟨SB, 0, 0⟩) N h') ∧
   Old h0 h' ∧ h'[SB]? = some (.cells c (.grow 1) 0) ∧ HM h' m' P n ∧ m'.B = m.B ∧ SB ∉ m'.own ∧ (∀ b ∈ m'.own, h0.length ≤ b) ∧ gg m'.L = (f.params.drop j).foldl (stepI a) (gg m.L) ∧ h.length ≤ h'.length := by
 have hsl := ok.sl
 intro k
 induction k with
 | zero =>
  intro j hj h m c o hc hc0 H sb ob
  rw [L16x14xeq, letK_eq, if_neg (by simp; omega), List.drop_eq_nil_of_le (by omega)]
  exact ⟨h, m, rfl, o, hc, H, rfl, sb, ob, rfl, Nat.le_refl _⟩
 | succ k ih =>
  intro j hj h m c o hc hc0 H sb ob
  obtain ⟨r, hr⟩ := at_lt (l := f.params) (i := j) (by omega)
  obtain ⟨r0, r1⟩ := hp r (List.mem_of_getElem? hr)
  obtain ⟨b, hb, lb⟩ := vs_ld1 (g := AV.int .i64) (vs_old R.p o) (fun _ => rfl) _ r hr
  have ld : ld1 h ⟨SB, 0, 0 + Int.toNat 0 * 1⟩ = some (.sl (.pos ⟨m.B, 0, 0⟩) P) := ld1_at hc (by simpa using hc0) rfl
  have pl := place_ok (A.old o) ok (r := r) (by omega) (by omega)
  have pr := ok.place (r := r) (by omega) (by omega)
  obtain ⟨h1, m1, d1, d2, d3, d4, d5, d6, d7⟩ := define_ok H (p := (placeV a r).toNat) (r := r.toNat) (s3 := .nil) (n3 := 0) (A := fun _ => false) (by omega) (by omega) (by omega) hn8 (.inl ⟨rfl, rfl, fun _ => rfl⟩)
  rw [show (((placeV a r).toNat : Nat) : Int) = placeV a r by omega, show ((r.toNat : Nat) : Int) = r by omega] at d1
  have SBl : SB < h.length := (List.getElem?_eq_some_iff.1 hc).1
  have le0 := o.le
  unfold VA.cells at pl
  rw [L16x14xeq, letK_eq, if_pos (by simp; omega), chk_of (by intro _; omega), hb, atP_of, Int.toNat_natCast, lb, gI_of, chk_of (by intro _; omega), adP_pos, atP_of, add_mk, ld, gL_of, pl, Option.bind_some, gI_of, chkC_of (fun _ => rfl), d1, Option.bind_some, gT0_of, letK_eq, wrap64 (by omega) (by omega), show ((j : Int) + 1) = ((j + 1 : Nat) : Int) by omega]
  obtain ⟨h', m', u1, u2, u3, u4, u5, u6, u7, u8, u9⟩ := ih (j + 1) (by omega) h1 m1 c (d5.base o ob) (d5 _ _ hc sb) (by rw [d3]; exact hc0) d2 (fun e => by
   rcases d4 _ e with h | h
   · exact sb h
   · omega) (fun b hb => by
   rcases d4 b hb with h | h
   · exact ob b h
   · omega)
  refine ⟨h', m', u1, u2, u3, u4, u5.trans d3, u6, u7, ?_, by omega⟩
  rw [u8, drop_at hr, d7]; rfl
theorem accept_ok {h : Heap} {f : VF} {a : VA} (R : f.R h) (B : f.B) (A : a.R h) :
 ∃ h', ∃ e : Int, E 16 [.agg f.cells, .agg a.cells] h = some (.int .i64 e, h') ∧ Old h h' ∧ (e = 0 ↔ f.ok ∧ a.ok f.regs ∧ accepts f a) ∧ (f.ok ∧ a.ok f.regs → e = 0 ∨ e = 14) := by
 obtain ⟨h1, e1, c1, c2, c3⟩ := acheck_ok R B A
 unfold VF.cells VA.cells at c1 ⊢
 rw [e16, c1, Option.bind_some, gI_of, letK_eq]
 by_cases he : e1 = 0
 case neg =>
  rw [if_pos (by simp [he])]
  exact ⟨h1, e1, rfl, c2, ⟨fun h => absurd h he, fun h => absurd (c3.2 ⟨h.1, h.2.1⟩) he⟩, fun h => absurd (c3.2 h) he⟩
 obtain ⟨fo, ok⟩ := c3.1 he
 have fr := fo.regs
 have nb := fo.nb
 have b0 := fo.b0
 have hsl := ok.sl
 have hp : ∀ r ∈ f.params, 1 ≤ r ∧ r < f.regs := fun r hr => by
  obtain ⟨i, hi, e⟩ := List.getElem_of_mem hr
  have := (fo.par i r (by rw [List.getElem?_eq_getElem hi, e])).1
  omega
 rw [if_neg (by simp [he]), newK_eq, letK_eq, wrap64 (by omega) (by omega), chk_of (by omega), newK_eq, letK_eq]
 generalize hh0 : h1 ++ [Blk.cells [.int .i64 f.nm, .sl f.sp f.params.length, .int .i64 f.regs, .sl f.sb f.blocks.length, .sl a.s0 a.reg.length, .sl a.s1 a.slot.length, .int .i64 a.slots] .fix 0] = h0
 have C : CK h0 h1.length f a := by rw [← hh0]; exact last_get _ _
 have o01 : Old h1 h0 := by rw [← hh0]; exact old_app _ _
 have R0 := R.old (c2.trans o01)
 have A0 := A.old (c2.trans o01)
 obtain ⟨P, hP⟩ : ∃ P : Nat, ((P : Nat) : Int) = 11 + a.slots := ⟨(11 + a.slots).toNat, by omega⟩
 obtain ⟨n, hn⟩ : ∃ n : Nat, ((n : Nat) : Int) = f.regs := ⟨f.regs.toNat, by omega⟩
 have rp : repl (Int.toNat ((f.blocks.length : Nat) : Int)) [AV.sl .nil 0] = List.replicate f.blocks.length (.sl .nil 0) := by simp [repl]
 rw [rp, ← hP, ← hn]
 have oS : Old h0 (h0 ++ [.cells (List.replicate f.blocks.length (.sl .nil 0)) (.grow 1) 0]) := old_app _ _
 obtain ⟨h2, m, n1, n2, n3, n4, n5⟩ := newHolds_ok (h0 ++ [.cells (List.replicate f.blocks.length (.sl .nil 0)) (.grow 1) 0]) (P := P) (n := n) (by omega) (by omega)
 have hS : h2[h0.length]? = some (.cells (List.replicate f.blocks.length (.sl .nil 0)) (.grow 1) 0) := n2 _ _ (last_get _ _)
 have hst : st1 h2 ⟨h0.length, 0, 0 + Int.toNat 0 * 1⟩ (.sl (.pos ⟨m.B, 0, 0⟩) P) = some (h2.set h0.length (.cells ((List.replicate f.blocks.length (AV.sl .nil 0)).set 0 (.sl (.pos ⟨m.B, 0, 0⟩) P)) (.grow 1) 0)) := st1_at hS (by simp) (by simp; omega)
 rw [n1, Option.bind_some, gL_of, chk_of (by intro _; simp; omega), add_mk, hst, Option.bind_some, hn]
 have nS : h0.length ∉ m.own := fun e => by have := n4 _ e; simp at this; omega
 have lt2 : h0.length < h2.length := (List.getElem?_eq_some_iff.1 hS).1
 have kS := kp_set (· = h0.length) h0.length h2 (.cells ((List.replicate f.blocks.length (AV.sl .nil 0)).set 0 (.sl (.pos ⟨m.B, 0, 0⟩) P)) (.grow 1) 0) rfl
 have ob : ∀ b ∈ m.own, h0.length ≤ b := fun b hb => by have := n4 _ hb; simp at this; omega
 obtain ⟨h3, m', u1, u2, u3, u4, u5, u6, u7, u8, u9⟩ := init_loop R0 A0 ok hp fo.np hn (by omega) hP b0 (Nat.le_refl _) (some ⟨h1.length, 0, 0⟩) (Q16x14 mk0 E) f.params.length 0 (by omega) _ m _ (kS.old (oS.trans n2) fun q hq e => by omega) (set_same hS) (by rw [List.getElem?_set, if_pos rfl, if_pos (by rw [List.length_replicate]; exact b0)]) (n3.kp kS fun b hb e => nS (e ▸ hb)) nS ob
 rw [show (((0 : Nat) : Int)) = 0 from rfl] at u1
 rw [Int.toNat_natCast, u1, X16x14xe0, newK_eq]
 have cells : (List.replicate f.blocks.length (AV.sl .nil 0)).set 0 (.sl (.pos ⟨m.B, 0, 0⟩) P) = ((List.replicate f.blocks.length (none : Option Mt)).set 0 (some m')).map (stC P) := by
  rw [List.map_set, List.map_replicate]
  show _ = (List.replicate f.blocks.length (AV.sl .nil 0)).set 0 (.sl (.pos ⟨m'.B, 0, 0⟩) P)
  rw [u5]
 rw [cells] at u3
 have st0 : ∀ (i : Nat) (mm : Mt), ((List.replicate f.blocks.length (none : Option Mt)).set 0 (some m'))[i]? = some (some mm) → i = 0 ∧ mm = m' := fun i mm hi => by
  rw [List.getElem?_set] at hi
  split at hi
  · rename_i e
    split at hi
    · cases hi; exact ⟨e.symm, rfl⟩
    · cases hi
  · rw [List.getElem?_replicate] at hi
    split at hi
    · cases hi
    · cases hi
 have at0 : ((List.replicate f.blocks.length (none : Option Mt)).set 0 (some m'))[0]? = some (some m') := by
  rw [List.getElem?_set, if_pos rfl, if_pos (by simp; omega)]
 have lt3 : h0.length < h3.length := (List.getElem?_eq_some_iff.1 u3).1
 have oW : Old h3 (h3 ++ [.cells [.int .i64 0] (.grow 1) 0]) := old_app _ _
 have ginit : gg m'.L = initG f a := by
  rw [u8, n5, List.drop_zero]; rfl
 have le2 := n2.le
 have lt4 := u4.lt
 have mi : MI f a h0 (h3 ++ [.cells [.int .i64 0] (.grow 1) 0]) h0.length h3.length 0 ((List.replicate f.blocks.length (none : Option Mt)).set 0 (some m')) [0] P n := by
  refine ⟨⟨u2.trans oW, ⟨oW _ _ u3, fun i mm hi => ?_, fun i j m1 m2 hne h1 h2 => ?_, fun i mm hi => ?_⟩, ⟨_, last_get _ _, by simp, rfl⟩, Nat.le_refl _, u2.le, by omega, fun i mm hi b hb => ?_, fun i hi => ?_⟩, by simp, fun T S hA i mm hi => ?_, fun i mm x hi hni => ?_, ⟨m', at0, by rw [ginit]; exact LeG.refl _⟩⟩
  · obtain ⟨rfl, rfl⟩ := st0 i mm hi
    exact u4.old oW
  · have := (st0 i m1 h1).1
    have := (st0 j m2 h2).1
    omega
  · obtain ⟨rfl, rfl⟩ := st0 i mm hi
    exact u6
  · obtain ⟨rfl, rfl⟩ := st0 i mm hi
    exact ⟨u7 b hb, by have := lt4 b hb; omega⟩
  · rw [List.mem_singleton] at hi; subst hi
    exact ⟨m', at0⟩
  · obtain ⟨rfl, rfl⟩ := st0 i mm hi
    exact ⟨hA.t0, by rw [ginit]; exact hA.i0⟩
  · obtain ⟨rfl, rfl⟩ := st0 i mm hi
    exact absurd (List.mem_singleton.2 rfl) hni
 have wb : 2 * wts P n ((List.replicate f.blocks.length (none : Option Mt)).set 0 (some m')) + [0].length ≤ 10000000000000 := by
  have hw : ∀ (st : List (Option Mt)), wts P n st ≤ st.length * (P * n + 1) := by
   intro st
   induction st with
   | nil => simp [wts]
   | cons o st ih =>
    have e : wts P n (o :: st) = wt P n o + wts P n st := rfl
    have h1 : wt P n o ≤ P * n + 1 := by
     cases o with
     | none => exact Nat.le_refl _
     | some m => show P * n - offsL m.L ≤ _; omega
    rw [e, List.length_cons, Nat.add_mul]
    omega
  have := hw ((List.replicate f.blocks.length (none : Option Mt)).set 0 (some m'))
  rw [List.length_set, List.length_replicate] at this
  have h1 : P * n ≤ 8203 * 8192 := Nat.mul_le_mul (by omega) (by omega)
  have h2 : f.blocks.length * (P * n + 1) ≤ 4096 * (8203 * 8192 + 1) := Nat.mul_le_mul (by omega) (by omega)
  simp only [List.length_singleton]
  omega
 obtain ⟨h', e, r1, r2, r3, r4⟩ := main_loop C A0 R0 fo ok hn hP _ _ _ [0] 0 (Nat.le_refl _) wb mi
 refine ⟨h', e, r1, (c2.trans o01).trans r2, ⟨fun h => ⟨fo, ok, r4.1 h⟩, fun h => r4.2 h.2.2⟩, fun _ => r3⟩
end Go.Proofs.Ytnmdadadjneaiaa.D
