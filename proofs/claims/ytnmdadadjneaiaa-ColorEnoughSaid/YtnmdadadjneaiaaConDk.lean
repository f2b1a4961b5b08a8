/- Who is live where: ways to a use, and the least lists of marks. -/
import Derived.Test.YtnmdadadjneaiaaConDj
set_option linter.unusedVariables false
set_option linter.unusedSimpArgs false
namespace Go.Proofs.Ytnmdadadjneaiaa.D
open Go Go.Proofs.Ytnmdadadjneaiaa.Abs Go.Proofs
inductive LiveAt (f : VF) (r : Int) : Nat → Nat → Prop where
 | use {i k : Nat} {x : VB} {y : VI} : f.blocks[i]? = some x → x.ins[k]? = some y → r ∈ usesL y → LiveAt f r i k
 | skip {i k : Nat} {x : VB} {y : VI} : f.blocks[i]? = some x → x.ins[k]? = some y → defR y.op y.d ≠ r → LiveAt f r i (k + 1) → LiveAt f r i k
 | fin {i k : Nat} {x : VB} : f.blocks[i]? = some x → x.ins.length ≤ k → r ∈ endL x.e → LiveAt f r i k
 | jump {i k : Nat} {x : VB} {t : Int} : f.blocks[i]? = some x → x.ins.length ≤ k → t ∈ x.e.to → LiveAt f r t.toNat 0 → LiveAt f r i k
def livB (n : Nat) (L : List (List Bool)) (x : VB) (k : Nat) : List Bool := (x.ins.drop k).reverse.foldl stepB (mark (afterL L (List.replicate n false) x.e.to) (endL x.e))
theorem livB_step {n : Nat} {L : List (List Bool)} {x : VB} {k : Nat} {y : VI} (h : x.ins[k]? = some y) : livB n L x k = stepB (livB n L x (k + 1)) y := by
 unfold livB
 rw [drop_at h, List.reverse_cons, List.foldl_append]
 rfl
theorem livB_end {n : Nat} {L : List (List Bool)} {x : VB} {k : Nat} (h : x.ins.length ≤ k) : livB n L x k = mark (afterL L (List.replicate n false) x.e.to) (endL x.e) := by
 unfold livB
 rw [List.drop_eq_nil_of_le h]; rfl
theorem mark_true {rs : List Int} : ∀ {l : List Bool} {i : Nat}, (∀ r ∈ rs, 0 ≤ r) → (mark l rs)[i]? = some true → l[i]? = some true ∨ ((i : Nat) : Int) ∈ rs := by
 induction rs with
 | nil => intro l i _ h; exact .inl h
 | cons r rs ih =>
  intro l i h0 h
  rcases ih (l := l.set r.toNat true) (fun u hu => h0 u (by simp [hu])) h with h1 | h1
  · by_cases e : i = r.toNat
    · have := h0 r (by simp)
      exact .inr (by rw [e, show ((r.toNat : Nat) : Int) = r by omega]; simp)
    · rw [List.getElem?_set_ne (Ne.symm e)] at h1
      exact .inl h1
  · exact .inr (.tail _ h1)
theorem afterL_true {L : List (List Bool)} : ∀ {to : List Int} {l : List Bool} {i : Nat}, (afterL L l to)[i]? = some true → l[i]? = some true ∨ ∃ t ∈ to, (L.getD t.toNat [])[i]? = some true := by
 intro to
 induction to with
 | nil => intro l i h; exact .inl h
 | cons t to ih =>
  intro l i h
  rcases ih (l := orL l (L.getD t.toNat [])) h with h1 | ⟨u, h1, h2⟩
  · unfold orL at h1
    rw [List.getElem?_zipWith] at h1
    cases ha : l[i]? with
    | none => rw [ha] at h1; cases h1
    | some a =>
     cases hb : (L.getD t.toNat [])[i]? with
     | none => rw [ha, hb] at h1; cases h1
     | some b =>
      rw [ha, hb] at h1
      injection h1 with h1
      cases a with
      | true => exact .inl rfl
      | false =>
       cases b with
       | true => exact .inr ⟨t, by simp, hb⟩
       | false => cases h1
  · exact .inr ⟨u, .tail _ h1, h2⟩
theorem livB_live {f : VF} {n N : Nat} {M : List (List Bool)} {r : Nat} (h0 : ∀ t : Nat, (M.getD t [])[r]? = some true → LiveAt f r t 0) {i : Nat} {x : VB} (hx : f.blocks[i]? = some x) (ok : x.okB n N) :
 ∀ (m k : Nat), x.ins.length ≤ k + m → (livB n M x k)[r]? = some true → LiveAt f r i k := by
 have ed : ∀ k, x.ins.length ≤ k → (livB n M x k)[r]? = some true → LiveAt f r i k := fun k hk h => by
  rw [livB_end hk] at h
  rcases mark_true (fun u hu => (ok.e u hu).1) h with h | h
  · rcases afterL_true h with h | ⟨t, h1, h2⟩
    · rw [List.getElem?_replicate] at h
      split at h <;> cases h
    · exact .jump hx hk h1 (h0 _ h2)
  · exact .fin hx hk h
 intro m
 induction m with
 | zero => intro k hk h; exact ed k (by omega) h
 | succ m ih =>
  intro k hk h
  by_cases hl : x.ins.length ≤ k
  · exact ed k hl h
  · obtain ⟨y, hy⟩ := at_lt (l := x.ins) (i := k) (by omega)
    rw [livB_step hy] at h
    have oy := ok.ins y (List.mem_of_getElem? hy)
    rcases mark_true (fun u hu => (oy.uses u hu).1) h with h | h
    · by_cases e : r = (defR y.op y.d).toNat
      · rw [e] at h
        have hh := (List.getElem?_eq_some_iff.1 h).1
        rw [List.getElem?_set_self (by rw [List.length_set] at hh; exact hh)] at h
        cases h
      · rw [List.getElem?_set_ne (Ne.symm e)] at h
        have d := oy.def
        exact .skip hx hy (by omega) (ih (k + 1) (by omega) h)
    · exact .use hx hy h
open Classical in
theorem lfp_live {f : VF} (fo : f.ok) {L : List (List Bool)} (H : f.lfp L) {t r : Nat} (h : (L.getD t [])[r]? = some true) : r ≠ 0 ∧ LiveAt f r t 0 := by
 have fr := fo.regs
 have okB := okB_of fr.1 fo.blk fo.sum
 obtain ⟨n, hn⟩ : ∃ n, n = f.regs.toNat := ⟨_, rfl⟩
 rw [← hn] at okB
 obtain ⟨M, hM⟩ : ∃ M : List (List Bool), M = (List.range f.blocks.length).map fun (i : Nat) => (List.range n).map fun (r : Nat) => decide (r ≠ 0 ∧ LiveAt f ((r : Nat) : Int) i 0) := ⟨_, rfl⟩
 have Mi : ∀ i, i < f.blocks.length → M.getD i [] = (List.range n).map fun (r : Nat) => decide (r ≠ 0 ∧ LiveAt f ((r : Nat) : Int) i 0) := fun i hi => by
  simp [hM, List.getD, List.getElem?_range hi]
 have Mt : ∀ i r : Nat, (M.getD i [])[r]? = some true → r ≠ 0 ∧ LiveAt f r i 0 := fun i r hh => by
  by_cases hi : i < f.blocks.length
  · rw [Mi i hi, List.getElem?_map] at hh
    by_cases hr : r < n
    · rw [List.getElem?_range hr] at hh
      exact of_decide_eq_true (Option.some.inj hh)
    · rw [List.getElem?_eq_none (by rw [List.length_range]; omega)] at hh
      cases hh
  · have : M.getD i [] = [] := by
     simp [hM, List.getD, List.getElem?_eq_none (show ((List.range f.blocks.length)).length ≤ i by rw [List.length_range]; omega)]
    rw [this] at hh
    cases hh
 have Mf : ∀ i r : Nat, i < f.blocks.length → r < n → r ≠ 0 → LiveAt f r i 0 → (M.getD i [])[r]? = some true := fun i r hi hr h0 hl => by
  rw [Mi i hi, List.getElem?_map, List.getElem?_range hr]
  exact congrArg some (decide_eq_true ⟨h0, hl⟩)
 have P : Pre n f.blocks M := by
  refine ⟨by simp [hM], fun i x hx => ?_⟩
  have hi := (List.getElem?_eq_some_iff.1 hx).1
  have ok := okB x (List.mem_of_getElem? hx)
  have ml : (M.getD i []).length = n := by rw [Mi i hi, List.length_map, List.length_range]
  have al : (afterL M (List.replicate n false) x.e.to).length = n := by
   refine afterL_len _ (fun t ht => ?_) _ (List.length_replicate ..)
   rw [Mi _ (by have := ok.to t ht; omega), List.length_map, List.length_range]
  have ll : ∀ (ys : List VI) (l : List Bool), (ys.foldl stepB l).length = l.length := fun ys => by
   induction ys with
   | nil => intro l; rfl
   | cons y ys ih =>
    intro l
    show (ys.foldl stepB (stepB l y)).length = _
    rw [ih]
    show (mark _ _).length = _
    rw [mark_len, List.length_set]
  have fl : (liveF n x M).length = n := by
   show (List.set _ _ _).length = n
   rw [List.length_set, ll, mark_len, al]
  refine ⟨⟨by rw [fl, ml], fun r hr => ?_⟩, ml⟩
  have rn := (List.getElem?_eq_some_iff.1 hr).1
  rw [fl] at rn
  have hr' : ((livB n M x 0).set 0 false)[r]? = some true := by
   have : livB n M x 0 = x.ins.reverse.foldl stepB (mark (afterL M (List.replicate n false) x.e.to) (endL x.e)) := by unfold livB; rw [List.drop_zero]
   rw [this]; exact hr
  have r0 : r ≠ 0 := fun e => by
   rw [e] at hr'
   have hh := (List.getElem?_eq_some_iff.1 hr').1
   rw [List.length_set] at hh
   rw [List.getElem?_set_self hh] at hr'
   cases hr'
  rw [List.getElem?_set_ne (Ne.symm r0)] at hr'
  exact Mf i r hi rn r0 (livB_live (fun t ht => (Mt t r ht).2) hx ok x.ins.length 0 (by omega) hr')
 have := H.2 M (by rw [← hn]; exact P)
 exact Mt t r ((this.2 t).2 r h)
end Go.Proofs.Ytnmdadadjneaiaa.D
/- color.build, plain: what it knows at the end. -/
set_option linter.unusedVariables false
set_option linter.unusedSimpArgs false
namespace Go.Proofs.Ytnmdadadjneaiaa.D
open Go Go.Proofs.Ytnmdadadjneaiaa.Abs Go.Proofs
structure PW (n : Nat) (s : Pbs) : Prop where
 sl : s.sl.length = n
 th : s.th.length = n
 l : s.l.length = n
structure PV (n : Nat) (s : Pbs) : Prop where
 sl : s.sl.length = n
 th : s.th.length = n
theorem PW.v {n : Nat} {s : Pbs} (W : PW n s) : PV n s := ⟨W.sl, W.th⟩
structure PLe (s s' : Pbs) : Prop where
 e : ∀ p q, s.E p q → s'.E p q
 sl : ∀ i : Nat, s.sl[i]? = some true → s'.sl[i]? = some true
 th : ∀ i : Nat, i ≠ 0 → s.th[i]? = some true → s'.th[i]? = some true
theorem PLe.refl (s : Pbs) : PLe s s := ⟨fun _ _ h => h, fun _ h => h, fun _ _ h => h⟩
theorem PLe.trans {a b c : Pbs} (h1 : PLe a b) (h2 : PLe b c) : PLe a c := ⟨fun p q h => h2.e _ _ (h1.e _ _ h), fun i h => h2.sl _ (h1.sl _ h), fun i h0 h => h2.th _ h0 (h1.th _ h0 h)⟩
theorem orL_true {a b : List Bool} {i : Nat} (hl : a.length = b.length) : (orL a b)[i]? = some true ↔ a[i]? = some true ∨ b[i]? = some true := by
 by_cases hi : i < a.length
 · obtain ⟨x, hx⟩ := at_lt hi
   obtain ⟨y, hy⟩ := at_lt (l := b) (i := i) (by omega)
   rw [orL_get hx hy, hx, hy]
   cases x <;> cases y <;> simp
 · rw [List.getElem?_eq_none (by rw [orL_len hl]; omega), List.getElem?_eq_none (by omega), List.getElem?_eq_none (by omega)]
   simp
theorem set_true_keep {l : List Bool} {i j : Nat} (h : l[i]? = some true) : (l.set j true)[i]? = some true := by
 by_cases e : i = j
 · rw [e, List.getElem?_set_self (by have := (List.getElem?_eq_some_iff.1 h).1; omega)]
 · rw [List.getElem?_set_ne (Ne.symm e)]; exact h
theorem stepB_len (l : List Bool) (y : VI) : (stepB l y).length = l.length := by
 show (mark _ _).length = _
 rw [mark_len, List.length_set]
theorem PW.ins {n : Nat} {s : Pbs} (W : PW n s) (y : VI) : PW n (pI s y) ∧ PLe s (pI s y) := by
 refine ⟨⟨?_, ?_, ?_⟩, ⟨fun p q h => .inl h, fun i h => ?_, fun i _ h => ?_⟩⟩
 · show (if isCall y.op = true then orL s.sl (s.l.set (defR y.op y.d).toNat false) else s.sl).length = n
   split
   · rw [orL_len (by rw [List.length_set, W.sl, W.l]), W.sl]
   · exact W.sl
 · show (mark _ _).length = n
   rw [mark_len, List.length_set, W.th]
 · show (stepB _ _).length = n
   rw [stepB_len, W.l]
 · show (if isCall y.op = true then orL s.sl (s.l.set (defR y.op y.d).toNat false) else s.sl)[i]? = some true
   split
   · exact (orL_true (by rw [List.length_set, W.sl, W.l])).2 (.inl h)
   · exact h
 · exact mark_keep _ _ _ (set_true_keep h)
theorem PW.fold {n : Nat} : ∀ {ys : List VI} {s : Pbs}, PW n s → PW n (ys.foldl pI s) ∧ PLe s (ys.foldl pI s) ∧ (ys.foldl pI s).l = ys.foldl stepB s.l := by
 intro ys
 induction ys with
 | nil => intro s W; exact ⟨W, .refl _, rfl⟩
 | cons y ys ih =>
  intro s W
  obtain ⟨h1, h2⟩ := W.ins y
  obtain ⟨h3, h4, h5⟩ := ih h1
  exact ⟨h3, h2.trans h4, h5⟩
def stAt (L : List (List Bool)) (n : Nat) (s : Pbs) (x : VB) (k : Nat) : Pbs := (x.ins.drop k).reverse.foldl pI (pStart L n s x)
theorem stAt_step {L : List (List Bool)} {n : Nat} {s : Pbs} {x : VB} {k : Nat} {y : VI} (h : x.ins[k]? = some y) : stAt L n s x k = pI (stAt L n s x (k + 1)) y := by
 unfold stAt
 rw [drop_at h, List.reverse_cons, List.foldl_append]
 rfl
theorem stAt_zero (L : List (List Bool)) (n : Nat) (s : Pbs) (x : VB) : stAt L n s x 0 = pBlk L n s x := by
 unfold stAt pBlk
 rw [List.drop_zero]
theorem PV.start {n : Nat} {s : Pbs} (W : PV n s) {L : List (List Bool)} {x : VB} (al : (afterL L (List.replicate n false) x.e.to).length = n) : PW n (pStart L n s x) ∧ PLe s (pStart L n s x) :=
 ⟨⟨W.sl, by show (mark _ _).length = n; rw [mark_len, W.th], by show (mark _ _).length = n; rw [mark_len, al]⟩, ⟨fun _ _ h => h, fun _ h => h, fun i _ h => mark_keep _ _ _ h⟩⟩
theorem stAt_ok {n : Nat} {s : Pbs} (W : PV n s) {L : List (List Bool)} {x : VB} (al : (afterL L (List.replicate n false) x.e.to).length = n) (k : Nat) : PW n (stAt L n s x k) ∧ PLe (pStart L n s x) (stAt L n s x k) ∧ (stAt L n s x k).l = livB n L x k := by
 obtain ⟨h1, h2⟩ := W.start (L := L) al
 obtain ⟨h3, h4, h5⟩ := h1.fold (ys := (x.ins.drop k).reverse)
 exact ⟨h3, h4, h5⟩
theorem after_len {f : VF} (fo : f.ok) {L : List (List Bool)} (H : f.lfp L) : ∀ x ∈ f.blocks, (afterL L (List.replicate f.regs.toNat false) x.e.to).length = f.regs.toNat := fun x hx => by
 have fr := fo.regs
 have ok := okB_of fr.1 fo.blk fo.sum x hx
 refine afterL_len _ (fun t ht => ?_) _ (List.length_replicate ..)
 have := ok.to t ht
 obtain ⟨z, hz⟩ := at_lt (l := f.blocks) (i := t.toNat) (by omega)
 exact (H.1.2 _ z hz).2
theorem pw_zero (n : Nat) : PV n (pZero n) := ⟨List.length_replicate .., List.length_replicate ..⟩
def KeptP (f : VF) (L : List (List Bool)) (r : Nat) : Prop := ∃ (i : Nat) (x : VB) (k : Nat) (y : VI), f.blocks[i]? = some x ∧ x.ins[k]? = some y ∧ isCall y.op = true ∧ (defR y.op y.d).toNat ≠ r ∧ (livB f.regs.toNat L x (k + 1))[r]? = some true
theorem build_kept {f : VF} (fo : f.ok) {L : List (List Bool)} (H : f.lfp L) {r : Nat} (h : (pBuild f L).sl[r]? = some true) : KeptP f L r := by
 have al := after_len fo H
 obtain ⟨n, hn⟩ : ∃ n, n = f.regs.toNat := ⟨_, rfl⟩
 have blk : ∀ (s : Pbs) (i : Nat) (x : VB), PV n s → f.blocks[i]? = some x → (s.sl[r]? = some true → KeptP f L r) → ((pBlk L n s x).sl[r]? = some true → KeptP f L r) := fun s i x W hx hs => by
  have ax := al x (List.mem_of_getElem? hx)
  rw [← hn] at ax
  have key : ∀ (m k : Nat), x.ins.length ≤ k + m → (stAt L n s x k).sl[r]? = some true → KeptP f L r := by
   intro m
   induction m with
   | zero =>
    intro k hk hh
    unfold stAt at hh
    rw [List.drop_eq_nil_of_le (by omega)] at hh
    exact hs hh
   | succ m ih =>
    intro k hk hh
    by_cases hl : x.ins.length ≤ k
    · exact ih k (by omega) hh
    · obtain ⟨y, hy⟩ := at_lt (l := x.ins) (i := k) (by omega)
      rw [stAt_step hy] at hh
      obtain ⟨w1, w2, w3⟩ := stAt_ok W ax (k + 1)
      have hh : (if isCall y.op = true then orL (stAt L n s x (k + 1)).sl ((stAt L n s x (k + 1)).l.set (defR y.op y.d).toNat false) else (stAt L n s x (k + 1)).sl)[r]? = some true := hh
      split at hh
      · rename_i hc
        rcases (orL_true (by rw [List.length_set, w1.sl, w1.l])).1 hh with h | h
        · exact ih (k + 1) (by omega) h
        · have ne : (defR y.op y.d).toNat ≠ r := fun e => by
           rw [e] at h
           have hh := (List.getElem?_eq_some_iff.1 h).1
           rw [List.length_set] at hh
           rw [List.getElem?_set_self hh] at h
           cases h
          rw [List.getElem?_set_ne ne, w3] at h
          exact ⟨i, x, k, y, hx, hy, hc, ne, by rw [← hn]; exact h⟩
      · exact ih (k + 1) (by omega) hh
  intro hh
  rw [← stAt_zero] at hh
  exact key x.ins.length 0 (by omega) hh
 have all : ∀ (m j : Nat), j + m = f.blocks.length → ∀ s : Pbs, PV n s → (s.sl[r]? = some true → KeptP f L r) → (((f.blocks.drop j).foldl (pBlk L n) s).sl[r]? = some true → KeptP f L r) := by
  intro m
  induction m with
  | zero =>
   intro j hj s W hs hh
   rw [List.drop_eq_nil_of_le (by omega)] at hh
   exact hs hh
  | succ m ih =>
   intro j hj s W hs hh
   obtain ⟨x, hx⟩ := at_lt (l := f.blocks) (i := j) (by omega)
   rw [drop_at hx] at hh
   have ax := al x (List.mem_of_getElem? hx)
   rw [← hn] at ax
   have w := (stAt_ok W ax 0).1
   rw [stAt_zero] at w
   exact ih (j + 1) (by omega) (pBlk L n s x) w.v (blk s j x W hx hs) hh
 have h' : ((f.blocks.drop 0).foldl (pBlk L n) (pZero n)).sl[r]? = some true := by rw [List.drop_zero, hn]; exact h
 refine all f.blocks.length 0 (by omega) _ (pw_zero n) (fun hh => ?_) h'
 have : (List.replicate n false)[r]? = some true := hh
 rw [List.getElem?_replicate] at this
 split at this <;> cases this
theorem kept_live {f : VF} (fo : f.ok) {L : List (List Bool)} (H : f.lfp L) {r : Nat} (h : KeptP f L r) : ∃ (i : Nat) (x : VB) (k : Nat) (y : VI), f.blocks[i]? = some x ∧ x.ins[k]? = some y ∧ isCall y.op = true ∧ (defR y.op y.d).toNat ≠ r ∧ LiveAt f r i (k + 1) := by
 obtain ⟨i, x, k, y, h1, h2, h3, h4, h5⟩ := h
 have fr := fo.regs
 have ok := okB_of fr.1 fo.blk fo.sum x (List.mem_of_getElem? h1)
 exact ⟨i, x, k, y, h1, h2, h3, h4, livB_live (fun t ht => (lfp_live fo H ht).2) h1 ok x.ins.length (k + 1) (by omega) h5⟩
end Go.Proofs.Ytnmdadadjneaiaa.D
