/- The evaluation of an operation looks at the slots that it reads, and no others. -/
import Derived.Test.YtmfmnbldngfelaaAbsNat
set_option linter.unusedVariables false
set_option linter.unusedSimpArgs false
namespace Go.Proofs.Ytmfmnbldngfelaa.Abs
open Go

section
variable {R : Type} {r : R} {ρ ρ' : Nat → SV} {ah ah' : Heap} {gs : List (Nat × Bool)} {bc : Bool}

/-- The same slot, what lies in its box aside. -/
def SEq (x y : SV) : Prop := x = y ∨ ∃ c d, x = .box c ∧ y = .box d

theorem getV_congr {x : AX} (h : ∀ t ∈ axT x, SEq (ρ t) (ρ' t)) : getV gs ρ x = getV gs ρ' x := by
  cases x with
  | c v => rfl
  | tmp t =>
    rcases h t (by simp [axT]) with e | ⟨c, d, e, e'⟩
    · simp only [getV, e]
    · simp only [getV, e, e']

theorem getVs_congr : ∀ {xs : List AX}, (∀ t ∈ axTs xs, SEq (ρ t) (ρ' t)) → getVs gs ρ xs = getVs gs ρ' xs := by
  intro xs
  induction xs with
  | nil => intro h; rfl
  | cons x xs ih =>
    intro h
    simp only [getVs]
    rw [getV_congr (fun t ht => h t (by simp [axTs, ht])), ih (fun t ht => h t (by simp [axTs, ht]))]

theorem getParts_congr : ∀ {ps : List (Nat × Nat × AX)}, (∀ t ∈ partTs ps, SEq (ρ t) (ρ' t)) → getParts gs ρ ps = getParts gs ρ' ps := by
  intro ps
  induction ps with
  | nil => intro h; rfl
  | cons p ps ih =>
    intro h
    obtain ⟨off, n, x⟩ := p
    simp only [getParts]
    rw [getV_congr (fun t ht => h t (by simp [partTs, ht])), ih (fun t ht => h t (by simp [partTs, ht]))]

theorem partTs_map {es : Nat} : ∀ {ps : List (Nat × AX)}, partTs (ps.map fun p => (p.1, es, p.2)) = partTs' ps := by
  intro ps
  induction ps with
  | nil => rfl
  | cons p ps ih => simp [partTs, partTs', ih]

theorem place_congr {x : AX} {K : Place → Option R} (h : ∀ t ∈ axT x, SEq (ρ t) (ρ' t)) : place gs ρ x bc K = place gs ρ' x bc K := by
  have e := getV_congr (gs := gs) h
  cases x with
  | c v => rfl
  | tmp t =>
    rcases h t (by simp [axT]) with e' | ⟨c, d, e1, e2⟩
    · unfold place
      simp only [e, e']
    · simp only [place, e1, e2]

theorem guardOf_congr {g : Option (Nat × Bool)} (h : ∀ t b, g = some (t, b) → SEq (ρ t) (ρ' t)) : guardOf ρ g = guardOf ρ' g := by
  cases g with
  | none => rfl
  | some p =>
    obtain ⟨t, b⟩ := p
    rcases h t b rfl with e | ⟨c, d, e1, e2⟩
    · simp only [guardOf, e]
    · simp only [guardOf, e1, e2]

/-- What a load reads is the same. -/
def LoadOk (ρ ρ' : Nat → SV) (ah ah' : Heap) (n t : Nat) : Prop :=
  match ρ t with
  | .box cs => ∃ cs', ρ' t = .box cs' ∧ (cs'.drop 0).take n = (cs.drop 0).take n
  | .lref _ _ e off => ∀ cs, boxAt ρ e = some cs → ∃ cs', boxAt ρ' e = some cs' ∧ (cs'.drop off).take n = (cs.drop off).take n
  | .g _ _ (.ptr (some a)) => ∀ xs, ldN ah a n = some xs → ldN ah' a n = some xs
  | _ => True

def HeapOk (k : AK) (ρ ρ' : Nat → SV) (ah ah' : Heap) : Prop :=
  match k with
  | .load s (.tmp t) => LoadOk ρ ρ' ah ah' s.size t
  | .slice _ _ none none => True
  | .slice _ (.tmp t) _ _ => ∀ gs bc a n, ρ t = .g gs bc (.sl (.pos a) n) → ∀ b, ah[a.b]? = some b → ah'[a.b]? = some b
  | .slice3 _ (.tmp t) _ _ _ => ∀ gs bc a n, ρ t = .g gs bc (.sl (.pos a) n) → ∀ b, ah[a.b]? = some b → ah'[a.b]? = some b
  | .slice _ (.c _) _ _ => ah' = ah
  | .slice3 _ (.c _) _ _ _ => ah' = ah
  | .lookup _ _ _ _ _ => ah' = ah
  | .lenMap _ => ah' = ah
  | _ => True

theorem ld1_ldN {h : Heap} {a : Ad} : ld1 h a = (ldN h a 1).bind (·[0]?) := by
  unfold ld1 ldN
  split
  · rename_i c m v e
    by_cases hv : a.v = v
    · rw [if_pos hv]
      by_cases hl : a.o < c.length
      · have hg : c[a.o]? = some c[a.o] := List.getElem?_eq_getElem hl
        have hd : (c.drop a.o).take 1 = [c[a.o]] := by rw [List.drop_eq_getElem_cons hl]; rfl
        rw [hg]
        simp only [hd, flatL, Bool.and_true]
        by_cases hf : flatA c[a.o] = true
        · rw [if_pos hf, if_pos ⟨hv, by omega, hf⟩]; rfl
        · rw [if_neg hf, if_neg (fun h => hf h.2.2)]; rfl
      · have hg : c[a.o]? = none := List.getElem?_eq_none (by omega)
        rw [hg, if_neg (fun h => by omega)]
        rfl
    · rw [if_neg hv, if_neg (fun h => hv h.1)]
      rfl
  · rename_i hne
    cases e : h[a.b]? with
    | none => rfl
    | some b =>
      cases b with
      | cells c m v => exact absurd e (hne c m v)
      | _ => rfl

theorem take_get {α : Type} {cs cs' : List α} {off n i : Nat} (h : (cs'.drop off).take n = (cs.drop off).take n) (hi : i < n) : cs'[off + i]? = cs[off + i]? := by
  have := congrArg (·[i]?) h
  simp only [List.getElem?_take, if_pos hi, List.getElem?_drop] at this
  exact this

theorem take_len {α : Type} {cs cs' : List α} {off n : Nat} (h : (cs'.drop off).take n = (cs.drop off).take n) (hn : 0 < n) (hl : off + n ≤ cs.length) : off + n ≤ cs'.length := by
  have := take_get (i := n - 1) h (by omega)
  rw [List.getElem?_eq_getElem (by omega : off + (n - 1) < cs.length)] at this
  have := (List.getElem?_eq_some_iff.1 this).1
  omega

theorem rdL_congr {l l' : List AV} {bc : Bool} : ∀ {cs : List CS} {i : Nat} {K : List AV → Option R}, (∀ j, j < cs.length → l'[i + j]? = l[i + j]?) → rdL l' bc cs i K = rdL l bc cs i K := by
  intro cs
  induction cs with
  | nil => intro i K h; rfl
  | cons c cs ih =>
    intro i K h
    simp only [rdL]
    have h0 := h 0 (by simp)
    rw [Nat.add_zero] at h0
    rw [h0]
    congr 1
    funext a
    exact ih fun j hj => by
      have := h (j + 1) (by simp; omega)
      have e : i + (j + 1) = i + 1 + j := by omega
      rw [e] at this
      exact this

/-- What a load comes to, at a place. -/
noncomputable def loadP (ρ : Nat → SV) (ah : Heap) (gs : List (Nat × Bool)) (s : VS) (ret : SV → Option R) : Place → Option R
  | .heap a => match s with
    | .cell c => rdC c (ld1 ah a) true fun v => ret (.g gs true v)
    | .agg l => rdV (.agg l) (ldN ah a l.length) true fun v => ret (.g gs true v)
    | .raw n => rdV (.raw n) (ldN ah a n) true fun v => ret (.g gs true v)
  | .loc d off => match boxAt ρ d with
    | none => none
    | some cs => match s with
      | .cell c => rdC c cs[off]? true fun v => ret (.g gs true v)
      | .agg l => chk (true = true → off + l.length ≤ cs.length) (rdL cs true l off fun as => ret (.g gs true (.agg as)))
      | .raw n => chk (true = true → off + n ≤ cs.length) (ret (.g gs true (.agg ((cs.drop off).take n))))

theorem opA_load (s : VS) (x : AX) (ret : SV → Option R) : opA ρ ah gs true (.load s x) ret = place gs ρ x true (loadP ρ ah gs s ret) := rfl

theorem loadP_heap {s : VS} {ret : SV → Option R} {q : Ad} (hq : ∀ xs, ldN ah q s.size = some xs → ldN ah' q s.size = some xs) (h : loadP ρ ah gs s ret (.heap q) = some r) : loadP ρ' ah' gs s ret (.heap q) = some r := by
  unfold loadP at h ⊢
  cases s with
  | cell c =>
    simp only [VS.size] at hq
    simp only at h ⊢
    rw [ld1_ldN] at h ⊢
    cases e : ldN ah q 1 with
    | none => rw [e] at h; obtain ⟨x, hx, _⟩ := rdC_true h; cases hx
    | some xs => rw [hq xs e]; rw [e] at h; exact h
  | agg l =>
    simp only [VS.size] at hq
    simp only at h ⊢
    cases e : ldN ah q l.length with
    | none => rw [e] at h; simp [rdV, gb] at h
    | some xs => rw [hq xs e]; rw [e] at h; exact h
  | raw n =>
    simp only [VS.size] at hq
    simp only at h ⊢
    cases e : ldN ah q n with
    | none => rw [e] at h; simp [rdV, gb] at h
    | some xs => rw [hq xs e]; rw [e] at h; exact h

theorem chk_true {p : Prop} [Decidable p] {K : Option R} (hp : p) : chk p K = K := if_pos hp

theorem loadP_loc {s : VS} {ret : SV → Option R} {d off : Nat} (hs : 0 < s.size) (hb : ∀ cs, boxAt ρ d = some cs → ∃ cs', boxAt ρ' d = some cs' ∧ (cs'.drop off).take s.size = (cs.drop off).take s.size)
    (h : loadP ρ ah gs s ret (.loc d off) = some r) : loadP ρ' ah' gs s ret (.loc d off) = some r := by
  unfold loadP at h ⊢
  simp only at h ⊢
  cases e : boxAt ρ d with
  | none => rw [e] at h; cases h
  | some cs =>
    rw [e] at h
    obtain ⟨cs', e', htk⟩ := hb cs e
    rw [e']
    cases s with
    | cell c =>
      simp only [VS.size] at htk
      simp only at h ⊢
      have := take_get (i := 0) htk (by omega)
      rw [Nat.add_zero] at this
      rw [this]; exact h
    | agg l =>
      simp only [VS.size] at htk hs
      simp only at h ⊢
      obtain ⟨hle, h⟩ := chk_some h
      have hle := hle trivial
      rw [chk_true (fun _ => take_len htk hs hle), rdL_congr fun j hj => take_get htk hj]
      exact h
    | raw n =>
      simp only [VS.size] at htk hs
      simp only at h ⊢
      obtain ⟨hle, h⟩ := chk_some h
      have hle := hle trivial
      rw [chk_true (fun _ => take_len htk hs hle), htk]
      exact h

/-- A load, at memory where what it reads is the same. -/
theorem load_congr {s : VS} {t : Nat} {ret : SV → Option R} (hs : 0 < s.size) (ht : SEq (ρ t) (ρ' t)) (hl : LoadOk ρ ρ' ah ah' s.size t) (h : opA ρ ah gs true (.load s (.tmp t)) ret = some r) :
    opA ρ' ah' gs true (.load s (.tmp t)) ret = some r := by
  rw [opA_load] at h ⊢
  rw [← place_congr (fun t' ht' => by simp [axT] at ht'; subst ht'; exact ht)]
  unfold LoadOk at hl
  unfold place at h ⊢
  simp only at h ⊢
  cases e : ρ t with
  | any => simp [e, getV] at h
  | box cs =>
    rw [e] at h hl
    obtain ⟨cs', e', htk⟩ := hl
    refine loadP_loc hs (fun c hc => ?_) h
    have : boxAt ρ t = some cs := by simp [boxAt, e]
    rw [this] at hc
    cases hc
    exact ⟨cs', by simp [boxAt, e'], htk⟩
  | lref g b d off =>
    rw [e] at h hl
    simp only at h ⊢
    split at h
    · rename_i hi
      rw [if_pos hi]
      exact loadP_loc hs hl h
    · cases h
  | g g b y =>
    rw [e] at h hl
    simp only at h ⊢
    split at h
    · rename_i z hz
      obtain ⟨p, rfl, h⟩ := gb_true h
      have hy : y = .ptr (some p) := by
        simp only [getV, e] at hz
        split at hz
        · simpa using hz
        · cases hz
      subst hy
      exact loadP_heap (ρ := ρ) (ρ' := ρ') hl h
    · cases h

theorem plain_load {s : VS} {x : AX} (h : plainK (.load s x) = true) : 0 < s.size := by
  cases s with
  | cell c => simp [VS.size]
  | agg l => cases l with
    | nil => simp [plainK] at h
    | cons c l => simp [VS.size]
  | raw n => cases n with
    | zero => simp [plainK] at h
    | succ n => simp [VS.size]

theorem hiOk_congr {a : SA} {n es : Nat} {hi : Int} (h : ∀ p, a = .pos p → ∀ b, ah[p.b]? = some b → ah'[p.b]? = some b) (hh : hiOk ah a n es hi) : hiOk ah' a n es hi := by
  rcases hh with h1 | ⟨p, c, v, h1, h2, h3⟩
  · exact .inl h1
  · exact .inr ⟨p, c, v, h1, h p h1 _ h2, h3⟩

theorem esOk_congr {a : SA} {es : Nat} (h : ∀ p, a = .pos p → ∀ b, ah[p.b]? = some b → ah'[p.b]? = some b) (hh : esOk ah a es) : esOk ah' a es := by
  intro p hp
  obtain ⟨b, hb, he⟩ := hh p hp
  exact ⟨b, h p hp b hb, he⟩

theorem chkC_imp {p q : Prop} {K : Option R} (hpq : p → q) (h : chkC p K = some r) : chkC q K = some r := by
  obtain ⟨hp, h⟩ := chkC_some h
  unfold chkC
  rw [if_pos (hpq hp)]
  exact h

theorem getV_sl {t : Nat} {a : SA} {n : Nat} (h : getV gs ρ (.tmp t) = some (.sl a n)) : ∃ g b, ρ t = .g g b (.sl a n) := by
  simp only [getV] at h
  split at h
  · rename_i g b y e
    split at h
    · simp only [Option.some.injEq] at h
      subst h
      exact ⟨_, _, by assumption⟩
    · cases h
  · cases h

/-- A reading operation, where the slots that it reads are the same and the memory that it reads is. -/
theorem opA_congr {k : AK} {ret : SV → Option R} (hk : plainK k = true) (hs : ∀ t ∈ akTmps k, SEq (ρ t) (ρ' t)) (hh : HeapOk k ρ ρ' ah ah') (h : opA ρ ah gs true k ret = some r) : opA ρ' ah' gs true k ret = some r := by
  have e : ∀ gs x, (∀ t ∈ axT x, t ∈ akTmps k) → getV gs ρ' x = getV gs ρ x := fun gs x hx => (getV_congr fun t ht => hs t (hx t ht)).symm
  have es : ∀ gs xs, (∀ t ∈ axTs xs, t ∈ akTmps k) → getVs gs ρ' xs = getVs gs ρ xs := fun gs x hx => (getVs_congr fun t ht => hs t (hx t ht)).symm
  have ep : ∀ x {K : Place → Option R}, (∀ t ∈ axT x, t ∈ akTmps k) → place gs ρ' x true K = place gs ρ x true K := fun x K hx => (place_congr fun t ht => hs t (hx t ht)).symm
  cases k
  case load s x =>
    cases x with
    | c v => simp [opA, place] at h
    | tmp t => exact load_congr (plain_load hk) (hs t (by simp [akTmps, axT])) hh h
  case lookup z s ok m k =>
    have hh : ah' = ah := hh
    subst hh
    simp only [opA] at h ⊢
    rw [e _ m (fun t ht => by simp [akTmps, axTo, ht]), e _ k (fun t ht => by simp [akTmps, axTo, ht])]; exact h
  case lenMap x =>
    have hh : ah' = ah := hh
    subst hh
    simp only [opA] at h ⊢
    rw [e _ x (fun t ht => by simp [akTmps, axTo, ht])]; exact h
  case slice n x lo hi =>
    have key : ∀ a m, getV gs ρ x = some (.sl a m) → (lo.isSome = true ∨ hi.isSome = true) → ∀ p, a = .pos p → ∀ b, ah[p.b]? = some b → ah'[p.b]? = some b := by
      intro a m hx hl p hp
      subst hp
      cases x with
      | c v => simp [plainK] at hk
      | tmp t =>
        obtain ⟨g, b, hg⟩ := getV_sl hx
        cases lo <;> cases hi
        · simp at hl
        all_goals exact hh g b p m hg
    simp only [opA] at h ⊢
    rw [e _ x (fun t ht => by simp [akTmps, axTo, ht])]
    split at h
    · rename_i a m hx
      cases lo with
      | none =>
        cases hi with
        | none => exact h
        | some hi =>
          simp only at h ⊢
          rw [e _ hi (fun t ht => by simp [akTmps, axTo, ht])]
          split at h
          · exact chkC_imp (fun hp hb => ⟨(hp hb).1, hiOk_congr (key a m hx (.inr rfl)) (hp hb).2⟩) h
          · cases h
      | some lo =>
        cases hi with
        | none =>
          simp only at h ⊢
          rw [e _ lo (fun t ht => by simp [akTmps, axTo, ht])]
          split at h
          · exact chkC_imp (fun hp hb => ⟨(hp hb).1, (hp hb).2.1, esOk_congr (key a m hx (.inl rfl)) (hp hb).2.2⟩) h
          · cases h
        | some hi =>
          simp only at h ⊢
          rw [e _ lo (fun t ht => by simp [akTmps, axTo, ht]), e _ hi (fun t ht => by simp [akTmps, axTo, ht])]
          split at h
          · exact chkC_imp (fun hp hb => ⟨(hp hb).1, (hp hb).2.1, hiOk_congr (key a m hx (.inl rfl)) (hp hb).2.2.1, esOk_congr (key a m hx (.inl rfl)) (hp hb).2.2.2⟩) h
          · cases h
    · cases h
  case slice3 n x lo hi mx =>
    have key : ∀ a m, getV gs ρ x = some (.sl a m) → ∀ p, a = .pos p → ∀ b, ah[p.b]? = some b → ah'[p.b]? = some b := by
      intro a m hx p hp
      subst hp
      cases x with
      | c v => simp [plainK] at hk
      | tmp t =>
        obtain ⟨g, b, hg⟩ := getV_sl hx
        exact hh g b p m hg
    simp only [opA] at h ⊢
    rw [e _ x (fun t ht => by simp [akTmps, axTo, ht]), e _ lo (fun t ht => by simp [akTmps, axTo, ht]), e _ hi (fun t ht => by simp [akTmps, axTo, ht]), e _ mx (fun t ht => by simp [akTmps, axTo, ht])]
    split at h
    · rename_i a m l h' m' hx _ _ _
      exact chkC_imp (fun hp hb => ⟨(hp hb).1, (hp hb).2.1, (hp hb).2.2.1, hiOk_congr (key a m hx) (hp hb).2.2.2⟩) h
    · cases h
  case pick c a b =>
    simp only [opA] at h ⊢
    cases c with
    | c v => cases h
    | tmp t =>
      simp only at h ⊢
      rw [e _ (.tmp t) (fun t' ht => by simp only [akTmps, List.mem_append]; exact .inl (.inl ht)), e _ a (fun t ht => by simp [akTmps, axTo, ht]), e _ b (fun t ht => by simp [akTmps, axTo, ht])]
      exact h
  case nilCheck x =>
    simp only [opA] at h ⊢
    cases x with
    | c v => cases h
    | tmp t =>
      simp only at h ⊢
      rcases hs t (by simp [akTmps, axT]) with e' | ⟨c, d, e1, e2⟩
      · rw [← e']; exact h
      · rw [e1] at h; rw [e2]; exact h
  case fieldAddr off x => simp only [opA] at h ⊢; rw [ep x (fun t ht => by simp [akTmps, axTo, ht])]; exact h
  case indexArr len n x i =>
    simp only [opA] at h ⊢
    rw [e _ i (fun t ht => by simp [akTmps, axTo, ht])]
    split at h
    · rw [ep x (fun t ht => by simp [akTmps, axTo, ht])]; exact h
    · cases h
  case build z ps =>
    simp only [opA] at h ⊢
    rw [← getParts_congr (ρ := ρ) (ρ' := ρ') fun t ht => hs t (by simp [akTmps, ht])]; exact h
  all_goals
    simp only [opA] at h ⊢
    first
    | (cases h; done)
    | (rename_i x; rw [e _ x (fun t ht => by simp [akTmps, axTo, ht])]; exact h)
    | (rename_i x; rw [es _ x (fun t ht => by simp [akTmps, axTo, ht])]; exact h)
    | (rename_i x y; rw [e _ x (fun t ht => by simp [akTmps, axTo, ht]), e _ y (fun t ht => by simp [akTmps, axTo, ht])]; exact h)
    | (rename_i x y; rw [es _ x (fun t ht => by simp [akTmps, axTo, ht]), es _ y (fun t ht => by simp [akTmps, axTo, ht])]; exact h)
    | (rename_i x y; rw [e _ x (fun t ht => by simp [akTmps, axTo, ht])]; exact h)
    | exact h

theorem opX_congr {k : AK} {K : List AV → Option R} (hs : ∀ t ∈ akTmps k, SEq (ρ t) (ρ' t)) : opX ρ' k K = opX ρ k K := by
  have e : ∀ gs x, (∀ t ∈ axT x, t ∈ akTmps k) → getV gs ρ' x = getV gs ρ x := fun gs x hx => (getV_congr fun t ht => hs t (hx t ht)).symm
  cases k <;> simp only [opX]
  case boxL x => rw [e _ x (fun t ht => by simp [akTmps, ht])]

theorem opB_congr {k : AK} {n : Nat} {K : AV → Blk → Option R} (hs : ∀ t ∈ akTmps k, SEq (ρ t) (ρ' t)) : opB ρ' k n K = opB ρ k n K := by
  have e : ∀ gs x, (∀ t ∈ axT x, t ∈ akTmps k) → getV gs ρ' x = getV gs ρ x := fun gs x hx => (getV_congr fun t ht => hs t (hx t ht)).symm
  cases k <;> simp only [opB]
  case boxH x => rw [e _ x (fun t ht => by simp [akTmps, ht])]
  case buildSl z es ps =>
    rw [getParts_congr (ρ := ρ) (ρ' := ρ') fun t ht => hs t (by rw [partTs_map] at ht; simp [akTmps, ht])]
  case makeSl z n l c => rw [e _ l (fun t ht => by simp [akTmps, ht]), e _ c (fun t ht => by simp [akTmps, ht])]

theorem opF_congr {k : AK} {K : FuncId → List AV → List VS → AV → Option R} (hs : ∀ t ∈ akTmps k, SEq (ρ t) (ρ' t)) : opF ρ' gs k K = opF ρ gs k K := by
  have e : ∀ gs x, (∀ t ∈ axT x, t ∈ akTmps k) → getV gs ρ' x = getV gs ρ x := fun gs x hx => (getV_congr fun t ht => hs t (hx t ht)).symm
  have es : ∀ gs xs, (∀ t ∈ axTs xs, t ∈ akTmps k) → getVs gs ρ' xs = getVs gs ρ xs := fun gs x hx => (getVs_congr fun t ht => hs t (hx t ht)).symm
  cases k <;> simp only [opF]
  case call f as rs z => rw [es _ as (fun t ht => by simp [akTmps, ht])]
  case callV f as rs z => rw [e _ f (fun t ht => by simp [akTmps, ht]), es _ as (fun t ht => by simp [akTmps, ht])]

/-- Where a place lies: in a slot's own box, or in one that an address in a slot speaks of. -/
theorem place_loc {x : AX} {K : Place → Option R} (h : place gs ρ x bc K = some r) : ∃ p, K p = some r ∧ (∀ {S : Type} (K' : Place → Option S), place gs ρ x bc K' = K' p) ∧
    ∀ d off, p = .loc d off → ∃ t, x = .tmp t ∧ ((t = d ∧ ∃ cs, ρ t = .box cs) ∨ ∃ g b o, ρ t = .lref g b d o) := by
  obtain ⟨p, h1, hn⟩ := place_nat h
  refine ⟨p, h1, hn, fun d off hp => ?_⟩
  subst hp
  have hn := hn (S := Place) some
  cases x with
  | c v => simp [place] at hn
  | tmp t =>
    refine ⟨t, rfl, ?_⟩
    unfold place at hn
    simp only at hn
    cases e : ρ t with
    | any => simp [e, getV] at hn
    | box cs => simp [e] at hn; exact .inl ⟨hn.1, cs, rfl⟩
    | lref g b d' o =>
      simp only [e] at hn
      split at hn
      · simp at hn; exact .inr ⟨g, b, o, by rw [hn.1]⟩
      · cases hn
    | g g b y =>
      simp only [e] at hn
      split at hn
      · obtain ⟨q, h, hm⟩ := gb_nat hn
        cases h
      · cases hn

theorem opM_congr {k : AK} {K : AV → Heap → Up → Option R} (hs : ∀ t ∈ akTmps k, ρ' t = ρ t) (hb : ∀ t ∈ akTmps k, ∀ g b d o, ρ t = .lref g b d o → isBoxS (ρ d) = true → ρ' d = ρ d) (h : opM ρ ah k K = some r) : opM ρ' ah k K = some r := by
  have e : ∀ gs x, (∀ t ∈ axT x, t ∈ akTmps k) → getV gs ρ' x = getV gs ρ x := fun gs x hx => (getV_congr fun t ht => .inl (hs t (hx t ht)).symm).symm
  cases k <;> simp only [opM] at h ⊢
  case store n x y =>
    rw [e _ y (fun t ht => by simp [akTmps, ht])]
    split at h
    · rename_i a ha
      rw [show place [] ρ' x true _ = place [] ρ x true _ from (place_congr fun t ht => .inl (hs t (by simp [akTmps, ht])).symm).symm]
      obtain ⟨p, h, hn, hl⟩ := place_loc h
      rw [hn]
      cases p with
      | heap q => exact h
      | loc d off =>
        simp only at h ⊢
        obtain ⟨t, hx, ht⟩ := hl d off rfl
        cases ec : boxAt ρ d with
        | none => rw [ec] at h; cases h
        | some cs =>
          have hbox : isBoxS (ρ d) = true := by
            obtain ⟨c0, hc0⟩ := boxAt_box ec
            rw [hc0]; rfl
          have hd : ρ' d = ρ d := by
            rcases ht with ⟨rfl, _⟩ | ⟨g, b, o, hr⟩
            · exact hs t (by simp [akTmps, hx, axT])
            · exact hb t (by simp [akTmps, hx, axT]) g b d o hr hbox
          have : boxAt ρ' d = boxAt ρ d := by simp only [boxAt, hd]
          rw [this]
          exact h
    · cases h
  case clear z x => rw [e _ x (fun t ht => by simp [akTmps, ht])]; exact h
  case mapUpdate m k x => rw [e _ m (fun t ht => by simp [akTmps, ht]), e _ k (fun t ht => by simp [akTmps, ht]), e _ x (fun t ht => by simp [akTmps, ht])]; exact h
  case append z es n x y => rw [e _ x (fun t ht => by simp [akTmps, ht]), e _ y (fun t ht => by simp [akTmps, ht])]; exact h
  case copy es x y => rw [e _ x (fun t ht => by simp [akTmps, ht]), e _ y (fun t ht => by simp [akTmps, ht])]; exact h
  all_goals cases h

end
end Go.Proofs.Ytmfmnbldngfelaa.Abs
