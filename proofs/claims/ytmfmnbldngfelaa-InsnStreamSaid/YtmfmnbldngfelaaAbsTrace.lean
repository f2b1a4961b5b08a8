/- Drawn regions: the canonical run. -/
import Derived.Test.YtmfmnbldngfelaaAbsOrder
set_option linter.unusedVariables false
set_option linter.unusedSimpArgs false
namespace Go.Proofs.Ytmfmnbldngfelaa.Abs
open Go

def ReOk (ρ : Nat → SV) (h h' : Heap) (up : Up) : Re → Prop
  | .load n t g => asked ρ g = true → match ρ t with
    | .box cs => ∀ d cs', up = some (d, cs') → d = t → (cs'.drop 0).take n = (cs.drop 0).take n
    | .lref _ _ e off => ∀ d cs', up = some (d, cs') → d = e → ∃ cs, boxAt ρ e = some cs ∧ (cs'.drop off).take n = (cs.drop off).take n
    | .g _ _ (.ptr (some a)) => ldN h' a n = ldN h a n
    | _ => False
  | .blk t => match ρ t with
    | .g _ _ (.ptr (some a)) => h'[a.b]? = h[a.b]?
    | .g _ _ (.sl (.pos a) _) => h'[a.b]? = h[a.b]?
    | .g _ _ (.map (some b)) => h'[b]? = h[b]?
    | _ => False
  | .sl t g => asked ρ g = true → ∀ gs b a n, ρ t = .g gs b (.sl (.pos a) n) → h'[a.b]? = h[a.b]?

theorem chk_spec' {R : Type} {r : R} {p : Prop} {i : Decidable p} {K : Option R} (h : @chk R p i K = some r) : p ∧ K = some r := @chk_some _ p i K r h

theorem reChk_spec {R : Type} {r : R} {ρ : Nat → SV} {h h' : Heap} {up : Up} {K : Option R} : ∀ {l : List Re}, reChk ρ h h' up l K = some r → (∀ x ∈ l, ReOk ρ h h' up x) ∧ K = some r := by
  intro l
  induction l with
  | nil => intro hh; exact ⟨fun x hx => (nomatch hx), hh⟩
  | cons x l ih =>
    intro hh
    have fin : ReOk ρ h h' up x → reChk ρ h h' up l K = some r → (∀ y ∈ x :: l, ReOk ρ h h' up y) ∧ K = some r := by
      intro h1 h2
      obtain ⟨h3, h4⟩ := ih h2
      refine ⟨fun y hy => ?_, h4⟩
      cases hy with
      | head => exact h1
      | tail _ hy => exact h3 y hy
    cases x with
    | load n t g =>
      simp only [reChk] at hh
      cases e : ρ t with
      | any => rw [e] at hh; obtain ⟨h1, h2⟩ := chkC_some hh; exact fin (fun ha => (h1 ha).elim) h2
      | box cs =>
        rw [e] at hh
        simp only at hh
        cases up with
        | none => exact fin (fun _ => by rw [e]; intro d cs' h; cases h) hh
        | some p =>
          obtain ⟨d, cs'⟩ := p
          simp only at hh
          split at hh
          · rename_i hd
            obtain ⟨h1, h2⟩ := chkC_some hh
            exact fin (fun ha => by rw [e]; intro d' cs'' h _; cases h; exact h1 ha) h2
          · rename_i hd
            exact fin (fun _ => by rw [e]; intro d' cs'' h hdt; cases h; subst hdt; simp at hd) hh
      | lref gs b e' off =>
        rw [e] at hh
        simp only at hh
        cases up with
        | none => exact fin (fun _ => by rw [e]; intro d cs' h; cases h) hh
        | some p =>
          obtain ⟨d, cs'⟩ := p
          simp only at hh
          split at hh
          · rename_i hd
            split at hh
            · rename_i cs hcs
              obtain ⟨h1, h2⟩ := chkC_some hh
              exact fin (fun ha => by rw [e]; intro d' cs'' h _; cases h; exact ⟨cs, hcs, h1 ha⟩) h2
            · obtain ⟨h1, h2⟩ := chkC_some hh
              exact fin (fun ha => (h1 ha).elim) h2
          · rename_i hd
            exact fin (fun _ => by rw [e]; intro d' cs'' h hdt; cases h; subst hdt; simp at hd) hh
      | g gs b y =>
        rw [e] at hh
        cases y with
        | ptr o =>
          cases o with
          | some a =>
            obtain ⟨h1, h2⟩ := chkC_some hh
            exact fin (fun ha => by rw [e]; exact h1 ha) h2
          | none => obtain ⟨h1, h2⟩ := chkC_some hh; exact fin (fun ha => (h1 ha).elim) h2
        | _ => obtain ⟨h1, h2⟩ := chkC_some hh; exact fin (fun ha => (h1 ha).elim) h2
    | blk t =>
      simp only [reChk] at hh
      split at hh
      · rename_i e; obtain ⟨h1, h2⟩ := chkC_some hh; exact fin (by simp only [ReOk, e]; exact h1) h2
      · rename_i e; obtain ⟨h1, h2⟩ := chkC_some hh; exact fin (by simp only [ReOk, e]; exact h1) h2
      · rename_i e; obtain ⟨h1, h2⟩ := chkC_some hh; exact fin (by simp only [ReOk, e]; exact h1) h2
      · cases hh
    | sl t g =>
      simp only [reChk] at hh
      split at hh
      · rename_i e; obtain ⟨h1, h2⟩ := chkC_some hh; exact fin (fun ha gs b a n e' => by rw [e] at e'; cases e'; exact h1 ha) h2
      · rename_i hne; exact fin (fun _ gs b a n e' => absurd e' (hne gs b a n)) hh

/-- One step of the canonical run. -/
structure TStep (C : FuncId → List AV → Heap → Res) (a : AOp) (σ σ' : St) (gs : List (Nat × Bool)) (bc : Bool) (sv : SV) (h : Heap) (up : Up) : Prop where
  grd : guardOf (envF σ.env) a.guard = some (gs, bc)
  op : ∀ (S : Type) (K : SV → Heap → Up → Option S), opK C (envF σ.env) σ.ah gs bc a.k K = K sv h up
  dst : dstOk a.dst sv σ.env = true
  re : ∀ x ∈ a.re, ReOk (envF σ.env) σ.ah h up x
  eq : σ' = ⟨upd (put σ.env a.dst sv) up, h⟩

theorem stepOp_trace {R : Type} {r : R} {C : FuncId → List AV → Heap → Res} {a : AOp} {σ : St} {K : St → Option R} (h : stepOp C a σ K = some r) : ∃ σ' gs bc sv h up, TStep C a σ σ' gs bc sv h up ∧ K σ' = some r := by
  have h : (match guardOf (envF σ.env) a.guard with
      | none => none
      | some (gs, bc) => opK C (envF σ.env) σ.ah gs bc a.k fun sv h up =>
        match dstOk a.dst sv σ.env with
        | true => reChk (envF σ.env) σ.ah h up a.re (K ⟨upd (put σ.env a.dst sv) up, h⟩)
        | false => none) = some r := h
  cases hgd : guardOf (envF σ.env) a.guard with
  | none => rw [hgd] at h; cases h
  | some p =>
    obtain ⟨gs, bc⟩ := p
    rw [hgd] at h
    simp only at h
    obtain ⟨sv, h', up, h, hn⟩ := opK_nat h
    split at h
    · rename_i hd
      obtain ⟨h1, h2⟩ := reChk_spec h
      exact ⟨_, gs, bc, sv, h', up, ⟨hgd, fun S K => hn K, hd, h1, rfl⟩, h2⟩
    · cases h

theorem evalOps_trace {R : Type} {r : R} {C : FuncId → List AV → Heap → Res} {K : St → Option R} : ∀ (l : List AOp) (σ0 : St), evalOps C l σ0 K = some r →
    ∃ σ : Nat → St, σ 0 = σ0 ∧ K (σ l.length) = some r ∧ ∀ k a, l[k]? = some a → ∃ gs bc sv h up, TStep C a (σ k) (σ (k + 1)) gs bc sv h up := by
  intro l
  induction l with
  | nil => intro σ0 h; exact ⟨fun _ => σ0, rfl, h, fun k a ha => by simp at ha⟩
  | cons a l ih =>
    intro σ0 h
    simp only [evalOps] at h
    obtain ⟨σ', gs, bc, sv, h', up, ht, h⟩ := stepOp_trace h
    obtain ⟨σ, h0, hK, hs⟩ := ih σ' h
    refine ⟨fun k => match k with | 0 => σ0 | k + 1 => σ k, rfl, hK, fun k b hb => ?_⟩
    cases k with
    | zero =>
      simp only [List.getElem?_cons_zero, Option.some.injEq] at hb
      subst hb
      refine ⟨gs, bc, sv, h', up, ?_⟩
      show TStep C a σ0 (σ 0) gs bc sv h' up
      rw [h0]; exact ht
    | succ k =>
      exact hs k b (by simpa using hb)

end Go.Proofs.Ytmfmnbldngfelaa.Abs
