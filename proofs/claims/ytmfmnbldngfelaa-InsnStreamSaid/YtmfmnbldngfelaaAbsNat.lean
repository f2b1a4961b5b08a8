/- The evaluation of an operation does not look at what comes behind it. -/
import Derived.Test.YtmfmnbldngfelaaAbsFn
set_option linter.unusedVariables false
set_option linter.unusedSimpArgs false
namespace Go.Proofs.Ytmfmnbldngfelaa.Abs
open Go

section
variable {R : Type} {r : R} {ρ : Nat → SV} {ah : Heap} {gs : List (Nat × Bool)} {bc : Bool}

theorem gb_nat {α : Type} {m : Option α} {d : α} {K : α → Option R} (h : gb bc m d K = some r) : ∃ x, K x = some r ∧ ∀ {S : Type} (K' : α → Option S), gb bc m d K' = K' x := by
  cases m with
  | some x => exact ⟨x, h, fun K' => rfl⟩
  | none =>
    cases bc with
    | true => exact nomatch h
    | false => exact ⟨d, h, fun K' => rfl⟩

theorem chk_nat {p : Prop} {i : Decidable p} {K : Option R} (h : @chk R p i K = some r) : K = some r ∧ ∀ {S : Type} (K' : Option S), @chk S p i K' = K' := by
  unfold chk at h
  split at h
  · rename_i hp; exact ⟨h, fun K' => by unfold chk; rw [if_pos hp]⟩
  · exact nomatch h

theorem chkC_nat {p : Prop} {K : Option R} (h : chkC p K = some r) : K = some r ∧ ∀ {S : Type} (K' : Option S), chkC p K' = K' := by
  unfold chkC at h
  split at h
  · rename_i hp; exact ⟨h, fun K' => by unfold chkC; rw [if_pos hp]⟩
  · exact nomatch h

theorem rdC_nat {c : CS} {m : Option AV} {K : AV → Option R} (h : rdC c m bc K = some r) : ∃ x, K x = some r ∧ ∀ {S : Type} (K' : AV → Option S), rdC c m bc K' = K' x := by
  cases c <;> simp only [rdC] at h ⊢ <;> (obtain ⟨x, h, hn⟩ := gb_nat h; exact ⟨_, h, fun K' => hn _⟩)

theorem rdL_nat {l : List AV} {cs : List CS} : ∀ {i : Nat} {K : List AV → Option R}, rdL l bc cs i K = some r → ∃ x, K x = some r ∧ ∀ {S : Type} (K' : List AV → Option S), rdL l bc cs i K' = K' x := by
  induction cs with
  | nil => intro i K h; exact ⟨[], h, fun K' => rfl⟩
  | cons c cs ih =>
    intro i K h
    simp only [rdL] at h ⊢
    obtain ⟨x, h, hn⟩ := rdC_nat h
    obtain ⟨y, h, hm⟩ := ih h
    exact ⟨x :: y, h, fun K' => by rw [hn, hm]⟩

theorem rdV_nat {s : VS} {l : Option (List AV)} {K : AV → Option R} (h : rdV s l bc K = some r) : ∃ x, K x = some r ∧ ∀ {S : Type} (K' : AV → Option S), rdV s l bc K' = K' x := by
  cases s <;> simp only [rdV] at h ⊢
  · obtain ⟨x, h, hn⟩ := gb_nat h
    obtain ⟨y, h, hm⟩ := rdC_nat h
    exact ⟨y, h, fun K' => by rw [hn, hm]⟩
  · obtain ⟨x, h, hn⟩ := gb_nat h
    obtain ⟨y, h, hm⟩ := rdL_nat h
    exact ⟨_, h, fun K' => by rw [hn, hm]⟩
  · obtain ⟨x, h, hn⟩ := gb_nat h
    exact ⟨_, h, fun K' => by rw [hn]⟩

theorem rdW_nat {s : VS} {v : AV} {K : AV → Option R} (h : rdW s v bc K = some r) : ∃ x, K x = some r ∧ ∀ {S : Type} (K' : AV → Option S), rdW s v bc K' = K' x := by
  cases s <;> simp only [rdW] at h ⊢
  · exact rdC_nat h
  · obtain ⟨x, h, hn⟩ := gb_nat h
    obtain ⟨h, hc⟩ := chk_nat h
    obtain ⟨y, h, hm⟩ := rdL_nat h
    exact ⟨_, h, fun K' => by rw [hn, hc, hm]⟩
  · obtain ⟨x, h, hn⟩ := gb_nat h
    obtain ⟨h, hc⟩ := chk_nat h
    exact ⟨_, h, fun K' => by rw [hn, hc]⟩

theorem rdWs_nat {l : List AV} {ss : List VS} : ∀ {i : Nat} {K : List AV → Option R}, rdWs l bc ss i K = some r → ∃ x, K x = some r ∧ ∀ {S : Type} (K' : List AV → Option S), rdWs l bc ss i K' = K' x := by
  induction ss with
  | nil => intro i K h; exact ⟨[], h, fun K' => rfl⟩
  | cons c cs ih =>
    intro i K h
    simp only [rdWs] at h ⊢
    obtain ⟨x, h, hn⟩ := rdW_nat h
    obtain ⟨y, h, hm⟩ := ih h
    exact ⟨x :: y, h, fun K' => by rw [hn, hm]⟩

theorem rdRes_nat {ss : List VS} {v : AV} {K : AV → Option R} (h : rdRes ss v bc K = some r) : ∃ x, K x = some r ∧ ∀ {S : Type} (K' : AV → Option S), rdRes ss v bc K' = K' x := by
  unfold rdRes at h ⊢
  split at h
  · exact rdW_nat h
  · obtain ⟨x, h, hn⟩ := gb_nat h
    obtain ⟨y, h, hm⟩ := rdWs_nat h
    exact ⟨_, h, fun K' => by rw [hn, hm]⟩

theorem place_nat {x : AX} {K : Place → Option R} (h : place gs ρ x bc K = some r) : ∃ p, K p = some r ∧ ∀ {S : Type} (K' : Place → Option S), place gs ρ x bc K' = K' p := by
  unfold place at h ⊢
  cases x with
  | c v => exact nomatch h
  | tmp t =>
    simp only at h ⊢
    cases e : ρ t with
    | any => simp [e, getV] at h
    | box cs => simp only [e] at h ⊢; exact ⟨_, h, fun K' => rfl⟩
    | lref g b d o =>
      simp only [e] at h ⊢
      split at h
      · rename_i hi; exact ⟨_, h, fun K' => by rw [if_pos hi]⟩
      · exact nomatch h
    | g g b y =>
      simp only [e] at h ⊢
      split at h
      · rename_i z hz
        obtain ⟨p, h, hn⟩ := gb_nat h
        exact ⟨_, h, fun K' => hn _⟩
      · exact nomatch h

theorem binOpA_nat {tk : TK} {op : BinOp} {x y : AV} {K : AV → Option R} (h : binOpA tk bc op x y K = some r) : ∃ v, K v = some r ∧ ∀ {S : Type} (K' : AV → Option S), binOpA tk bc op x y K' = K' v := by
  unfold binOpA at h
  repeat' split at h
  all_goals first
    | (cases h; done)
    | (refine ⟨_, h, fun K' => ?_⟩; simp [binOpA]; done)
    | (obtain ⟨v, h, hn⟩ := gb_nat h; refine ⟨_, h, fun K' => ?_⟩; simp only [binOpA]; rw [hn]; done)
    | (unfold shInt at h
       split at h
       · obtain ⟨h, hn⟩ := chk_nat h; refine ⟨_, h, fun K' => ?_⟩; simp [binOpA, isShift, shInt, hn]; done
       · obtain ⟨h, hn⟩ := chk_nat h; refine ⟨_, h, fun K' => ?_⟩; simp [binOpA, isShift, shInt, hn]; done
       · cases h)
    | (unfold binInt at h
       split at h
       all_goals first
         | (cases h; done)
         | (refine ⟨_, h, fun K' => ?_⟩; simp [binOpA, isShift, binInt, *]; done)
         | (obtain ⟨h, hn⟩ := chk_nat h; refine ⟨_, h, fun K' => ?_⟩; simp [binOpA, isShift, binInt, hn, *]; done))

theorem opA_nat {k : AK} {ret : SV → Option R} (h : opA ρ ah gs bc k ret = some r) : ∃ sv, ret sv = some r ∧ ∀ {S : Type} (K' : SV → Option S), opA ρ ah gs bc k K' = K' sv := by
  cases k <;> simp only [opA] at h ⊢
  case load s x =>
    obtain ⟨p, h, hn⟩ := place_nat h
    cases p with
    | heap q =>
      cases s <;> simp only at h
      · obtain ⟨v, h, hm⟩ := rdC_nat h; exact ⟨_, h, fun K' => by rw [hn]; exact hm _⟩
      · obtain ⟨v, h, hm⟩ := rdV_nat h; exact ⟨_, h, fun K' => by rw [hn]; exact hm _⟩
      · obtain ⟨v, h, hm⟩ := rdV_nat h; exact ⟨_, h, fun K' => by rw [hn]; exact hm _⟩
    | loc d off =>
      simp only at h
      cases e : boxAt ρ d with
      | none => rw [e] at h; cases h
      | some cs =>
        rw [e] at h
        cases s <;> simp only at h
        · obtain ⟨v, h, hm⟩ := rdC_nat h; exact ⟨_, h, fun K' => by rw [hn]; simp only [e]; exact hm _⟩
        · obtain ⟨h, hc⟩ := chk_nat h
          obtain ⟨v, h, hm⟩ := rdL_nat h
          exact ⟨_, h, fun K' => by rw [hn]; simp only [e]; rw [hc]; exact hm _⟩
        · obtain ⟨h, hc⟩ := chk_nat h
          exact ⟨_, h, fun K' => by rw [hn]; simp only [e]; rw [hc]⟩
  case fieldAddr off x =>
    obtain ⟨p, h, hn⟩ := place_nat h
    cases p <;> exact ⟨_, h, fun K' => hn _⟩
  case indexArr len es x i =>
    split at h
    · rename_i hi
      obtain ⟨p, h, hn⟩ := place_nat h
      cases p <;> simp only at h <;> (obtain ⟨h, hc⟩ := chk_nat h; exact ⟨_, h, fun K' => by rw [hn]; exact hc _⟩)
    · cases h
  case field off s x =>
    split at h
    · rename_i hx
      cases s <;> simp only at h
      · obtain ⟨v, h, hm⟩ := rdC_nat h; exact ⟨_, h, fun K' => hm _⟩
      · obtain ⟨h, hc⟩ := chk_nat h
        obtain ⟨v, h, hm⟩ := rdL_nat h
        exact ⟨_, h, fun K' => by simp only; rw [hc]; exact hm _⟩
      · obtain ⟨h, hc⟩ := chk_nat h
        exact ⟨_, h, fun K' => by simp only; rw [hc]⟩
    · cases h
  case bin tk op x y =>
    split at h
    · obtain ⟨v, h, hn⟩ := binOpA_nat h
      exact ⟨_, h, fun K' => hn _⟩
    · cases h
  case nilCheck x =>
    cases x with
    | c v => cases h
    | tmp t =>
      simp only at h ⊢
      cases e : ρ t with
      | any => rw [e] at h; cases h
      | box cs => rw [e] at h; exact ⟨_, h, fun K' => rfl⟩
      | lref g b d off =>
        rw [e] at h
        simp only at h ⊢
        split at h
        · rename_i hi; exact ⟨_, h, fun K' => by rw [if_pos hi]⟩
        · cases h
      | g g b v =>
        rw [e] at h
        simp only at h ⊢
        split at h
        · rename_i hi
          split at h
          · obtain ⟨y, h, hn⟩ := gb_nat h
            exact ⟨_, h, fun K' => by rw [if_pos hi]; exact hn _⟩
          · exact ⟨_, h, fun K' => by rw [if_pos hi]⟩
          · cases h
        · cases h
  case indexS x i =>
    split at h
    · obtain ⟨y, h, hn⟩ := gb_nat h
      exact ⟨_, h, fun K' => hn _⟩
    · cases h
  case lookup z s ok m k =>
    split at h
    · obtain ⟨f, h, hn⟩ := gb_nat h
      obtain ⟨v, h, hm⟩ := rdW_nat h
      cases ok with
      | true => exact ⟨_, h, fun K' => by simp only; rw [hn, hm]⟩
      | false => exact ⟨_, h, fun K' => by simp only; rw [hn, hm]⟩
    · cases h
  all_goals
    repeat' split at h
  all_goals first
    | (cases h; done)
    | (refine ⟨_, h, fun K' => ?_⟩; simp only [*]; done)
    | (refine ⟨_, h, fun K' => ?_⟩; simp [*]; done)
    | (obtain ⟨h, hc⟩ := chkC_nat h; refine ⟨_, h, fun K' => ?_⟩; simp only [hc]; done)
    | (obtain ⟨h, hc⟩ := chkC_nat h; refine ⟨_, h, fun K' => ?_⟩; simp only [*]; done)
    | (obtain ⟨v, h, hn⟩ := gb_nat h; refine ⟨_, h, fun K' => ?_⟩; simp only [hn]; done)
    | (obtain ⟨v, h, hn⟩ := gb_nat h; refine ⟨_, h, fun K' => ?_⟩; simp only [*]; done)
    | (obtain ⟨h, hc⟩ := chk_nat h; refine ⟨_, h, fun K' => ?_⟩; simp only [hc]; done)
    | (obtain ⟨h, hc⟩ := chk_nat h; obtain ⟨v, h, hn⟩ := gb_nat h; refine ⟨_, h, fun K' => ?_⟩; simp only [hc, hn]; done)
    | (obtain ⟨h, hc⟩ := chk_nat h; obtain ⟨v, h, hn⟩ := rdC_nat h; refine ⟨_, h, fun K' => ?_⟩; simp only [hc, hn]; done)
    | (obtain ⟨h, hc⟩ := chk_nat h; cases h; done)

theorem opX_nat {k : AK} {ret : List AV → Option R} (h : opX ρ k ret = some r) : ∃ x, ret x = some r ∧ ∀ {S : Type} (K' : List AV → Option S), opX ρ k K' = K' x := by
  unfold opX at h
  repeat' split at h
  all_goals first
    | (cases h; done)
    | (refine ⟨_, h, fun K' => ?_⟩; simp only [opX, *]; done)

theorem opB_nat {k : AK} {n : Nat} {ret : AV → Blk → Option R} (h : opB ρ k n ret = some r) : ∃ x b, ret x b = some r ∧ ∀ {S : Type} (K' : AV → Blk → Option S), opB ρ k n K' = K' x b := by
  unfold opB at h
  repeat' split at h
  all_goals first
    | (cases h; done)
    | (refine ⟨_, _, h, fun K' => ?_⟩; simp only [opB, *]; done)
    | (obtain ⟨h, hc⟩ := chk_nat h; refine ⟨_, _, h, fun K' => ?_⟩; simp only [opB, *]; done)
    | (rw [Option.bind_eq_some_iff] at h; obtain ⟨y, hy, h⟩ := h; refine ⟨_, _, h, fun K' => ?_⟩; simp only [opB, *, Option.bind_some]; done)

theorem opM_nat {k : AK} {ret : AV → Heap → Up → Option R} (h : opM ρ ah k ret = some r) : ∃ x h' u, ret x h' u = some r ∧ ∀ {S : Type} (K' : AV → Heap → Up → Option S), opM ρ ah k K' = K' x h' u := by
  cases k <;> simp only [opM] at h ⊢
  case store n x y =>
    split at h
    · rename_i a ha
      obtain ⟨p, h, hn⟩ := place_nat h
      cases p with
      | heap q =>
        simp only at h
        split at h
        · split at h
          · rename_i z hz
            obtain ⟨h, hc⟩ := chk_nat h
            rw [Option.bind_eq_some_iff] at h
            obtain ⟨h', hst, h⟩ := h
            exact ⟨_, _, _, h, fun K' => by rw [hn]; simp only [hz]; rw [hc, hst]; rfl⟩
          · cases h
        · rename_i hne
          obtain ⟨h, hc⟩ := chk_nat h
          rw [Option.bind_eq_some_iff] at h
          obtain ⟨h', hst, h⟩ := h
          refine ⟨_, _, _, h, fun K' => ?_⟩
          rw [hn]
          simp only
          rw [hc, hst]; rfl
      | loc d off =>
        simp only at h
        cases e : boxAt ρ d with
        | none => rw [e] at h; cases h
        | some cs =>
          rw [e] at h
          simp only at h
          split at h
          · split at h
            · rename_i z hz
              obtain ⟨h, hc⟩ := chk_nat h
              exact ⟨_, _, _, h, fun K' => by rw [hn]; simp only [e, hz]; rw [hc]⟩
            · cases h
          · obtain ⟨h, hc⟩ := chk_nat h
            refine ⟨_, _, _, h, fun K' => ?_⟩
            rw [hn]
            simp only [e]
            rw [hc]
    · cases h
  all_goals
    repeat' split at h
  all_goals first
    | (cases h; done)
    | (rw [Option.bind_eq_some_iff] at h
       obtain ⟨y, hy, h⟩ := h
       refine ⟨_, _, _, h, fun K' => ?_⟩
       simp only [hy, Option.bind_some]; done)
    | (rw [Option.bind_eq_some_iff] at h
       obtain ⟨y, hy, h⟩ := h
       rw [Option.bind_eq_some_iff] at h
       obtain ⟨z, hz, h⟩ := h
       refine ⟨_, _, _, h, fun K' => ?_⟩
       simp only [hy, hz, Option.bind_some]; done)
    | (rw [Option.bind_eq_some_iff] at h
       obtain ⟨y, hy, h⟩ := h
       rw [Option.bind_eq_some_iff] at h
       obtain ⟨z, hz, h⟩ := h
       obtain ⟨q, h, hn⟩ := gb_nat h
       refine ⟨_, _, _, h, fun K' => ?_⟩
       simp only [hy, hz, Option.bind_some]
       exact hn _)

theorem opF_nat {k : AK} {ret : FuncId → List AV → List VS → AV → Option R} (h : opF ρ gs k ret = some r) :
    ∃ f as rs z, ret f as rs z = some r ∧ ∀ {S : Type} (K' : FuncId → List AV → List VS → AV → Option S), opF ρ gs k K' = K' f as rs z := by
  unfold opF at h
  repeat' split at h
  all_goals first
    | (cases h; done)
    | (refine ⟨_, _, _, _, h, fun K' => ?_⟩; simp only [opF, *]; done)

theorem opK_nat {C : FuncId → List AV → Heap → Res} {k : AK} {K : SV → Heap → Up → Option R} (h : opK C ρ ah gs bc k K = some r) :
    ∃ sv h' u, K sv h' u = some r ∧ ∀ {S : Type} (K' : SV → Heap → Up → Option S), opK C ρ ah gs bc k K' = K' sv h' u := by
  have F : ∀ k', (opF ρ gs k' fun f as rs z => (match (generalizing := false) gs with
      | [] => (C f as ah).bind fun r => rdRes rs r.1 true fun a => K (.v a) r.2 none
      | _ => (if bc = true then C f as ah else some (z, ah)).bind fun r => rdRes rs r.1 bc fun a => K (.g gs bc a) r.2 none)) = some r →
      ∃ sv h' u, K sv h' u = some r ∧ ∀ {S : Type} (K' : SV → Heap → Up → Option S), (opF ρ gs k' fun f as rs z => (match (generalizing := false) gs with
      | [] => (C f as ah).bind fun r => rdRes rs r.1 true fun a => K' (.v a) r.2 none
      | _ => (if bc = true then C f as ah else some (z, ah)).bind fun r => rdRes rs r.1 bc fun a => K' (.g gs bc a) r.2 none)) = K' sv h' u := by
    intro k' h
    obtain ⟨f, as, rs, z, h, hn⟩ := opF_nat h
    cases gs with
    | nil =>
      simp only at h
      rw [Option.bind_eq_some_iff] at h
      obtain ⟨p, hp, h⟩ := h
      obtain ⟨x, h, hm⟩ := rdRes_nat h
      exact ⟨_, _, _, h, fun K' => by rw [hn]; simp only [hp, Option.bind_some]; exact hm _⟩
    | cons q gs =>
      simp only at h
      rw [Option.bind_eq_some_iff] at h
      obtain ⟨p, hp, h⟩ := h
      obtain ⟨x, h, hm⟩ := rdRes_nat h
      exact ⟨_, _, _, h, fun K' => by rw [hn]; simp only [hp, Option.bind_some]; exact hm _⟩
  have X : ∀ k', (match (generalizing := false) gs with | [] => opX ρ k' fun cs => K (.box cs) ah none | _ => none) = some r →
      ∃ sv h' u, K sv h' u = some r ∧ ∀ {S : Type} (K' : SV → Heap → Up → Option S), (match (generalizing := false) gs with | [] => opX ρ k' fun cs => K' (.box cs) ah none | _ => none) = K' sv h' u := by
    intro k' h
    cases gs with
    | nil => obtain ⟨x, h, hn⟩ := opX_nat h; exact ⟨_, _, _, h, fun K' => hn _⟩
    | cons q gs => cases h
  have B : ∀ k', (match (generalizing := false) gs with | [] => opB ρ k' ah.length fun a b => K (.v a) (ah ++ [b]) none | _ => none) = some r →
      ∃ sv h' u, K sv h' u = some r ∧ ∀ {S : Type} (K' : SV → Heap → Up → Option S), (match (generalizing := false) gs with | [] => opB ρ k' ah.length fun a b => K' (.v a) (ah ++ [b]) none | _ => none) = K' sv h' u := by
    intro k' h
    cases gs with
    | nil => obtain ⟨x, b, h, hn⟩ := opB_nat h; exact ⟨_, _, _, h, fun K' => hn _⟩
    | cons q gs => cases h
  have M : ∀ k', (match (generalizing := false) gs with | [] => opM ρ ah k' fun a h u => K (.v a) h u | _ => none) = some r →
      ∃ sv h' u, K sv h' u = some r ∧ ∀ {S : Type} (K' : SV → Heap → Up → Option S), (match (generalizing := false) gs with | [] => opM ρ ah k' fun a h u => K' (.v a) h u | _ => none) = K' sv h' u := by
    intro k' h
    cases gs with
    | nil => obtain ⟨x, h', u, h, hn⟩ := opM_nat h; exact ⟨_, _, _, h, fun K' => hn _⟩
    | cons q gs => cases h
  have A : ∀ k', opA ρ ah gs bc k' (fun sv => K sv ah none) = some r →
      ∃ sv h' u, K sv h' u = some r ∧ ∀ {S : Type} (K' : SV → Heap → Up → Option S), opA ρ ah gs bc k' (fun sv => K' sv ah none) = K' sv h' u := by
    intro k' h
    obtain ⟨x, h, hn⟩ := opA_nat h
    exact ⟨_, _, _, h, fun K' => hn _⟩
  cases k <;> unfold opK at h ⊢
  case boxL => exact X _ h
  case allocL => exact X _ h
  case boxH => exact B _ h
  case allocH => exact B _ h
  case buildSl => exact B _ h
  case makeMap => exact B _ h
  case makeSl => exact B _ h
  case store => exact M _ h
  case clear => exact M _ h
  case mapUpdate => exact M _ h
  case append => exact M _ h
  case copy => exact M _ h
  case call => exact F _ h
  case callV => exact F _ h
  all_goals exact A _ h

end
end Go.Proofs.Ytmfmnbldngfelaa.Abs
