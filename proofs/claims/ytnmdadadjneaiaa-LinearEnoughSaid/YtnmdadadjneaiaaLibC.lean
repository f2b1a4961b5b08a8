/- The evaluation of an operation does not look at what comes behind it. -/
import Derived.Test.YtnmdadadjneaiaaLibB
set_option linter.unusedVariables false
set_option linter.unusedSimpArgs false
namespace Go.Proofs.Ytnmdadadjneaiaa.Abs
open Go
section
variable {R : Type} {r : R} {ρ : Nat → SV} {ah : Heap} {gs : List (Nat × Bool)} {bc : Bool}
theorem gb_nat {α : Type} {m : Option α} {d : α} {K : α → Option R} (h : gb bc m d K = some r) : ∃ x, K x = some r ∧ ∀ {S : Type} (K' : α → Option S), gb bc m d K' = K' x := by
 cases m with
 | some x => exact ⟨x, h, fun K' => rfl⟩
 | none =>
  cases bc with
  | true => exact nomatch h
  | false => exact ⟨d, h, fun K' => rfl⟩
theorem chk_nat {p : Prop} {i : Decidable p} {K : Option R} (h : @chk R p i K = some r) : K = some r ∧ ∀ {S : Type} (K' : Option S), @chk S p i K' = K' := by
 unfold chk at h
 split at h
 · rename_i hp; exact ⟨h, fun K' => by unfold chk; rw [if_pos hp]⟩
 · exact nomatch h
theorem chkC_nat {p : Prop} [Decidable p] {K : Option R} (h : chkC p K = some r) : K = some r ∧ ∀ {S : Type} (K' : Option S), chkC p K' = K' := by
 unfold chkC at h
 split at h
 · rename_i hp; exact ⟨h, fun K' => by unfold chkC; rw [if_pos hp]⟩
 · exact nomatch h
theorem rdC_nat {c : CS} {m : Option AV} {K : AV → Option R} (h : rdC c m bc K = some r) : ∃ x, K x = some r ∧ ∀ {S : Type} (K' : AV → Option S), rdC c m bc K' = K' x := by
 cases c <;> simp only [rdC] at h ⊢ <;> (obtain ⟨x, h, hn⟩ := gb_nat h; exact ⟨_, h, fun K' => hn _⟩)
theorem rdL_nat {l : List AV} {cs : List CS} : ∀ {i : Nat} {K : List AV → Option R}, rdL l bc cs i K = some r → ∃ x, K x = some r ∧ ∀ {S : Type} (K' : List AV → Option S), rdL l bc cs i K' = K' x := by
 induction cs with
 | nil => intro i K h; exact ⟨[], h, fun K' => rfl⟩
 | cons c cs ih =>
  intro i K h
  simp only [rdL] at h ⊢
  obtain ⟨x, h, hn⟩ := rdC_nat h
  obtain ⟨y, h, hm⟩ := ih h
  exact ⟨x :: y, h, fun K' => by rw [hn, hm]⟩
theorem rdV_nat {s : VS} {l : Option (List AV)} {K : AV → Option R} (h : rdV s l bc K = some r) : ∃ x, K x = some r ∧ ∀ {S : Type} (K' : AV → Option S), rdV s l bc K' = K' x := by
 cases s <;> simp only [rdV] at h ⊢
 · obtain ⟨x, h, hn⟩ := gb_nat h
   obtain ⟨y, h, hm⟩ := rdC_nat h
   exact ⟨y, h, fun K' => by rw [hn, hm]⟩
 · obtain ⟨x, h, hn⟩ := gb_nat h
   obtain ⟨y, h, hm⟩ := rdL_nat h
   exact ⟨_, h, fun K' => by rw [hn, hm]⟩
 · obtain ⟨x, h, hn⟩ := gb_nat h
   exact ⟨_, h, fun K' => by rw [hn]⟩
theorem rdW_nat {s : VS} {v : AV} {K : AV → Option R} (h : rdW s v bc K = some r) : ∃ x, K x = some r ∧ ∀ {S : Type} (K' : AV → Option S), rdW s v bc K' = K' x := by
 cases s <;> simp only [rdW] at h ⊢
 · exact rdC_nat h
 · obtain ⟨x, h, hn⟩ := gb_nat h
   obtain ⟨h, hc⟩ := chk_nat h
   obtain ⟨y, h, hm⟩ := rdL_nat h
   exact ⟨_, h, fun K' => by rw [hn, hc, hm]⟩
 · obtain ⟨x, h, hn⟩ := gb_nat h
   obtain ⟨h, hc⟩ := chk_nat h
   exact ⟨_, h, fun K' => by rw [hn, hc]⟩
theorem rdWs_nat {l : List AV} {ss : List VS} : ∀ {i : Nat} {K : List AV → Option R}, rdWs l bc ss i K = some r → ∃ x, K x = some r ∧ ∀ {S : Type} (K' : List AV → Option S), rdWs l bc ss i K' = K' x := by
 induction ss with
 | nil => intro i K h; exact ⟨[], h, fun K' => rfl⟩
 | cons c cs ih =>
  intro i K h
  simp only [rdWs] at h ⊢
  obtain ⟨x, h, hn⟩ := rdW_nat h
  obtain ⟨y, h, hm⟩ := ih h
  exact ⟨x :: y, h, fun K' => by rw [hn, hm]⟩
theorem rdRes_nat {ss : List VS} {v : AV} {K : AV → Option R} (h : rdRes ss v bc K = some r) : ∃ x, K x = some r ∧ ∀ {S : Type} (K' : AV → Option S), rdRes ss v bc K' = K' x := by
 unfold rdRes at h ⊢
 split at h
 · exact rdW_nat h
 · obtain ⟨x, h, hn⟩ := gb_nat h
   obtain ⟨y, h, hm⟩ := rdWs_nat h
   exact ⟨_, h, fun K' => by rw [hn, hm]⟩
theorem place_nat {x : AX} {K : Place → Option R} (h : place gs ρ x bc K = some r) : ∃ p, K p = some r ∧ ∀ {S : Type} (K' : Place → Option S), place gs ρ x bc K' = K' p := by
 unfold place at h ⊢
 cases x with
 | c v => exact nomatch h
 | tmp t =>
  simp only at h ⊢
  cases e : ρ t with
  | any => simp [e, getV] at h
  | box cs => simp only [e] at h ⊢; exact ⟨_, h, fun K' => rfl⟩
  | lref g b d o =>
   simp only [e] at h ⊢
   split at h
   · rename_i hi; exact ⟨_, h, fun K' => by rw [if_pos hi]⟩
   · exact nomatch h
  | g g b y =>
   simp only [e] at h ⊢
   split at h
   · rename_i z hz
     obtain ⟨p, h, hn⟩ := gb_nat h
     exact ⟨_, h, fun K' => hn _⟩
   · exact nomatch h
theorem binOpA_nat {tk : TK} {op : BinOp} {x y : AV} {K : AV → Option R} (h : binOpA tk bc op x y K = some r) : ∃ v, K v = some r ∧ ∀ {S : Type} (K' : AV → Option S), binOpA tk bc op x y K' = K' v := by
 unfold binOpA at h
 repeat' split at h
 all_goals first
  | (cases h; done)
  | (refine ⟨_, h, fun K' => ?_⟩; simp [binOpA]; done)
  | (obtain ⟨v, h, hn⟩ := gb_nat h; refine ⟨_, h, fun K' => ?_⟩; simp only [binOpA]; rw [hn]; done)
  | (unfold shInt at h
     split at h
     · obtain ⟨h, hn⟩ := chk_nat h; refine ⟨_, h, fun K' => ?_⟩; simp [binOpA, isShift, shInt, hn]; done
     · obtain ⟨h, hn⟩ := chk_nat h; refine ⟨_, h, fun K' => ?_⟩; simp [binOpA, isShift, shInt, hn]; done
     · cases h)
  | (unfold binInt at h
     split at h
     all_goals first
      | (cases h; done)
      | (refine ⟨_, h, fun K' => ?_⟩; simp [binOpA, isShift, binInt, *]; done)
      | (obtain ⟨h, hn⟩ := chk_nat h; refine ⟨_, h, fun K' => ?_⟩; simp [binOpA, isShift, binInt, hn, *]; done))
theorem opA_nat {k : AK} {ret : SV → Option R} (h : opA ρ ah gs bc k ret = some r) : ∃ sv, ret sv = some r ∧ ∀ {S : Type} (K' : SV → Option S), opA ρ ah gs bc k K' = K' sv := by
 cases k <;> simp only [opA] at h ⊢
 case load s x =>
  obtain ⟨p, h, hn⟩ := place_nat h
  cases p with
  | heap q =>
   cases s <;> simp only at h
   · obtain ⟨v, h, hm⟩ := rdC_nat h; exact ⟨_, h, fun K' => by rw [hn]; exact hm _⟩
   · obtain ⟨v, h, hm⟩ := rdV_nat h; exact ⟨_, h, fun K' => by rw [hn]; exact hm _⟩
   · obtain ⟨v, h, hm⟩ := rdV_nat h; exact ⟨_, h, fun K' => by rw [hn]; exact hm _⟩
  | loc d off =>
   simp only at h
   cases e : boxAt ρ d with
   | none => rw [e] at h; cases h
   | some cs =>
    rw [e] at h
    cases s <;> simp only at h
    · obtain ⟨v, h, hm⟩ := rdC_nat h; exact ⟨_, h, fun K' => by rw [hn]; simp only [e]; exact hm _⟩
    · obtain ⟨h, hc⟩ := chk_nat h
      obtain ⟨v, h, hm⟩ := rdL_nat h
      exact ⟨_, h, fun K' => by rw [hn]; simp only [e]; rw [hc]; exact hm _⟩
    · obtain ⟨h, hc⟩ := chk_nat h
      exact ⟨_, h, fun K' => by rw [hn]; simp only [e]; rw [hc]⟩
 case fieldAddr off x =>
  obtain ⟨p, h, hn⟩ := place_nat h
  cases p <;> exact ⟨_, h, fun K' => hn _⟩
 case indexArr len es x i =>
  split at h
  · rename_i hi
    obtain ⟨p, h, hn⟩ := place_nat h
    cases p <;> simp only at h <;> (obtain ⟨h, hc⟩ := chk_nat h; exact ⟨_, h, fun K' => by rw [hn]; exact hc _⟩)
  · cases h
 case field off s x =>
  split at h
  · rename_i hx
    cases s <;> simp only at h
    · obtain ⟨v, h, hm⟩ := rdC_nat h; exact ⟨_, h, fun K' => hm _⟩
    · obtain ⟨h, hc⟩ := chk_nat h
      obtain ⟨v, h, hm⟩ := rdL_nat h
      exact ⟨_, h, fun K' => by simp only; rw [hc]; exact hm _⟩
    · obtain ⟨h, hc⟩ := chk_nat h
      exact ⟨_, h, fun K' => by simp only; rw [hc]⟩
  · cases h
 case bin tk op x y =>
  split at h
  · obtain ⟨v, h, hn⟩ := binOpA_nat h
    exact ⟨_, h, fun K' => hn _⟩
  · cases h
 case nilCheck x =>
  cases x with
  | c v => cases h
  | tmp t =>
   simp only at h ⊢
   cases e : ρ t with
   | any => rw [e] at h; cases h
   | box cs => rw [e] at h; exact ⟨_, h, fun K' => rfl⟩
   | lref g b d off =>
    rw [e] at h
    simp only at h ⊢
    split at h
    · rename_i hi; exact ⟨_, h, fun K' => by rw [if_pos hi]⟩
    · cases h
   | g g b v =>
    rw [e] at h
    simp only at h ⊢
    split at h
    · rename_i hi
      split at h
      · obtain ⟨y, h, hn⟩ := gb_nat h
        exact ⟨_, h, fun K' => by rw [if_pos hi]; exact hn _⟩
      · exact ⟨_, h, fun K' => by rw [if_pos hi]⟩
      · cases h
    · cases h
 case indexS x i =>
  split at h
  · obtain ⟨y, h, hn⟩ := gb_nat h
    exact ⟨_, h, fun K' => hn _⟩
  · cases h
 case lookup z s ok m k =>
  split at h
  · obtain ⟨f, h, hn⟩ := gb_nat h
    obtain ⟨v, h, hm⟩ := rdW_nat h
    cases ok with
    | true => exact ⟨_, h, fun K' => by simp only; rw [hn, hm]⟩
    | false => exact ⟨_, h, fun K' => by simp only; rw [hn, hm]⟩
  · cases h
 all_goals
  repeat' split at h
 all_goals first
  | (cases h; done)
  | (refine ⟨_, h, fun K' => ?_⟩; simp only [*]; done)
  | (refine ⟨_, h, fun K' => ?_⟩; simp [*]; done)
  | (obtain ⟨h, hc⟩ := chkC_nat h; refine ⟨_, h, fun K' => ?_⟩; simp only [hc]; done)
  | (obtain ⟨h, hc⟩ := chkC_nat h; refine ⟨_, h, fun K' => ?_⟩; simp only [*]; done)
  | (obtain ⟨v, h, hn⟩ := gb_nat h; refine ⟨_, h, fun K' => ?_⟩; simp only [hn]; done)
  | (obtain ⟨v, h, hn⟩ := gb_nat h; refine ⟨_, h, fun K' => ?_⟩; simp only [*]; done)
  | (obtain ⟨h, hc⟩ := chk_nat h; refine ⟨_, h, fun K' => ?_⟩; simp only [hc]; done)
  | (obtain ⟨h, hc⟩ := chk_nat h; obtain ⟨v, h, hn⟩ := gb_nat h; refine ⟨_, h, fun K' => ?_⟩; simp only [hc, hn]; done)
  | (obtain ⟨h, hc⟩ := chk_nat h; obtain ⟨v, h, hn⟩ := rdC_nat h; refine ⟨_, h, fun K' => ?_⟩; simp only [hc, hn]; done)
  | (obtain ⟨h, hc⟩ := chk_nat h; cases h; done)
theorem opX_nat {k : AK} {ret : List AV → Option R} (h : opX ρ k ret = some r) : ∃ x, ret x = some r ∧ ∀ {S : Type} (K' : List AV → Option S), opX ρ k K' = K' x := by
 unfold opX at h
 repeat' split at h
 all_goals first
  | (cases h; done)
  | (refine ⟨_, h, fun K' => ?_⟩; simp only [opX, *]; done)
theorem opB_nat {k : AK} {n : Nat} {ret : AV → Blk → Option R} (h : opB ρ k n ret = some r) : ∃ x b, ret x b = some r ∧ ∀ {S : Type} (K' : AV → Blk → Option S), opB ρ k n K' = K' x b := by
 unfold opB at h
 repeat' split at h
 all_goals first
  | (cases h; done)
  | (refine ⟨_, _, h, fun K' => ?_⟩; simp only [opB, *]; done)
  | (obtain ⟨h, hc⟩ := chk_nat h; refine ⟨_, _, h, fun K' => ?_⟩; simp only [opB, *]; done)
  | (rw [Option.bind_eq_some_iff] at h; obtain ⟨y, hy, h⟩ := h; refine ⟨_, _, h, fun K' => ?_⟩; simp only [opB, *, Option.bind_some]; done)
theorem opM_nat {k : AK} {ret : AV → Heap → Up → Option R} (h : opM ρ ah k ret = some r) : ∃ x h' u, ret x h' u = some r ∧ ∀ {S : Type} (K' : AV → Heap → Up → Option S), opM ρ ah k K' = K' x h' u := by
 cases k <;> simp only [opM] at h ⊢
 case store n x y =>
  split at h
  · rename_i a ha
    obtain ⟨p, h, hn⟩ := place_nat h
    cases p with
    | heap q =>
     simp only at h
     split at h
     · split at h
       · rename_i z hz
         obtain ⟨h, hc⟩ := chk_nat h
         rw [Option.bind_eq_some_iff] at h
         obtain ⟨h', hst, h⟩ := h
         exact ⟨_, _, _, h, fun K' => by rw [hn]; simp only [hz]; rw [hc, hst]; rfl⟩
       · cases h
     · rename_i hne
       obtain ⟨h, hc⟩ := chk_nat h
       rw [Option.bind_eq_some_iff] at h
       obtain ⟨h', hst, h⟩ := h
       refine ⟨_, _, _, h, fun K' => ?_⟩
       rw [hn]
       simp only
       rw [hc, hst]; rfl
    | loc d off =>
     simp only at h
     cases e : boxAt ρ d with
     | none => rw [e] at h; cases h
     | some cs =>
      rw [e] at h
      simp only at h
      split at h
      · split at h
        · rename_i z hz
          obtain ⟨h, hc⟩ := chk_nat h
          exact ⟨_, _, _, h, fun K' => by rw [hn]; simp only [e, hz]; rw [hc]⟩
        · cases h
      · obtain ⟨h, hc⟩ := chk_nat h
        refine ⟨_, _, _, h, fun K' => ?_⟩
        rw [hn]
        simp only [e]
        rw [hc]
  · cases h
 all_goals
  repeat' split at h
 all_goals first
  | (cases h; done)
  | (rw [Option.bind_eq_some_iff] at h
     obtain ⟨y, hy, h⟩ := h
     refine ⟨_, _, _, h, fun K' => ?_⟩
     simp only [hy, Option.bind_some]; done)
  | (rw [Option.bind_eq_some_iff] at h
     obtain ⟨y, hy, h⟩ := h
     rw [Option.bind_eq_some_iff] at h
     obtain ⟨z, hz, h⟩ := h
     refine ⟨_, _, _, h, fun K' => ?_⟩
     simp only [hy, hz, Option.bind_some]; done)
  | (rw [Option.bind_eq_some_iff] at h
     obtain ⟨y, hy, h⟩ := h
     rw [Option.bind_eq_some_iff] at h
     obtain ⟨z, hz, h⟩ := h
     obtain ⟨q, h, hn⟩ := gb_nat h
     refine ⟨_, _, _, h, fun K' => ?_⟩
     simp only [hy, hz, Option.bind_some]
     exact hn _)
theorem opF_nat {k : AK} {ret : FuncId → List AV → List VS → AV → Option R} (h : opF ρ gs k ret = some r) :
 ∃ f as rs z, ret f as rs z = some r ∧ ∀ {S : Type} (K' : FuncId → List AV → List VS → AV → Option S), opF ρ gs k K' = K' f as rs z := by
 unfold opF at h
 repeat' split at h
 all_goals first
  | (cases h; done)
  | (refine ⟨_, _, _, _, h, fun K' => ?_⟩; simp only [opF, *]; done)
theorem opK_nat {C : FuncId → List AV → Heap → Res} {k : AK} {K : SV → Heap → Up → Option R} (h : opK C ρ ah gs bc k K = some r) :
 ∃ sv h' u, K sv h' u = some r ∧ ∀ {S : Type} (K' : SV → Heap → Up → Option S), opK C ρ ah gs bc k K' = K' sv h' u := by
 have F : ∀ k', (opF ρ gs k' fun f as rs z => (match (generalizing := false) gs with
  | [] => (C f as ah).bind fun r => rdRes rs r.1 true fun a => K (.v a) r.2 none
  | _ => (if bc = true then C f as ah else some (z, ah)).bind fun r => rdRes rs r.1 bc fun a => K (.g gs bc a) r.2 none)) = some r →
  ∃ sv h' u, K sv h' u = some r ∧ ∀ {S : Type} (K' : SV → Heap → Up → Option S), (opF ρ gs k' fun f as rs z => (match (generalizing := false) gs with
  | [] => (C f as ah).bind fun r => rdRes rs r.1 true fun a => K' (.v a) r.2 none
  | _ => (if bc = true then C f as ah else some (z, ah)).bind fun r => rdRes rs r.1 bc fun a => K' (.g gs bc a) r.2 none)) = K' sv h' u := by
  intro k' h
  obtain ⟨f, as, rs, z, h, hn⟩ := opF_nat h
  cases gs with
  | nil =>
   simp only at h
   rw [Option.bind_eq_some_iff] at h
   obtain ⟨p, hp, h⟩ := h
   obtain ⟨x, h, hm⟩ := rdRes_nat h
   exact ⟨_, _, _, h, fun K' => by rw [hn]; simp only [hp, Option.bind_some]; exact hm _⟩
  | cons q gs =>
   simp only at h
   rw [Option.bind_eq_some_iff] at h
   obtain ⟨p, hp, h⟩ := h
   obtain ⟨x, h, hm⟩ := rdRes_nat h
   exact ⟨_, _, _, h, fun K' => by rw [hn]; simp only [hp, Option.bind_some]; exact hm _⟩
 have X : ∀ k', (match (generalizing := false) gs with | [] => opX ρ k' fun cs => K (.box cs) ah none | _ => none) = some r →
  ∃ sv h' u, K sv h' u = some r ∧ ∀ {S : Type} (K' : SV → Heap → Up → Option S), (match (generalizing := false) gs with | [] => opX ρ k' fun cs => K' (.box cs) ah none | _ => none) = K' sv h' u := by
  intro k' h
  cases gs with
  | nil => obtain ⟨x, h, hn⟩ := opX_nat h; exact ⟨_, _, _, h, fun K' => hn _⟩
  | cons q gs => cases h
 have B : ∀ k', (match (generalizing := false) gs with | [] => opB ρ k' ah.length fun a b => K (.v a) (ah ++ [b]) none | _ => none) = some r →
  ∃ sv h' u, K sv h' u = some r ∧ ∀ {S : Type} (K' : SV → Heap → Up → Option S), (match (generalizing := false) gs with | [] => opB ρ k' ah.length fun a b => K' (.v a) (ah ++ [b]) none | _ => none) = K' sv h' u := by
  intro k' h
  cases gs with
  | nil => obtain ⟨x, b, h, hn⟩ := opB_nat h; exact ⟨_, _, _, h, fun K' => hn _⟩
  | cons q gs => cases h
 have M : ∀ k', (match (generalizing := false) gs with | [] => opM ρ ah k' fun a h u => K (.v a) h u | _ => none) = some r →
  ∃ sv h' u, K sv h' u = some r ∧ ∀ {S : Type} (K' : SV → Heap → Up → Option S), (match (generalizing := false) gs with | [] => opM ρ ah k' fun a h u => K' (.v a) h u | _ => none) = K' sv h' u := by
  intro k' h
  cases gs with
  | nil => obtain ⟨x, h', u, h, hn⟩ := opM_nat h; exact ⟨_, _, _, h, fun K' => hn _⟩
  | cons q gs => cases h
 have A : ∀ k', opA ρ ah gs bc k' (fun sv => K sv ah none) = some r →
  ∃ sv h' u, K sv h' u = some r ∧ ∀ {S : Type} (K' : SV → Heap → Up → Option S), opA ρ ah gs bc k' (fun sv => K' sv ah none) = K' sv h' u := by
  intro k' h
  obtain ⟨x, h, hn⟩ := opA_nat h
  exact ⟨_, _, _, h, fun K' => hn _⟩
 cases k <;> unfold opK at h ⊢
 case boxL => exact X _ h
 case allocL => exact X _ h
 case boxH => exact B _ h
 case allocH => exact B _ h
 case buildSl => exact B _ h
 case makeMap => exact B _ h
 case makeSl => exact B _ h
 case store => exact M _ h
 case clear => exact M _ h
 case mapUpdate => exact M _ h
 case append => exact M _ h
 case copy => exact M _ h
 case call => exact F _ h
 case callV => exact F _ h
 all_goals exact A _ h
end
end Go.Proofs.Ytnmdadadjneaiaa.Abs
/- The evaluation of an operation looks at the slots that it reads, and no others. -/
set_option linter.unusedVariables false
set_option linter.unusedSimpArgs false
namespace Go.Proofs.Ytnmdadadjneaiaa.Abs
open Go
section
variable {R : Type} {r : R} {ρ ρ' : Nat → SV} {ah ah' : Heap} {gs : List (Nat × Bool)} {bc : Bool}
def SEq (x y : SV) : Prop := x = y ∨ ∃ c d, x = .box c ∧ y = .box d
theorem getV_congr {x : AX} (h : ∀ t ∈ axT x, SEq (ρ t) (ρ' t)) : getV gs ρ x = getV gs ρ' x := by
 cases x with
 | c v => rfl
 | tmp t =>
  rcases h t (by simp [axT]) with e | ⟨c, d, e, e'⟩
  · simp only [getV, e]
  · simp only [getV, e, e']
theorem getVs_congr : ∀ {xs : List AX}, (∀ t ∈ axTs xs, SEq (ρ t) (ρ' t)) → getVs gs ρ xs = getVs gs ρ' xs := by
 intro xs
 induction xs with
 | nil => intro h; rfl
 | cons x xs ih =>
  intro h
  simp only [getVs]
  rw [getV_congr (fun t ht => h t (by simp [axTs, ht])), ih (fun t ht => h t (by simp [axTs, ht]))]
theorem getParts_congr : ∀ {ps : List (Nat × Nat × AX)}, (∀ t ∈ partTs ps, SEq (ρ t) (ρ' t)) → getParts gs ρ ps = getParts gs ρ' ps := by
 intro ps
 induction ps with
 | nil => intro h; rfl
 | cons p ps ih =>
  intro h
  obtain ⟨off, n, x⟩ := p
  simp only [getParts]
  rw [getV_congr (fun t ht => h t (by simp [partTs, ht])), ih (fun t ht => h t (by simp [partTs, ht]))]
theorem partTs_map {es : Nat} : ∀ {ps : List (Nat × AX)}, partTs (ps.map fun p => (p.1, es, p.2)) = partTs' ps := by
 intro ps
 induction ps with
 | nil => rfl
 | cons p ps ih => simp [partTs, partTs', ih]
theorem place_congr {x : AX} {K : Place → Option R} (h : ∀ t ∈ axT x, SEq (ρ t) (ρ' t)) : place gs ρ x bc K = place gs ρ' x bc K := by
 have e := getV_congr (gs := gs) h
 cases x with
 | c v => rfl
 | tmp t =>
  rcases h t (by simp [axT]) with e' | ⟨c, d, e1, e2⟩
  · unfold place
    simp only [e, e']
  · simp only [place, e1, e2]
theorem guardOf_congr {g : Option (Nat × Bool)} (h : ∀ t b, g = some (t, b) → SEq (ρ t) (ρ' t)) : guardOf ρ g = guardOf ρ' g := by
 cases g with
 | none => rfl
 | some p =>
  obtain ⟨t, b⟩ := p
  rcases h t b rfl with e | ⟨c, d, e1, e2⟩
  · simp only [guardOf, e]
  · simp only [guardOf, e1, e2]
def LoadOk (ρ ρ' : Nat → SV) (ah ah' : Heap) (n t : Nat) : Prop :=
 match ρ t with
 | .box cs => ∃ cs', ρ' t = .box cs' ∧ (cs'.drop 0).take n = (cs.drop 0).take n
 | .lref _ _ e off => ∀ cs, boxAt ρ e = some cs → ∃ cs', boxAt ρ' e = some cs' ∧ (cs'.drop off).take n = (cs.drop off).take n
 | .g _ _ (.ptr (some a)) => ∀ xs, ldN ah a n = some xs → ldN ah' a n = some xs
 | _ => True
def HeapOk (k : AK) (ρ ρ' : Nat → SV) (ah ah' : Heap) : Prop :=
 match k with
 | .load s (.tmp t) => LoadOk ρ ρ' ah ah' s.size t
 | .slice _ _ none none => True
 | .slice _ (.tmp t) _ _ => ∀ gs bc a n, ρ t = .g gs bc (.sl (.pos a) n) → ∀ b, ah[a.b]? = some b → ah'[a.b]? = some b
 | .slice3 _ (.tmp t) _ _ _ => ∀ gs bc a n, ρ t = .g gs bc (.sl (.pos a) n) → ∀ b, ah[a.b]? = some b → ah'[a.b]? = some b
 | .slice _ (.c _) _ _ => ah' = ah
 | .slice3 _ (.c _) _ _ _ => ah' = ah
 | .lookup _ _ _ _ _ => ah' = ah
 | .lenMap _ => ah' = ah
 | _ => True
theorem ld1_ldN {h : Heap} {a : Ad} : ld1 h a = (ldN h a 1).bind (·[0]?) := by
 unfold ld1 ldN
 split
 · rename_i c m v e
   by_cases hv : a.v = v
   · rw [if_pos hv]
     by_cases hl : a.o < c.length
     · have hg : c[a.o]? = some c[a.o] := List.getElem?_eq_getElem hl
       have hd : (c.drop a.o).take 1 = [c[a.o]] := by rw [List.drop_eq_getElem_cons hl]; rfl
       rw [hg]
       simp only [hd, flatL, Bool.and_true]
       by_cases hf : flatA c[a.o] = true
       · rw [if_pos hf, if_pos ⟨hv, by omega, hf⟩]; rfl
       · rw [if_neg hf, if_neg (fun h => hf h.2.2)]; rfl
     · have hg : c[a.o]? = none := List.getElem?_eq_none (by omega)
       rw [hg, if_neg (fun h => by omega)]
       rfl
   · rw [if_neg hv, if_neg (fun h => hv h.1)]
     rfl
 · rename_i hne
   cases e : h[a.b]? with
   | none => rfl
   | some b =>
    cases b with
    | cells c m v => exact absurd e (hne c m v)
    | _ => rfl
theorem take_get {α : Type} {cs cs' : List α} {off n i : Nat} (h : (cs'.drop off).take n = (cs.drop off).take n) (hi : i < n) : cs'[off + i]? = cs[off + i]? := by
 have := congrArg (·[i]?) h
 simp only [List.getElem?_take, if_pos hi, List.getElem?_drop] at this
 exact this
theorem take_len {α : Type} {cs cs' : List α} {off n : Nat} (h : (cs'.drop off).take n = (cs.drop off).take n) (hn : 0 < n) (hl : off + n ≤ cs.length) : off + n ≤ cs'.length := by
 have := take_get (i := n - 1) h (by omega)
 rw [List.getElem?_eq_getElem (by omega : off + (n - 1) < cs.length)] at this
 have := (List.getElem?_eq_some_iff.1 this).1
 omega
theorem rdL_congr {l l' : List AV} {bc : Bool} : ∀ {cs : List CS} {i : Nat} {K : List AV → Option R}, (∀ j, j < cs.length → l'[i + j]? = l[i + j]?) → rdL l' bc cs i K = rdL l bc cs i K := by
 intro cs
 induction cs with
 | nil => intro i K h; rfl
 | cons c cs ih =>
  intro i K h
  simp only [rdL]
  have h0 := h 0 (by simp)
  rw [Nat.add_zero] at h0
  rw [h0]
  congr 1
  funext a
  exact ih fun j hj => by
   have := h (j + 1) (by simp; omega)
   have e : i + (j + 1) = i + 1 + j := by omega
   rw [e] at this
   exact this
noncomputable def loadP (ρ : Nat → SV) (ah : Heap) (gs : List (Nat × Bool)) (s : VS) (ret : SV → Option R) : Place → Option R
 | .heap a => match s with
  | .cell c => rdC c (ld1 ah a) true fun v => ret (.g gs true v)
  | .agg l => rdV (.agg l) (ldN ah a l.length) true fun v => ret (.g gs true v)
  | .raw n => rdV (.raw n) (ldN ah a n) true fun v => ret (.g gs true v)
 | .loc d off => match boxAt ρ d with
  | none => none
  | some cs => match s with
   | .cell c => rdC c cs[off]? true fun v => ret (.g gs true v)
   | .agg l => chk (true = true → off + l.length ≤ cs.length) (rdL cs true l off fun as => ret (.g gs true (.agg as)))
   | .raw n => chk (true = true → off + n ≤ cs.length) (ret (.g gs true (.agg ((cs.drop off).take n))))
theorem opA_load (s : VS) (x : AX) (ret : SV → Option R) : opA ρ ah gs true (.load s x) ret = place gs ρ x true (loadP ρ ah gs s ret) := rfl
theorem loadP_heap {s : VS} {ret : SV → Option R} {q : Ad} (hq : ∀ xs, ldN ah q s.size = some xs → ldN ah' q s.size = some xs) (h : loadP ρ ah gs s ret (.heap q) = some r) : loadP ρ' ah' gs s ret (.heap q) = some r := by
 unfold loadP at h ⊢
 cases s with
 | cell c =>
  simp only [VS.size] at hq
  simp only at h ⊢
  rw [ld1_ldN] at h ⊢
  cases e : ldN ah q 1 with
  | none => rw [e] at h; obtain ⟨x, hx, _⟩ := rdC_true h; cases hx
  | some xs => rw [hq xs e]; rw [e] at h; exact h
 | agg l =>
  simp only [VS.size] at hq
  simp only at h ⊢
  cases e : ldN ah q l.length with
  | none => rw [e] at h; simp [rdV, gb] at h
  | some xs => rw [hq xs e]; rw [e] at h; exact h
 | raw n =>
  simp only [VS.size] at hq
  simp only at h ⊢
  cases e : ldN ah q n with
  | none => rw [e] at h; simp [rdV, gb] at h
  | some xs => rw [hq xs e]; rw [e] at h; exact h
theorem chk_true {p : Prop} [Decidable p] {K : Option R} (hp : p) : chk p K = K := if_pos hp
theorem loadP_loc {s : VS} {ret : SV → Option R} {d off : Nat} (hs : 0 < s.size) (hb : ∀ cs, boxAt ρ d = some cs → ∃ cs', boxAt ρ' d = some cs' ∧ (cs'.drop off).take s.size = (cs.drop off).take s.size)
 (h : loadP ρ ah gs s ret (.loc d off) = some r) : loadP ρ' ah' gs s ret (.loc d off) = some r := by
 unfold loadP at h ⊢
 simp only at h ⊢
 cases e : boxAt ρ d with
 | none => rw [e] at h; cases h
 | some cs =>
  rw [e] at h
  obtain ⟨cs', e', htk⟩ := hb cs e
  rw [e']
  cases s with
  | cell c =>
   simp only [VS.size] at htk
   simp only at h ⊢
   have := take_get (i := 0) htk (by omega)
   rw [Nat.add_zero] at this
   rw [this]; exact h
  | agg l =>
   simp only [VS.size] at htk hs
   simp only at h ⊢
   obtain ⟨hle, h⟩ := chk_some h
   have hle := hle trivial
   rw [chk_true (fun _ => take_len htk hs hle), rdL_congr fun j hj => take_get htk hj]
   exact h
  | raw n =>
   simp only [VS.size] at htk hs
   simp only at h ⊢
   obtain ⟨hle, h⟩ := chk_some h
   have hle := hle trivial
   rw [chk_true (fun _ => take_len htk hs hle), htk]
   exact h
theorem load_congr {s : VS} {t : Nat} {ret : SV → Option R} (hs : 0 < s.size) (ht : SEq (ρ t) (ρ' t)) (hl : LoadOk ρ ρ' ah ah' s.size t) (h : opA ρ ah gs true (.load s (.tmp t)) ret = some r) :
 opA ρ' ah' gs true (.load s (.tmp t)) ret = some r := by
 rw [opA_load] at h ⊢
 rw [← place_congr (fun t' ht' => by simp [axT] at ht'; subst ht'; exact ht)]
 unfold LoadOk at hl
 unfold place at h ⊢
 simp only at h ⊢
 cases e : ρ t with
 | any => simp [e, getV] at h
 | box cs =>
  rw [e] at h hl
  obtain ⟨cs', e', htk⟩ := hl
  refine loadP_loc hs (fun c hc => ?_) h
  have : boxAt ρ t = some cs := by simp [boxAt, e]
  rw [this] at hc
  cases hc
  exact ⟨cs', by simp [boxAt, e'], htk⟩
 | lref g b d off =>
  rw [e] at h hl
  simp only at h ⊢
  split at h
  · rename_i hi
    rw [if_pos hi]
    exact loadP_loc hs hl h
  · cases h
 | g g b y =>
  rw [e] at h hl
  simp only at h ⊢
  split at h
  · rename_i z hz
    obtain ⟨p, rfl, h⟩ := gb_true h
    have hy : y = .ptr (some p) := by
     simp only [getV, e] at hz
     split at hz
     · simpa using hz
     · cases hz
    subst hy
    exact loadP_heap (ρ := ρ) (ρ' := ρ') hl h
  · cases h
theorem plain_load {s : VS} {x : AX} (h : plainK (.load s x) = true) : 0 < s.size := by
 cases s with
 | cell c => simp [VS.size]
 | agg l => cases l with
  | nil => simp [plainK] at h
  | cons c l => simp [VS.size]
 | raw n => cases n with
  | zero => simp [plainK] at h
  | succ n => simp [VS.size]
theorem hiOk_congr {a : SA} {n es : Nat} {hi : Int} (h : ∀ p, a = .pos p → ∀ b, ah[p.b]? = some b → ah'[p.b]? = some b) (hh : hiOk ah a n es hi) : hiOk ah' a n es hi := by
 rcases hh with h1 | ⟨p, c, v, h1, h2, h3⟩
 · exact .inl h1
 · exact .inr ⟨p, c, v, h1, h p h1 _ h2, h3⟩
theorem esOk_congr {a : SA} {es : Nat} (h : ∀ p, a = .pos p → ∀ b, ah[p.b]? = some b → ah'[p.b]? = some b) (hh : esOk ah a es) : esOk ah' a es := by
 intro p hp
 obtain ⟨b, hb, he⟩ := hh p hp
 exact ⟨b, h p hp b hb, he⟩
theorem chkC_imp {p q : Prop} [Decidable p] [Decidable q] {K : Option R} (hpq : p → q) (h : chkC p K = some r) : chkC q K = some r := by
 obtain ⟨hp, h⟩ := chkC_some h
 unfold chkC
 rw [if_pos (hpq hp)]
 exact h
theorem getV_sl {t : Nat} {a : SA} {n : Nat} (h : getV gs ρ (.tmp t) = some (.sl a n)) : ∃ g b, ρ t = .g g b (.sl a n) := by
 simp only [getV] at h
 split at h
 · rename_i g b y e
   split at h
   · simp only [Option.some.injEq] at h
     subst h
     exact ⟨_, _, by assumption⟩
   · cases h
 · cases h
theorem opA_congr {k : AK} {ret : SV → Option R} (hk : plainK k = true) (hs : ∀ t ∈ akTmps k, SEq (ρ t) (ρ' t)) (hh : HeapOk k ρ ρ' ah ah') (h : opA ρ ah gs true k ret = some r) : opA ρ' ah' gs true k ret = some r := by
 have e : ∀ gs x, (∀ t ∈ axT x, t ∈ akTmps k) → getV gs ρ' x = getV gs ρ x := fun gs x hx => (getV_congr fun t ht => hs t (hx t ht)).symm
 have es : ∀ gs xs, (∀ t ∈ axTs xs, t ∈ akTmps k) → getVs gs ρ' xs = getVs gs ρ xs := fun gs x hx => (getVs_congr fun t ht => hs t (hx t ht)).symm
 have ep : ∀ x {K : Place → Option R}, (∀ t ∈ axT x, t ∈ akTmps k) → place gs ρ' x true K = place gs ρ x true K := fun x K hx => (place_congr fun t ht => hs t (hx t ht)).symm
 cases k
 case load s x =>
  cases x with
  | c v => simp [opA, place] at h
  | tmp t => exact load_congr (plain_load hk) (hs t (by simp [akTmps, axT])) hh h
 case lookup z s ok m k =>
  have hh : ah' = ah := hh
  subst hh
  simp only [opA] at h ⊢
  rw [e _ m (fun t ht => by simp [akTmps, axTo, ht]), e _ k (fun t ht => by simp [akTmps, axTo, ht])]; exact h
 case lenMap x =>
  have hh : ah' = ah := hh
  subst hh
  simp only [opA] at h ⊢
  rw [e _ x (fun t ht => by simp [akTmps, axTo, ht])]; exact h
 case slice n x lo hi =>
  have key : ∀ a m, getV gs ρ x = some (.sl a m) → (lo.isSome = true ∨ hi.isSome = true) → ∀ p, a = .pos p → ∀ b, ah[p.b]? = some b → ah'[p.b]? = some b := by
   intro a m hx hl p hp
   subst hp
   cases x with
   | c v => simp [plainK] at hk
   | tmp t =>
    obtain ⟨g, b, hg⟩ := getV_sl hx
    cases lo <;> cases hi
    · simp at hl
    all_goals exact hh g b p m hg
  simp only [opA] at h ⊢
  rw [e _ x (fun t ht => by simp [akTmps, axTo, ht])]
  split at h
  · rename_i a m hx
    cases lo with
    | none =>
     cases hi with
     | none => exact h
     | some hi =>
      simp only at h ⊢
      rw [e _ hi (fun t ht => by simp [akTmps, axTo, ht])]
      split at h
      · exact chkC_imp (fun hp hb => ⟨(hp hb).1, hiOk_congr (key a m hx (.inr rfl)) (hp hb).2⟩) h
      · cases h
    | some lo =>
     cases hi with
     | none =>
      simp only at h ⊢
      rw [e _ lo (fun t ht => by simp [akTmps, axTo, ht])]
      split at h
      · exact chkC_imp (fun hp hb => ⟨(hp hb).1, (hp hb).2.1, esOk_congr (key a m hx (.inl rfl)) (hp hb).2.2⟩) h
      · cases h
     | some hi =>
      simp only at h ⊢
      rw [e _ lo (fun t ht => by simp [akTmps, axTo, ht]), e _ hi (fun t ht => by simp [akTmps, axTo, ht])]
      split at h
      · exact chkC_imp (fun hp hb => ⟨(hp hb).1, (hp hb).2.1, hiOk_congr (key a m hx (.inl rfl)) (hp hb).2.2.1, esOk_congr (key a m hx (.inl rfl)) (hp hb).2.2.2⟩) h
      · cases h
  · cases h
 case slice3 n x lo hi mx =>
  have key : ∀ a m, getV gs ρ x = some (.sl a m) → ∀ p, a = .pos p → ∀ b, ah[p.b]? = some b → ah'[p.b]? = some b := by
   intro a m hx p hp
   subst hp
   cases x with
   | c v => simp [plainK] at hk
   | tmp t =>
    obtain ⟨g, b, hg⟩ := getV_sl hx
    exact hh g b p m hg
  simp only [opA] at h ⊢
  rw [e _ x (fun t ht => by simp [akTmps, axTo, ht]), e _ lo (fun t ht => by simp [akTmps, axTo, ht]), e _ hi (fun t ht => by simp [akTmps, axTo, ht]), e _ mx (fun t ht => by simp [akTmps, axTo, ht])]
  split at h
  · rename_i a m l h' m' hx _ _ _
    exact chkC_imp (fun hp hb => ⟨(hp hb).1, (hp hb).2.1, (hp hb).2.2.1, hiOk_congr (key a m hx) (hp hb).2.2.2⟩) h
  · cases h
 case pick c a b =>
  simp only [opA] at h ⊢
  cases c with
  | c v => cases h
  | tmp t =>
   simp only at h ⊢
   rw [e _ (.tmp t) (fun t' ht => by simp only [akTmps, List.mem_append]; exact .inl (.inl ht)), e _ a (fun t ht => by simp [akTmps, axTo, ht]), e _ b (fun t ht => by simp [akTmps, axTo, ht])]
   exact h
 case nilCheck x =>
  simp only [opA] at h ⊢
  cases x with
  | c v => cases h
  | tmp t =>
   simp only at h ⊢
   rcases hs t (by simp [akTmps, axT]) with e' | ⟨c, d, e1, e2⟩
   · rw [← e']; exact h
   · rw [e1] at h; rw [e2]; exact h
 case fieldAddr off x => simp only [opA] at h ⊢; rw [ep x (fun t ht => by simp [akTmps, axTo, ht])]; exact h
 case indexArr len n x i =>
  simp only [opA] at h ⊢
  rw [e _ i (fun t ht => by simp [akTmps, axTo, ht])]
  split at h
  · rw [ep x (fun t ht => by simp [akTmps, axTo, ht])]; exact h
  · cases h
 case build z ps =>
  simp only [opA] at h ⊢
  rw [← getParts_congr (ρ := ρ) (ρ' := ρ') fun t ht => hs t (by simp [akTmps, ht])]; exact h
 all_goals
  simp only [opA] at h ⊢
  first
  | (cases h; done)
  | (rename_i x; rw [e _ x (fun t ht => by simp [akTmps, axTo, ht])]; exact h)
  | (rename_i x; rw [es _ x (fun t ht => by simp [akTmps, axTo, ht])]; exact h)
  | (rename_i x y; rw [e _ x (fun t ht => by simp [akTmps, axTo, ht]), e _ y (fun t ht => by simp [akTmps, axTo, ht])]; exact h)
  | (rename_i x y; rw [es _ x (fun t ht => by simp [akTmps, axTo, ht]), es _ y (fun t ht => by simp [akTmps, axTo, ht])]; exact h)
  | (rename_i x y; rw [e _ x (fun t ht => by simp [akTmps, axTo, ht])]; exact h)
  | exact h
theorem opX_congr {k : AK} {K : List AV → Option R} (hs : ∀ t ∈ akTmps k, SEq (ρ t) (ρ' t)) : opX ρ' k K = opX ρ k K := by
 have e : ∀ gs x, (∀ t ∈ axT x, t ∈ akTmps k) → getV gs ρ' x = getV gs ρ x := fun gs x hx => (getV_congr fun t ht => hs t (hx t ht)).symm
 cases k <;> simp only [opX]
 case boxL x => rw [e _ x (fun t ht => by simp [akTmps, ht])]
theorem opB_congr {k : AK} {n : Nat} {K : AV → Blk → Option R} (hs : ∀ t ∈ akTmps k, SEq (ρ t) (ρ' t)) : opB ρ' k n K = opB ρ k n K := by
 have e : ∀ gs x, (∀ t ∈ axT x, t ∈ akTmps k) → getV gs ρ' x = getV gs ρ x := fun gs x hx => (getV_congr fun t ht => hs t (hx t ht)).symm
 cases k <;> simp only [opB]
 case boxH x => rw [e _ x (fun t ht => by simp [akTmps, ht])]
 case buildSl z es ps =>
  rw [getParts_congr (ρ := ρ) (ρ' := ρ') fun t ht => hs t (by rw [partTs_map] at ht; simp [akTmps, ht])]
 case makeSl z n l c => rw [e _ l (fun t ht => by simp [akTmps, ht]), e _ c (fun t ht => by simp [akTmps, ht])]
theorem opF_congr {k : AK} {K : FuncId → List AV → List VS → AV → Option R} (hs : ∀ t ∈ akTmps k, SEq (ρ t) (ρ' t)) : opF ρ' gs k K = opF ρ gs k K := by
 have e : ∀ gs x, (∀ t ∈ axT x, t ∈ akTmps k) → getV gs ρ' x = getV gs ρ x := fun gs x hx => (getV_congr fun t ht => hs t (hx t ht)).symm
 have es : ∀ gs xs, (∀ t ∈ axTs xs, t ∈ akTmps k) → getVs gs ρ' xs = getVs gs ρ xs := fun gs x hx => (getVs_congr fun t ht => hs t (hx t ht)).symm
 cases k <;> simp only [opF]
 case call f as rs z => rw [es _ as (fun t ht => by simp [akTmps, ht])]
 case callV f as rs z => rw [e _ f (fun t ht => by simp [akTmps, ht]), es _ as (fun t ht => by simp [akTmps, ht])]
theorem place_loc {x : AX} {K : Place → Option R} (h : place gs ρ x bc K = some r) : ∃ p, K p = some r ∧ (∀ {S : Type} (K' : Place → Option S), place gs ρ x bc K' = K' p) ∧
 ∀ d off, p = .loc d off → ∃ t, x = .tmp t ∧ ((t = d ∧ ∃ cs, ρ t = .box cs) ∨ ∃ g b o, ρ t = .lref g b d o) := by
 obtain ⟨p, h1, hn⟩ := place_nat h
 refine ⟨p, h1, hn, fun d off hp => ?_⟩
 subst hp
 have hn := hn (S := Place) some
 cases x with
 | c v => simp [place] at hn
 | tmp t =>
  refine ⟨t, rfl, ?_⟩
  unfold place at hn
  simp only at hn
  cases e : ρ t with
  | any => simp [e, getV] at hn
  | box cs => simp [e] at hn; exact .inl ⟨hn.1, cs, rfl⟩
  | lref g b d' o =>
   simp only [e] at hn
   split at hn
   · simp at hn; exact .inr ⟨g, b, o, by rw [hn.1]⟩
   · cases hn
  | g g b y =>
   simp only [e] at hn
   split at hn
   · obtain ⟨q, h, hm⟩ := gb_nat hn
     cases h
   · cases hn
theorem opM_congr {k : AK} {K : AV → Heap → Up → Option R} (hs : ∀ t ∈ akTmps k, ρ' t = ρ t) (hb : ∀ t ∈ akTmps k, ∀ g b d o, ρ t = .lref g b d o → isBoxS (ρ d) = true → ρ' d = ρ d) (h : opM ρ ah k K = some r) : opM ρ' ah k K = some r := by
 have e : ∀ gs x, (∀ t ∈ axT x, t ∈ akTmps k) → getV gs ρ' x = getV gs ρ x := fun gs x hx => (getV_congr fun t ht => .inl (hs t (hx t ht)).symm).symm
 cases k <;> simp only [opM] at h ⊢
 case store n x y =>
  rw [e _ y (fun t ht => by simp [akTmps, ht])]
  split at h
  · rename_i a ha
    rw [show place [] ρ' x true _ = place [] ρ x true _ from (place_congr fun t ht => .inl (hs t (by simp [akTmps, ht])).symm).symm]
    obtain ⟨p, h, hn, hl⟩ := place_loc h
    rw [hn]
    cases p with
    | heap q => exact h
    | loc d off =>
     simp only at h ⊢
     obtain ⟨t, hx, ht⟩ := hl d off rfl
     cases ec : boxAt ρ d with
     | none => rw [ec] at h; cases h
     | some cs =>
      have hbox : isBoxS (ρ d) = true := by
       obtain ⟨c0, hc0⟩ := boxAt_box ec
       rw [hc0]; rfl
      have hd : ρ' d = ρ d := by
       rcases ht with ⟨rfl, _⟩ | ⟨g, b, o, hr⟩
       · exact hs t (by simp [akTmps, hx, axT])
       · exact hb t (by simp [akTmps, hx, axT]) g b d o hr hbox
      have : boxAt ρ' d = boxAt ρ d := by simp only [boxAt, hd]
      rw [this]
      exact h
  · cases h
 case clear z x => rw [e _ x (fun t ht => by simp [akTmps, ht])]; exact h
 case mapUpdate m k x => rw [e _ m (fun t ht => by simp [akTmps, ht]), e _ k (fun t ht => by simp [akTmps, ht]), e _ x (fun t ht => by simp [akTmps, ht])]; exact h
 case append z es n x y => rw [e _ x (fun t ht => by simp [akTmps, ht]), e _ y (fun t ht => by simp [akTmps, ht])]; exact h
 case copy es x y => rw [e _ x (fun t ht => by simp [akTmps, ht]), e _ y (fun t ht => by simp [akTmps, ht])]; exact h
 all_goals cases h
end
end Go.Proofs.Ytnmdadadjneaiaa.Abs
/- Drawn regions: what must come ahead of what. -/
set_option linter.unusedVariables false
set_option linter.unusedSimpArgs false
namespace Go.Proofs.Ytnmdadadjneaiaa.Abs
open Go
def depF (acc : List Nat) (o : Oper) : Nat := o.after.toList.foldl (fun m e => match Region.binds .any e with
 | true => Nat.lor (setB m e.on) (acc.getD e.on 0)
 | false => m) 0
theorem depTab_cons (o : Oper) (l : List Oper) (acc : List Nat) : depTab (o :: l) acc = depTab l (acc ++ [depF acc o]) := rfl
theorem testBit_setB {m d j : Nat} (h : Nat.testBit (setB m d) j = true) : d = j ∨ Nat.testBit m j = true := by
 unfold setB at h
 have : Nat.testBit (m ||| 2 ^ d) j = true := h
 rw [Nat.testBit_or, Nat.testBit_two_pow] at this
 simp only [Bool.or_eq_true, decide_eq_true_eq] at this
 rcases this with h | h
 · exact .inr h
 · exact .inl h
theorem depF_fold {acc : List Nat} {j : Nat} : ∀ (l : List Edge) (m : Nat), Nat.testBit (l.foldl (fun m e => match Region.binds .any e with
 | true => Nat.lor (setB m e.on) (acc.getD e.on 0)
 | false => m) m) j = true → Nat.testBit m j = true ∨ ∃ e ∈ l, Region.binds .any e = true ∧ (e.on = j ∨ Nat.testBit (acc.getD e.on 0) j = true) := by
 intro l
 induction l with
 | nil => intro m h; exact .inl h
 | cons e l ih =>
  intro m h
  simp only [List.foldl_cons] at h
  rcases ih _ h with h | ⟨e', he', h⟩
  · cases hb : Region.binds .any e with
    | false => rw [hb] at h; exact .inl h
    | true =>
     rw [hb] at h
     have h : Nat.testBit (setB m e.on ||| acc.getD e.on 0) j = true := h
     rw [Nat.testBit_or] at h
     simp only [Bool.or_eq_true] at h
     rcases h with h | h
     · rcases testBit_setB h with h | h
       · exact .inr ⟨e, .head _, hb, .inl h⟩
       · exact .inl h
     · exact .inr ⟨e, .head _, hb, .inr h⟩
  · exact .inr ⟨e', .tail _ he', h⟩
theorem depTab_prefix : ∀ (l : List Oper) (acc : List Nat) (i : Nat), i < acc.length → (depTab l acc).getD i 0 = acc.getD i 0 := by
 intro l
 induction l with
 | nil => intro acc i h; rfl
 | cons o l ih =>
  intro acc i h
  rw [depTab_cons, ih _ _ (by simp; omega)]
  simp only [List.getD_eq_getElem?_getD]
  rw [List.getElem?_append_left h]
theorem depTab_spec : ∀ (l : List Oper) (acc : List Nat) (i : Nat) (o : Oper) (j : Nat), l[i]? = some o → Nat.testBit ((depTab l acc).getD (acc.length + i) 0) j = true →
 ∃ e ∈ o.after, Region.binds .any e = true ∧ (e.on = j ∨ (e.on < acc.length + i ∧ Nat.testBit ((depTab l acc).getD e.on 0) j = true)) := by
 intro l
 induction l with
 | nil => intro acc i o j h; simp at h
 | cons o' l ih =>
  intro acc i o j hi h
  rw [depTab_cons] at h ⊢
  cases i with
  | zero =>
   simp only [List.getElem?_cons_zero, Option.some.injEq] at hi
   subst hi
   rw [Nat.add_zero, depTab_prefix _ _ _ (by simp)] at h
   have hg : (acc ++ [depF acc o']).getD acc.length 0 = depF acc o' := by simp
   rw [hg] at h
   rcases depF_fold _ _ h with h | ⟨e, he, hb, h⟩
   · simp at h
   · refine ⟨e, by simpa using he, hb, ?_⟩
     rcases h with h | h
     · exact .inl h
     · right
       rcases Nat.lt_or_ge e.on acc.length with hlt | hge
       · refine ⟨by omega, ?_⟩
         rw [depTab_prefix _ _ _ (by simp; omega)]
         simp only [List.getD_eq_getElem?_getD] at h ⊢
         rw [List.getElem?_append_left hlt]
         exact h
       · simp [List.getD_eq_getElem?_getD, List.getElem?_eq_none hge] at h
  | succ i =>
   simp only [List.getElem?_cons_succ] at hi
   have e1 : acc.length + (i + 1) = (acc ++ [depF acc o']).length + i := by simp; omega
   rw [e1] at h
   obtain ⟨e, he, hb, h⟩ := ih _ i o j hi h
   refine ⟨e, he, hb, ?_⟩
   rcases h with h | ⟨h1, h2⟩
   · exact .inl h
   · exact .inr ⟨by rw [e1]; exact h1, h2⟩
theorem depTab_none : ∀ (l : List Oper) (acc : List Nat), (depTab l acc).length = acc.length + l.length := by
 intro l
 induction l with
 | nil => intro acc; rfl
 | cons o l ih => intro acc; rw [depTab_cons, ih]; simp; omega
def Dep (ops : Array Oper) (i j : Nat) : Prop := Nat.testBit ((depTab ops.toList []).getD i 0) j = true
def Closed (ops : Array Oper) (S : Nat → Prop) : Prop := ∀ i, S i → ∀ o, ops[i]? = some o → ∀ e ∈ o.after, Region.binds .any e = true → S e.on
theorem Dep.spec {ops : Array Oper} {i j : Nat} (h : Dep ops i j) : ∃ o, ops[i]? = some o ∧ ∃ e ∈ o.after, Region.binds .any e = true ∧ (e.on = j ∨ (e.on < i ∧ Dep ops e.on j)) := by
 unfold Dep at h
 cases ho : ops.toList[i]? with
 | none =>
  exfalso
  rw [List.getElem?_eq_none_iff] at ho
  rw [List.getD_eq_getElem?_getD, List.getElem?_eq_none (by rw [depTab_none]; simpa using ho)] at h
  simp at h
 | some o =>
  have := depTab_spec ops.toList [] i o j ho (by simpa using h)
  obtain ⟨e, he, hb, h⟩ := this
  refine ⟨o, by simpa using ho, e, he, hb, ?_⟩
  rcases h with h | ⟨h1, h2⟩
  · exact .inl h
  · exact .inr ⟨by simpa using h1, h2⟩
theorem Closed.dep {ops : Array Oper} {S : Nat → Prop} (hS : Closed ops S) {i j : Nat} (hi : S i) (h : Dep ops i j) : S j := by
 induction i using Nat.strongRecOn with
 | _ i ih =>
  obtain ⟨o, ho, e, he, hb, h⟩ := h.spec
  have := hS i hi o ho e he hb
  rcases h with rfl | ⟨h1, h2⟩
  · exact this
  · exact ih e.on h1 this h2
theorem ready_dep {ops : Array Oper} {S : Nat → Prop} (hS : Closed ops S) {i j : Nat} {o : Oper} (ho : ops[i]? = some o) (hr : ∀ e ∈ o.after, Region.binds .any e = true → S e.on) (h : Dep ops i j) : S j := by
 obtain ⟨o', ho', e, he, hb, h⟩ := h.spec
 rw [ho] at ho'
 cases ho'
 have := hr e he hb
 rcases h with rfl | ⟨h1, h2⟩
 · exact this
 · exact hS.dep this h2
theorem Closed.add {ops : Array Oper} {S : Nat → Prop} (hS : Closed ops S) {i : Nat} {o : Oper} (ho : ops[i]? = some o) (hr : ∀ e ∈ o.after, Region.binds .any e = true → S e.on) : Closed ops (fun k => S k ∨ k = i) := by
 intro k hk o' ho' e he hb
 rcases hk with hk | rfl
 · exact .inl (hS k hk o' ho' e he hb)
 · rw [ho] at ho'
   cases ho'
   exact .inl (hr e he hb)
structure Facts (deps : List Nat) (l : List Item) : Prop where
 pair : ∀ (p q : Nat) (x y : Item), p < q → l[p]? = some x → l[q]? = some y → pairOk deps x y = true
 self : ∀ (p : Nat) (x : Item), l[p]? = some x → selfOk x = true
theorem items_facts {deps : List Nat} : ∀ {l : List Item}, itemsOk deps l = true → Facts deps l := by
 intro l
 induction l with
 | nil => intro h; exact ⟨fun p q x y _ h => by simp at h, fun p x h => by simp at h⟩
 | cons z l ih =>
  intro h
  simp only [itemsOk, Bool.and_eq_true] at h
  obtain ⟨⟨h1, h2⟩, h3⟩ := h
  have F := ih h3
  rw [List.all_eq_true] at h1
  refine ⟨fun p q x y hpq hx hy => ?_, fun p x hx => ?_⟩
  · cases q with
    | zero => omega
    | succ q =>
     simp only [List.getElem?_cons_succ] at hy
     cases p with
     | zero =>
      simp only [List.getElem?_cons_zero, Option.some.injEq] at hx
      subst hx
      exact h1 y (List.mem_of_getElem? hy)
     | succ p => exact F.pair p q x y (by omega) (by simpa using hx) hy
  · cases p with
    | zero => simp only [List.getElem?_cons_zero, Option.some.injEq] at hx; subst hx; exact h2
    | succ p => exact F.self p x (by simpa using hx)
theorem hits_spec {d : Option Nat} {l : List Nat} (h : hits d l = false) : ∀ e, d = some e → e ∉ l := by
 intro e he hm
 subst he
 simp only [hits, List.any_eq_false] at h
 exact h e hm (by simp)
theorem sameD_spec {d e : Option Nat} (h : sameD d e = false) : ∀ x, d = some x → e ≠ some x := by
 intro x hx he
 subst hx; subst he
 simp [sameD] at h
theorem clash_spec {p q : AOp} (h : clash p q = false) : (∀ e, p.dst = some e → e ∉ aoRd q) ∧ (∀ e, p.dst = some e → q.dst ≠ some e) ∧ (∀ e, q.dst = some e → e ∉ aoRd p) := by
 simp only [clash, Bool.or_eq_false_iff] at h
 exact ⟨hits_spec h.1.1, sameD_spec h.1.2, hits_spec h.2⟩
end Go.Proofs.Ytnmdadadjneaiaa.Abs
/- Drawn regions: the canonical run. -/
set_option linter.unusedVariables false
set_option linter.unusedSimpArgs false
namespace Go.Proofs.Ytnmdadadjneaiaa.Abs
open Go
def ReOk (ρ : Nat → SV) (h h' : Heap) (up : Up) : Re → Prop
 | .load n t g => asked ρ g = true → match ρ t with
  | .box cs => ∀ d cs', up = some (d, cs') → d = t → (cs'.drop 0).take n = (cs.drop 0).take n
  | .lref _ _ e off => ∀ d cs', up = some (d, cs') → d = e → ∃ cs, boxAt ρ e = some cs ∧ (cs'.drop off).take n = (cs.drop off).take n
  | .g _ _ (.ptr (some a)) => ldN h' a n = ldN h a n
  | _ => False
 | .blk t => match ρ t with
  | .g _ _ (.ptr (some a)) => h'[a.b]? = h[a.b]?
  | .g _ _ (.sl (.pos a) _) => h'[a.b]? = h[a.b]?
  | .g _ _ (.map (some b)) => h'[b]? = h[b]?
  | _ => False
 | .sl t g => asked ρ g = true → ∀ gs b a n, ρ t = .g gs b (.sl (.pos a) n) → h'[a.b]? = h[a.b]?
theorem chk_spec' {R : Type} {r : R} {p : Prop} {i : Decidable p} {K : Option R} (h : @chk R p i K = some r) : p ∧ K = some r := @chk_some _ p i K r h
theorem reChk_spec {R : Type} {r : R} {ρ : Nat → SV} {h h' : Heap} {up : Up} {K : Option R} : ∀ {l : List Re}, reChk ρ h h' up l K = some r → (∀ x ∈ l, ReOk ρ h h' up x) ∧ K = some r := by
 intro l
 induction l with
 | nil => intro hh; exact ⟨fun x hx => (nomatch hx), hh⟩
 | cons x l ih =>
  intro hh
  have fin : ReOk ρ h h' up x → reChk ρ h h' up l K = some r → (∀ y ∈ x :: l, ReOk ρ h h' up y) ∧ K = some r := by
   intro h1 h2
   obtain ⟨h3, h4⟩ := ih h2
   refine ⟨fun y hy => ?_, h4⟩
   cases hy with
   | head => exact h1
   | tail _ hy => exact h3 y hy
  cases x with
  | load n t g =>
   simp only [reChk] at hh
   cases e : ρ t with
   | any => rw [e] at hh; obtain ⟨h1, h2⟩ := chkC_some hh; exact fin (fun ha => (h1 ha).elim) h2
   | box cs =>
    rw [e] at hh
    simp only at hh
    cases up with
    | none => exact fin (fun _ => by rw [e]; intro d cs' h; cases h) hh
    | some p =>
     obtain ⟨d, cs'⟩ := p
     simp only at hh
     split at hh
     · rename_i hd
       obtain ⟨h1, h2⟩ := chkC_some hh
       exact fin (fun ha => by rw [e]; intro d' cs'' h _; cases h; exact h1 ha) h2
     · rename_i hd
       exact fin (fun _ => by rw [e]; intro d' cs'' h hdt; cases h; subst hdt; simp at hd) hh
   | lref gs b e' off =>
    rw [e] at hh
    simp only at hh
    cases up with
    | none => exact fin (fun _ => by rw [e]; intro d cs' h; cases h) hh
    | some p =>
     obtain ⟨d, cs'⟩ := p
     simp only at hh
     split at hh
     · rename_i hd
       split at hh
       · rename_i cs hcs
         obtain ⟨h1, h2⟩ := chkC_some hh
         exact fin (fun ha => by rw [e]; intro d' cs'' h _; cases h; exact ⟨cs, hcs, h1 ha⟩) h2
       · obtain ⟨h1, h2⟩ := chkC_some hh
         exact fin (fun ha => (h1 ha).elim) h2
     · rename_i hd
       exact fin (fun _ => by rw [e]; intro d' cs'' h hdt; cases h; subst hdt; simp at hd) hh
   | g gs b y =>
    rw [e] at hh
    cases y with
    | ptr o =>
     cases o with
     | some a =>
      obtain ⟨h1, h2⟩ := chkC_some hh
      exact fin (fun ha => by rw [e]; exact h1 ha) h2
     | none => obtain ⟨h1, h2⟩ := chkC_some hh; exact fin (fun ha => (h1 ha).elim) h2
    | _ => obtain ⟨h1, h2⟩ := chkC_some hh; exact fin (fun ha => (h1 ha).elim) h2
  | blk t =>
   simp only [reChk] at hh
   split at hh
   · rename_i e; obtain ⟨h1, h2⟩ := chkC_some hh; exact fin (by simp only [ReOk, e]; exact h1) h2
   · rename_i e; obtain ⟨h1, h2⟩ := chkC_some hh; exact fin (by simp only [ReOk, e]; exact h1) h2
   · rename_i e; obtain ⟨h1, h2⟩ := chkC_some hh; exact fin (by simp only [ReOk, e]; exact h1) h2
   · cases hh
  | sl t g =>
   simp only [reChk] at hh
   split at hh
   · rename_i e; obtain ⟨h1, h2⟩ := chkC_some hh; exact fin (fun ha gs b a n e' => by rw [e] at e'; cases e'; exact h1 ha) h2
   · rename_i hne; exact fin (fun _ gs b a n e' => absurd e' (hne gs b a n)) hh
structure TStep (C : FuncId → List AV → Heap → Res) (a : AOp) (σ σ' : St) (gs : List (Nat × Bool)) (bc : Bool) (sv : SV) (h : Heap) (up : Up) : Prop where
 grd : guardOf (envF σ.env) a.guard = some (gs, bc)
 op : ∀ (S : Type) (K : SV → Heap → Up → Option S), opK C (envF σ.env) σ.ah gs bc a.k K = K sv h up
 dst : dstOk a.dst sv σ.env = true
 re : ∀ x ∈ a.re, ReOk (envF σ.env) σ.ah h up x
 eq : σ' = ⟨upd (put σ.env a.dst sv) up, h⟩
theorem stepOp_trace {R : Type} {r : R} {C : FuncId → List AV → Heap → Res} {a : AOp} {σ : St} {K : St → Option R} (h : stepOp C a σ K = some r) : ∃ σ' gs bc sv h up, TStep C a σ σ' gs bc sv h up ∧ K σ' = some r := by
 have h : (match guardOf (envF σ.env) a.guard with
  | none => none
  | some (gs, bc) => opK C (envF σ.env) σ.ah gs bc a.k fun sv h up =>
   match dstOk a.dst sv σ.env with
   | true => reChk (envF σ.env) σ.ah h up a.re (K ⟨upd (put σ.env a.dst sv) up, h⟩)
   | false => none) = some r := h
 cases hgd : guardOf (envF σ.env) a.guard with
 | none => rw [hgd] at h; cases h
 | some p =>
  obtain ⟨gs, bc⟩ := p
  rw [hgd] at h
  simp only at h
  obtain ⟨sv, h', up, h, hn⟩ := opK_nat h
  split at h
  · rename_i hd
    obtain ⟨h1, h2⟩ := reChk_spec h
    exact ⟨_, gs, bc, sv, h', up, ⟨hgd, fun S K => hn K, hd, h1, rfl⟩, h2⟩
  · cases h
theorem evalOps_trace {R : Type} {r : R} {C : FuncId → List AV → Heap → Res} {K : St → Option R} : ∀ (l : List AOp) (σ0 : St), evalOps C l σ0 K = some r →
 ∃ σ : Nat → St, σ 0 = σ0 ∧ K (σ l.length) = some r ∧ ∀ k a, l[k]? = some a → ∃ gs bc sv h up, TStep C a (σ k) (σ (k + 1)) gs bc sv h up := by
 intro l
 induction l with
 | nil => intro σ0 h; exact ⟨fun _ => σ0, rfl, h, fun k a ha => by simp at ha⟩
 | cons a l ih =>
  intro σ0 h
  simp only [evalOps] at h
  obtain ⟨σ', gs, bc, sv, h', up, ht, h⟩ := stepOp_trace h
  obtain ⟨σ, h0, hK, hs⟩ := ih σ' h
  refine ⟨fun k => match k with | 0 => σ0 | k + 1 => σ k, rfl, hK, fun k b hb => ?_⟩
  cases k with
  | zero =>
   simp only [List.getElem?_cons_zero, Option.some.injEq] at hb
   subst hb
   refine ⟨gs, bc, sv, h', up, ?_⟩
   show TStep C a σ0 (σ 0) gs bc sv h' up
   rw [h0]; exact ht
  | succ k =>
   exact hs k b (by simpa using hb)
end Go.Proofs.Ytnmdadadjneaiaa.Abs
/- Drawn regions: what holds along the canonical run. -/
set_option linter.unusedVariables false
set_option linter.unusedSimpArgs false
namespace Go.Proofs.Ytnmdadadjneaiaa.Abs
open Go
section
variable {R : Type} {r : R} {ρ ρ' : Nat → SV} {ah ah' : Heap} {gs : List (Nat × Bool)} {bc : Bool}
def lrefOf : SV → Option Nat
 | .lref _ _ d _ => some d
 | _ => none
def LeadsTo (ρ : Nat → SV) (t d : Nat) : Prop := (t = d ∧ ∃ cs, ρ t = .box cs) ∨ ∃ g b o, ρ t = .lref g b d o
theorem opA_lref {k : AK} {d : Nat} (h : opA ρ ah gs bc k lrefOf = some d) : ∃ t ∈ akTmps k, LeadsTo ρ t d := by
 cases k <;> simp only [opA] at h
 case fieldAddr off x =>
  obtain ⟨p, h, hn, hl⟩ := place_loc h
  cases p with
  | heap q => cases h
  | loc d' o =>
   simp only [lrefOf, Option.some.injEq] at h
   subst h
   obtain ⟨t, hx, ht⟩ := hl _ _ rfl
   exact ⟨t, by simp [akTmps, hx, axT], ht⟩
 case indexArr len es x i =>
  split at h
  · obtain ⟨p, h, hn, hl⟩ := place_loc h
    cases p with
    | heap q => have h := (chk_spec' h).2; cases h
    | loc d' o =>
     have h := (chk_spec' h).2
     simp only [lrefOf, Option.some.injEq] at h
     subst h
     obtain ⟨t, hx, ht⟩ := hl _ _ rfl
     exact ⟨t, by simp [akTmps, hx, axT], ht⟩
  · cases h
 case nilCheck x =>
  cases x with
  | c v => cases h
  | tmp t =>
   simp only at h
   refine ⟨t, by simp [akTmps, axT], ?_⟩
   cases e : ρ t with
   | any => rw [e] at h; cases h
   | box cs =>
    rw [e] at h
    simp only [lrefOf, Option.some.injEq] at h
    exact .inl ⟨h, cs, e⟩
   | lref g b d' off =>
    rw [e] at h
    simp only at h
    split at h
    · simp only [lrefOf, Option.some.injEq] at h
      subst h
      exact .inr ⟨g, b, off, e⟩
    · cases h
   | g g b v =>
    rw [e] at h
    simp only at h
    split at h
    · split at h
      · obtain ⟨y, h, hn⟩ := gb_nat h; cases h
      · cases h
      · cases h
    · cases h
 case load s x =>
  obtain ⟨p, h, hn⟩ := place_nat h
  cases p with
  | heap q =>
   cases s <;> simp only at h
   · obtain ⟨v, h, hm⟩ := rdC_nat h; cases h
   · obtain ⟨v, h, hm⟩ := rdV_nat h; cases h
   · obtain ⟨v, h, hm⟩ := rdV_nat h; cases h
  | loc d off =>
   simp only at h
   split at h
   · cases h
   · cases s <;> simp only at h
     · obtain ⟨v, h, hm⟩ := rdC_nat h; cases h
     · have h := (chk_spec' h).2
       obtain ⟨v, h, hm⟩ := rdL_nat h; cases h
     · have h := (chk_spec' h).2; cases h
 case field off s x =>
  split at h
  · cases s <;> simp only at h
    · obtain ⟨v, h, hm⟩ := rdC_nat h; cases h
    · have h := (chk_spec' h).2
      obtain ⟨v, h, hm⟩ := rdL_nat h; cases h
    · have h := (chk_spec' h).2; cases h
  · cases h
 case bin tk op x y =>
  split at h
  · obtain ⟨v, h, hn⟩ := binOpA_nat h; cases h
  · cases h
 case lookup z s ok m k =>
  split at h
  · obtain ⟨f, h, hn⟩ := gb_nat h
    obtain ⟨v, h, hm⟩ := rdW_nat h
    cases ok <;> cases h
  · cases h
 all_goals
  repeat' split at h
 all_goals first
  | (cases h; done)
  | (obtain ⟨h, hc⟩ := chkC_nat h; cases h; done)
  | (obtain ⟨v, h, hn⟩ := gb_nat h; cases h; done)
  | (obtain ⟨h, hc⟩ := chk_nat h; cases h; done)
  | (obtain ⟨h, hc⟩ := chk_nat h; obtain ⟨v, h, hn⟩ := gb_nat h; cases h; done)
  | (obtain ⟨h, hc⟩ := chk_nat h; obtain ⟨v, h, hn⟩ := rdC_nat h; cases h; done)
theorem opK_lref {C : FuncId → List AV → Heap → Res} {k : AK} {d : Nat} (h : opK C ρ ah gs bc k (fun sv _ _ => lrefOf sv) = some d) : ∃ t ∈ akTmps k, LeadsTo ρ t d := by
 have F : ∀ k' (G : FuncId → List AV → List VS → AV → Option Nat), (∀ f as rs z, G f as rs z = some d → False) → opF ρ gs k' G = some d → ∃ t ∈ akTmps k, LeadsTo ρ t d := by
  intro k' G hG h
  obtain ⟨f, as, rs, z, h, hn⟩ := opF_nat h
  exact (hG _ _ _ _ h).elim
 have f1 : ∀ f as (rs : List VS) (z : AV), ((C f as ah).bind fun r => rdRes rs r.1 true fun a => lrefOf (.v a)) = some d → False := by
  intro f as rs z h
  rw [Option.bind_eq_some_iff] at h
  obtain ⟨p, hp, h⟩ := h
  obtain ⟨x, h, hm⟩ := rdRes_nat h
  cases h
 have f2 : ∀ f as (rs : List VS) (z : AV), ((if bc = true then C f as ah else some (z, ah)).bind fun r => rdRes rs r.1 bc fun a => lrefOf (.g gs bc a)) = some d → False := by
  intro f as rs z h
  rw [Option.bind_eq_some_iff] at h
  obtain ⟨p, hp, h⟩ := h
  obtain ⟨x, h, hm⟩ := rdRes_nat h
  cases h
 have X : ∀ k', opX ρ k' (fun cs => lrefOf (.box cs)) = some d → ∃ t ∈ akTmps k, LeadsTo ρ t d := fun k' h => by
  obtain ⟨x, h, hn⟩ := opX_nat h; cases h
 have B : ∀ k', opB ρ k' ah.length (fun a b => lrefOf (.v a)) = some d → ∃ t ∈ akTmps k, LeadsTo ρ t d := fun k' h => by
  obtain ⟨x, b, h, hn⟩ := opB_nat h; cases h
 have M : ∀ k', opM ρ ah k' (fun a h u => lrefOf (.v a)) = some d → ∃ t ∈ akTmps k, LeadsTo ρ t d := fun k' h => by
  obtain ⟨x, h', u, h, hn⟩ := opM_nat h; cases h
 cases gs with
 | nil =>
  cases k <;> unfold opK at h
  case boxL => exact X _ h
  case allocL => exact X _ h
  case boxH => exact B _ h
  case allocH => exact B _ h
  case buildSl => exact B _ h
  case makeMap => exact B _ h
  case makeSl => exact B _ h
  case store => exact M _ h
  case clear => exact M _ h
  case mapUpdate => exact M _ h
  case append => exact M _ h
  case copy => exact M _ h
  case call => exact F _ _ f1 h
  case callV => exact F _ _ f1 h
  all_goals exact opA_lref h
 | cons q gs =>
  cases k <;> unfold opK at h
  case boxL => cases h
  case allocL => cases h
  case boxH => cases h
  case allocH => cases h
  case buildSl => cases h
  case makeMap => cases h
  case makeSl => cases h
  case store => cases h
  case clear => cases h
  case mapUpdate => cases h
  case append => cases h
  case copy => cases h
  case call => exact F _ _ f2 h
  case callV => exact F _ _ f2 h
  all_goals exact opA_lref h
def tst (gs : List (Nat × Bool)) (sv : SV) : Option Unit := if gsOf sv = gs ∨ gsOf sv = [] then none else some ()
theorem tst_g {x : AV} : tst gs (.g gs bc x) = none := by simp [tst, gsOf]
theorem tst_l {d off : Nat} : tst gs (.lref gs bc d off) = none := by simp [tst, gsOf]
theorem tst_v {x : AV} : tst gs (.v x) = none := if_pos (.inr rfl)
theorem tst_box {cs : List AV} : tst gs (.box cs) = none := by simp [tst, gsOf]
theorem opA_gs {k : AK} {u : Unit} (h : opA ρ ah gs bc k (tst gs) = some u) : False := by
 cases k <;> simp only [opA] at h
 case fieldAddr off x =>
  obtain ⟨p, h, hn⟩ := place_nat h
  cases p <;> simp [tst_g, tst_l] at h
 case indexArr len es x i =>
  split at h
  · obtain ⟨p, h, hn⟩ := place_nat h
    cases p <;> (have h := (chk_spec' h).2; simp [tst_g, tst_l] at h)
  · cases h
 case load s x =>
  obtain ⟨p, h, hn⟩ := place_nat h
  cases p with
  | heap q =>
   cases s <;> simp only at h
   · obtain ⟨v, h, hm⟩ := rdC_nat h; simp [tst_g] at h
   · obtain ⟨v, h, hm⟩ := rdV_nat h; simp [tst_g] at h
   · obtain ⟨v, h, hm⟩ := rdV_nat h; simp [tst_g] at h
  | loc d off =>
   simp only at h
   split at h
   · cases h
   · cases s <;> simp only at h
     · obtain ⟨v, h, hm⟩ := rdC_nat h; simp [tst_g] at h
     · have h := (chk_spec' h).2
       obtain ⟨v, h, hm⟩ := rdL_nat h; simp [tst_g] at h
     · have h := (chk_spec' h).2; simp [tst_g] at h
 case field off s x =>
  split at h
  · cases s <;> simp only at h
    · obtain ⟨v, h, hm⟩ := rdC_nat h; simp [tst_g] at h
    · have h := (chk_spec' h).2
      obtain ⟨v, h, hm⟩ := rdL_nat h; simp [tst_g] at h
    · have h := (chk_spec' h).2; simp [tst_g] at h
  · cases h
 case bin tk op x y =>
  split at h
  · obtain ⟨v, h, hn⟩ := binOpA_nat h; simp [tst_g] at h
  · cases h
 case lookup z s ok m k =>
  split at h
  · obtain ⟨f, h, hn⟩ := gb_nat h
    obtain ⟨v, h, hm⟩ := rdW_nat h
    cases ok <;> simp [tst_g] at h
  · cases h
 all_goals
  repeat' split at h
 all_goals first
  | (cases h; done)
  | (simp [tst_g, tst_l] at h; done)
  | (obtain ⟨h, hc⟩ := chkC_nat h; simp [tst_g] at h; done)
  | (obtain ⟨v, h, hn⟩ := gb_nat h; simp [tst_g] at h; done)
  | (obtain ⟨h, hc⟩ := chk_nat h; simp [tst_g] at h; done)
  | (obtain ⟨h, hc⟩ := chk_nat h; obtain ⟨v, h, hn⟩ := gb_nat h; simp [tst_g] at h; done)
  | (obtain ⟨h, hc⟩ := chk_nat h; obtain ⟨v, h, hn⟩ := rdC_nat h; simp [tst_g] at h; done)
theorem opK_gs {C : FuncId → List AV → Heap → Res} {k : AK} {u : Unit} (h : opK C ρ ah gs bc k (fun sv _ _ => tst gs sv) = some u) : False := by
 have X : ∀ k', opX ρ k' (fun cs => tst gs (.box cs)) = some u → False := fun k' h => by
  obtain ⟨x, h, hn⟩ := opX_nat h; simp [tst_box] at h
 have B : ∀ k', opB ρ k' ah.length (fun a b => tst gs (.v a)) = some u → False := fun k' h => by
  obtain ⟨x, b, h, hn⟩ := opB_nat h; simp [tst_v] at h
 have M : ∀ k', opM ρ ah k' (fun a h u => tst gs (.v a)) = some u → False := fun k' h => by
  obtain ⟨x, h', u, h, hn⟩ := opM_nat h; simp [tst_v] at h
 cases gs with
 | nil =>
  have F : ∀ k', opF ρ [] k' (fun f as rs z => (C f as ah).bind fun r => rdRes rs r.1 true fun a => tst [] (.v a)) = some u → False := by
   intro k' h
   obtain ⟨f, as, rs, z, h, hn⟩ := opF_nat h
   rw [Option.bind_eq_some_iff] at h
   obtain ⟨p, hp, h⟩ := h
   obtain ⟨x, h, hm⟩ := rdRes_nat h
   simp [tst_v] at h
  cases k <;> unfold opK at h
  case boxL => exact X _ h
  case allocL => exact X _ h
  case boxH => exact B _ h
  case allocH => exact B _ h
  case buildSl => exact B _ h
  case makeMap => exact B _ h
  case makeSl => exact B _ h
  case store => exact M _ h
  case clear => exact M _ h
  case mapUpdate => exact M _ h
  case append => exact M _ h
  case copy => exact M _ h
  case call => exact F _ h
  case callV => exact F _ h
  all_goals exact opA_gs h
 | cons q gs =>
  have F : ∀ k', opF ρ (q :: gs) k' (fun f as rs z => (if bc = true then C f as ah else some (z, ah)).bind fun r => rdRes rs r.1 bc fun a => tst (q :: gs) (.g (q :: gs) bc a)) = some u → False := by
   intro k' h
   obtain ⟨f, as, rs, z, h, hn⟩ := opF_nat h
   rw [Option.bind_eq_some_iff] at h
   obtain ⟨p, hp, h⟩ := h
   obtain ⟨x, h, hm⟩ := rdRes_nat h
   simp [tst_g] at h
  cases k <;> unfold opK at h
  case boxL => cases h
  case allocL => cases h
  case boxH => cases h
  case allocH => cases h
  case buildSl => cases h
  case makeMap => cases h
  case makeSl => cases h
  case store => cases h
  case clear => cases h
  case mapUpdate => cases h
  case append => cases h
  case copy => cases h
  case call => exact F _ h
  case callV => exact F _ h
  all_goals exact opA_gs h
theorem TStep.lref {C : FuncId → List AV → Heap → Res} {a : AOp} {σ σ' : St} {sv : SV} {h : Heap} {up : Up} (T : TStep C a σ σ' gs bc sv h up) {g : List (Nat × Bool)} {b : Bool} {d off : Nat} (hs : sv = .lref g b d off) :
 ∃ t ∈ akTmps a.k, LeadsTo (envF σ.env) t d := by
 have := T.op Nat (fun sv _ _ => lrefOf sv)
 subst hs
 exact opK_lref this
theorem TStep.gsOk {C : FuncId → List AV → Heap → Res} {a : AOp} {σ σ' : St} {gs : List (Nat × Bool)} {sv : SV} {h : Heap} {up : Up} (T : TStep C a σ σ' gs bc sv h up) : gsOf sv = gs ∨ gsOf sv = [] := by
 have := T.op Unit (fun sv _ _ => tst gs sv)
 by_cases hh : gsOf sv = gs ∨ gsOf sv = []
 · exact hh
 · rw [tst, if_neg hh] at this
   exact (opK_gs this).elim
def upOf : Up → Option Nat
 | some (d, _) => some d
 | none => none
theorem opM_up {k : AK} {d : Nat} (h : opM ρ ah k (fun _ _ u => upOf u) = some d) : isM k = true ∧ (∃ cs, ρ d = .box cs) ∧ ∃ t ∈ akTmps k, LeadsTo ρ t d := by
 cases k <;> simp only [opM] at h
 case store n x y =>
  split at h
  · obtain ⟨p, h, hn, hl⟩ := place_loc h
    cases p with
    | heap q =>
     simp only at h
     split at h
     · split at h
       · have h := (chk_spec' h).2
         rw [Option.bind_eq_some_iff] at h
         obtain ⟨_, _, h⟩ := h
         cases h
       · cases h
     · have h := (chk_spec' h).2
       rw [Option.bind_eq_some_iff] at h
       obtain ⟨_, _, h⟩ := h
       cases h
    | loc d' off =>
     simp only at h
     obtain ⟨t, hx, ht⟩ := hl d' off rfl
     cases ec : boxAt ρ d' with
     | none => rw [ec] at h; cases h
     | some cs =>
      have hb := boxAt_box ec
      have fin : d' = d → isM (AK.store n x y) = true ∧ (∃ cs, ρ d = .box cs) ∧ ∃ t ∈ akTmps (AK.store n x y), LeadsTo ρ t d := by
       rintro rfl
       exact ⟨rfl, hb, t, by simp [akTmps, hx, axT], ht⟩
      rw [ec] at h
      simp only at h
      split at h
      · split at h
        · have h := (chk_spec' h).2
          simp only [upOf, Option.some.injEq] at h
          exact fin h
        · cases h
      · have h := (chk_spec' h).2
        simp only [upOf, Option.some.injEq] at h
        exact fin h
  · cases h
 all_goals
  repeat' split at h
 all_goals first
  | (cases h; done)
  | (rw [Option.bind_eq_some_iff] at h; obtain ⟨_, _, h⟩ := h; cases h; done)
  | (rw [Option.bind_eq_some_iff] at h; obtain ⟨_, _, h⟩ := h; rw [Option.bind_eq_some_iff] at h; obtain ⟨_, _, h⟩ := h; cases h; done)
  | (rw [Option.bind_eq_some_iff] at h; obtain ⟨_, _, h⟩ := h; rw [Option.bind_eq_some_iff] at h; obtain ⟨_, _, h⟩ := h; obtain ⟨_, h, _⟩ := gb_nat h; cases h; done)
theorem opK_up {C : FuncId → List AV → Heap → Res} {k : AK} {d : Nat} (h : opK C ρ ah gs bc k (fun _ _ u => upOf u) = some d) : isM k = true ∧ (∃ cs, ρ d = .box cs) ∧ ∃ t ∈ akTmps k, LeadsTo ρ t d := by
 have X : ∀ k', opX ρ k' (fun cs => upOf none) = some d → False := fun k' h => by
  obtain ⟨x, h, hn⟩ := opX_nat h; cases h
 have B : ∀ k', opB ρ k' ah.length (fun a b => upOf none) = some d → False := fun k' h => by
  obtain ⟨x, b, h, hn⟩ := opB_nat h; cases h
 have A : ∀ k', opA ρ ah gs bc k' (fun sv => upOf none) = some d → False := fun k' h => by
  obtain ⟨x, h, hn⟩ := opA_nat h; cases h
 cases gs with
 | nil =>
  have F : ∀ k', opF ρ [] k' (fun f as rs z => (C f as ah).bind fun r => rdRes rs r.1 true fun a => upOf none) = some d → False := by
   intro k' h
   obtain ⟨f, as, rs, z, h, hn⟩ := opF_nat h
   rw [Option.bind_eq_some_iff] at h
   obtain ⟨p, hp, h⟩ := h
   obtain ⟨x, h, hm⟩ := rdRes_nat h
   cases h
  cases k <;> unfold opK at h
  case boxL => exact (X _ h).elim
  case allocL => exact (X _ h).elim
  case boxH => exact (B _ h).elim
  case allocH => exact (B _ h).elim
  case buildSl => exact (B _ h).elim
  case makeMap => exact (B _ h).elim
  case makeSl => exact (B _ h).elim
  case store => exact opM_up h
  case clear => exact opM_up h
  case mapUpdate => exact opM_up h
  case append => exact opM_up h
  case copy => exact opM_up h
  case call => exact (F _ h).elim
  case callV => exact (F _ h).elim
  all_goals exact (A _ h).elim
 | cons q gs =>
  have F : ∀ k', opF ρ (q :: gs) k' (fun f as rs z => (if bc = true then C f as ah else some (z, ah)).bind fun r => rdRes rs r.1 bc fun a => upOf none) = some d → False := by
   intro k' h
   obtain ⟨f, as, rs, z, h, hn⟩ := opF_nat h
   rw [Option.bind_eq_some_iff] at h
   obtain ⟨p, hp, h⟩ := h
   obtain ⟨x, h, hm⟩ := rdRes_nat h
   cases h
  cases k <;> unfold opK at h
  case boxL => cases h
  case allocL => cases h
  case boxH => cases h
  case allocH => cases h
  case buildSl => cases h
  case makeMap => cases h
  case makeSl => cases h
  case store => cases h
  case clear => cases h
  case mapUpdate => cases h
  case append => cases h
  case copy => cases h
  case call => exact (F _ h).elim
  case callV => exact (F _ h).elim
  all_goals exact (A _ h).elim
theorem TStep.up {C : FuncId → List AV → Heap → Res} {a : AOp} {σ σ' : St} {sv : SV} {h : Heap} {up : Up} (T : TStep C a σ σ' gs bc sv h up) {d : Nat} {cs : List AV} (hs : up = some (d, cs)) :
 isM a.k = true ∧ (∃ cs, envF σ.env d = .box cs) ∧ ∃ t ∈ akTmps a.k, LeadsTo (envF σ.env) t d := by
 have := T.op Nat (fun _ _ u => upOf u)
 subst hs
 exact opK_up this
structure CRun (C : FuncId → List AV → Heap → Res) (ops : Array Oper) (L : List Item) (σ : Nat → St) : Prop where
 step : ∀ k x, L[k]? = some x → ∃ gs bc sv h up, TStep C x.a (σ k) (σ (k + 1)) gs bc sv h up
 facts : Facts (depTab ops.toList []) L
variable {C : FuncId → List AV → Heap → Res} {ops : Array Oper} {L : List Item} {σ : Nat → St}
theorem TStep.env {a : AOp} {σ σ' : St} {sv : SV} {h : Heap} {up : Up} (T : TStep C a σ σ' gs bc sv h up) : envF σ'.env = updR (putR (envF σ.env) a.dst sv) up ∧ σ'.ah = h := by
 have hd : ∀ d, a.dst = some d → d < σ.env.length := (dstOk_spec (a := ⟨Array.replicate σ.env.length undef, []⟩) T.dst (by simp)).2
 refine ⟨?_, by rw [T.eq]⟩
 rw [T.eq]
 cases up with
 | none => simp only [upd, updR]; exact envF_put hd sv
 | some p =>
  obtain ⟨d, cs⟩ := p
  simp only [upd, updR]
  rw [envF_set, envF_put hd]
  rw [put_len]
  obtain ⟨_, ⟨cs0, hb⟩, _⟩ := T.up rfl
  rcases Nat.lt_or_ge d σ.env.length with hlt | hge
  · exact hlt
  · simp [envF, List.getD_eq_getElem?_getD, List.getElem?_eq_none hge] at hb
theorem TStep.dok {a : AOp} {σ σ' : St} {sv : SV} {h : Heap} {up : Up} (T : TStep C a σ σ' gs bc sv h up) {d : Nat} (hd : a.dst = some d) :
 (∀ t, ∀ p ∈ gsOf (envF σ.env t), p.1 ≠ d) ∧ (∀ p ∈ gsOf sv, p.1 ≠ d) ∧ (isBoxS sv = true → ∀ t gs bc e off, envF σ.env t = .lref gs bc e off → e ≠ d) ∧ isBoxS (envF σ.env d) = false := by
 have := (dstOk_spec (a := ⟨Array.replicate σ.env.length undef, []⟩) T.dst (by simp)).1
 rw [hd] at this
 exact this.2
theorem TStep.at {a : AOp} {σ σ' : St} {sv : SV} {h : Heap} {up : Up} (T : TStep C a σ σ' gs bc sv h up) {d : Nat} (hd : a.dst = some d) : envF σ'.env d = sv := by
 rw [T.env.1, hd]
 cases up with
 | none => exact setR_same _ _ _
 | some p =>
  obtain ⟨e, cs⟩ := p
  obtain ⟨_, ⟨cs0, hb⟩, _⟩ := T.up rfl
  have hne : d ≠ e := by
   rintro rfl
   have := (T.dok hd).2.2.2
   rw [hb] at this
   cases this
  simp only [updR]
  rw [setR_other _ _ hne]
  exact setR_same _ _ _
theorem TStep.off {a : AOp} {σ σ' : St} {sv : SV} {h : Heap} {up : Up} (T : TStep C a σ σ' gs bc sv h up) {t : Nat} (ht : a.dst ≠ some t) :
 envF σ'.env t = envF σ.env t ∨ ∃ cs, up = some (t, cs) ∧ envF σ'.env t = .box cs ∧ ∃ cs0, envF σ.env t = .box cs0 := by
 have hp : putR (envF σ.env) a.dst sv t = envF σ.env t := by
  cases e : a.dst with
  | none => rfl
  | some d => exact setR_other _ _ (fun h => ht (by rw [e, h]))
 rw [T.env.1]
 cases up with
 | none => exact .inl hp
 | some p =>
  obtain ⟨e, cs⟩ := p
  by_cases he : t = e
  · subst he
    obtain ⟨_, hb, _⟩ := T.up rfl
    exact .inr ⟨cs, rfl, setR_same _ _ _, hb⟩
  · simp only [updR]
    rw [setR_other _ _ he]
    exact .inl hp
theorem TStep.offS {a : AOp} {σ σ' : St} {sv : SV} {h : Heap} {up : Up} (T : TStep C a σ σ' gs bc sv h up) {t : Nat} (ht : a.dst ≠ some t) : SEq (envF σ.env t) (envF σ'.env t) := by
 rcases T.off ht with h | ⟨cs, _, h1, cs0, h2⟩
 · exact .inl h.symm
 · exact .inr ⟨cs0, cs, h2, h1⟩
theorem SEq.trans {x y z : SV} (h : SEq x y) (k : SEq y z) : SEq x z := by
 rcases h with rfl | ⟨c, d, rfl, rfl⟩
 · exact k
 · rcases k with rfl | ⟨c', d', _, rfl⟩
   · exact .inr ⟨_, _, rfl, rfl⟩
   · exact .inr ⟨_, _, rfl, rfl⟩
def Wr (L : List Item) (i t : Nat) : Prop := ∃ x, L[i]? = some x ∧ x.a.dst = some t
def LastW (L : List Item) (m t i : Nat) : Prop := i < m ∧ Wr L i t ∧ ∀ j, i < j → j < m → ¬ Wr L j t
def Bef (ops : Array Oper) (L : List Item) (i k : Nat) : Prop :=
 ∀ x y, L[i]? = some x → L[k]? = some y → ∀ S, Closed ops S → S x.i → S y.i
theorem Bef.trans {i j k : Nat} (h : Bef ops L i j) (g : Bef ops L j k) (hj : j < L.length) : Bef ops L i k := by
 intro x z hx hz S hS hi
 have hy : L[j]? = some L[j] := List.getElem?_eq_getElem hj
 exact g _ z hy hz S hS (h x _ hx hy S hS hi)
theorem CRun.pair (N : CRun C ops L σ) {p q : Nat} {x y : Item} (hpq : p < q) (hx : L[p]? = some x) (hy : L[q]? = some y) :
 ¬ Dep ops x.i y.i ∧ x.i ≠ y.i ∧ (Dep ops y.i x.i ∨ (x.bar = false ∧ clash x.a y.a = false)) ∧ (y.bar = true ∨ (hits y.a.dst (aoRd x.a) = false ∧ sameD x.a.dst y.a.dst = false)) := by
 have := N.facts.pair p q x y hpq hx hy
 simp only [pairOk, Bool.and_eq_true, Bool.or_eq_true, Bool.not_eq_true', Bool.or_eq_false_iff] at this
 obtain ⟨⟨⟨h1, h2⟩, h3⟩, h4⟩ := this
 refine ⟨?_, ?_, h3, h4⟩
 · intro h
   unfold Dep at h
   rw [h1] at h
   cases h
 · intro h
   rw [h] at h2
   simp at h2
theorem CRun.reads (N : CRun C ops L σ) {p q t : Nat} {y : Item} (hpq : p < q) (hw : Wr L p t) (hy : L[q]? = some y) (ht : t ∈ aoRd y.a) : Bef ops L q p := by
 obtain ⟨x, hx, hd⟩ := hw
 obtain ⟨_, _, h3, _⟩ := N.pair hpq hx hy
 intro y' x' hy' hx' S hS hi
 rw [hy] at hy'; cases hy'
 rw [hx] at hx'; cases hx'
 rcases h3 with h | ⟨_, h⟩
 · exact hS.dep hi h
 · exact absurd ht ((clash_spec h).1 t hd)
theorem LastW.succ {m t i : Nat} (h : LastW L m t i) (hw : ¬ Wr L m t) : LastW L (m + 1) t i :=
 ⟨Nat.lt_succ_of_lt h.1, h.2.1, fun j hj hjm => by
  rcases Nat.lt_or_ge j m with hlt | hge
  · exact h.2.2 j hj hlt
  · have : j = m := by omega
    subst this; exact hw⟩
theorem LastW.pred {m t i : Nat} (h : LastW L (m + 1) t i) (hw : ¬ Wr L m t) : LastW L m t i := by
 have hi : i ≠ m := by rintro rfl; exact hw h.2.1
 exact ⟨by have := h.1; omega, h.2.1, fun j hj hjm => h.2.2 j hj (by omega)⟩
theorem CRun.lref (N : CRun C ops L σ) : ∀ (m : Nat), m ≤ L.length → ∀ (t d k : Nat) g b o, envF (σ m).env t = .lref g b d o → isBoxS (envF (σ m).env d) = true → LastW L m d k →
 ∃ i, k < i ∧ LastW L m t i ∧ Bef ops L i k := by
 intro m
 induction m with
 | zero => intro _ t d k g b o _ _ h; exact absurd h.1 (by omega)
 | succ m ih =>
  intro hm t d k g b o ht hd hk
  have hx : L[m]? = some L[m] := List.getElem?_eq_getElem (by omega)
  generalize L[m] = x at hx
  obtain ⟨gs, bc, sv, hh, up, T⟩ := N.step m x hx
  have wr : ∀ s, Wr L m s ↔ x.a.dst = some s := fun s => ⟨fun ⟨y, hy, h⟩ => by rw [hx] at hy; cases hy; exact h, fun h => ⟨x, hx, h⟩⟩
  have boxBack : x.a.dst ≠ some d → isBoxS (envF (σ m).env d) = true := fun hne => by
   rcases T.off hne with h | ⟨_, _, _, cs0, h⟩
   · rw [← h]; exact hd
   · rw [h]; rfl
  have lrefBack : x.a.dst ≠ some t → envF (σ m).env t = .lref g b d o := fun hne => by
   rcases T.off hne with h | ⟨cs, _, h, _⟩
   · rw [← h]; exact ht
   · rw [ht] at h; cases h
  by_cases hdd : x.a.dst = some d
  · exfalso
    have hsv := T.at hdd
    rw [hsv] at hd
    have hne : x.a.dst ≠ some t := fun h => by
     rw [hdd] at h; cases h
     rw [ht] at hsv; rw [← hsv] at hd; cases hd
    exact (T.dok hdd).2.2.1 hd t g b d o (lrefBack hne) rfl
  · have hk' := hk.pred (fun h => hdd ((wr d).1 h))
    by_cases htt : x.a.dst = some t
    · have hsv := T.at htt
      rw [ht] at hsv
      obtain ⟨t', ht', hl⟩ := T.lref hsv.symm
      have hrd : t' ∈ aoRd x.a := List.mem_append_right _ ht'
      refine ⟨m, hk'.1, ⟨Nat.lt_succ_self m, (wr t).2 htt, fun j h1 h2 => by omega⟩, ?_⟩
      rcases hl with ⟨rfl, _⟩ | ⟨g', b', o', hl⟩
      · exact N.reads hk'.1 hk'.2.1 hx hrd
      · obtain ⟨i, h1, h2, h3⟩ := ih (by omega) t' d k g' b' o' hl (boxBack hdd) hk'
        exact (N.reads h2.1 h2.2.1 hx hrd).trans h3 (by have := h2.1; omega)
    · obtain ⟨i, h1, h2, h3⟩ := ih (by omega) t d k g b o (lrefBack htt) (boxBack hdd) hk'
      exact ⟨i, h1, h2.succ (fun h => htt ((wr t).1 h)), h3⟩
theorem guardOf_mem {g : Option (Nat × Bool)} (h : guardOf ρ g = some (gs, bc)) {p : Nat × Bool} (hp : p ∈ gs) : ∃ tg wt, g = some (tg, wt) ∧ (p.1 = tg ∨ p ∈ gsOf (ρ tg)) := by
 cases g with
 | none =>
  simp only [guardOf, Option.some.injEq, Prod.mk.injEq] at h
  rw [← h.1] at hp
  cases hp
 | some q =>
  obtain ⟨tg, wt⟩ := q
  refine ⟨tg, wt, rfl, ?_⟩
  simp only [guardOf] at h
  split at h
  · rename_i gs0 bc0 b e
    simp only [Option.some.injEq, Prod.mk.injEq] at h
    rw [← h.1] at hp
    cases hp with
    | head => exact .inl rfl
    | tail _ hp => right; rw [e]; exact hp
  · cases h
theorem CRun.grds (N : CRun C ops L σ) (G : G0 (σ 0).env) : ∀ (m : Nat), m ≤ L.length → ∀ (t : Nat) (p : Nat × Bool), p ∈ gsOf (envF (σ m).env t) →
 ∃ i, LastW L m t i ∧ ∀ k, k < m → Wr L k p.1 → Bef ops L i k := by
 intro m
 induction m with
 | zero =>
  intro _ t p hp
  rcases envF_mem (env := (σ 0).env) t with e | e
  · rw [e] at hp; cases hp
  · rw [G _ e] at hp; cases hp
 | succ m ih =>
  intro hm t p hp
  have hx : L[m]? = some L[m] := List.getElem?_eq_getElem (by omega)
  generalize L[m] = x at hx
  obtain ⟨gs, bc, sv, hh, up, T⟩ := N.step m x hx
  have wr : ∀ s, Wr L m s ↔ x.a.dst = some s := fun s => ⟨fun ⟨y, hy, h⟩ => by rw [hx] at hy; cases hy; exact h, fun h => ⟨x, hx, h⟩⟩
  by_cases htt : x.a.dst = some t
  · rw [T.at htt] at hp
    have hpd := (T.dok htt).2.1 p hp
    have hgs : p ∈ gs := by
     rcases T.gsOk with h | h
     · rw [← h]; exact hp
     · rw [h] at hp; cases hp
    obtain ⟨tg, wt, hg, hc⟩ := guardOf_mem T.grd hgs
    have hrd : tg ∈ aoRd x.a := by simp [aoRd, hg]
    refine ⟨m, ⟨Nat.lt_succ_self m, (wr t).2 htt, fun j h1 h2 => by omega⟩, fun k hk hw => ?_⟩
    have hkm : k < m := by
     rcases Nat.lt_or_ge k m with h | h
     · exact h
     · exfalso
       have : k = m := by omega
       subst this
       have := (wr p.1).1 hw
       rw [htt] at this
       cases this
       exact hpd rfl
    rcases hc with hc | hc
    · rw [hc] at hw
      exact N.reads hkm hw hx hrd
    · obtain ⟨i, h1, h2⟩ := ih (by omega) tg p hc
      exact (N.reads h1.1 h1.2.1 hx hrd).trans (h2 k hkm hw) (by have := h1.1; omega)
  · have hp' : p ∈ gsOf (envF (σ m).env t) := by
     rcases T.off htt with h | ⟨cs, _, h, _⟩
     · rw [← h]; exact hp
     · rw [h] at hp; cases hp
    obtain ⟨i, h1, h2⟩ := ih (by omega) t p hp'
    refine ⟨i, h1.succ (fun h => htt ((wr t).1 h)), fun k hk hw => ?_⟩
    rcases Nat.lt_or_ge k m with h | h
    · exact h2 k h hw
    · exfalso
      have : k = m := by omega
      subst this
      have hd := (wr p.1).1 hw
      exact (T.dok hd).1 t p hp' rfl
end
end Go.Proofs.Ytnmdadadjneaiaa.Abs
/- Drawn regions: any order that the edges allow does what the canonical order does. -/
set_option linter.unusedVariables false
set_option linter.unusedSimpArgs false
namespace Go.Proofs.Ytnmdadadjneaiaa.Abs
open Go
section
variable {R : Type} {r : R} {ρ ρ' ρ0 : Nat → SV} {ah ah' ah0 : Heap} {gs : List (Nat × Bool)} {bc : Bool}
 {C : FuncId → List AV → Heap → Res} {ops : Array Oper} {L : List Item} {σ : Nat → St} {S : Nat → Prop}
def isX : AK → Bool
 | .boxL _ | .allocL _ => true
 | _ => false
theorem opK_a {k : AK} {K : SV → Heap → Up → Option R} (h1 : isM k = false) (h2 : isX k = false) (h3 : isB k = false) : opK C ρ ah gs bc k K = opA ρ ah gs bc k fun sv => K sv ah none := by
 cases k <;> first | (simp [isM] at h1; done) | (simp [isX] at h2; done) | (simp [isB] at h3; done) | (unfold opK; rfl)
theorem opK_x {k : AK} {K : SV → Heap → Up → Option R} (h : isX k = true) : opK C ρ ah gs bc k K = (match gs with | [] => opX ρ k fun cs => K (.box cs) ah none | _ => none) := by
 cases k <;> first | (simp [isX] at h; done) | (unfold opK; rfl)
theorem opK_b {k : AK} {K : SV → Heap → Up → Option R} (h : isB k = true) : opK C ρ ah gs bc k K = (match gs with | [] => opB ρ k ah.length fun a b => K (.v a) (ah ++ [b]) none | _ => none) := by
 cases k <;> first | (simp [isB] at h; done) | (unfold opK; rfl)
theorem TStep.quiet {a : AOp} {s s' : St} {sv : SV} {h : Heap} {up : Up} (T : TStep C a s s' gs bc sv h up) (hm : isM a.k = false) : up = none ∧
 ((isX a.k = false ∧ isB a.k = false ∧ h = s.ah ∧ opA (envF s.env) s.ah gs bc a.k some = some sv) ∨
  (isX a.k = true ∧ isB a.k = false ∧ gs = [] ∧ h = s.ah ∧ ∃ cs, sv = .box cs ∧ opX (envF s.env) a.k some = some cs) ∨
  (isB a.k = true ∧ isX a.k = false ∧ gs = [] ∧ ∃ x blk, h = s.ah ++ [blk] ∧ sv = .v x ∧ opB (envF s.env) a.k s.ah.length (fun a b => some (a, b)) = some (x, blk))) := by
 have t := T.op (SV × Heap × Up) fun sv h u => some (sv, h, u)
 cases hX : isX a.k with
 | true =>
  have hB : isB a.k = false := by cases e : a.k <;> simp_all [isX, isB]
  rw [opK_x hX] at t
  split at t
  · obtain ⟨cs, h1, hn⟩ := opX_nat t
    simp only [Option.some.injEq, Prod.mk.injEq] at h1
    obtain ⟨rfl, rfl, rfl⟩ := h1
    exact ⟨rfl, .inr (.inl ⟨rfl, hB, rfl, rfl, cs, rfl, hn some⟩)⟩
  · cases t
 | false =>
  cases hB : isB a.k with
  | true =>
   rw [opK_b hB] at t
   split at t
   · obtain ⟨x, b, h1, hn⟩ := opB_nat t
     simp only [Option.some.injEq, Prod.mk.injEq] at h1
     obtain ⟨rfl, rfl, rfl⟩ := h1
     exact ⟨rfl, .inr (.inr ⟨rfl, rfl, rfl, x, b, rfl, rfl, hn _⟩)⟩
   · cases t
  | false =>
   rw [opK_a hm hX hB] at t
   obtain ⟨x, h1, hn⟩ := opA_nat t
   simp only [Option.some.injEq, Prod.mk.injEq] at h1
   obtain ⟨rfl, rfl, rfl⟩ := h1
   exact ⟨rfl, .inl ⟨rfl, rfl, rfl, hn some⟩⟩
theorem opB_name {k : AK} {n : Nat} {x : AV} {blk : Blk} (h : opB ρ k n (fun a b => some (a, b)) = some (x, blk)) :
 x = .ptr (some ⟨n, 0, 0⟩) ∨ (∃ m, x = .sl (.pos ⟨n, 0, 0⟩) m) ∨ x = .map (some n) := by
 cases k <;> simp only [opB] at h
 case boxH x =>
  repeat' split at h
  all_goals first | (cases h; done) | (cases h; exact .inl rfl)
 case allocH z => cases h; exact .inl rfl
 case makeMap => cases h; exact .inr (.inr rfl)
 case buildSl z es ps =>
  split at h
  · rw [Option.bind_eq_some_iff] at h
    obtain ⟨cs, _, h⟩ := h
    cases h
    exact .inr (.inl ⟨_, rfl⟩)
  · cases h
 case makeSl z n l c =>
  repeat' split at h
  all_goals first | (cases h; done) | (have h := (chk_spec' h).2; cases h; exact .inr (.inl ⟨_, rfl⟩))
 all_goals cases h
theorem loadOk_trans {n t : Nat} (h0 : LoadOk ρ0 ρ ah0 ah n t) (ht : SEq (ρ0 t) (ρ t)) (h1 : LoadOk ρ ρ' ah ah' n t) : LoadOk ρ0 ρ' ah0 ah' n t := by
 unfold LoadOk at h0 h1 ⊢
 cases e : ρ0 t with
 | any => trivial
 | box cs =>
  rw [e] at h0
  obtain ⟨cs', e', he⟩ := h0
  rw [e'] at h1
  obtain ⟨cs'', e'', he'⟩ := h1
  exact ⟨cs'', e'', he'.trans he⟩
 | lref g b d o =>
  rw [e] at h0 ht
  have e' : ρ t = .lref g b d o := by
   rcases ht with h | ⟨_, _, h, _⟩
   · exact h.symm
   · cases h
  rw [e'] at h1
  intro cs hc
  obtain ⟨cs', hc', he⟩ := h0 cs hc
  obtain ⟨cs'', hc'', he'⟩ := h1 cs' hc'
  exact ⟨cs'', hc'', he'.trans he⟩
 | g g b y =>
  rw [e] at h0 ht
  have e' : ρ t = .g g b y := by
   rcases ht with h | ⟨_, _, h, _⟩
   · exact h.symm
   · cases h
  rw [e'] at h1
  cases y with
  | ptr q => cases q with
   | none => trivial
   | some q => exact fun xs h => h1 xs (h0 xs h)
  | _ => trivial
theorem heapOk_trans {k : AK} (h0 : HeapOk k ρ0 ρ ah0 ah) (hs : ∀ t ∈ akTmps k, SEq (ρ0 t) (ρ t)) (h1 : HeapOk k ρ ρ' ah ah') : HeapOk k ρ0 ρ' ah0 ah' := by
 have sl : ∀ t, SEq (ρ0 t) (ρ t) → ∀ gs bc x, ρ0 t = .g gs bc x → ρ t = .g gs bc x := by
  intro t ht gs bc x e
  rcases ht with h | ⟨_, _, h, _⟩
  · rw [← h]; exact e
  · rw [e] at h; cases h
 cases k
 case load sh x =>
  cases x with
  | c v => trivial
  | tmp t => exact loadOk_trans h0 (hs t (by simp [akTmps, axT])) h1
 case slice n x lo hi =>
  cases x with
  | c v =>
   cases lo <;> cases hi <;> first | trivial | exact (Eq.trans (b := ah) h1 h0)
  | tmp t =>
   have key := sl t (hs t (by simp [akTmps, axT]))
   cases lo <;> cases hi <;> first
    | trivial
    | exact fun gs bc a n e b hb => h1 gs bc a n (key _ _ _ e) b (h0 gs bc a n e b hb)
 case slice3 n x lo hi mx =>
  cases x with
  | c v => exact (Eq.trans (b := ah) h1 h0)
  | tmp t =>
   have key := sl t (hs t (by simp [akTmps, axT]))
   exact fun gs bc a n e b hb => h1 gs bc a n (key _ _ _ e) b (h0 gs bc a n e b hb)
 case lookup => exact (Eq.trans (b := ah) h1 h0)
 case lenMap => exact (Eq.trans (b := ah) h1 h0)
 all_goals trivial
theorem ldN_mono {q : Ad} {n : Nat} {xs : List AV} (hb : ∀ b, ah[q.b]? = some b → ah'[q.b]? = some b) (h : ldN ah q n = some xs) : ldN ah' q n = some xs := by
 unfold ldN at h ⊢
 cases e : ah[q.b]? with
 | none => rw [e] at h; cases h
 | some b => rw [hb b e]; rw [e] at h; exact h
theorem app_get {l : List Blk} (h : ah' = ah ∨ ah' = ah ++ l) (n : Nat) (b : Blk) (hb : ah[n]? = some b) : ah'[n]? = some b := by
 rcases h with rfl | rfl
 · exact hb
 · rw [List.getElem?_append_left (List.getElem?_eq_some_iff.1 hb).1]; exact hb
theorem heapOk_step {a : AOp} {s s' : St} {sv : SV} {h : Heap} {up : Up} (T : TStep C a s s' gs bc sv h up) {k : AK} (hk : isM k = false) (hp : plainK k = true) (hd : ∀ t ∈ akTmps k, a.dst ≠ some t)
 (H : (up = none ∧ ∃ l, h = s.ah ∨ h = s.ah ++ l) ∨ ∃ d g re, (∀ z ∈ reOf ⟨d, k, g, re⟩, ReOk (envF s.env) s.ah h up z) ∧ (g ≠ none → ∀ e, d = some e → bcOf (envF s.env e) = true)) :
 HeapOk k (envF s.env) (envF s'.env) s.ah s'.ah := by
 have hah := T.env.2
 have quiet : (up = none ∧ ∃ l, h = s.ah ∨ h = s.ah ++ l) → ∀ (n : Nat) b, s.ah[n]? = some b → s'.ah[n]? = some b := by
  rintro ⟨_, l, hl⟩ n b hb
  rw [hah]
  exact app_get hl n b hb
 have ask : ∀ (d : Option Nat) (g : Option (Nat × Bool)), (g ≠ none → ∀ e, d = some e → bcOf (envF s.env e) = true) → asked (envF s.env) (match g with | none => none | some _ => d) = true := by
  intro d g hg
  cases g with
  | none => rfl
  | some p => cases d with
   | none => rfl
   | some e => exact hg (by simp) e rfl
 have sl : ∀ t, (∀ q, (up = none ∧ ∃ l, h = s.ah ∨ h = s.ah ++ l) ∨ ReOk (envF s.env) s.ah h up (.sl t q) ∧ asked (envF s.env) q = true → ∀ gs bc a n, envF s.env t = .g gs bc (.sl (.pos a) n) → ∀ b, s.ah[a.b]? = some b → s'.ah[a.b]? = some b) := by
  intro t q hq gs bc a n e b hb
  rcases hq with hq | ⟨hq, ha⟩
  · exact quiet hq _ _ hb
  · rw [hah, hq ha gs bc a n e]; exact hb
 cases k
 case load sh x =>
  cases x with
  | c v => trivial
  | tmp t =>
   have hd := hd t (by simp [akTmps, axT])
   show LoadOk _ _ _ _ _ _
   have H' : (up = none ∧ ∃ l, h = s.ah ∨ h = s.ah ++ l) ∨ ∃ q, ReOk (envF s.env) s.ah h up (.load sh.size t q) ∧ asked (envF s.env) q = true := by
    rcases H with H | ⟨d, g, re, H, hg⟩
    · exact .inl H
    · exact .inr ⟨_, H _ (by simp [reOf]; rfl), ask d g hg⟩
   unfold LoadOk
   cases e : envF s.env t with
   | any => trivial
   | box cs =>
    simp only
    rcases T.off hd with h' | ⟨cs', hu, h', _⟩
    · exact ⟨cs, by rw [h', e], rfl⟩
    · refine ⟨cs', h', ?_⟩
      rcases H' with ⟨hu', _⟩ | ⟨q, hq, ha⟩
      · rw [hu] at hu'; cases hu'
      · have := hq ha
        rw [e] at this
        exact this t cs' hu rfl
   | lref g b e' off =>
    simp only
    intro cs hc
    have hne : a.dst ≠ some e' := by
     intro hde
     have := (T.dok hde).2.2.2
     obtain ⟨c0, h0⟩ := boxAt_box hc
     rw [h0] at this
     cases this
    rcases T.off hne with h' | ⟨cs', hu, h', _⟩
    · exact ⟨cs, by unfold boxAt at hc ⊢; rw [h']; exact hc, rfl⟩
    · refine ⟨cs', by unfold boxAt; rw [h'], ?_⟩
      rcases H' with ⟨hu', _⟩ | ⟨q, hq, ha⟩
      · rw [hu] at hu'; cases hu'
      · have := hq ha
        rw [e] at this
        obtain ⟨cs0, h0, h1⟩ := this e' cs' hu rfl
        rw [hc] at h0
        cases h0
        exact h1
   | g g b y =>
    cases y with
    | ptr q => cases q with
     | none => trivial
     | some q =>
      intro xs hx
      rcases H' with hq | ⟨q', hq, ha⟩
      · exact ldN_mono (fun b hb => quiet hq _ _ hb) hx
      · have := hq ha
        rw [e] at this
        rw [hah, this]; exact hx
    | _ => trivial
 case slice n x lo hi =>
  cases x with
  | c v => simp [plainK] at hp
  | tmp t =>
   have key : (lo.isSome = true ∨ hi.isSome = true) → ∀ gs bc a n, envF s.env t = .g gs bc (.sl (.pos a) n) → ∀ b, s.ah[a.b]? = some b → s'.ah[a.b]? = some b := by
    intro hl
    rcases H with H | ⟨d, g, re, H, hg⟩
    · exact sl t none (.inl H)
    · refine sl t _ (.inr ⟨H _ ?_, ask d g hg⟩)
      cases lo <;> cases hi <;> first | (simp at hl; done) | (simp [reOf]; rfl)
   cases lo <;> cases hi <;> first | trivial | exact key (by simp)
 case slice3 n x lo hi mx =>
  cases x with
  | c v => simp [plainK] at hp
  | tmp t =>
   show ∀ gs bc a n, _ → _
   rcases H with H | ⟨d, g, re, H, hg⟩
   · exact sl t none (.inl H)
   · exact sl t _ (.inr ⟨H _ (by simp [reOf]; rfl), ask d g hg⟩)
 case lookup => simp [isM] at hk
 case lenMap => simp [isM] at hk
 all_goals trivial
structure Reg (P : Program) (loc : Nat) (C : FuncId → List AV → Heap → Res) (ops : Array Oper) (L : List Item) (σ : Nat → St) : Prop extends CRun C ops L σ where
 src : ∀ (k : Nat) x, L[k]? = some x → ∃ o, ops[x.i]? = some o ∧ cOper P loc ops.toList o x.a.re = some x.a
 res : ∀ (p q : Nat) x y, p < q → L[p]? = some x → L[q]? = some y → y.bar = true → ¬ Dep ops y.i x.i → ∀ z ∈ reOf x.a, z ∈ y.a.re
 cov : ∀ i, i < ops.size → ∃ (k : Nat) (x : Item), L[k]? = some x ∧ x.i = i
 edge : ∀ (k : Nat) x o, L[k]? = some x → ops[x.i]? = some o → ∀ e ∈ o.after, Region.binds .any e = true → ∃ (j : Nat) (y : Item), j < k ∧ L[j]? = some y ∧ y.i = e.on
 g0 : G0 (σ 0).env
variable {P : Program} {loc : Nat}
theorem Reg.self (N : Reg P loc C ops L σ) {k : Nat} {x : Item} (hx : L[k]? = some x) : (x.bar = true ∨ ∀ d, x.a.dst = some d → d ∉ aoRd x.a) ∧ (isM x.a.k = true → x.bar = true) ∧ plainK x.a.k = true ∧ (isB x.a.k = true → ∃ d, x.a.dst = some d) := by
 have := N.facts.self k x hx
 simp only [selfOk, Bool.and_eq_true, Bool.or_eq_true, Bool.not_eq_true'] at this
 obtain ⟨⟨⟨h1, h2⟩, h3⟩, h4⟩ := this
 refine ⟨h1.imp id hits_spec, fun h => ?_, h3, fun h => ?_⟩
 · rcases h2 with h2 | h2
   · rw [h] at h2; cases h2
   · exact h2
 · rcases h4 with h4 | h4
   · rw [h] at h4; cases h4
   · exact Option.isSome_iff_exists.1 h4
theorem Reg.apart (N : Reg P loc C ops L σ) (hS : Closed ops S) {k j : Nat} {x y : Item} (hkj : k < j) (hx : L[k]? = some x) (hy : L[j]? = some y) (hnx : ¬ S x.i) (hb : y.bar = true → S y.i) :
 (∀ e, y.a.dst = some e → e ∉ aoRd x.a) ∧ (∀ e, x.a.dst = some e → y.a.dst ≠ some e) ∧ (y.bar = true → ¬ Dep ops y.i x.i ∧ ∀ e, x.a.dst = some e → e ∉ aoRd y.a) := by
 obtain ⟨h1, h2, h3, h4⟩ := N.pair hkj hx hy
 cases e : y.bar with
 | true =>
  have hnd : ¬ Dep ops y.i x.i := fun h => hnx (hS.dep (hb e) h)
  rcases h3 with h3 | ⟨_, h3⟩
  · exact absurd h3 hnd
  · obtain ⟨c1, c2, c3⟩ := clash_spec h3
    exact ⟨c3, c2, fun _ => ⟨hnd, c1⟩⟩
 | false =>
  rcases h4 with h4 | ⟨h4, h5⟩
  · rw [e] at h4; cases h4
  · exact ⟨hits_spec h4, sameD_spec h5, fun h => by cases h⟩
theorem Reg.stay (N : Reg P loc C ops L σ) (hS : Closed ops S) {k : Nat} {x : Item} (hx : L[k]? = some x) (hnx : ¬ S x.i) (hb : x.bar = false) {sv : SV} {h : Heap} {up : Up}
 (T : TStep C x.a (σ k) (σ (k + 1)) gs bc sv h up) : ∀ (n : Nat), k + 1 + n ≤ L.length → (∀ j y, k < j → j < k + 1 + n → L[j]? = some y → y.bar = true → S y.i) →
 (∀ t ∈ aoRd x.a, SEq (envF (σ k).env t) (envF (σ (k + 1 + n)).env t)) ∧ (∀ d, x.a.dst = some d → envF (σ (k + 1 + n)).env d = sv) ∧
 (isB x.a.k = true → ∀ blk, (σ (k + 1)).ah = (σ k).ah ++ [blk] → (σ (k + 1 + n)).ah[(σ k).ah.length]? = some blk) ∧
 ((bcOf sv = true ∨ x.a.guard = none) → HeapOk x.a.k (envF (σ k).env) (envF (σ (k + 1 + n)).env) (σ k).ah (σ (k + 1 + n)).ah) := by
 obtain ⟨s1, s2, s3, s4⟩ := N.self hx
 have hrd : ∀ d, x.a.dst = some d → d ∉ aoRd x.a := by
  rcases s1 with h | h
  · rw [hb] at h; cases h
  · exact h
 have hM : isM x.a.k = false := by
  cases e : isM x.a.k with
  | false => rfl
  | true => rw [s2 e] at hb; cases hb
 obtain ⟨hup, hq⟩ := T.quiet hM
 have hq' : ∃ l, h = (σ k).ah ∨ h = (σ k).ah ++ l := by
  rcases hq with ⟨_, _, h1, _⟩ | ⟨_, _, _, h1, _⟩ | ⟨_, _, _, _, blk, h1, _⟩
  · exact ⟨[], .inl h1⟩
  · exact ⟨[], .inl h1⟩
  · exact ⟨_, .inr h1⟩
 have rdk : ∀ t ∈ akTmps x.a.k, t ∈ aoRd x.a := fun t ht => List.mem_append_right _ ht
 intro n
 induction n with
 | zero =>
  intro hn _
  refine ⟨fun t ht => T.offS fun hd => hrd t hd ht, fun d hd => T.at hd, fun _ blk hblk => ?_, fun _ => ?_⟩
  · show (σ (k + 1)).ah[_]? = _
    rw [hblk]; simp
  · exact heapOk_step T hM s3 (fun t ht hd => hrd t hd (rdk t ht)) (.inl ⟨hup, hq'⟩)
 | succ n ih =>
  intro hn hbar
  obtain ⟨i1, i2, i3, i4⟩ := ih (by omega) fun j y h1 h2 => hbar j y h1 (by omega)
  have hy : L[k + 1 + n]? = some L[k + 1 + n] := List.getElem?_eq_getElem (by omega)
  generalize L[k + 1 + n] = y at hy
  obtain ⟨gs', bc', sv', h', up', T'⟩ := N.step (k + 1 + n) y hy
  have hyb : y.bar = true → S y.i := hbar (k + 1 + n) y (by omega) (by omega) hy
  obtain ⟨a1, a2, a3⟩ := N.apart hS (by omega) hx hy hnx hyb
  have hyq : y.bar = false → up' = none ∧ ∃ l, h' = (σ (k + 1 + n)).ah ∨ h' = (σ (k + 1 + n)).ah ++ l := by
   intro e
   have hM' : isM y.a.k = false := by
    cases e' : isM y.a.k with
    | false => rfl
    | true => rw [(N.self hy).2.1 e'] at e; cases e
   obtain ⟨q1, q2⟩ := T'.quiet hM'
   refine ⟨q1, ?_⟩
   rcases q2 with ⟨_, _, h1, _⟩ | ⟨_, _, _, h1, _⟩ | ⟨_, _, _, _, blk, h1, _⟩
   · exact ⟨[], .inl h1⟩
   · exact ⟨[], .inl h1⟩
   · exact ⟨_, .inr h1⟩
  have hre : y.bar = true → ∀ z ∈ reOf x.a, ReOk (envF (σ (k + 1 + n)).env) (σ (k + 1 + n)).ah h' up' z := fun e z hz =>
   T'.re z (N.res k (k + 1 + n) x y (by omega) hx hy e (a3 e).1 z hz)
  have e1 : k + 1 + (n + 1) = k + 1 + n + 1 := rfl
  have hah : (σ (k + 1 + n + 1)).ah = h' := T'.env.2
  refine ⟨fun t ht => (i1 t ht).trans (T'.offS fun hd => a1 t hd ht), fun d hd => ?_, fun hB blk hblk => ?_, fun hbc => ?_⟩
  · rcases T'.off (a2 d hd) with h1 | ⟨cs, hu, h1, cs0, h2⟩
    · exact h1.trans (i2 d hd)
    · exfalso
      obtain ⟨m1, m2, t, ht, hl⟩ := T'.up hu
      have hbt := (N.self hy).2.1 m1
      have htr : t ∈ aoRd y.a := List.mem_append_right _ ht
      rcases hl with ⟨rfl, _⟩ | ⟨g, b, o, hl⟩
      · exact (a3 hbt).2 t hd htr
      · have hlw : LastW L (k + 1 + n) d k := by
         refine ⟨by omega, ⟨x, hx, hd⟩, fun j h3 h4 ⟨z, hz, hzd⟩ => ?_⟩
         exact (N.apart hS h3 hx hz hnx (hbar j z h3 (by omega) hz)).2.1 d hd hzd
        obtain ⟨i, g1, g2, g3⟩ := N.lref (k + 1 + n) (by omega) t d k g b o hl (by rw [h2]; rfl) hlw
        obtain ⟨z, hz, _⟩ := g2.2.1
        exact hnx (g3 _ x hz hx S hS (N.reads g2.1 g2.2.1 hy htr y _ hy hz S hS (hyb hbt)))
  · have i3 := i3 hB blk hblk
    rw [e1, hah]
    cases e : y.bar with
    | false =>
     obtain ⟨_, l, hl⟩ := hyq e
     exact app_get hl _ _ i3
    | true =>
     obtain ⟨d, hd⟩ := s4 hB
     have hz : Re.blk d ∈ reOf x.a := by
      unfold reOf
      cases ek : x.a.k <;> rw [ek] at hB <;> simp [isB] at hB <;> simp [hd]
     have hr := hre e _ hz
     have hsv := i2 d hd
     rcases hq with ⟨_, hB', _⟩ | ⟨_, hB', _⟩ | ⟨_, _, _, v, blk', hh, hv, hop⟩
     · rw [hB] at hB'; cases hB'
     · rw [hB] at hB'; cases hB'
     · rw [hv] at hsv
       simp only [ReOk, hsv, SV.v] at hr
       rcases opB_name hop with rfl | ⟨m, rfl⟩ | rfl
       · exact hr.trans i3
       · exact hr.trans i3
       · exact hr.trans i3
  · refine heapOk_trans (i4 hbc) (fun t ht => i1 t (rdk t ht)) ?_
    refine heapOk_step T' hM s3 (fun t ht hd => a1 t hd (rdk t ht)) ?_
    cases e : y.bar with
    | false => exact .inl (hyq e)
    | true =>
     refine .inr ⟨x.a.dst, x.a.guard, x.a.re, hre e, fun hg d hd => ?_⟩
     rw [i2 d hd]
     rcases hbc with h1 | h1
     · exact h1
     · exact absurd h1 hg
def Msk (L : List Item) (S : Nat → Prop) (pp t : Nat) : Prop := ∃ (k : Nat) (x : Item), k < pp ∧ L[k]? = some x ∧ ¬ S x.i ∧ x.a.dst = some t
open Classical in
noncomputable def mask (L : List Item) (S : Nat → Prop) (pp : Nat) (σ : Nat → St) (t : Nat) : SV := if Msk L S pp t then .any else envF (σ pp).env t
theorem mask_no {pp t : Nat} (h : ¬ Msk L S pp t) : mask L S pp σ t = envF (σ pp).env t := if_neg h
theorem mask_yes {pp t : Nat} (h : Msk L S pp t) : mask L S pp σ t = .any := if_pos h
theorem mask_ne {pp t : Nat} {v : SV} (hv : v ≠ .any) (h : mask L S pp σ t = v) : ¬ Msk L S pp t ∧ envF (σ pp).env t = v := by
 by_cases hm : Msk L S pp t
 · rw [mask_yes hm] at h; exact absurd h.symm hv
 · rw [mask_no hm] at h; exact ⟨hm, h⟩
theorem Reg.unmask (N : Reg P loc C ops L σ) (hS : Closed ops S) {pp t i : Nat} {x : Item} (hl : LastW L pp t i) (hx : L[i]? = some x) (hi : S x.i) : ¬ Msk L S pp t := by
 rintro ⟨k, y, hk, hy, hny, hd⟩
 have hxd : x.a.dst = some t := by
  obtain ⟨z, hz, hzd⟩ := hl.2.1
  rw [hx] at hz; cases hz; exact hzd
 rcases Nat.lt_trichotomy k i with h | h | h
 · obtain ⟨_, _, h3, _⟩ := N.pair h hy hx
   rcases h3 with h3 | ⟨_, h3⟩
   · exact hny (hS.dep hi h3)
   · exact (clash_spec h3).2.1 t hd hxd
 · subst h
   rw [hx] at hy; cases hy
   exact hny hi
 · exact hl.2.2 k h hk ⟨y, hy, hd⟩
theorem seen {pp t i : Nat} {x : Item} (hm : ¬ Msk L S pp t) (hl : LastW L pp t i) (hx : L[i]? = some x) : S x.i := by
 refine Classical.byContradiction fun h => hm ⟨i, x, hl.1, hx, h, ?_⟩
 obtain ⟨z, hz, hzd⟩ := hl.2.1
 rw [hx] at hz; cases hz; exact hzd
theorem Reg.gd (N : Reg P loc C ops L σ) (hS : Closed ops S) {pp t : Nat} (hp : pp ≤ L.length) (ht : ¬ Msk L S pp t) {p : Nat × Bool} (hg : p ∈ gsOf (envF (σ pp).env t)) : ¬ Msk L S pp p.1 := by
 obtain ⟨i, h1, h2⟩ := N.grds N.g0 pp hp t p hg
 rintro ⟨k, y, hk, hy, hny, hd⟩
 obtain ⟨x, hx, hxd⟩ := h1.2.1
 exact hny (h2 k hk ⟨y, hy, hd⟩ x y hx hy S hS (seen ht h1 hx))
theorem lastW_ex {t : Nat} : ∀ (pp : Nat), (∃ k, k < pp ∧ Wr L k t) → ∃ i, LastW L pp t i := by
 intro pp
 induction pp with
 | zero => rintro ⟨k, h, _⟩; omega
 | succ pp ih =>
  rintro ⟨k, h, hw⟩
  by_cases hp : Wr L pp t
  · exact ⟨pp, Nat.lt_succ_self pp, hp, fun j h1 h2 => by omega⟩
  · have hk : k ≠ pp := by rintro rfl; exact hp hw
    obtain ⟨i, hi⟩ := ih ⟨k, by omega, hw⟩
    exact ⟨i, hi.succ hp⟩
theorem Reg.bx (N : Reg P loc C ops L σ) (hS : Closed ops S) {pp t d : Nat} (hp : pp ≤ L.length) (ht : ¬ Msk L S pp t) {g : List (Nat × Bool)} {b : Bool} {o : Nat} (hr : envF (σ pp).env t = .lref g b d o)
 (hb : isBoxS (envF (σ pp).env d) = true) : ¬ Msk L S pp d := by
 intro hm
 have hm' := hm
 obtain ⟨k, y, hk, hy, hny, hd⟩ := hm'
 obtain ⟨j, hj⟩ := lastW_ex pp ⟨k, hk, y, hy, hd⟩
 obtain ⟨i, h1, h2, h3⟩ := N.lref pp hp t d j g b o hr hb hj
 obtain ⟨x, hx, _⟩ := h2.2.1
 obtain ⟨z, hz, _⟩ := hj.2.1
 exact N.unmask hS hj hz (h3 x z hx hz S hS (seen ht h2 hx)) hm
theorem conj_congr (h : ∀ p ∈ gs, ρ' p.1 = ρ p.1) : conj ρ' gs ↔ conj ρ gs := by
 constructor
 · intro c p hp
   obtain ⟨g, bc, b, e, hl⟩ := c p hp
   exact ⟨g, bc, b, by rw [← h p hp]; exact e, hl⟩
 · intro c p hp
   obtain ⟨g, bc, b, e, hl⟩ := c p hp
   exact ⟨g, bc, b, by rw [h p hp]; exact e, hl⟩
variable {φ φ' φ0 : Phi} {β : Nat → Nat} {a : Act} {w w' w0 : World} {n n0 : Nat}
theorem Sl.hide (M : Sl n0 φ β ρ a w) (h : ∀ t, ρ' t = .any ∨ (ρ' t = ρ t ∧ ∀ p ∈ gsOf (ρ t), ρ' p.1 = ρ p.1)) : Sl n0 φ β ρ' a w := by
 have up : ∀ t v, v ≠ SV.any → ρ' t = v → ρ t = v ∧ ∀ p ∈ gsOf v, ρ' p.1 = ρ p.1 := by
  intro t v hv e
  rcases h t with h' | ⟨h1, h2⟩
  · rw [e] at h'; exact absurd h' hv
  · rw [e] at h1; rw [← h1] at h2; exact ⟨h1.symm, h2⟩
 refine ⟨fun t => ?_, ⟨fun t gs bc x e => ?_, fun t gs bc d off e => ?_⟩, fun t cs e => ?_, M.df⟩
 · rcases h t with h' | ⟨h', _⟩
   · rw [h']; trivial
   · rw [h']; exact M.H t
 · obtain ⟨h1, h2⟩ := up t _ (by simp) e
   rw [conj_congr (gs := gs) h2]
   exact M.G.1 t gs bc x h1
 · obtain ⟨h1, h2⟩ := up t _ (by simp) e
   rw [conj_congr (gs := gs) h2]
   exact M.G.2 t gs bc d off h1
 · obtain ⟨h1, _⟩ := up t _ (by simp) e
   obtain ⟨b1, b2, b3⟩ := M.bx t cs h1
   refine ⟨b1, b2, fun t' cs' e' => ?_⟩
   obtain ⟨h1', _⟩ := up t' _ (by simp) e'
   exact b3 t' cs' h1'
theorem Sl.val {m : Nat} {h : Heap} {sv : SV} {vc : Value} {dst : Option Nat} (M : Sl n0 φ β ρ a w) (hE : Eff φ φ' m h w w') (hs : (∃ x, sv = .g gs true x ∧ VR φ' x vc) ∨ (∃ d off, sv = .lref gs true d off ∧ vc = .pointer (some ⟨β d, off, none⟩)))
 (cj : conj ρ gs) (D : DOk dst sv ρ a) : Sl n0 φ' β (putR ρ dst sv) (a.put dst vc) w' := by
 have L' := M.eff hE
 cases dst with
 | none => exact L'
 | some d =>
  obtain ⟨d1, d2, d3, d4, d5⟩ := D
  refine L'.put d1 ?_ ?_ d2 ?_ d3
  · rcases hs with ⟨x, rfl, hv⟩ | ⟨e, off, rfl, rfl⟩
    · exact ⟨fun _ => hv, fun h => by simp at h⟩
    · exact ⟨fun _ => rfl, fun h => by simp at h⟩
  · rcases hs with ⟨x, rfl, hv⟩ | ⟨e, off, rfl, rfl⟩ <;> rfl
  · rcases hs with ⟨x, rfl, hv⟩ | ⟨e, off, rfl, rfl⟩
    · exact .g cj
    · exact .l cj
structure At (φ0 : Phi) (n : Nat) (w0 : World) (ops : Array Oper) (L : List Item) (σ : Nat → St) (S : Nat → Prop) (pp : Nat) (a : Act) (w : World) : Prop where
 cl : Closed ops S
 le : pp ≤ L.length
 lo : ∀ k x, k < pp → L[k]? = some x → x.bar = true → S x.i
 hi : ∀ k x, pp ≤ k → L[k]? = some x → ¬ S x.i
 mono : ∀ i j, i ≤ j → j ≤ pp → (σ i).ah.length ≤ (σ j).ah.length
 nle : n ≤ (σ 0).ah.length
 inv : ∃ φ β, Eff φ0 φ n (σ pp).ah w0 w ∧ Sl w0.heap.size φ β (mask L S pp σ) a w ∧ ∀ k x, k < pp → L[k]? = some x → ¬ S x.i → isB x.a.k = true → φ (σ k).ah.length = .unborn
 len : (σ 0).env.length ≤ a.tmps.size
theorem TStep.len {x : AOp} {s s' : St} {sv : SV} {h : Heap} {up : Up} (T : TStep C x s s' gs bc sv h up) : s'.env.length = s.env.length := by
 rw [T.eq]; simp [upd_len, put_len]
theorem CRun.len (N : CRun C ops L σ) : ∀ k, k ≤ L.length → (σ k).env.length = (σ 0).env.length := by
 intro k
 induction k with
 | zero => intro _; rfl
 | succ k ih =>
  intro hk
  obtain ⟨gs, bc, sv, h, up, T⟩ := N.step k L[k] (List.getElem?_eq_getElem (by omega))
  rw [T.len, ih (by omega)]
theorem Reg.notM (N : Reg P loc C ops L σ) {k : Nat} {x : Item} (hx : L[k]? = some x) (hb : x.bar = false) : isM x.a.k = false := by
 cases e : isM x.a.k with
 | false => rfl
 | true => rw [(N.self hx).2.1 e] at hb; cases hb
theorem At.next {pp : Nat} {x : Item} (A : At φ0 n w0 ops L σ S pp a w) (N : Reg P loc C ops L σ) (hx : L[pp]? = some x) (hb : x.bar = false) : At φ0 n w0 ops L σ S (pp + 1) a w := by
 have hlt : pp < L.length := (List.getElem?_eq_some_iff.1 hx).1
 have hnx := A.hi pp x (Nat.le_refl _) hx
 obtain ⟨gs, bc, sv, h, up, T⟩ := N.step pp x hx
 obtain ⟨hup, hq⟩ := T.quiet (N.notM hx hb)
 have hah := T.env.2
 have hq' : ∃ l, (σ (pp + 1)).ah = (σ pp).ah ++ l ∧ (isB x.a.k = false → l = []) := by
  rw [hah]
  rcases hq with ⟨_, h0, h1, _⟩ | ⟨_, h0, _, h1, _⟩ | ⟨h0, _, _, _, blk, h1, _⟩
  · exact ⟨[], by rw [h1]; simp, fun _ => rfl⟩
  · exact ⟨[], by rw [h1]; simp, fun _ => rfl⟩
  · exact ⟨_, h1, fun h => by rw [h0] at h; cases h⟩
 obtain ⟨l, hl, _⟩ := hq'
 have grow : (σ pp).ah.length ≤ (σ (pp + 1)).ah.length := by rw [hl]; simp
 refine ⟨A.cl, hlt, fun k y hk hy hyb => ?_, fun k y hk hy => A.hi k y (by omega) hy, fun i j hij hj => ?_, A.nle, ?_, A.len⟩
 · rcases Nat.lt_or_ge k pp with h1 | h1
   · exact A.lo k y h1 hy hyb
   · have : k = pp := by omega
     subst this
     rw [hx] at hy; cases hy
     rw [hb] at hyb; cases hyb
 · rcases Nat.lt_or_ge j (pp + 1) with h1 | h1
   · exact A.mono i j hij (by omega)
   · have : j = pp + 1 := by omega
     subst this
     rcases Nat.lt_or_ge i (pp + 1) with h2 | h2
     · exact Nat.le_trans (A.mono i pp (by omega) (Nat.le_refl _)) grow
     · have : i = pp + 1 := by omega
       subst this; exact Nat.le_refl _
 · obtain ⟨φ, β, E, M, U⟩ := A.inv
   have hS' : Sim φ (σ (pp + 1)).ah w := by rw [hl]; exact E.sim.add l
   refine ⟨φ, β, ⟨E.le, hS', E.fr, E.cb, E.own, Nat.le_trans E.len grow, E.un⟩, M.hide fun t => ?_, fun k y hk hy hny hB => ?_⟩
   · by_cases hm : Msk L S (pp + 1) t
     · exact .inl (mask_yes hm)
     · right
       have down : ∀ t, ¬ Msk L S (pp + 1) t → mask L S (pp + 1) σ t = mask L S pp σ t := by
        intro t hm
        have hm' : ¬ Msk L S pp t := fun ⟨k, y, h1, h2⟩ => hm ⟨k, y, by omega, h2⟩
        have hd : x.a.dst ≠ some t := fun hd => hm ⟨pp, x, Nat.lt_succ_self pp, hx, hnx, hd⟩
        rw [mask_no hm, mask_no hm']
        rcases T.off hd with h1 | ⟨cs, hu, _⟩
        · exact h1
        · rw [hup] at hu; cases hu
       have e := down t hm
       refine ⟨e, fun p hp => down _ ?_⟩
       rw [← e, mask_no hm] at hp
       exact N.gd A.cl hlt hm hp
   · rcases Nat.lt_or_ge k pp with h1 | h1
     · exact U k y h1 hy hny hB
     · have : k = pp := by omega
       subst this
       exact E.sim.unborn (by simp)
theorem At.adv (N : Reg P loc C ops L σ) : ∀ (j pp : Nat), L.length - pp ≤ j → At φ0 n w0 ops L σ S pp a w → ∃ pp', At φ0 n w0 ops L σ S pp' a w ∧ (pp' = L.length ∨ ∃ x, L[pp']? = some x ∧ x.bar = true) := by
 intro j
 induction j with
 | zero => intro pp h A; exact ⟨pp, A, .inl (by have := A.le; omega)⟩
 | succ j ih =>
  intro pp h A
  rcases Nat.lt_or_ge pp L.length with hlt | hge
  · have hx : L[pp]? = some L[pp] := List.getElem?_eq_getElem hlt
    cases e : L[pp].bar with
    | true => exact ⟨pp, A, .inr ⟨_, hx, e⟩⟩
    | false => exact ih (pp + 1) (by omega) (A.next N hx e)
  · exact ⟨pp, A, .inl (by have := A.le; omega)⟩
theorem cOper_inv {o : Oper} {re : List Re} {ao : AOp} (h : cOper P loc ops.toList o re = some ao) : gSlot ops.toList o = some ao.guard ∧ cOp P loc o = some ao.k ∧ ao.dst = o.dst := by
 unfold cOper at h
 split at h
 · rename_i g k h1 h2
   simp only [Option.some.injEq] at h
   subst h
   exact ⟨h1, h2, rfl⟩
 · cases h
theorem opK_congr {k : AK} {K : SV → Heap → Up → Option R} (hp : plainK k = true) (hs : ∀ t ∈ akTmps k, ρ' t = ρ t) (hb : ∀ t ∈ akTmps k, ∀ g b d o, ρ t = .lref g b d o → isBoxS (ρ d) = true → ρ' d = ρ d)
 (h : opK C ρ ah gs true k K = some r) : opK C ρ' ah gs true k K = some r := by
 have hs' : ∀ t ∈ akTmps k, SEq (ρ t) (ρ' t) := fun t ht => .inl (hs t ht).symm
 have hh : HeapOk k ρ ρ' ah ah := by
  cases k
  case load sh x =>
   cases x with
   | c v => trivial
   | tmp t =>
    show LoadOk _ _ _ _ _ _
    unfold LoadOk
    have e1 := hs t (by simp [akTmps, axT])
    cases e : ρ t with
    | any => trivial
    | box cs => exact ⟨cs, by rw [e1, e], rfl⟩
    | lref g b d o =>
     intro cs hc
     obtain ⟨c0, h0⟩ := boxAt_box hc
     have := hb t (by simp [akTmps, axT]) g b d o e (by rw [h0]; rfl)
     exact ⟨cs, by unfold boxAt at hc ⊢; rw [this]; exact hc, rfl⟩
    | g g b y => cases y with
     | ptr q => cases q with
      | none => trivial
      | some q => exact fun xs h => h
     | _ => trivial
  case slice n x lo hi =>
   cases x <;> cases lo <;> cases hi <;> first | trivial | rfl | exact fun _ _ _ _ _ _ h => h
  case slice3 n x lo hi mx =>
   cases x <;> first | trivial | rfl | exact fun _ _ _ _ _ _ h => h
  all_goals first | trivial | rfl
 have X : opX ρ' k = opX (R := R) ρ k := by funext K; exact opX_congr hs'
 have B : opB ρ' k = opB (R := R) ρ k := by funext n K; exact opB_congr hs'
 have F : opF ρ' gs k = opF (R := R) ρ gs k := by funext K; exact opF_congr hs'
 have X' : ∀ K', opX ρ k K' = some r → opX ρ' k K' = some r := fun K' h => by rw [X]; exact h
 have B' : ∀ n K', opB ρ k n K' = some r → opB ρ' k n K' = some r := fun n K' h => by rw [B]; exact h
 have F' : ∀ K', opF ρ gs k K' = some r → opF ρ' gs k K' = some r := fun K' h => by rw [F]; exact h
 cases gs with
 | nil =>
  cases k <;> unfold opK at h ⊢
  case boxL => exact X' _ h
  case allocL => exact X' _ h
  case boxH => exact B' _ _ h
  case allocH => exact B' _ _ h
  case buildSl => exact B' _ _ h
  case makeMap => exact B' _ _ h
  case makeSl => exact B' _ _ h
  case store => exact opM_congr hs hb h
  case clear => exact opM_congr hs hb h
  case mapUpdate => exact opM_congr hs hb h
  case append => exact opM_congr hs hb h
  case copy => exact opM_congr hs hb h
  case call => exact F' _ h
  case callV => exact F' _ h
  all_goals exact opA_congr hp hs' hh h
 | cons q gs =>
  cases k <;> unfold opK at h ⊢
  case boxL => cases h
  case allocL => cases h
  case boxH => cases h
  case allocH => cases h
  case buildSl => cases h
  case makeMap => cases h
  case makeSl => cases h
  case store => cases h
  case clear => cases h
  case mapUpdate => cases h
  case append => cases h
  case copy => cases h
  case call => exact F' _ h
  case callV => exact F' _ h
  all_goals exact opA_congr hp hs' hh h
def tstb (sv : SV) : Option Unit := if bcOf sv = true then none else some ()
theorem tstb_g {x : AV} : tstb (.g gs true x) = none := rfl
theorem tstb_l {d off : Nat} : tstb (.lref gs true d off) = none := rfl
theorem opA_bc' {k : AK} {u : Unit} (h : opA ρ ah gs true k tstb = some u) : False := by
 cases k <;> simp only [opA] at h
 case fieldAddr off x =>
  obtain ⟨p, h, hn⟩ := place_nat h
  cases p <;> simp [tstb_g, tstb_l] at h
 case indexArr len es x i =>
  split at h
  · obtain ⟨p, h, hn⟩ := place_nat h
    cases p <;> (have h := (chk_spec' h).2; simp [tstb_g, tstb_l] at h)
  · cases h
 case load s x =>
  obtain ⟨p, h, hn⟩ := place_nat h
  cases p with
  | heap q =>
   cases s <;> simp only at h
   · obtain ⟨v, h, hm⟩ := rdC_nat h; simp [tstb_g] at h
   · obtain ⟨v, h, hm⟩ := rdV_nat h; simp [tstb_g] at h
   · obtain ⟨v, h, hm⟩ := rdV_nat h; simp [tstb_g] at h
  | loc d off =>
   simp only at h
   split at h
   · cases h
   · cases s <;> simp only at h
     · obtain ⟨v, h, hm⟩ := rdC_nat h; simp [tstb_g] at h
     · have h := (chk_spec' h).2
       obtain ⟨v, h, hm⟩ := rdL_nat h; simp [tstb_g] at h
     · have h := (chk_spec' h).2; simp [tstb_g] at h
 case field off s x =>
  split at h
  · cases s <;> simp only at h
    · obtain ⟨v, h, hm⟩ := rdC_nat h; simp [tstb_g] at h
    · have h := (chk_spec' h).2
      obtain ⟨v, h, hm⟩ := rdL_nat h; simp [tstb_g] at h
    · have h := (chk_spec' h).2; simp [tstb_g] at h
  · cases h
 case bin tk op x y =>
  split at h
  · obtain ⟨v, h, hn⟩ := binOpA_nat h; simp [tstb_g] at h
  · cases h
 case lookup z s ok m k =>
  split at h
  · obtain ⟨f, h, hn⟩ := gb_nat h
    obtain ⟨v, h, hm⟩ := rdW_nat h
    cases ok <;> simp [tstb_g] at h
  · cases h
 all_goals
  repeat' split at h
 all_goals first
  | (cases h; done)
  | (simp [tstb_g, tstb_l] at h; done)
  | (obtain ⟨h, hc⟩ := chkC_nat h; simp [tstb_g] at h; done)
  | (obtain ⟨v, h, hn⟩ := gb_nat h; simp [tstb_g] at h; done)
  | (obtain ⟨h, hc⟩ := chk_nat h; simp [tstb_g] at h; done)
  | (obtain ⟨h, hc⟩ := chk_nat h; obtain ⟨v, h, hn⟩ := gb_nat h; simp [tstb_g] at h; done)
  | (obtain ⟨h, hc⟩ := chk_nat h; obtain ⟨v, h, hn⟩ := rdC_nat h; simp [tstb_g] at h; done)
theorem opA_bc {k : AK} {sv : SV} (h : opA ρ ah gs true k some = some sv) : bcOf sv = true := by
 obtain ⟨sv', e, hn⟩ := opA_nat h
 cases e
 have := hn tstb
 cases hb : bcOf sv with
 | true => rfl
 | false =>
  have e : tstb sv = some () := by simp [tstb, hb]
  rw [e] at this
  exact (opA_bc' this).elim
def addS (S : Nat → Prop) (i : Nat) : Nat → Prop := fun k => S k ∨ k = i
theorem Reg.dok (N : Reg P loc C ops L σ) (hS : Closed ops S) {pp k : Nat} {x : Item} (hp : pp ≤ L.length) (hk : k < pp) (hx : L[k]? = some x) (hnx : ¬ S x.i)
 {sv : SV} {h : Heap} {up : Up} (T : TStep C x.a (σ k) (σ (k + 1)) gs bc sv h up) (hsv : ∀ d, x.a.dst = some d → envF (σ pp).env d = sv) (hlw : ∀ d, x.a.dst = some d → LastW L pp d k) (hl : (σ 0).env.length ≤ a.tmps.size) :
 DOk x.a.dst sv (mask L S pp σ) a := by
 obtain ⟨D, hd⟩ := dstOk_spec (a := ⟨Array.replicate (σ k).env.length undef, []⟩) T.dst (by simp)
 cases e : x.a.dst with
 | none => rw [e] at D; exact D
 | some d =>
  rw [e] at D
  obtain ⟨d1, d2, d3, d4, d5⟩ := D
  have hm : Msk L S pp d := ⟨k, x, hk, hx, hnx, e⟩
  have hdl := hd d e
  rw [N.len k (by omega)] at hdl
  refine ⟨by omega, fun t p hp' => ?_, d3, fun hb t g b e' off ht => ?_, by rw [mask_yes hm]; rfl⟩
  · by_cases ht : Msk L S pp t
    · rw [mask_yes ht] at hp'; cases hp'
    · rw [mask_no ht] at hp'
      rintro rfl
      exact N.gd hS hp ht hp' hm
  · obtain ⟨h1, h2⟩ := mask_ne (by simp) ht
    rintro rfl
    exact N.bx hS hp h1 h2 (by rw [hsv _ e]; exact hb) hm
theorem Msk.add {pp t : Nat} {x : Item} (ht : x.a.dst ≠ some t) (hu : ∀ (j : Nat) y, j < pp → L[j]? = some y → y.i = x.i → y = x) : Msk L (addS S x.i) pp t ↔ Msk L S pp t := by
 constructor
 · rintro ⟨j, y, h1, h2, h3, h4⟩
   exact ⟨j, y, h1, h2, fun h => h3 (.inl h), h4⟩
 · rintro ⟨j, y, h1, h2, h3, h4⟩
   refine ⟨j, y, h1, h2, ?_, h4⟩
   rintro (h | h)
   · exact h3 h
   · have := hu j y h1 h2 h
     subst this
     exact ht h4
theorem Reg.uniq (N : Reg P loc C ops L σ) {j k : Nat} {x y : Item} (hx : L[k]? = some x) (hy : L[j]? = some y) (h : y.i = x.i) : y = x := by
 rcases Nat.lt_trichotomy j k with h1 | h1 | h1
 · exact absurd h (N.pair h1 hy hx).2.1
 · subst h1; rw [hx] at hy; cases hy; rfl
 · exact absurd h.symm (N.pair h1 hx hy).2.1
theorem At.pending {pp k : Nat} {x : Item} (A : At φ0 n w0 ops L σ S pp a w) (N : Reg P loc C ops L σ) (hk : k < pp) (hx : L[k]? = some x) (hnx : ¬ S x.i) {o : Oper} (ho : ops[x.i]? = some o)
 (hr : ∀ e ∈ o.after, Region.binds .any e = true → S e.on) {Q : Exit → Act → World → Prop} {next : Act → World → Prop} (hn : ∀ a' w', At φ0 n w0 ops L σ (addS S x.i) pp a' w' → next a' w') : wpOp P ops Q x.i next a w := by
 have hb : x.bar = false := by
  cases e : x.bar with
  | false => rfl
  | true => exact absurd (A.lo k x hk hx e) hnx
 obtain ⟨o', ho', hco⟩ := N.src k x hx
 rw [ho] at ho'; cases ho'
 obtain ⟨hgs, hop, hdst⟩ := cOper_inv hco
 obtain ⟨gs, bc, sv, h, up, T⟩ := N.step k x hx
 obtain ⟨s1, s2, s3, s4⟩ := N.self hx
 have hM := N.notM hx hb
 obtain ⟨hup, hq⟩ := T.quiet hM
 have hbars : ∀ j y, k < j → j < pp → L[j]? = some y → y.bar = true → S y.i := fun j y _ h2 hy hyb => A.lo j y h2 hy hyb
 obtain ⟨i1, i2, i3, i4⟩ := N.stay A.cl hx hnx hb T (pp - (k + 1)) (by have := A.le; omega) fun j y h1 h2 => hbars j y h1 (by omega)
 have epp : k + 1 + (pp - (k + 1)) = pp := by omega
 rw [epp] at i1 i2 i3 i4
 have hlw : ∀ d, x.a.dst = some d → LastW L pp d k := fun d hd => ⟨hk, ⟨x, hx, hd⟩, fun j h3 h4 ⟨z, hz, hzd⟩ => (N.apart A.cl h3 hx hz hnx (hbars j z h3 h4 hz)).2.1 d hd hzd⟩
 have vis : ∀ t ∈ aoRd x.a, ¬ Msk L S pp t := by
  rintro t ht ⟨j, y, hj, hy, hny, hd⟩
  rcases Nat.lt_trichotomy j k with h1 | h1 | h1
  · obtain ⟨_, _, h3, _⟩ := N.pair h1 hy hx
    rcases h3 with h3 | ⟨_, h3⟩
    · exact hny (ready_dep A.cl ho hr h3)
    · exact (clash_spec h3).1 t hd ht
  · subst h1
    rw [hx] at hy; cases hy
    rcases s1 with s1 | s1
    · rw [hb] at s1; cases s1
    · exact s1 t hd ht
  · exact (N.apart A.cl h1 hx hy hnx (hbars j y h1 hj hy)).1 t hd ht
 have rdk : ∀ t ∈ akTmps x.a.k, t ∈ aoRd x.a := fun t ht => List.mem_append_right _ ht
 have seq : ∀ t ∈ aoRd x.a, SEq (envF (σ k).env t) (mask L S pp σ t) := fun t ht => by rw [mask_no (vis t ht)]; exact i1 t ht
 obtain ⟨φ, β, E, M, U⟩ := A.inv
 have hgE : guardOf (mask L S pp σ) x.a.guard = some (gs, bc) := by
  rw [← guardOf_congr (ρ := envF (σ k).env) fun t b hg => seq t (by simp [aoRd, hg])]
  exact T.grd
 obtain ⟨g1, g2⟩ := guardOf_spec M.G hgE
 have hw := wanted_spec hgs M hgE
 have D := N.dok A.cl A.le hk hx hnx T i2 hlw A.len
 have cl' : Closed ops (addS S x.i) := A.cl.add ho hr
 have hsvk : ∀ d, x.a.dst = some d → ¬ Msk L (addS S x.i) pp d := fun d hd => N.unmask cl' (hlw d hd) hx (.inr rfl)
 have hmask : putR (mask L S pp σ) x.a.dst sv = mask L (addS S x.i) pp σ := by
  funext t
  by_cases hd : x.a.dst = some t
  · rw [mask_no (hsvk t hd), i2 t hd, hd]
    exact setR_same _ _ _
  · have hne : putR (mask L S pp σ) x.a.dst sv t = mask L S pp σ t := by
     cases e : x.a.dst with
     | none => rfl
     | some d => exact setR_other _ _ (fun h => hd (by rw [e, h]))
    rw [hne]
    have hu := Msk.add (S := S) (pp := pp) hd fun j y _ hy he => N.uniq hx hy he
    by_cases hm : Msk L S pp t
    · rw [mask_yes hm, mask_yes (hu.2 hm)]
    · rw [mask_no hm, mask_no (fun h => hm (hu.1 h))]
 have fin : ∀ (vc : Value) (w' : World) (φ' : Phi) (β' : Nat → Nat), Eff φ0 φ' n (σ pp).ah w0 w' → Sl w0.heap.size φ' β' (putR (mask L S pp σ) x.a.dst sv) (a.put o.dst vc) w' →
  (∀ j y, j < pp → L[j]? = some y → ¬ addS S x.i y.i → isB y.a.k = true → φ' (σ j).ah.length = .unborn) → next (a.put o.dst vc) w' := by
  intro vc w' φ' β' E' M' U'
  refine hn _ _ ⟨cl', A.le, fun j y h1 h2 h3 => .inl (A.lo j y h1 h2 h3), fun j y h1 h2 h3 => ?_, A.mono, A.nle, ⟨φ', β', E', ?_, U'⟩, by rw [put_size]; exact A.len⟩
  · rcases h3 with h3 | h3
    · exact A.hi j y h1 h2 h3
    · have := N.uniq hx h2 h3
      subst this
      have h4 := (List.getElem?_eq_some_iff.1 h2)
      rcases Nat.lt_trichotomy j k with h5 | h5 | h5
      · omega
      · omega
      · exact absurd rfl (N.pair h5 hx h2).2.1
  · rw [← hmask]; exact M'
 have unb : ∀ j y, j < pp → L[j]? = some y → ¬ addS S x.i y.i → isB y.a.k = true → φ (σ j).ah.length = .unborn := fun j y h1 h2 h3 h4 => U j y h1 h2 (fun h => h3 (.inl h)) h4
 unfold wpOp
 simp only [ho, hw]
 cases bc with
 | false =>
  have t := T.op (SV × Heap × Up) fun sv h u => some (sv, h, u)
  obtain ⟨sv', e, hi⟩ := opK_idle (g2 rfl) t
  simp only [Option.some.injEq, Prod.mk.injEq] at e
  obtain ⟨rfl, rfl, rfl⟩ := e
  simp only [Bool.false_eq_true, if_false]
  refine fin undef w φ β E ?_ unb
  rw [← hdst]
  exact M.idle hi (fun c => by have := g1.2 c; cases this) D
 | true =>
  simp only [if_true]
  have cj := g1.1 rfl
  left
  have Cx := M.ctx E.sim cj
  rcases hq with ⟨hX, hB, hh, hA⟩ | ⟨hX, hB, hgs0, hh, cs, hsv, hopx⟩ | ⟨hB, hX, hgs0, v, blk, hh, hsv, hopb⟩
  · have hbcs : bcOf sv = true ∨ x.a.guard = none := by
     left
     exact opA_bc hA
    have ho1 : HeapOk x.a.k (envF (σ k).env) (mask L S pp σ) (σ k).ah (σ pp).ah := by
     refine heapOk_trans (i4 hbcs) (fun t ht => i1 t (rdk t ht)) ?_
     have vis' : ∀ t ∈ akTmps x.a.k, ¬ Msk L S pp t := fun t ht => vis t (rdk t ht)
     cases ek : x.a.k
     case load sh ax =>
      cases ax with
      | c v => trivial
      | tmp t =>
       have hv := vis' t (by rw [ek]; simp [akTmps, axT])
       show LoadOk _ _ _ _ _ _
       unfold LoadOk
       cases e : envF (σ pp).env t with
       | any => trivial
       | box cs => exact ⟨cs, by rw [mask_no hv, e], rfl⟩
       | lref g b d o =>
        intro cs hc
        obtain ⟨c0, h0⟩ := boxAt_box hc
        have := N.bx A.cl A.le hv e (by rw [h0]; rfl)
        exact ⟨cs, by unfold boxAt at hc ⊢; rw [mask_no this]; exact hc, rfl⟩
       | g g b y => cases y with
        | ptr q => cases q with
         | none => trivial
         | some q => exact fun xs h => h
        | _ => trivial
     case slice n x lo hi =>
      cases x <;> cases lo <;> cases hi <;> first | trivial | rfl | exact fun _ _ _ _ _ _ h => h
     case slice3 n x lo hi mx =>
      cases x <;> first | trivial | rfl | exact fun _ _ _ _ _ _ h => h
     all_goals first | trivial | rfl
    have hA' := opA_congr s3 (fun t ht => seq t (rdk t ht)) ho1 hA
    obtain ⟨sv', h1, vc, hrun, hs⟩ := opA_sound Cx hop hA'
    cases h1
    refine Reach.wp (K := fun vc' w' => vc' = vc ∧ w' = w) (.inl ⟨vc, w, hrun, rfl, rfl⟩) ?_
    rintro vc' w' ⟨rfl, rfl⟩
    refine fin vc' w' φ β E ?_ unb
    rw [← hdst]
    exact M.val (.refl E.sim (Nat.le_refl _)) hs cj D
  · subst hgs0; subst hsv
    rw [← opX_congr (fun t ht => seq t (rdk t ht))] at hopx
    obtain ⟨cs', cells, ty, h1, h2, h3⟩ := opX_sound Cx hop hopx
    cases h1
    refine Reach.wp (K := fun vc' w' => vc' = .pointer (some ⟨w.heap.size, 0, none⟩) ∧ w' = w.alloc (.cells cells ty)) (.inl ⟨_, _, h2, rfl, rfl⟩) ?_
    rintro vc' w' ⟨rfl, rfl⟩
    cases e : x.a.dst with
    | none => rw [e] at D; simp [DOk, isBoxS] at D
    | some d =>
     rw [e] at D
     obtain ⟨d1, d2, d3, d4, d5⟩ := D
     refine fin _ _ φ (setN β d w.heap.size) (E.trans (.same (E.sim.alloc _) (.alloc _ _) E.len)) ?_ unb
     rw [← hdst, e]
     exact M.box E.sim E.fr.size d1 h3 d2 (d4 rfl)
  · subst hgs0; subst hsv
    rw [← opB_congr (fun t ht => seq t (rdk t ht))] at hopb
    obtain ⟨v', blk', obj, vc, st, h1, h2, h3, h4⟩ := opB_sound Cx hop hopb
    cases h1
    have hblk := i3 hB blk (by rw [T.env.2, hh])
    have hE := Eff.born E.sim h3 (U k x hk hx hnx hB) hblk (w' := w.alloc obj) rfl rfl rfl rfl (m := n) (Nat.le_trans A.nle (A.mono 0 k (by omega) (by omega)))
    refine Reach.wp (K := fun vc' w' => vc' = vc ∧ w' = w.alloc obj) (.inl ⟨vc, _, h2, rfl, rfl⟩) ?_
    rintro vc' w' ⟨rfl, rfl⟩
    refine fin vc' _ _ β (E.trans hE) ?_ fun j y h5 h6 h7 h8 => ?_
    · rw [← hdst]
      exact M.val hE (.inl ⟨v, rfl, h4 _ (setPhi_same _ _ _)⟩) cj D
    · have hne : (σ j).ah.length ≠ (σ k).ah.length := by
       have hstrict : ∀ i z, i < pp → L[i]? = some z → isB z.a.k = true → ¬ S z.i → (σ i).ah.length < (σ (i + 1)).ah.length := by
        intro i z hi hz hBz hnz
        have hbz : z.bar = false := by
         cases e : z.bar with
         | false => rfl
         | true => exact absurd (A.lo i z hi hz e) hnz
        obtain ⟨gs', bc', sv', h', up', T'⟩ := N.step i z hz
        obtain ⟨_, hq⟩ := T'.quiet (N.notM hz hbz)
        rcases hq with ⟨_, hB', _⟩ | ⟨_, hB', _⟩ | ⟨_, _, _, _, blk', hh', _⟩
        · rw [hBz] at hB'; cases hB'
        · rw [hBz] at hB'; cases hB'
        · rw [T'.env.2, hh']; simp
       rcases Nat.lt_trichotomy j k with h9 | h9 | h9
       · have := hstrict j y h5 h6 h8 (fun h => h7 (.inl h))
         have := A.mono (j + 1) k (by omega) (by omega)
         omega
       · subst h9
         rw [hx] at h6; cases h6
         exact absurd (.inr rfl) h7
       · have := hstrict k x hk hx hB hnx
         have := A.mono (k + 1) j (by omega) (by omega)
         omega
      rw [setPhi_other _ _ hne]
      exact unb j y h5 h6 h7 h8
theorem At.bar {pp : Nat} {x : Item} (hC : CSound P C) (A : At φ0 n w0 ops L σ S pp a w) (N : Reg P loc C ops L σ) (hx : L[pp]? = some x) {o : Oper} (ho : ops[x.i]? = some o)
 (hr : ∀ e ∈ o.after, Region.binds .any e = true → S e.on) {Q : Exit → Act → World → Prop} {next : Act → World → Prop} (hn : ∀ a' w', At φ0 n w0 ops L σ (addS S x.i) (pp + 1) a' w' → next a' w') : wpOp P ops Q x.i next a w := by
 have hlt : pp < L.length := (List.getElem?_eq_some_iff.1 hx).1
 have hnx := A.hi pp x (Nat.le_refl _) hx
 obtain ⟨o', ho', hco⟩ := N.src pp x hx
 rw [ho] at ho'; cases ho'
 obtain ⟨hgs, hop, hdst⟩ := cOper_inv hco
 obtain ⟨gs, bc, sv, h, up, T⟩ := N.step pp x hx
 obtain ⟨s1, s2, s3, s4⟩ := N.self hx
 obtain ⟨φ, β, E, M, U⟩ := A.inv
 have clsh : ∀ j y, j < pp → L[j]? = some y → ¬ S y.i → clash y.a x.a = false := by
  intro j y hj hy hny
  obtain ⟨_, _, h3, _⟩ := N.pair hj hy hx
  rcases h3 with h3 | ⟨_, h3⟩
  · exact absurd (ready_dep A.cl ho hr h3) hny
  · exact h3
 have vis : ∀ t ∈ aoRd x.a, ¬ Msk L S pp t := by
  rintro t ht ⟨j, y, hj, hy, hny, hd⟩
  exact (clash_spec (clsh j y hj hy hny)).1 t hd ht
 have visd : ∀ t, x.a.dst = some t → ¬ Msk L S pp t := by
  rintro t ht ⟨j, y, hj, hy, hny, hd⟩
  exact (clash_spec (clsh j y hj hy hny)).2.1 t hd ht
 have rdk : ∀ t ∈ akTmps x.a.k, t ∈ aoRd x.a := fun t ht => List.mem_append_right _ ht
 have hE : ∀ t ∈ aoRd x.a, mask L S pp σ t = envF (σ pp).env t := fun t ht => mask_no (vis t ht)
 have hgE : guardOf (mask L S pp σ) x.a.guard = some (gs, bc) := by
  rw [← guardOf_congr (ρ := envF (σ pp).env) fun t b hg => .inl (hE t (by simp [aoRd, hg])).symm]
  exact T.grd
 obtain ⟨g1, g2⟩ := guardOf_spec M.G hgE
 have hw := wanted_spec hgs M hgE
 have cl' : Closed ops (addS S x.i) := A.cl.add ho hr
 have D : DOk x.a.dst sv (mask L S pp σ) a := by
  obtain ⟨D, hd⟩ := dstOk_spec (a := ⟨Array.replicate (σ pp).env.length undef, []⟩) T.dst (by simp)
  cases e : x.a.dst with
  | none => rw [e] at D; exact D
  | some d =>
   rw [e] at D
   obtain ⟨d1, d2, d3, d4, d5⟩ := D
   have hdl := hd d e
   rw [N.len pp A.le] at hdl
   refine ⟨by have := A.len; omega, fun t p hp' => ?_, d3, fun hb t g b e' off ht => ?_, ?_⟩
   · by_cases ht : Msk L S pp t
     · rw [mask_yes ht] at hp'; cases hp'
     · rw [mask_no ht] at hp'; exact d2 t p hp'
   · obtain ⟨h1, h2⟩ := mask_ne (by simp) ht
     exact d4 hb t g b e' off h2
   · rw [mask_no (visd d e)]; exact d5
 have mskE : ∀ t, Msk L (addS S x.i) (pp + 1) t ↔ Msk L S pp t := by
  intro t
  constructor
  · rintro ⟨j, y, h1, h2, h3, h4⟩
    rcases Nat.lt_or_ge j pp with h5 | h5
    · exact ⟨j, y, h5, h2, fun h => h3 (.inl h), h4⟩
    · have : j = pp := by omega
      subst this
      rw [hx] at h2; cases h2
      exact absurd (.inr rfl) h3
  · rintro ⟨j, y, h1, h2, h3, h4⟩
    refine ⟨j, y, by omega, h2, ?_, h4⟩
    rintro (h | h)
    · exact h3 h
    · exact (N.pair h1 h2 hx).2.1 h
 have hmask : (∀ d cs, up = some (d, cs) → ¬ Msk L S pp d) → updR (putR (mask L S pp σ) x.a.dst sv) up = mask L (addS S x.i) (pp + 1) σ := by
  intro hu
  have hput : ∀ t, ¬ Msk L S pp t → putR (mask L S pp σ) x.a.dst sv t = putR (envF (σ pp).env) x.a.dst sv t := by
   intro t ht
   cases e : x.a.dst with
   | none => exact mask_no ht
   | some d =>
    simp only [putR, setR]
    split
    · rfl
    · exact mask_no ht
  funext t
  by_cases hm : Msk L S pp t
  · rw [mask_yes ((mskE t).2 hm)]
    have h1 : putR (mask L S pp σ) x.a.dst sv t = .any := by
     cases e : x.a.dst with
     | none => exact mask_yes hm
     | some d =>
      have hne : t ≠ d := by rintro rfl; exact visd t e hm
      simp only [putR]
      rw [setR_other _ _ hne]
      exact mask_yes hm
    cases up with
    | none => exact h1
    | some p =>
     obtain ⟨d, cs⟩ := p
     have hne : t ≠ d := by rintro rfl; exact hu t cs rfl hm
     simp only [updR]
     rw [setR_other _ _ hne]
     exact h1
  · rw [mask_no (fun h => hm ((mskE t).1 h)), T.env.1]
    cases up with
    | none => exact hput t hm
    | some p =>
     obtain ⟨d, cs⟩ := p
     simp only [updR, setR]
     split
     · rfl
     · exact hput t hm
 have hah := T.env.2
 have fin : ∀ (vc : Value) (w' : World) (φ' : Phi) (β' : Nat → Nat), (σ pp).ah.length ≤ h.length → Eff φ0 φ' n h w0 w' → Sl w0.heap.size φ' β' (mask L (addS S x.i) (pp + 1) σ) (a.put o.dst vc) w' →
  (∀ b, b < (σ pp).ah.length → φ b = .unborn → φ' b = .unborn) → next (a.put o.dst vc) w' := by
  intro vc w' φ' β' grow E' M' U'
  rw [← hah] at grow E'
  refine hn _ _ ⟨cl', hlt, fun j y h1 h2 h3 => ?_, fun j y h1 h2 h3 => ?_, fun i j hij hj => ?_, A.nle, ⟨φ', β', E', M', fun j y h1 h2 h3 h4 => ?_⟩, by rw [put_size]; exact A.len⟩
  · rcases Nat.lt_or_ge j pp with h5 | h5
    · exact .inl (A.lo j y h5 h2 h3)
    · have : j = pp := by omega
      subst this
      rw [hx] at h2; cases h2
      exact .inr rfl
  · rcases h3 with h3 | h3
    · exact A.hi j y (by omega) h2 h3
    · exact (N.pair (by omega) hx h2).2.1 h3.symm
  · rcases Nat.lt_or_ge j (pp + 1) with h1 | h1
    · exact A.mono i j hij (by omega)
    · have : j = pp + 1 := by omega
      subst this
      rcases Nat.lt_or_ge i (pp + 1) with h2 | h2
      · exact Nat.le_trans (A.mono i pp (by omega) (Nat.le_refl _)) grow
      · have : i = pp + 1 := by omega
        subst this; exact Nat.le_refl _
  · have hj : j < pp := by
     rcases Nat.lt_or_ge j pp with h5 | h5
     · exact h5
     · have : j = pp := by omega
       subst this
       rw [hx] at h2; cases h2
       exact absurd (.inr rfl) h3
    have hny : ¬ S y.i := fun h => h3 (.inl h)
    refine U' _ ?_ (U j y hj h2 hny h4)
    have hbz : y.bar = false := by
     cases e : y.bar with
     | false => rfl
     | true => exact absurd (A.lo j y hj h2 e) hny
    obtain ⟨gs', bc', sv', h', up', T'⟩ := N.step j y h2
    obtain ⟨_, hq⟩ := T'.quiet (N.notM h2 hbz)
    have hstrict : (σ j).ah.length < (σ (j + 1)).ah.length := by
     rcases hq with ⟨_, hB', _⟩ | ⟨_, hB', _⟩ | ⟨_, _, _, _, blk', hh', _⟩
     · rw [h4] at hB'; cases hB'
     · rw [h4] at hB'; cases hB'
     · rw [T'.env.2, hh']; simp
    exact Nat.lt_of_lt_of_le hstrict (A.mono (j + 1) pp (by omega) (Nat.le_refl _))
 unfold wpOp
 simp only [ho, hw]
 have t := T.op (SV × Heap × Up) fun sv h u => some (sv, h, u)
 cases bc with
 | false =>
  obtain ⟨sv', e, hi⟩ := opK_idle (g2 rfl) t
  simp only [Option.some.injEq, Prod.mk.injEq] at e
  obtain ⟨rfl, rfl, rfl⟩ := e
  simp only [Bool.false_eq_true, if_false]
  refine fin undef w φ β (Nat.le_refl _) E ?_ fun _ _ h => h
  rw [← hmask (fun d cs h => by cases h), ← hdst]
  exact M.idle hi (fun c => by have := g1.2 c; cases this) D
 | true =>
  simp only [if_true]
  left
  have cj := g1.1 rfl
  have tE := opK_congr s3 (fun t ht => hE t (rdk t ht)) (fun t ht g b d off hl hb => mask_no (N.bx A.cl A.le (vis t (rdk t ht)) hl hb)) t
  obtain ⟨sv', h', up', e, hreach⟩ := opK_reach hC (M.ctx E.sim cj) hop tE
  simp only [Option.some.injEq, Prod.mk.injEq] at e
  obtain ⟨rfl, rfl, rfl⟩ := e
  refine hreach.wp fun vc w' hc => ?_
  obtain ⟨φ', β', E', M', U'⟩ := M.step E hc (Nat.le_trans A.nle (A.mono 0 pp (Nat.zero_le _) (Nat.le_refl _))) cj D
  refine fin vc w' φ' β' ?_ E' ?_ U'
  · cases hc with
    | val φ'' _ hEff _ => exact hEff.len
    | box cs cells ty _ hh _ _ _ _ => rw [hh]; exact Nat.le_refl _
    | wr d cs x _ _ hh _ _ _ _ => rw [hh]; exact Nat.le_refl _
  · rw [← hmask, ← hdst]
    · exact M'
    · intro d cs hu
      cases hc with
      | val φ'' hup _ _ => rw [hup] at hu; cases hu
      | box cs cells ty hup _ _ _ _ _ => rw [hup] at hu; cases hu
      | wr d' cs' x _ hup _ _ _ _ hb =>
       rw [hup] at hu; cases hu
       obtain ⟨cs0, hb⟩ := hb
       exact (mask_ne (by simp) hb).1
def unl (n : Nat) (listed : Array Bool) : List Nat := (List.range n).filter fun j => !(listed.getD j false)
theorem getD_set {l : Array Bool} {i : Nat} (hi : i < l.size) (j : Nat) : (l.setIfInBounds i true).getD j false = if j = i then true else l.getD j false := by
 simp only [Array.getD_eq_getD_getElem?]
 by_cases h : j = i
 · subst h; simp [hi]
 · rw [Array.getElem?_setIfInBounds_ne (Ne.symm h), if_neg h]
theorem unl_set {n i : Nat} {l : Array Bool} (hs : l.size = n) (hi : i < n) (hl : l.getD i false = false) : (unl n (l.setIfInBounds i true)).length < (unl n l).length := by
 have e : unl n (l.setIfInBounds i true) = (unl n l).filter fun j => !(Nat.beq j i) := by
  unfold unl
  rw [List.filter_filter]
  congr 1
  funext j
  rw [getD_set (by omega)]
  by_cases h : j = i
  · subst h; simp
  · rw [if_neg h]
    have : Nat.beq j i = false := by
     cases e : Nat.beq j i with
     | false => rfl
     | true => exact absurd (Nat.eq_of_beq_eq_true e) h
    rw [this]; simp
 rw [e, List.length_filter_lt_length_iff_exists]
 exact ⟨i, by simp [unl, hi]; simpa using hl, by simp⟩
theorem ready_mem {ops : Array Oper} {l : Array Bool} (hs : l.size = ops.size) {i : Nat} : i ∈ Region.ready .any ops l ↔ i < ops.size ∧ l.getD i false = false ∧ ∃ o, ops[i]? = some o ∧ ∀ e ∈ o.after, Region.binds .any e = true → l.getD e.on false = true := by
 unfold Region.ready
 rw [List.mem_filter, List.mem_range]
 constructor
 · rintro ⟨h1, h2⟩
   have ho : ops[i]? = some ops[i] := Array.getElem?_eq_getElem h1
   rw [ho] at h2
   simp only [Bool.and_eq_true, Bool.not_eq_true', Option.map_some, Option.getD_some] at h2
   refine ⟨h1, ?_, ops[i], ho, fun e he hb => ?_⟩
   · have h3 := h2.1
     simp only [Array.getD_eq_getD_getElem?] at h3 ⊢
     rw [Array.getElem?_eq_getElem (by omega)] at h3 ⊢
     exact h3
   · have := Array.all_eq_true_iff_forall_mem.1 h2.2 e he
     rw [hb] at this
     simpa using this
 · rintro ⟨h1, h2, o, ho, h3⟩
   refine ⟨h1, ?_⟩
   rw [ho]
   simp only [Bool.and_eq_true, Bool.not_eq_true', Option.map_some, Option.getD_some]
   refine ⟨?_, Array.all_eq_true_iff_forall_mem.2 fun e he => ?_⟩
   · simp only [Array.getD_eq_getD_getElem?] at h2 ⊢
     rw [Array.getElem?_eq_getElem (by omega)] at h2 ⊢
     exact h2
   · cases hb : Region.binds .any e with
     | false => rfl
     | true => simpa using h3 e he hb
theorem Reg.any (N : Reg P loc C ops L σ) (hC : CSound P C) {Q : Exit → Act → World → Prop} (hQ : ∀ a w, At φ0 n w0 ops L σ (fun i => i < ops.size) L.length a w → Q .normal a w) :
 ∀ (fuel : Nat) (listed : Array Bool) (pp : Nat) (a : Act) (w : World), listed.size = ops.size → (unl ops.size listed).length ≤ fuel →
  At φ0 n w0 ops L σ (fun i => listed.getD i false = true) pp a w → wpAny P .any ops Q fuel listed a w := by
 have dn : ∀ (listed : Array Bool) (pp : Nat) (a : Act) (w : World), listed.size = ops.size → Region.ready .any ops listed = [] →
  At φ0 n w0 ops L σ (fun i => listed.getD i false = true) pp a w → Q .normal a w := by
  intro listed pp a w hs hr A
  have all : ∀ (k : Nat) (x : Item), L[k]? = some x → listed.getD x.i false = true := by
   intro k
   induction k using Nat.strongRecOn with
   | _ k ih =>
    intro x hx
    cases e : listed.getD x.i false with
    | true => rfl
    | false =>
     exfalso
     obtain ⟨o, ho, _⟩ := N.src k x hx
     have hm : x.i ∈ Region.ready .any ops listed := by
      refine (ready_mem hs).2 ⟨(Array.getElem?_eq_some_iff.1 ho).1, e, o, ho, fun ed he hb => ?_⟩
      obtain ⟨j, y, hj, hy, hyi⟩ := N.edge k x o hx ho ed he hb
      rw [← hyi]
      exact ih j hj y hy
     rw [hr] at hm
     cases hm
  obtain ⟨pp', A', ht⟩ := At.adv N _ pp (Nat.le_refl _) A
  have hpp : pp' = L.length := by
   rcases ht with h | ⟨x, hx, hb⟩
   · exact h
   · exact absurd (all pp' x hx) (A'.hi pp' x (Nat.le_refl _) hx)
  subst hpp
  have hS : (fun i => listed.getD i false = true) = fun i => i < ops.size := by
   funext i
   refine propext ⟨fun h => ?_, fun h => ?_⟩
   · rw [← hs]
     rcases Nat.lt_or_ge i listed.size with h1 | h1
     · exact h1
     · simp [Array.getD_eq_getD_getElem?, Array.getElem?_eq_none h1] at h
   · obtain ⟨k, x, hx, rfl⟩ := N.cov i h
     exact all k x hx
  rw [hS] at A'
  exact hQ a w A'
 intro fuel
 induction fuel with
 | zero =>
  intro listed pp a w hs hf A
  have hr : Region.ready .any ops listed = [] := by
   cases e : Region.ready .any ops listed with
   | nil => rfl
   | cons i l =>
    exfalso
    obtain ⟨h1, h2, _⟩ := (ready_mem hs).1 (by rw [e]; exact .head _ : i ∈ Region.ready .any ops listed)
    have : i ∈ unl ops.size listed := by simp [unl, h1]; simpa using h2
    have := List.length_pos_of_mem this
    omega
  exact ⟨hr, dn listed pp a w hs hr A⟩
 | succ fuel ih =>
  intro listed pp a w hs hf A
  refine ⟨fun hr => dn listed pp a w hs hr A, fun i hi => ?_⟩
  obtain ⟨h1, h2, o, ho, h3⟩ := (ready_mem hs).1 hi
  obtain ⟨pp', A', ht⟩ := At.adv N _ pp (Nat.le_refl _) A
  obtain ⟨k, x, hx, rfl⟩ := N.cov i h1
  have hnx : ¬ (listed.getD x.i false = true) := by rw [h2]; simp
  have hadd : addS (fun i => listed.getD i false = true) x.i = fun i => (listed.setIfInBounds x.i true).getD i false = true := by
   funext j
   rw [getD_set (by omega)]
   refine propext ⟨fun h => ?_, fun h => ?_⟩
   · rcases h with h | h
     · split
       · rfl
       · exact h
     · rw [if_pos h]
   · split at h
     · exact .inr (by assumption)
     · exact .inl h
  have go : ∀ pp'' a' w', At φ0 n w0 ops L σ (addS (fun i => listed.getD i false = true) x.i) pp'' a' w' → wpAny P .any ops Q fuel (listed.setIfInBounds x.i true) a' w' := by
   intro pp'' a' w' h
   rw [hadd] at h
   refine ih _ pp'' a' w' (by simpa using hs) ?_ h
   have := unl_set hs h1 h2
   omega
  rcases Nat.lt_trichotomy k pp' with h | h | h
  · exact A'.pending N h hx hnx ho h3 fun a' w' h => go pp' a' w' h
  · subst h
    exact A'.bar hC N hx ho h3 fun a' w' h => go _ a' w' h
  · exfalso
    rcases ht with ht | ⟨y, hy, hb⟩
    · have := (List.getElem?_eq_some_iff.1 hx).1
      omega
    · obtain ⟨_, _, h4, _⟩ := N.pair h hy hx
      rcases h4 with h4 | ⟨h4, _⟩
      · exact A'.hi pp' y (Nat.le_refl _) hy (ready_dep A'.cl ho h3 h4)
      · rw [hb] at h4; cases h4
theorem cOpers_spec {os : List Oper} : ∀ {l : List Oper} {as : List AOp}, cOpers P loc os l = some as → ∀ (i : Nat) x, as[i]? = some x → ∃ o, l[i]? = some o ∧ cOper P loc os o [] = some x := by
 intro l
 induction l with
 | nil => intro as h i x hx; simp only [cOpers, Option.some.injEq] at h; subst h; simp at hx
 | cons o l ih =>
  intro as h i x hx
  simp only [cOpers] at h
  split at h
  · rename_i y r h1 h2
    simp only [Option.some.injEq] at h
    subst h
    cases i with
    | zero => simp only [List.getElem?_cons_zero, Option.some.injEq] at hx; subst hx; exact ⟨o, rfl, h1⟩
    | succ i => exact ih h2 i x (by simpa using hx)
  · cases h
theorem resAll_spec {dep : Nat} : ∀ {l : List Item} {y : Item}, y ∈ l → Nat.testBit dep y.i = false → ∀ z ∈ reOf y.a, z ∈ resAll dep l := by
 intro l
 induction l with
 | nil => intro y hy; cases hy
 | cons p l ih =>
  intro y hy hd z hz
  simp only [resAll, List.mem_append]
  cases hy with
  | head => left; rw [hd]; exact hz
  | tail _ hy => right; exact ih hy hd z hz
theorem mkItems_spec {deps : List Nat} {as : List AOp} : ∀ {idx : List Nat} {ahead l : List Item}, mkItems deps as ahead idx = some l →
 ∀ (k : Nat) x, l[k]? = some x → (∃ y, as[x.i]? = some y ∧ x.a.dst = y.dst ∧ x.a.k = y.k ∧ x.a.guard = y.guard) ∧
  (x.bar = true → ∀ (p : Nat) y, p < ahead.length + k → (ahead ++ l)[p]? = some y → Nat.testBit (deps.getD x.i 0) y.i = false → ∀ z ∈ reOf y.a, z ∈ x.a.re) := by
 intro idx
 induction idx with
 | nil => intro ahead l h k x hx; simp only [mkItems, Option.some.injEq] at h; subst h; simp at hx
 | cons i idx ih =>
  intro ahead l h k x hx
  simp only [mkItems] at h
  split at h
  · cases h
  · rename_i y hy
    split at h
    · rename_i r hr
      simp only [Option.some.injEq] at h
      subst h
      cases k with
      | zero =>
       simp only [List.getElem?_cons_zero, Option.some.injEq] at hx
       subst hx
       refine ⟨⟨y, hy, rfl, rfl, rfl⟩, fun hb p z hp hz hd w hw => ?_⟩
       simp only at hb
       simp only [hb]
       rw [List.getElem?_append_left (by omega)] at hz
       exact resAll_spec (List.mem_of_getElem? hz) hd w hw
      | succ k =>
       obtain ⟨h1, h2⟩ := ih hr k x (by simpa using hx)
       refine ⟨h1, fun hb p z hp hz hd => h2 hb p z (by simp; omega) (by simpa using hz) hd⟩
    · cases h
theorem edgesOk_spec {os : List Oper} : ∀ {l ahead : List Item}, edgesOk os ahead l = true → ∀ (k : Nat) x o, l[k]? = some x → os[x.i]? = some o → ∀ e ∈ o.after.toList, Region.binds .any e = true →
 ∃ (j : Nat) (y : Item), j < ahead.length + k ∧ (ahead ++ l)[j]? = some y ∧ y.i = e.on := by
 intro l
 induction l with
 | nil => intro ahead h k x o hx; simp at hx
 | cons p l ih =>
  intro ahead h k x o hx ho e he hb
  simp only [edgesOk, Bool.and_eq_true] at h
  obtain ⟨h1, h2⟩ := h
  cases k with
  | zero =>
   simp only [List.getElem?_cons_zero, Option.some.injEq] at hx
   subst hx
   rw [ho] at h1
   simp only [edgeOk, List.all_eq_true] at h1
   have := h1 e he
   rw [hb] at this
   simp only [Bool.not_true, Bool.false_or, List.any_eq_true] at this
   obtain ⟨y, hy, hyi⟩ := this
   obtain ⟨j, hj⟩ := List.mem_iff_getElem?.1 hy
   have hjl := (List.getElem?_eq_some_iff.1 hj).1
   exact ⟨j, y, by omega, by rw [List.getElem?_append_left hjl]; exact hj, Nat.eq_of_beq_eq_true hyi⟩
  | succ k =>
   obtain ⟨j, y, h3, h4, h5⟩ := ih h2 k x o (by simpa using hx) ho e he hb
   exact ⟨j, y, by simp at h3; omega, by simpa using h4, h5⟩
theorem itemsA_get : ∀ (l : List Item) (k : Nat) x, l[k]? = some x → (itemsA l)[k]? = some x.a := by
 intro l
 induction l with
 | nil => intro k x h; simp at h
 | cons p l ih =>
  intro k x h
  cases k with
  | zero => simp only [List.getElem?_cons_zero, Option.some.injEq] at h; subst h; rfl
  | succ k => exact ih k x (by simpa using h)
theorem itemsA_len : ∀ (l : List Item), (itemsA l).length = l.length := by
 intro l
 induction l with
 | nil => rfl
 | cons p l ih => simp [itemsA, ih]
theorem guard_none {o : Oper} {re : List Re} {ao : AOp} (h : cOper P loc ops.toList o re = some ao) (ho : o.guard = none) : ao.guard = none := by
 obtain ⟨h1, _, _⟩ := cOper_inv h
 unfold gSlot at h1
 rw [ho] at h1
 simpa using h1.symm
theorem Reg.G0 (N : Reg P loc C ops L σ) (hg : anyGuard ops.toList = false) : ∀ k, k ≤ L.length → Abs.G0 (σ k).env := by
 intro k
 induction k with
 | zero => intro _; exact N.g0
 | succ k ih =>
  intro hk
  have hx : L[k]? = some L[k] := List.getElem?_eq_getElem (by omega)
  generalize L[k] = x at hx
  obtain ⟨gs, bc, sv, h, up, T⟩ := N.step k x hx
  obtain ⟨o, ho, hco⟩ := N.src k x hx
  have hn := guard_none hco (anyGuard_false hg o (List.mem_of_getElem? (by simpa using ho)))
  have hgrd := T.grd
  rw [hn] at hgrd
  simp only [guardOf, Option.some.injEq, Prod.mk.injEq] at hgrd
  obtain ⟨rfl, rfl⟩ := hgrd
  have hs : gsOf sv = [] := by rcases T.gsOk with h | h <;> exact h
  rw [T.eq]
  exact ((ih (by omega)).put hs).upd
theorem Eff.turn (E : Eff φ0 φ n ah w0 w) (h1 : w'.heap = w.heap) (h2 : w'.os = w.os) (h3 : w'.tape = w.tape) (h4 : w'.output = w.output) : Eff φ φ n ah w w' :=
 .same (E.sim.of_heap h1) ⟨h2, h3, h4, by rw [h1]; exact Nat.le_refl _, fun k _ _ => by rw [h1]⟩ E.len
theorem drawnOk (hm : P.follows .mixedOrders = true) (hC : CSound P C) : DrawnOk P C := by
 intro loc ops id sc l R r φ0 n w0 σ0 Q a w hc I h
 unfold cRegion at hc
 simp only at hc
 split at hc
 · rename_i L hL
   simp only [Option.some.injEq, Prod.mk.injEq] at hc
   obtain ⟨rfl, rfl⟩ := hc
   unfold cItems at hL
   split at hL
   · cases hL
   · rename_i as has
     simp only at hL
     split at hL
     · cases hL
     · rename_i L' hmk
       split at hL
       · rename_i hok
         simp only [Option.some.injEq] at hL
         subst hL
         simp only [Bool.and_eq_true] at hok
         obtain ⟨⟨k1, k2⟩, k3⟩ := hok
         obtain ⟨σ, h0, hK, hs⟩ := evalOps_trace _ σ0 h
         rw [itemsA_len] at hK
         have hsp := mkItems_spec hmk
         have N : Reg P loc C ops L' σ := by
          refine ⟨⟨fun k x hx => hs k _ (itemsA_get _ _ _ hx), items_facts k1⟩, fun k x hx => ?_, fun p q x y hpq hx hy hb hd z hz => ?_, fun i hi => ?_, fun k x o hx ho e he hb => ?_, by rw [h0]; exact I.G⟩
          · obtain ⟨⟨y, hy, e1, e2, e3⟩, _⟩ := hsp k x hx
            obtain ⟨o, ho, hco⟩ := cOpers_spec has _ _ hy
            refine ⟨o, by simpa using ho, ?_⟩
            unfold cOper at hco ⊢
            split at hco
            · rename_i g kk g1 g2
              simp only [Option.some.injEq] at hco
              subst hco
              simp only [Option.some.injEq]
              generalize x.a = xa at *
              cases xa
              simp only at e1 e2 e3
              subst e1; subst e2; subst e3
              rfl
            · cases hco
          · refine (hsp q y hy).2 hb p x (by simpa using hpq) (by simpa using hx) ?_ z hz
            unfold Dep at hd
            simpa using hd
          · simp only [List.all_eq_true, List.mem_range, List.any_eq_true] at k3
            obtain ⟨x, hx, he⟩ := k3 i (by simpa using hi)
            obtain ⟨k, hk⟩ := List.mem_iff_getElem?.1 hx
            exact ⟨k, x, hk, Nat.eq_of_beq_eq_true he⟩
          · obtain ⟨j, y, j1, j2, j3⟩ := edgesOk_spec k2 k x o hx (by simpa using ho) e (by simpa using he) hb
            exact ⟨j, y, by simpa using j1, by simpa using j2, j3⟩
         refine wp_region_any hm ?_
         obtain ⟨φ, β, E, M, hl⟩ := I.I
         have hEt := Eff.turn E (w' := { w with drawn := w.drawn + 1 }) rfl rfl rfl rfl
         refine N.any hC (φ0 := φ0) (w0 := w0) (n := n) ?_ ops.size (Array.replicate ops.size false) 0 a _ (by simp) ?_ ?_
         · intro a' w' A
           obtain ⟨φ', β', E', M', _⟩ := A.inv
           have hmask : mask L' (fun i => i < ops.size) L'.length σ = envF (σ L'.length).env := by
            funext t
            refine mask_no ?_
            rintro ⟨k, x, _, hx, hnx, _⟩
            obtain ⟨o, ho, _⟩ := N.src k x hx
            exact hnx (Array.getElem?_eq_some_iff.1 ho).1
           rw [hmask] at M'
           have I' : Inv' φ0 n w0 (σ L'.length) a' w' := ⟨φ', β', E', M', by rw [N.len _ (Nat.le_refl _)]; exact A.len⟩
           cases hg : anyGuard ops.toList with
           | true => rw [hg] at hK; exact ⟨_, hK, I'.scrub⟩
           | false => rw [hg] at hK; exact ⟨_, hK, I', N.G0 hg _ (Nat.le_refl _)⟩
         · exact Nat.le_trans (List.length_filter_le _ _) (by simp)
         · have none : ∀ i, ¬ ((Array.replicate ops.size false).getD i false = true) := by
            intro i
            simp only [Array.getD_eq_getD_getElem?, Array.getElem?_replicate]
            split <;> simp
           refine ⟨fun i hi => absurd hi (none i), Nat.zero_le _, fun k x hk => by omega, fun k x _ _ => none _, fun i j hi hj => ?_, ?_, ⟨φ, β, ?_, ?_, fun k x hk => by omega⟩, by rw [h0]; exact hl⟩
           · have : i = 0 := by omega
             have : j = 0 := by omega
             subst i; subst j; exact Nat.le_refl _
           · rw [h0]; exact E.len
           · rw [h0]; exact E.trans hEt
           · have hmask : mask L' (fun i => (Array.replicate ops.size false).getD i false = true) 0 σ = envF σ0.env := by
              funext t
              rw [mask_no (by rintro ⟨k, x, hk, _⟩; omega), h0]
             rw [hmask]
             exact M.eff hEt
       · cases hL
 · cases hc
theorem evalF_ok {T : Prims} (hm : P.follows .mixedOrders = true) (hT : PrimsOk P T) (k : Nat) : CSound P (evalF P T k) :=
 evalF_sound hT (fun C hC => drawnOk hm hC) k
end
end Go.Proofs.Ytnmdadadjneaiaa.Abs
