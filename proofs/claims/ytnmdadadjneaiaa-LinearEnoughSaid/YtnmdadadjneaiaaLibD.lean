/- The evaluator without a bound on rounds and depth: its limit, and the equations that it obeys. -/
import Derived.Test.YtnmdadadjneaiaaLibC
import Derived.Below
import GoSem.ClaimChange
import Derived.Carry
import Derived.ChangeOld
set_option linter.unusedVariables false
set_option linter.unusedSimpArgs false
namespace Go.Proofs.Ytnmdadadjneaiaa.Abs
open Go
abbrev Cal := FuncId → List AV → Heap → Res
abbrev Kont (R : Type) := AE → St → Option R
section
variable {R S : Type} {r : R}
def Tk0 : Type := Unit
def Tk1 : Type := Tk0
def Tk2 : Type := Tk1
def Tk3 : Type := Tk2
def Tk4 : Type := Tk3
def Tk5 : Type := Tk4
def tk : Tk5 := ()
def forceK (_ : Tk5) (l : List SV) (K : List SV → Option R) : Option R := match l with
 | [] => K []
 | x :: l => forceK tk l fun l' => K (x :: l')
theorem forceK_eq : ∀ (l : List SV) (K : List SV → Option R), forceK tk l K = K l := by
 intro l
 induction l with
 | nil => intro K; rfl
 | cons x l ih => intro K; simp only [forceK]; rw [ih]
def setK (_ : Tk5) : List SV → Nat → SV → (List SV → Option R) → Option R
 | [], _, _, K => K []
 | _ :: l, 0, x, K => K (x :: l)
 | y :: l, d + 1, x, K => setK tk l d x fun l' => K (y :: l')
theorem setK_eq : ∀ (l : List SV) (d : Nat) (x : SV) (K : List SV → Option R), setK tk l d x K = K (l.set d x) := by
 intro l
 induction l with
 | nil => intro d x K; rfl
 | cons y l ih =>
  intro d x K
  cases d with
  | zero => rfl
  | succ d => simp only [setK]; rw [ih]; rfl
def putK (env : List SV) (d : Option Nat) (x : SV) (K : List SV → Option R) : Option R := match d with | none => K env | some d => setK tk env d x K
def updK (env : List SV) (u : Up) (K : List SV → Option R) : Option R := match u with | none => K env | some (d, cs) => setK tk env d (.box cs) K
theorem putK_eq (env : List SV) (d : Option Nat) (x : SV) (K : List SV → Option R) : putK env d x K = K (put env d x) := by
 cases d with
 | none => rfl
 | some d => exact setK_eq _ _ _ _
theorem updK_eq (env : List SV) (u : Up) (K : List SV → Option R) : updK env u K = K (upd env u) := by
 cases u with
 | none => rfl
 | some p => exact setK_eq _ _ _ _
def restrK (_ : Tk5) (m : Nat) : Nat → List SV → (List SV → Option R) → Option R
 | _, [], K => K []
 | i, x :: l, K => match Nat.testBit m i with
  | true => restrK tk m (i + 1) l fun l' => K (x :: l')
  | false => restrK tk m (i + 1) l fun l' => K (.any :: l')
theorem restrK_eq (m : Nat) : ∀ (l : List SV) (i : Nat) (K : List SV → Option R), restrK tk m i l K = K (restrE m i l) := by
 intro l
 induction l with
 | nil => intro i K; rfl
 | cons x l ih =>
  intro i K
  simp only [restrK, restrE]
  cases Nat.testBit m i <;> simp only [ih]
def restrF (m : Nat) (σ : St) (K : St → Option R) : Option R := restrK tk m 0 σ.env fun e => K ⟨e, σ.ah⟩
theorem restrF_eq (m : Nat) (σ : St) (K : St → Option R) : restrF m σ K = K (restr m σ) := restrK_eq _ _ _ _
def scrubK (_ : Tk5) : List SV → (List SV → Option R) → Option R
 | [], K => K []
 | .g (_ :: _) _ _ :: l, K => scrubK tk l fun l' => K (.any :: l')
 | .lref (_ :: _) _ _ _ :: l, K => scrubK tk l fun l' => K (.any :: l')
 | x :: l, K => scrubK tk l fun l' => K (x :: l')
theorem scrubK_eq : ∀ (l : List SV) (K : List SV → Option R), scrubK tk l K = K (scrubE l) := by
 intro l
 induction l with
 | nil => intro K; rfl
 | cons x l ih =>
  intro K
  cases x with
  | any => simp only [scrubK, scrubE, ih]
  | box cs => simp only [scrubK, scrubE, ih]
  | g gs bc v => cases gs <;> simp only [scrubK, scrubE, ih]
  | lref gs bc d off => cases gs <;> simp only [scrubK, scrubE, ih]
def scrubF (sc : Bool) (σ : St) (K : St → Option R) : Option R := match sc with | true => scrubK tk σ.env fun e => K ⟨e, σ.ah⟩ | false => K σ
theorem scrubF_eq (sc : Bool) (σ : St) (K : St → Option R) : scrubF sc σ K = K (scrub sc σ) := by
 cases sc with
 | true => exact scrubK_eq _ _
 | false => rfl
noncomputable def stepF (C : Cal) (o : AOp) (σ : St) (K : St → Option R) : Option R :=
 match guardOf (fun t => σ.env.getD t .any) o.guard with
 | none => none
 | some (gs, bc) => opK C (fun t => σ.env.getD t .any) σ.ah gs bc o.k fun sv h up =>
  match dstOk o.dst sv σ.env with
  | true => reChk (fun t => σ.env.getD t .any) σ.ah h up o.re (putK σ.env o.dst sv fun e => updK e up fun e => K ⟨e, h⟩)
  | false => none
theorem stepF_eq (C : Cal) (o : AOp) (σ : St) (K : St → Option R) : stepF C o σ K = stepOp C o σ K := by
 unfold stepF stepOp
 simp only [putK_eq, updK_eq]
 rfl
noncomputable def opsF (C : Cal) : List AOp → St → (St → Option R) → Option R
 | [], σ, K => K σ
 | o :: l, σ, K => stepF C o σ fun σ' => opsF C l σ' K
theorem opsF_eq (C : Cal) : ∀ (l : List AOp) (σ : St) (K : St → Option R), opsF C l σ K = evalOps C l σ K := by
 intro l
 induction l with
 | nil => intro σ K; rfl
 | cons o l ih => intro σ K; simp only [opsF, evalOps, stepF_eq, ih]
def seqQ (E : St → Kont R → Option R) (Q : Kont R) : Kont R := fun x σ => match x with
 | .normal => forceK tk σ.env fun e => E ⟨e, σ.ah⟩ Q
 | .exit id => Q (.exit id) σ
 | .ret => Q .ret σ
theorem seqQ_normal (E : St → Kont R → Option R) (Q : Kont R) (σ : St) : seqQ E Q .normal σ = E σ Q := forceK_eq _ _
abbrev Mk := ∀ (R : Type), Kont R → List SV → Heap → Option R
def mk0 : Mk := fun _ Q l h => Q .normal ⟨l, h⟩
def blockQ (id : Nat) (Q : Kont R) : Kont R := fun x σ => match x with
 | .normal => Q .normal σ
 | .exit j => (match Nat.beq j id with | true => Q .normal σ | false => Q (.exit j) σ)
 | .ret => Q .ret σ
def loopQ (L : St → Kont R → Option R) (kout : Nat) (Q : Kont R) : Kont R := fun x σ => match x with
 | .normal => L σ Q
 | .exit id => restrF kout σ fun σ => Q (.exit id) σ
 | .ret => Q .ret σ
open Classical in
noncomputable def limO (F : Nat → Option R) : Option R := if h : ∃ r n, F n = some r then some h.choose else none
noncomputable def loopE (B : St → Kont R → Option R) (kin kout : Nat) (σ : St) (Q : Kont R) : Option R := limO fun n => loopN B kin kout n σ Q
noncomputable def evalE (M : Mk) (C : Cal) : AC → St → Kont R → Option R
 | .skip, σ, Q => Q .normal σ
 | .ops sc l, σ, Q => opsF C l σ fun σ' => scrubF sc σ' fun σ' => Q .normal σ'
 | .seq a b, σ, Q => evalE M C a σ (seqQ (evalE M C b) Q)
 | .cond t a b, σ, Q => match getV [] (fun t => σ.env.getD t .any) t with
  | some (.bool c) => if c = true then evalE M C a σ Q else evalE M C b σ Q
  | _ => none
 | .block id c, σ, Q => evalE M C c σ (blockQ id Q)
 | .loop kin kout c, σ, Q => restrF kin σ fun σ => loopE (evalE M C c) kin kout σ Q
 | .exit id, σ, Q => Q (.exit id) σ
 | .ret, σ, Q => Q .ret σ
 | .mask m, σ, Q => restrF m σ fun σ => Q .normal σ
 | .join m, σ, Q => restrF m σ fun σ => M R Q σ.env σ.ah
 | .bad, _, _ => none
noncomputable def endQ (rs : List RV) : Kont (AV × Heap) := fun x σ => match x with
 | .normal => retV rs σ
 | .ret => retV rs σ
 | .exit _ => none
noncomputable def runE (M : Mk) (C : Cal) (fn : AFn) (args : List AV) (ah : Heap) : Res := forceK tk (initEnv args fn.nt) fun e => evalE M C fn.body ⟨e, ah⟩ (endQ fn.res)
theorem evalE_ops (C : Cal) (sc : Bool) (l : List AOp) (σ : St) (Q : Kont R) : evalE mk0 C (.ops sc l) σ Q = evalOps C l σ fun σ' => Q .normal (scrub sc σ') := by
 simp only [evalE, opsF_eq, scrubF_eq]
theorem evalE_loop (C : Cal) (kin kout : Nat) (c : AC) (σ : St) (Q : Kont R) : evalE mk0 C (.loop kin kout c) σ Q = loopE (evalE mk0 C c) kin kout (restr kin σ) Q := restrF_eq _ _ _
theorem evalE_mask (C : Cal) (m : Nat) (σ : St) (Q : Kont R) : evalE mk0 C (.mask m) σ Q = Q .normal (restr m σ) := restrF_eq _ _ _
theorem evalE_join (C : Cal) (m : Nat) (σ : St) (Q : Kont R) : evalE mk0 C (.join m) σ Q = Q .normal (restr m σ) := restrF_eq _ _ _
theorem loopQ_exit (L : St → Kont R → Option R) (kout id : Nat) (Q : Kont R) (σ : St) : loopQ L kout Q (.exit id) σ = Q (.exit id) (restr kout σ) := restrF_eq _ _ _
theorem loopN_succ {B : St → Kont R → Option R} {kin kout n : Nat} {σ : St} {Q : Kont R} : loopN B kin kout (n + 1) σ Q = B (restr kin σ) (loopQ (loopN B kin kout n) kout Q) := by
 have e : (fun x σ' => match x with
  | .normal => loopN B kin kout n σ' Q
  | .exit id => Q (.exit id) (restr kout σ')
  | .ret => Q .ret σ') = loopQ (loopN B kin kout n) kout Q := by
  funext x σ'
  cases x with
  | normal => rfl
  | exit id => exact (loopQ_exit _ _ _ _ _).symm
  | ret => rfl
 rw [← e]
 rfl
def NatB (B : ∀ (R : Type), St → Kont R → Option R) : Prop :=
 ∀ {R : Type} (σ : St) (Q : Kont R) (r : R), B R σ Q = some r → ∃ x σ', Q x σ' = some r ∧ ∀ {S : Type} (Q' : Kont S), B S σ Q' = Q' x σ'
theorem loopN_nat {B : ∀ (R : Type), St → Kont R → Option R} (hB : NatB B) {kin kout : Nat} : ∀ (n : Nat) {R : Type} (σ : St) (Q : Kont R) (r : R), loopN (B _) kin kout n σ Q = some r →
 ∃ x σ', Q x σ' = some r ∧ ∀ n', n ≤ n' → ∀ {S : Type} (Q' : Kont S), loopN (B _) kin kout n' σ Q' = Q' x σ' := by
 intro n
 induction n with
 | zero => intro R σ Q r h; simp [loopN] at h
 | succ n ih =>
  intro R σ Q r h
  rw [loopN_succ] at h
  obtain ⟨x, σ', h1, h2⟩ := hB _ _ _ h
  cases x with
  | normal =>
   obtain ⟨y, τ, h3, h4⟩ := ih _ _ _ h1
   refine ⟨y, τ, h3, fun n' hn S Q' => ?_⟩
   cases n' with
   | zero => omega
   | succ n' =>
    rw [loopN_succ, h2]
    exact h4 n' (by omega) Q'
  | exit id =>
   rw [loopQ_exit] at h1
   refine ⟨.exit id, restr kout σ', h1, fun n' hn S Q' => ?_⟩
   cases n' with
   | zero => omega
   | succ n' => rw [loopN_succ, h2, loopQ_exit]
  | ret =>
   refine ⟨.ret, σ', h1, fun n' hn S Q' => ?_⟩
   cases n' with
   | zero => omega
   | succ n' => rw [loopN_succ, h2]; rfl
theorem loopE_iff {B : ∀ (R : Type), St → Kont R → Option R} (hB : NatB B) {kin kout : Nat} {σ : St} {Q : Kont R} : loopE (B _) kin kout σ Q = some r ↔ ∃ n, loopN (B _) kin kout n σ Q = some r := by
 unfold loopE limO
 constructor
 · intro h
   split at h
   · rename_i hx
     simp only [Option.some.injEq] at h
     subst h
     exact hx.choose_spec
   · cases h
 · rintro ⟨n, hn⟩
   have hx : ∃ r n, loopN (B _) kin kout n σ Q = some r := ⟨r, n, hn⟩
   rw [dif_pos hx]
   obtain ⟨m, hm⟩ := hx.choose_spec
   obtain ⟨x, σ', h1, h2⟩ := loopN_nat hB n σ Q r hn
   obtain ⟨y, τ, h3, h4⟩ := loopN_nat hB m σ Q _ hm
   have e1 := h2 (max n m) (by omega) Q
   have e2 := h4 (max n m) (by omega) Q
   rw [h1] at e1
   rw [h3] at e2
   rw [e1] at e2
   exact e2.symm
theorem Option.same {x y : Option R} (h : ∀ r, x = some r ↔ y = some r) : x = y := by
 cases x with
 | some a => exact ((h a).1 rfl).symm
 | none => cases y with
  | none => rfl
  | some b => exact nomatch (h b).2 rfl
theorem loopE_nat {B : ∀ (R : Type), St → Kont R → Option R} (hB : NatB B) {kin kout : Nat} : NatB (fun R => loopE (B R) kin kout) := by
 intro R σ Q r h
 obtain ⟨n, hn⟩ := (loopE_iff hB).1 h
 obtain ⟨x, σ', h1, h2⟩ := loopN_nat hB n σ Q r hn
 refine ⟨x, σ', h1, fun {S} Q' => Option.same fun s => ?_⟩
 show loopE (B S) kin kout σ Q' = some s ↔ _
 rw [loopE_iff hB]
 constructor
 · rintro ⟨m, hm⟩
   obtain ⟨y, τ, h3, h4⟩ := loopN_nat hB m σ Q' s hm
   have e1 := h2 (max n m) (by omega) Q'
   have e2 := h4 (max n m) (by omega) Q'
   rw [h3] at e2
   rw [← e1, e2]
 · intro hs
   exact ⟨n, by rw [h2 n (Nat.le_refl _) Q', hs]⟩
theorem loopE_eq {B : ∀ (R : Type), St → Kont R → Option R} (hB : NatB B) {kin kout : Nat} {σ : St} {Q : Kont R} : loopE (B _) kin kout σ Q = B _ (restr kin σ) (loopQ (fun σ Q => loopE (B _) kin kout σ Q) kout Q) := by
 refine Option.same fun s => ?_
 rw [loopE_iff hB]
 constructor
 · rintro ⟨n, hn⟩
   cases n with
   | zero => simp [loopN] at hn
   | succ n =>
    rw [loopN_succ] at hn
    obtain ⟨x, σ', h1, h2⟩ := hB _ _ _ hn
    rw [h2]
    cases x with
    | normal => exact (loopE_iff hB).2 ⟨n, h1⟩
    | exit id => rw [loopQ_exit] at h1 ⊢; exact h1
    | ret => exact h1
 · intro h
   obtain ⟨x, σ', h1, h2⟩ := hB _ _ _ h
   cases x with
   | normal =>
    obtain ⟨n, hn⟩ := (loopE_iff hB).1 h1
    exact ⟨n + 1, by rw [loopN_succ, h2]; exact hn⟩
   | exit id => exact ⟨1, by rw [loopN_succ, h2]; rw [loopQ_exit] at h1 ⊢; exact h1⟩
   | ret => exact ⟨1, by rw [loopN_succ, h2]; exact h1⟩
theorem restrE_idem (m : Nat) : ∀ (l : List SV) (i : Nat), restrE m i (restrE m i l) = restrE m i l := by
 intro l
 induction l with
 | nil => intro i; rfl
 | cons x l ih =>
  intro i
  simp only [restrE]
  rw [ih]
  cases Nat.testBit m i <;> rfl
theorem restr_idem (m : Nat) (σ : St) : restr m (restr m σ) = restr m σ := by
 unfold restr
 simp only [restrE_idem]
theorem loopE_restr {B : St → Kont R → Option R} {kin kout : Nat} {σ : St} {Q : Kont R} : loopE B kin kout (restr kin σ) Q = loopE B kin kout σ Q := by
 have e : ∀ n, loopN B kin kout n (restr kin σ) Q = loopN B kin kout n σ Q := by
  intro n
  cases n with
  | zero => rfl
  | succ n => rw [loopN_succ, loopN_succ, restr_idem]
 unfold loopE
 rw [show (fun n => loopN B kin kout n (restr kin σ) Q) = fun n => loopN B kin kout n σ Q from funext e]
theorem loopE_round {B : ∀ (R : Type), St → Kont R → Option R} (hB : NatB B) {kin kout : Nat} {σ : St} {Q : Kont R} : loopE (B R) kin kout (restr kin σ) Q = restrF kin σ fun σ => B R σ (loopQ (fun σ Q => restrF kin σ fun σ => loopE (B R) kin kout σ Q) kout Q) := by
 rw [loopE_eq hB, restr_idem, restrF_eq]
 congr 2
 funext σ Q
 rw [restrF_eq, loopE_restr]
def Agree (C C' : Cal) (f : FuncId) (as : List AV) (ah : Heap) : Prop := ∀ r, C f as ah = some r → C' f as ah = some r
def CLe (C C' : Cal) : Prop := ∀ f as ah, Agree C C' f as ah
theorem reChk_nat {ρ : Nat → SV} {h h' : Heap} {up : Up} {K : Option R} : ∀ {l : List Re}, reChk ρ h h' up l K = some r → K = some r ∧ ∀ {S : Type} (K' : Option S), reChk ρ h h' up l K' = K' := by
 intro l
 induction l with
 | nil => intro h; exact ⟨h, fun K' => rfl⟩
 | cons x l ih =>
  intro hh
  refine ⟨reChk_some hh, fun {S} K' => ?_⟩
  have ck : ∀ {p : Prop} [Decidable p], chkC p (reChk ρ h h' up l K) = some r → chkC p (reChk ρ h h' up l K') = K' := by
   intro p _ hc
   obtain ⟨hp, hc⟩ := chkC_some hc
   rw [show chkC p (reChk ρ h h' up l K') = reChk ρ h h' up l K' from if_pos hp]
   exact (ih hc).2 K'
  cases x with
  | load n t g =>
   simp only [reChk] at hh ⊢
   cases e : ρ t with
   | any => rw [e] at hh; exact ck hh
   | box cs =>
    rw [e] at hh
    cases up with
    | none => exact (ih hh).2 K'
    | some p =>
     simp only at hh ⊢
     split at hh
     · rename_i hd; rw [if_pos hd]; exact ck hh
     · rename_i hd; rw [if_neg hd]; exact (ih hh).2 K'
   | lref gs b d off =>
    rw [e] at hh
    cases up with
    | none => exact (ih hh).2 K'
    | some p =>
     simp only at hh ⊢
     split at hh
     · rename_i hd; rw [if_pos hd]
       cases e2 : boxAt ρ d with
       | none => rw [e2] at hh; exact ck hh
       | some cs => rw [e2] at hh; exact ck hh
     · rename_i hd; rw [if_neg hd]; exact (ih hh).2 K'
   | g gs b y =>
    rw [e] at hh
    cases y with
    | ptr q => cases q with
     | none => exact ck hh
     | some q => exact ck hh
    | _ => exact ck hh
  | sl t g =>
   simp only [reChk] at hh ⊢
   split at hh
   · exact ck hh
   · exact (ih hh).2 K'
  | blk t =>
   simp only [reChk] at hh ⊢
   split at hh
   · exact ck hh
   · exact ck hh
   · exact ck hh
   · cases hh
def kcl : AK → Nat
 | .boxL _ | .allocL _ => 1
 | .boxH _ | .allocH _ | .buildSl _ _ _ | .makeMap | .makeSl _ _ _ _ => 2
 | .store _ _ _ | .clear _ _ | .mapUpdate _ _ _ | .append _ _ _ _ _ | .copy _ _ _ => 3
 | .call _ _ _ _ | .callV _ _ _ _ => 4
 | _ => 0
section
variable {C : Cal} {ρ : Nat → SV} {ah : Heap} {gs : List (Nat × Bool)} {bc : Bool} {k : AK} {K : SV → Heap → Up → Option R}
theorem opK_0 (k0 : kcl k = 0) : opK C ρ ah gs bc k K = opA ρ ah gs bc k fun sv => K sv ah none := by
 cases k <;> first | (simp [kcl] at k0; done) | (unfold opK; rfl)
theorem opK_1 (k0 : kcl k = 1) : opK C ρ ah gs bc k K = (match gs with | [] => opX ρ k fun cs => K (.box cs) ah none | _ => none) := by
 cases k <;> first | (simp [kcl] at k0; done) | (unfold opK; rfl)
theorem opK_2 (k0 : kcl k = 2) : opK C ρ ah gs bc k K = (match gs with | [] => opB ρ k ah.length fun a b => K (.v a) (ah ++ [b]) none | _ => none) := by
 cases k <;> first | (simp [kcl] at k0; done) | (unfold opK; rfl)
theorem opK_3 (k0 : kcl k = 3) : opK C ρ ah gs bc k K = (match gs with | [] => opM ρ ah k fun a h u => K (.v a) h u | _ => none) := by
 cases k <;> first | (simp [kcl] at k0; done) | (unfold opK; rfl)
theorem opK_4 (k0 : kcl k = 4) : opK C ρ ah gs bc k K = opF ρ gs k fun f as rs z => (match gs with
        | [] => (C f as ah).bind fun r => rdRes rs r.1 true fun a => K (.v a) r.2 none
        | _ => (if bc = true then C f as ah else some (z, ah)).bind fun r => rdRes rs r.1 bc fun a => K (.g gs bc a) r.2 none) := by
 cases k <;> first | (simp [kcl] at k0; done) | (unfold opK; rfl)
end
theorem opK_agree {C : Cal} {ρ : Nat → SV} {ah : Heap} {gs : List (Nat × Bool)} {bc : Bool} {k : AK} {K : SV → Heap → Up → Option R} (h : opK C ρ ah gs bc k K = some r) :
 ∃ sv h' up, K sv h' up = some r ∧ ∃ f as, ∀ C', Agree C C' f as ah → ∀ {S : Type} (K' : SV → Heap → Up → Option S), opK C' ρ ah gs bc k K' = K' sv h' up := by
 by_cases k0 : kcl k = 0
 · rw [opK_0 k0] at h
   obtain ⟨x, h1, hn⟩ := opA_nat h
   exact ⟨_, _, _, h1, 0, [], fun C' _ S K' => by rw [opK_0 k0]; exact hn _⟩
 by_cases k1 : kcl k = 1
 · rw [opK_1 k1] at h
   cases gs with
   | cons q gs => cases h
   | nil =>
    obtain ⟨x, h1, hn⟩ := opX_nat h
    exact ⟨_, _, _, h1, 0, [], fun C' _ S K' => by rw [opK_1 k1]; exact hn _⟩
 by_cases k2 : kcl k = 2
 · rw [opK_2 k2] at h
   cases gs with
   | cons q gs => cases h
   | nil =>
    obtain ⟨x, b, h1, hn⟩ := opB_nat h
    exact ⟨_, _, _, h1, 0, [], fun C' _ S K' => by rw [opK_2 k2]; exact hn _⟩
 by_cases k3 : kcl k = 3
 · rw [opK_3 k3] at h
   cases gs with
   | cons q gs => cases h
   | nil =>
    obtain ⟨x, b, u, h1, hn⟩ := opM_nat h
    exact ⟨_, _, _, h1, 0, [], fun C' _ S K' => by rw [opK_3 k3]; exact hn _⟩
 by_cases k4 : kcl k = 4
 · rw [opK_4 k4] at h
   obtain ⟨f, as, rs, z, h1, hn⟩ := opF_nat h
   cases gs with
   | nil =>
    rw [Option.bind_eq_some_iff] at h1
    obtain ⟨p, hp, h1⟩ := h1
    obtain ⟨x, h2, hm⟩ := rdRes_nat h1
    refine ⟨_, _, _, h2, f, as, fun C' hC S K' => ?_⟩
    rw [opK_4 k4, hn]
    simp only
    rw [hC p hp]
    exact hm _
   | cons q gs =>
    rw [Option.bind_eq_some_iff] at h1
    obtain ⟨p, hp, h1⟩ := h1
    obtain ⟨x, h2, hm⟩ := rdRes_nat h1
    refine ⟨_, _, _, h2, f, as, fun C' hC S K' => ?_⟩
    have hp' : (if bc = true then C' f as ah else some (z, ah)) = some p := by
     cases bc with
     | true => exact hC p hp
     | false => exact hp
    rw [opK_4 k4, hn]
    simp only
    rw [hp']
    exact hm _
 exfalso
 cases k <;> simp [kcl] at k0 k1 k2 k3 k4
theorem stepOp_agree {C : Cal} {o : AOp} {σ : St} {K : St → Option R} (h : stepOp C o σ K = some r) :
 ∃ σ', K σ' = some r ∧ ∃ f as, ∀ C', Agree C C' f as σ.ah → ∀ {S : Type} (K' : St → Option S), stepOp C' o σ K' = K' σ' := by
 unfold stepOp at h
 split at h
 · cases h
 · rename_i gs bc hg
   obtain ⟨sv, h', up, h1, f, as, hn⟩ := opK_agree h
   split at h1
   · rename_i hd
     obtain ⟨h2, h3⟩ := reChk_nat h1
     refine ⟨_, h2, f, as, fun C' hC S K' => ?_⟩
     unfold stepOp
     rw [hg]
     simp only
     rw [hn C' hC, hd]
     exact h3 _
   · cases h1
structure Lim (C : Cal) (Cs : Nat → Cal) : Prop where
 mono : ∀ k k', k ≤ k' → CLe (Cs k) (Cs k')
 sup : ∀ f as ah r, C f as ah = some r → ∃ k, Cs k f as ah = some r
theorem Lim.const (C : Cal) : Lim C (fun _ => C) := ⟨fun _ _ _ _ _ _ _ h => h, fun _ _ _ _ h => ⟨0, h⟩⟩
theorem Lim.agree {C : Cal} {Cs : Nat → Cal} (L : Lim C Cs) (f : FuncId) (as : List AV) (ah : Heap) : ∃ k, ∀ C', CLe (Cs k) C' → Agree C C' f as ah := by
 cases e : C f as ah with
 | none => exact ⟨0, fun C' _ r hr => by rw [e] at hr; cases hr⟩
 | some p =>
  obtain ⟨k, hk⟩ := L.sup _ _ _ _ e
  exact ⟨k, fun C' hC r hr => by rw [e] at hr; cases hr; exact hC f as ah _ hk⟩
theorem CLe.trans {C C' C'' : Cal} (h : CLe C C') (g : CLe C' C'') : CLe C C'' := fun f as ah r hr => g f as ah r (h f as ah r hr)
theorem evalOps_lim {C : Cal} {Cs : Nat → Cal} (L : Lim C Cs) : ∀ (l : List AOp) (σ : St) {R : Type} (K : St → Option R) (r : R), evalOps C l σ K = some r →
 ∃ σ', K σ' = some r ∧ ∃ k, ∀ C', CLe (Cs k) C' → ∀ {S : Type} (K' : St → Option S), evalOps C' l σ K' = K' σ' := by
 intro l
 induction l with
 | nil => intro σ R K r h; exact ⟨σ, h, 0, fun C' _ S K' => rfl⟩
 | cons o l ih =>
  intro σ R K r h
  simp only [evalOps] at h
  obtain ⟨σ1, h1, f, as, hn⟩ := stepOp_agree h
  obtain ⟨σ', h2, k2, hn2⟩ := ih σ1 K r h1
  obtain ⟨k1, hk1⟩ := L.agree f as σ.ah
  refine ⟨σ', h2, max k1 k2, fun C' hC S K' => ?_⟩
  simp only [evalOps]
  rw [hn C' (hk1 C' ((L.mono _ _ (by omega)).trans hC))]
  exact hn2 C' ((L.mono _ _ (by omega)).trans hC) K'
theorem evalCode_lim {C : Cal} {Cs : Nat → Cal} (L : Lim C Cs) {n : Nat} : ∀ (c : AC) (σ : St) {R : Type} (Q : Kont R) (r : R), evalCode C n c σ Q = some r →
 ∃ x σ', Q x σ' = some r ∧ ∃ k, ∀ n', n ≤ n' → ∀ C', CLe (Cs k) C' → ∀ {S : Type} (Q' : Kont S), evalCode C' n' c σ Q' = Q' x σ' := by
 intro c
 induction c with
 | skip => intro σ R Q r h; exact ⟨.normal, σ, h, 0, fun n' _ C' _ S Q' => rfl⟩
 | ops sc l =>
  intro σ R Q r h
  simp only [evalCode] at h
  obtain ⟨σ', h1, k, hn⟩ := evalOps_lim L l σ _ r h
  exact ⟨.normal, scrub sc σ', h1, k, fun n' _ C' hC S Q' => by simp only [evalCode]; exact hn C' hC _⟩
 | seq a b iha ihb =>
  intro σ R Q r h
  simp only [evalCode] at h
  obtain ⟨x, σ1, h1, k1, hn1⟩ := iha σ _ r h
  cases x with
  | normal =>
   obtain ⟨y, σ2, h2, k2, hn2⟩ := ihb σ1 Q r h1
   refine ⟨y, σ2, h2, max k1 k2, fun n' hn' C' hC S Q' => ?_⟩
   simp only [evalCode]
   rw [hn1 n' hn' C' ((L.mono _ _ (by omega)).trans hC)]
   exact hn2 n' hn' C' ((L.mono _ _ (by omega)).trans hC) Q'
  | exit id => exact ⟨.exit id, σ1, h1, k1, fun n' hn' C' hC S Q' => by simp only [evalCode]; rw [hn1 n' hn' C' hC]⟩
  | ret => exact ⟨.ret, σ1, h1, k1, fun n' hn' C' hC S Q' => by simp only [evalCode]; rw [hn1 n' hn' C' hC]⟩
 | cond t a b iha ihb =>
  intro σ R Q r h
  simp only [evalCode] at h
  split at h
  · rename_i c hc
    cases c with
    | true =>
     obtain ⟨x, σ1, h1, k1, hn1⟩ := iha σ Q r (by simpa using h)
     exact ⟨x, σ1, h1, k1, fun n' hn' C' hC S Q' => by simp only [evalCode, hc]; simpa using hn1 n' hn' C' hC Q'⟩
    | false =>
     obtain ⟨x, σ1, h1, k1, hn1⟩ := ihb σ Q r (by simpa using h)
     exact ⟨x, σ1, h1, k1, fun n' hn' C' hC S Q' => by simp only [evalCode, hc]; simpa using hn1 n' hn' C' hC Q'⟩
  · cases h
 | block id c ih =>
  intro σ R Q r h
  simp only [evalCode] at h
  obtain ⟨x, σ1, h1, k1, hn1⟩ := ih σ _ r h
  cases x with
  | normal => exact ⟨.normal, σ1, h1, k1, fun n' hn' C' hC S Q' => by simp only [evalCode]; rw [hn1 n' hn' C' hC]⟩
  | exit j =>
   simp only at h1
   cases e : Nat.beq j id with
   | true => rw [e] at h1; exact ⟨.normal, σ1, h1, k1, fun n' hn' C' hC S Q' => by simp only [evalCode]; rw [hn1 n' hn' C' hC]; simp only [e]⟩
   | false => rw [e] at h1; exact ⟨.exit j, σ1, h1, k1, fun n' hn' C' hC S Q' => by simp only [evalCode]; rw [hn1 n' hn' C' hC]; simp only [e]⟩
  | ret => exact ⟨.ret, σ1, h1, k1, fun n' hn' C' hC S Q' => by simp only [evalCode]; rw [hn1 n' hn' C' hC]⟩
 | loop kin kout c ih =>
  intro σ R Q r h
  have key : ∀ (j : Nat) (σ : St) {R : Type} (Q : Kont R) (r : R), loopN (evalCode C n c) kin kout j σ Q = some r →
   ∃ x σ', Q x σ' = some r ∧ ∃ k, ∀ n', n ≤ n' → ∀ C', CLe (Cs k) C' → ∀ j', j ≤ j' → ∀ {S : Type} (Q' : Kont S), loopN (evalCode C' n' c) kin kout j' σ Q' = Q' x σ' := by
   intro j
   induction j with
   | zero => intro σ R Q r h; simp [loopN] at h
   | succ j ihj =>
    intro σ R Q r h
    rw [loopN_succ] at h
    obtain ⟨x, σ1, h1, k1, hn1⟩ := ih _ _ r h
    cases x with
    | normal =>
     obtain ⟨y, σ2, h2, k2, hn2⟩ := ihj σ1 Q r h1
     refine ⟨y, σ2, h2, max k1 k2, fun n' hn' C' hC j' hj' S Q' => ?_⟩
     cases j' with
     | zero => omega
     | succ j' =>
      rw [loopN_succ, hn1 n' hn' C' ((L.mono _ _ (by omega)).trans hC)]
      exact hn2 n' hn' C' ((L.mono _ _ (by omega)).trans hC) j' (by omega) Q'
    | exit id =>
     rw [loopQ_exit] at h1
     refine ⟨.exit id, restr kout σ1, h1, k1, fun n' hn' C' hC j' hj' S Q' => ?_⟩
     cases j' with
     | zero => omega
     | succ j' => rw [loopN_succ, hn1 n' hn' C' hC, loopQ_exit]
    | ret =>
     refine ⟨.ret, σ1, h1, k1, fun n' hn' C' hC j' hj' S Q' => ?_⟩
     cases j' with
     | zero => omega
     | succ j' => rw [loopN_succ, hn1 n' hn' C' hC]; rfl
  simp only [evalCode] at h
  obtain ⟨x, σ', h1, k, hn⟩ := key n σ Q r h
  exact ⟨x, σ', h1, k, fun n' hn' C' hC S Q' => by simp only [evalCode]; exact hn n' hn' C' hC n' hn' Q'⟩
 | exit id => intro σ R Q r h; exact ⟨.exit id, σ, h, 0, fun n' _ C' _ S Q' => rfl⟩
 | ret => intro σ R Q r h; exact ⟨.ret, σ, h, 0, fun n' _ C' _ S Q' => rfl⟩
 | mask m => intro σ R Q r h; exact ⟨.normal, _, h, 0, fun n' _ C' _ S Q' => rfl⟩
 | join m => intro σ R Q r h; exact ⟨.normal, _, h, 0, fun n' _ C' _ S Q' => rfl⟩
 | bad => intro σ R Q r h; simp [evalCode] at h
theorem evalE_nat' {C : Cal} : ∀ (c : AC) {R : Type} (σ : St) (Q : Kont R) (r : R), evalE mk0 C c σ Q = some r → ∃ x σ', Q x σ' = some r ∧ ∀ {S : Type} (Q' : Kont S), evalE mk0 C c σ Q' = Q' x σ' := by
 intro c
 induction c with
 | skip => intro R σ Q r h; exact ⟨.normal, σ, h, fun Q' => rfl⟩
 | ops sc l =>
  intro R σ Q r h
  rw [evalE_ops] at h
  obtain ⟨σ', h1, k, hn⟩ := evalOps_lim (Lim.const C) l σ _ r h
  exact ⟨.normal, scrub sc σ', h1, fun {S} Q' => by rw [evalE_ops]; exact hn C (fun _ _ _ _ h => h) _⟩
 | seq a b iha ihb =>
  intro R σ Q r h
  obtain ⟨x, σ1, h1, hn1⟩ := iha σ _ r h
  cases x with
  | normal =>
   rw [seqQ_normal] at h1
   obtain ⟨y, σ2, h2, hn2⟩ := ihb σ1 Q r h1
   exact ⟨y, σ2, h2, fun {S} Q' => by show evalE mk0 C a σ _ = _; rw [hn1, seqQ_normal]; exact hn2 Q'⟩
  | exit id => exact ⟨.exit id, σ1, h1, fun {S} Q' => by show evalE mk0 C a σ _ = _; rw [hn1]; rfl⟩
  | ret => exact ⟨.ret, σ1, h1, fun {S} Q' => by show evalE mk0 C a σ _ = _; rw [hn1]; rfl⟩
 | cond t a b iha ihb =>
  intro R σ Q r h
  simp only [evalE] at h
  split at h
  · rename_i c hc
    cases c with
    | true =>
     obtain ⟨x, σ1, h1, hn1⟩ := iha σ Q r (by simpa using h)
     exact ⟨x, σ1, h1, fun {S} Q' => by simp only [evalE, hc]; simpa using hn1 Q'⟩
    | false =>
     obtain ⟨x, σ1, h1, hn1⟩ := ihb σ Q r (by simpa using h)
     exact ⟨x, σ1, h1, fun {S} Q' => by simp only [evalE, hc]; simpa using hn1 Q'⟩
  · cases h
 | block id c ih =>
  intro R σ Q r h
  obtain ⟨x, σ1, h1, hn1⟩ := ih σ _ r h
  cases x with
  | normal => exact ⟨.normal, σ1, h1, fun {S} Q' => by show evalE mk0 C c σ _ = _; rw [hn1]; rfl⟩
  | exit j =>
   simp only [blockQ] at h1
   cases e : Nat.beq j id with
   | true => rw [e] at h1; exact ⟨.normal, σ1, h1, fun {S} Q' => by show evalE mk0 C c σ _ = _; rw [hn1]; simp only [blockQ, e]⟩
   | false => rw [e] at h1; exact ⟨.exit j, σ1, h1, fun {S} Q' => by show evalE mk0 C c σ _ = _; rw [hn1]; simp only [blockQ, e]⟩
  | ret => exact ⟨.ret, σ1, h1, fun {S} Q' => by show evalE mk0 C c σ _ = _; rw [hn1]; rfl⟩
 | loop kin kout c ih =>
  intro R σ Q r h
  rw [evalE_loop] at h
  obtain ⟨x, σ', h1, h2⟩ := loopE_nat (B := fun R => evalE (R := R) mk0 C c) (kout := kout) ih (restr kin σ) Q r h
  exact ⟨x, σ', h1, fun {S} Q' => by rw [evalE_loop]; exact h2 Q'⟩
 | exit id => intro R σ Q r h; exact ⟨.exit id, σ, h, fun Q' => rfl⟩
 | ret => intro R σ Q r h; exact ⟨.ret, σ, h, fun Q' => rfl⟩
 | mask m => intro R σ Q r h; rw [evalE_mask] at h; exact ⟨.normal, _, h, fun Q' => evalE_mask _ _ _ _⟩
 | join m => intro R σ Q r h; rw [evalE_join] at h; exact ⟨.normal, _, h, fun Q' => evalE_join _ _ _ _⟩
 | bad => intro R σ Q r h; simp [evalE] at h
theorem evalE_nat {C : Cal} (c : AC) : NatB (fun R => evalE (R := R) mk0 C c) := evalE_nat' c
theorem evalE_iff {C : Cal} : ∀ (c : AC) (σ : St) {R : Type} (Q : Kont R) (r : R), evalE mk0 C c σ Q = some r ↔ ∃ n, evalCode C n c σ Q = some r := by
 have up : ∀ (c : AC) (σ : St) {R : Type} (Q : Kont R) (r : R) n, evalCode C n c σ Q = some r → ∃ x σ', Q x σ' = some r ∧ ∀ n', n ≤ n' → ∀ {S : Type} (Q' : Kont S), evalCode C n' c σ Q' = Q' x σ' := by
  intro c σ R Q r n h
  obtain ⟨x, σ', h1, k, hn⟩ := evalCode_lim (Lim.const C) c σ Q r h
  exact ⟨x, σ', h1, fun n' hn' S Q' => hn n' hn' C (fun _ _ _ _ h => h) Q'⟩
 intro c
 induction c with
 | skip => intro σ R Q r; exact ⟨fun h => ⟨0, h⟩, fun ⟨_, h⟩ => h⟩
 | ops sc l => intro σ R Q r; rw [evalE_ops]; exact ⟨fun h => ⟨0, h⟩, fun ⟨_, h⟩ => h⟩
 | exit id => intro σ R Q r; exact ⟨fun h => ⟨0, h⟩, fun ⟨_, h⟩ => h⟩
 | ret => intro σ R Q r; exact ⟨fun h => ⟨0, h⟩, fun ⟨_, h⟩ => h⟩
 | mask m => intro σ R Q r; rw [evalE_mask]; exact ⟨fun h => ⟨0, h⟩, fun ⟨_, h⟩ => h⟩
 | join m => intro σ R Q r; rw [evalE_join]; exact ⟨fun h => ⟨0, h⟩, fun ⟨_, h⟩ => h⟩
 | bad => intro σ R Q r; simp [evalE, evalCode]
 | cond t a b iha ihb =>
  intro σ R Q r
  simp only [evalE, evalCode]
  generalize getV [] (fun t => σ.env.getD t SV.any) t = v
  cases v with
  | none => simp
  | some v => cases v with
   | bool c => cases c with
    | true => simpa using iha σ Q r
    | false => simpa using ihb σ Q r
   | _ => simp
 | seq a b iha ihb =>
  intro σ R Q r
  constructor
  · intro h
    obtain ⟨n1, h1⟩ := (iha σ _ r).1 h
    obtain ⟨x, σ1, h2, hn⟩ := up a σ _ r n1 h1
    cases x with
    | normal =>
     rw [seqQ_normal] at h2
     obtain ⟨n2, h3⟩ := (ihb σ1 Q r).1 h2
     obtain ⟨y, σ2, h4, hn2⟩ := up b σ1 Q r n2 h3
     refine ⟨max n1 n2, ?_⟩
     simp only [evalCode]
     rw [hn (max n1 n2) (by omega)]
     simp only
     rw [hn2 (max n1 n2) (by omega)]
     exact h4
    | exit id => exact ⟨n1, by simp only [evalCode]; rw [hn n1 (Nat.le_refl _)]; exact h2⟩
    | ret => exact ⟨n1, by simp only [evalCode]; rw [hn n1 (Nat.le_refl _)]; exact h2⟩
  · rintro ⟨n, h⟩
    simp only [evalCode] at h
    obtain ⟨x, σ1, h2, hn⟩ := up a σ _ r n h
    refine (iha σ _ r).2 ⟨n, ?_⟩
    rw [hn n (Nat.le_refl _)]
    cases x with
    | normal => rw [seqQ_normal]; exact (ihb σ1 Q r).2 ⟨n, h2⟩
    | exit id => exact h2
    | ret => exact h2
 | block id c ih =>
  intro σ R Q r
  exact ih σ (blockQ id Q) r
 | loop kin kout c ih =>
  intro σ R Q r
  show _ ↔ ∃ n, loopN (evalCode C n c) kin kout n σ Q = some r
  rw [evalE_loop, loopE_restr, loopE_iff (B := fun R => evalE (R := R) mk0 C c) (evalE_nat c)]
  constructor
  · rintro ⟨j, h⟩
    have key : ∀ (j : Nat) (σ : St), loopN (evalE mk0 C c) kin kout j σ Q = some r → ∃ n, ∀ n', n ≤ n' → ∀ j', j ≤ j' → loopN (evalCode C n' c) kin kout j' σ Q = some r := by
     intro j
     induction j with
     | zero => intro σ h; simp [loopN] at h
     | succ j ihj =>
      intro σ h
      rw [loopN_succ] at h
      obtain ⟨n1, h1⟩ := (ih _ _ r).1 h
      obtain ⟨x, σ1, h2, hn⟩ := up c _ _ r n1 h1
      cases x with
      | normal =>
       obtain ⟨n2, h3⟩ := ihj σ1 h2
       refine ⟨max n1 n2, fun n' hn' j' hj' => ?_⟩
       cases j' with
       | zero => omega
       | succ j' =>
        rw [loopN_succ, hn n' (by omega)]
        exact h3 n' (by omega) j' (by omega)
      | exit id =>
       refine ⟨n1, fun n' hn' j' hj' => ?_⟩
       cases j' with
       | zero => omega
       | succ j' => rw [loopN_succ, hn n' (by omega)]; exact h2
      | ret =>
       refine ⟨n1, fun n' hn' j' hj' => ?_⟩
       cases j' with
       | zero => omega
       | succ j' => rw [loopN_succ, hn n' (by omega)]; exact h2
    obtain ⟨n, hn⟩ := key j σ h
    exact ⟨max n j, hn _ (by omega) _ (by omega)⟩
  · rintro ⟨n, h⟩
    have key : ∀ (j : Nat) (σ : St), loopN (evalCode C n c) kin kout j σ Q = some r → loopN (evalE mk0 C c) kin kout j σ Q = some r := by
     intro j
     induction j with
     | zero => intro σ h; simp [loopN] at h
     | succ j ihj =>
      intro σ h
      rw [loopN_succ] at h ⊢
      obtain ⟨x, σ1, h2, hn⟩ := up c _ _ r n h
      refine (ih _ _ r).2 ⟨n, ?_⟩
      rw [hn n (Nat.le_refl _)]
      cases x with
      | normal => exact ihj σ1 h2
      | exit id => exact h2
      | ret => exact h2
    exact ⟨n, key n σ h⟩
theorem evalE_lim {C : Cal} {Cs : Nat → Cal} (L : Lim C Cs) {c : AC} {σ : St} {Q : Kont R} (h : evalE mk0 C c σ Q = some r) :
 ∃ n k, ∀ n', n ≤ n' → ∀ k', k ≤ k' → evalCode (Cs k') n' c σ Q = some r := by
 obtain ⟨n, hn⟩ := (evalE_iff c σ Q r).1 h
 obtain ⟨x, σ', h1, k, hk⟩ := evalCode_lim L c σ Q r hn
 exact ⟨n, k, fun n' hn' k' hk' => by rw [hk n' hn' _ (L.mono _ _ hk')]; exact h1⟩
theorem runFn_mono {C C' : Cal} (h : CLe C C') {k k' : Nat} (hk : k ≤ k') {fn : AFn} {args : List AV} {ah : Heap} {r : AV × Heap} (hr : runFn C k fn args ah = some r) : runFn C' k' fn args ah = some r := by
 unfold runFn at hr ⊢
 obtain ⟨x, σ', h1, _, hn⟩ := evalCode_lim (Lim.const C) _ _ _ _ hr
 rw [hn k' hk C' h]
 exact h1
variable {P : Program} {T : Prims}
theorem evalF_mono : ∀ (k k' : Nat), k ≤ k' → CLe (evalF P T k) (evalF P T k') := by
 intro k
 induction k with
 | zero => intro k' _ f as ah r h; simp [evalF] at h
 | succ k ih =>
  intro k' hk f as ah r h
  cases k' with
  | zero => omega
  | succ k' =>
   simp only [evalF] at h ⊢
   split at h
   · exact h
   · split at h
     · cases h
     · exact runFn_mono (ih k' (by omega)) (by omega) h
open Classical in
noncomputable def EV (P : Program) (T : Prims) (f : FuncId) (args : List AV) (ah : Heap) : Res :=
 if h : ∃ r k, evalF P T k f args ah = some r then some h.choose else none
theorem EV_iff {f : FuncId} {args : List AV} {ah : Heap} {r : AV × Heap} : EV P T f args ah = some r ↔ ∃ k, evalF P T k f args ah = some r := by
 unfold EV
 constructor
 · intro h
   split at h
   · rename_i hx
     simp only [Option.some.injEq] at h
     subst h
     exact hx.choose_spec
   · cases h
 · rintro ⟨k, hk⟩
   have hx : ∃ r k, evalF P T k f args ah = some r := ⟨r, k, hk⟩
   rw [dif_pos hx]
   obtain ⟨m, hm⟩ := hx.choose_spec
   have e1 := evalF_mono k (max k m) (by omega) f args ah r hk
   have e2 := evalF_mono m (max k m) (by omega) f args ah _ hm
   rw [e1] at e2
   exact e2.symm
theorem EV_lim : Lim (EV P T) (evalF P T) := ⟨evalF_mono, fun _ _ _ _ h => EV_iff.1 h⟩
theorem evalF_le (k : Nat) : CLe (evalF P T k) (EV P T) := fun _ _ _ _ h => EV_iff.2 ⟨k, h⟩
theorem EV_eq {f : FuncId} {fn : AFn} (hT : T f = none) (hf : cFn P f = some fn) (args : List AV) (ah : Heap) : EV P T f args ah = runE mk0 (EV P T) fn args ah := by
 refine Option.same fun r => ?_
 rw [EV_iff]
 constructor
 · rintro ⟨k, h⟩
   cases k with
   | zero => simp [evalF] at h
   | succ k =>
    simp only [evalF, hT, hf] at h
    unfold runE
    rw [forceK_eq]
    exact (evalE_iff _ _ _ _).2 ⟨k, runFn_mono (evalF_le k) (Nat.le_refl _) h⟩
 · intro h
   unfold runE at h
   rw [forceK_eq] at h
   obtain ⟨n, k, hk⟩ := evalE_lim EV_lim h
   refine ⟨max n k + 1, ?_⟩
   simp only [evalF, hT, hf]
   unfold runFn
   have h1 := hk (max n k) (by omega) (max n k) (by omega)
   exact h1
theorem EV_sound (hm : P.follows .mixedOrders = true) (hT : PrimsOk P T) : CSound P (EV P T) := by
 intro f as ah v ah' h
 obtain ⟨k, hk⟩ := EV_iff.1 h
 exact evalF_ok hm hT k f as ah v ah' hk
end
end Go.Proofs.Ytnmdadadjneaiaa.Abs
/- The words in which functions are written out: readers of typed values, blocks, loops. -/
set_option linter.unusedVariables false
set_option linter.unusedSimpArgs false
namespace Go.Proofs.Ytnmdadadjneaiaa.Abs
open Go
section
variable {R : Type}
noncomputable def gI (k : IntKind) (m : Option AV) (bc : Bool) (K : Int → Option R) : Option R := gb bc (m.bind (rI k)) 0 K
noncomputable def gB (m : Option AV) (bc : Bool) (K : Bool → Option R) : Option R := gb bc (m.bind rB) false K
noncomputable def gS (m : Option AV) (bc : Bool) (K : ByteArray → Option R) : Option R := gb bc (m.bind rS) ByteArray.empty K
noncomputable def gP (m : Option AV) (bc : Bool) (K : Option Ad → Option R) : Option R := gb bc (m.bind rP) none K
noncomputable def gL (m : Option AV) (bc : Bool) (K : SA → Nat → Option R) : Option R := gb bc (m.bind rL) (.nil, 0) fun p => K p.1 p.2
noncomputable def gM (m : Option AV) (bc : Bool) (K : Option Nat → Option R) : Option R := gb bc (m.bind rM) none K
noncomputable def gF (m : Option AV) (bc : Bool) (K : AV → Option R) : Option R := gb bc m .nilFn K
noncomputable def gN (m : Option AV) (bc : Bool) (K : AV → Option R) : Option R := gb bc m .nilIface K
noncomputable def gA (v : AV) (bc : Bool) (K : List AV → Option R) : Option R := gb bc (rA v) [] K
noncomputable def gT (n : Nat) (v : AV) (bc : Bool) (K : List AV → Option R) : Option R := gb bc (rT n v) [] K
noncomputable def gCells (m : Option (List AV)) (bc : Bool) (K : List AV → Option R) : Option R := gb bc m [] K
noncomputable def reP (p : Option Ad) (q : Bool) (n : Nat) (h h' : Heap) (K : Option R) : Option R :=
 reChk (fun t => match t with | 0 => .g [] true (.ptr p) | _ => .g [] q .opq) h h' none [.load n 0 (some 1)] K
noncomputable def atP (p : Option Ad) (bc : Bool) (K : Ad → Option R) : Option R := gb bc p ⟨0, 0, 0⟩ K
def newK (h : Heap) (b : Blk) (K : Heap → Option R) : Option R := K (h ++ [b])
def letK {α : Type} (x : α) (K : α → Option R) : Option R := K x
noncomputable def posC (a : SA) (p : Ad → Prop) [DecidablePred p] (K : Option R) : Option R := match a with
 | .pos a => chkC (p a) K
 | _ => K
def callO (b : Bool) (m : Res) (z : AV) (h : Heap) : Res := if b = true then m else some (z, h)
def clrM (ah : Heap) (a : SA) (n : Nat) (z : List AV) : Option Heap := match n with
 | 0 => some ah
 | n => match a with
  | .pos p => stN ah p (repl n z)
  | _ => none
def fnK (v : AV) (K : FuncId → List AV → List AV → Option R) : Option R := match v with
 | .fn f a c => K f a c
 | _ => none
noncomputable def roundQ (M : Mk) (C : Cal) (c : AC) (kin kout : Nat) (Q : Kont R) : Kont R := loopQ (fun σ Q => restrF kin σ fun σ => loopE (evalE M C c) kin kout σ Q) kout Q
theorem loop_round (C : Cal) (c : AC) (kin kout : Nat) (σ : St) (Q : Kont R) : loopE (evalE mk0 C c) kin kout (restr kin σ) Q = restrF kin σ fun σ => evalE mk0 C c σ (roundQ mk0 C c kin kout Q) :=
 loopE_round (B := fun R => evalE (R := R) mk0 C c) (evalE_nat c)
theorem loop_eqn (C : Cal) (c : AC) (kin kout : Nat) (l : List SV) (h : Heap) (Q : Kont R) {t : Option R} (hr : restrE kin 0 l = l) (aux : (restrF kin ⟨l, h⟩ fun σ => evalE mk0 C c σ (roundQ mk0 C c kin kout Q)) = t) :
 loopE (evalE mk0 C c) kin kout ⟨l, h⟩ Q = t := by
 rw [← aux, ← loop_round]
 unfold restr
 simp only [hr]
@[reducible] def TEq {α : Type} {b c : α} (a : α) (_ : b = c) : Prop := a = c
theorem join_eqn (k : Kont R) (l : List SV) (h : Heap) {t : Option R} (aux : (forceK tk l fun e => k .normal ⟨e, h⟩) = t) : mk0 R k l h = t := by
 rw [forceK_eq] at aux
 exact aux
variable {bc : Bool} {k : IntKind}
theorem gb_some {α : Type} (x d : α) (K : α → Option R) : gb bc (some x) d K = K x := rfl
theorem gI_of (n : Int) (K : Int → Option R) : gI k (some (.int k n)) bc K = K n := by simp [gI, gb, rI]
theorem gB_of (n : Bool) (K : Bool → Option R) : gB (some (.bool n)) bc K = K n := rfl
theorem gS_of (n : ByteArray) (K : ByteArray → Option R) : gS (some (.str n)) bc K = K n := rfl
theorem gP_of (n : Option Ad) (K : Option Ad → Option R) : gP (some (.ptr n)) bc K = K n := rfl
theorem gL_of (a : SA) (n : Nat) (K : SA → Nat → Option R) : gL (some (.sl a n)) bc K = K a n := rfl
theorem gM_of (n : Option Nat) (K : Option Nat → Option R) : gM (some (.map n)) bc K = K n := rfl
theorem gF_of (n : AV) (K : AV → Option R) : gF (some n) bc K = K n := rfl
theorem gN_of (n : AV) (K : AV → Option R) : gN (some n) bc K = K n := rfl
theorem gA_of (l : List AV) (K : List AV → Option R) : gA (.agg l) bc K = K l := rfl
theorem gT_of (l : List AV) {n : Nat} (hn : l.length = n) (K : List AV → Option R) : gT n (.tup l) bc K = K l := by subst hn; simp [gT, gb, rT]
theorem gCells_of (l : List AV) (K : List AV → Option R) : gCells (some l) bc K = K l := rfl
theorem atP_of (a : Ad) (K : Ad → Option R) : atP (some a) bc K = K a := rfl
theorem chk_of {p : Prop} [Decidable p] (hp : p) (K : Option R) : chk p K = K := if_pos hp
theorem chkC_of {p : Prop} [Decidable p] (hp : p) (K : Option R) : chkC p K = K := if_pos hp
end
namespace Sh
def t (n : Nat) : AX := .tmp n
def c (n : Int) : AX := .c (.int .i64 n)
def I : VS := .cell (.int .i64)
def o (n : Nat) (k : AK) : AOp := ⟨some n, k, none, []⟩
def u (k : AK) : AOp := ⟨none, k, none, []⟩
def g (n b : Nat) (k : AK) : AOp := ⟨some n, k, some (b, true), []⟩
def f (n b : Nat) (k : AK) : AOp := ⟨some n, k, some (b, false), []⟩
def vi (x : Int) : SV := .g [] true (.int .i64 x)
def vl (s : SA) (n : Nat) : SV := .g [] true (.sl s n)
def vb (b : Bool) : SV := .g [] true (.bool b)
def vp (p : Option Ad) : SV := .g [] true (.ptr p)
end Sh
end Go.Proofs.Ytnmdadadjneaiaa.Abs
namespace Go.Proofs.Ytnmdadadjneaiaa.Abs
section
variable {R : Type}
noncomputable def rnd (M : Mk) (C : Cal) (c : AC) (kin kout : Nat) (σ : St) (Q : Kont R) : Option R := restrF kin σ fun σ => evalE M C c σ (roundQ M C c kin kout Q)
theorem loop_te {C : Cal} {c : AC} {kin kout : Nat} {l : List SV} {h : Heap} {Q : Kont R} {t : Option R} {aux : rnd mk0 C c kin kout ⟨l, h⟩ Q = t} (hr : restrE kin 0 l = l) : TEq (loopE (evalE mk0 C c) kin kout ⟨l, h⟩ Q) aux := loop_eqn _ _ _ _ _ h Q hr aux
theorem join_te {k : Kont R} {l : List SV} {h : Heap} {t : Option R} {aux : (forceK tk l fun e => k .normal ⟨e, h⟩) = t} : TEq (mk0 R k l h) aux := join_eqn _ _ h aux
end
namespace Sh
def mv (a b : Nat) := o a (.move (t b))
def fa (a n b : Nat) := o a (.fieldAddr n (t b))
def ia (a n b d : Nat) := o a (.indexAddr n (t b) (t d))
def ls (a b : Nat) := o a (.load (.cell .sl) (t b))
def li (a b : Nat) := o a (.load I (t b))
def lb (a b : Nat) := o a (.load (.cell .bool) (t b))
def ln (a b : Nat) := o a (.lenSl (t b))
def nc (a b : Nat) := o a (.nilCheck (t b))
def bc (a : Nat) (k : BinOp) (b : Nat) (d : Int) := o a (.bin .other k (t b) (c d))
def bt (a : Nat) (k : BinOp) (b d : Nat) := o a (.bin .other k (t b) (t d))
def of := AC.ops false
def ot := AC.ops true
def sq := AC.seq
end Sh
end Go.Proofs.Ytnmdadadjneaiaa.Abs
/- Lemmas for the use of the written-out functions: integers, blocks. -/
set_option linter.unusedVariables false
set_option linter.unusedSimpArgs false
namespace Go.Proofs.Ytnmdadadjneaiaa.Abs
open Go
theorem wrap64 {x : Int} (h1 : -9223372036854775808 ≤ x) (h2 : x ≤ 9223372036854775807) : IntKind.wrap .i64 x = x := by
 unfold IntKind.wrap
 simp only [IntKind.bits, IntKind.signed]
 simp
 split <;> omega
attribute [simp] gb_some gI_of gB_of gS_of gP_of gL_of gM_of gF_of gN_of gA_of gCells_of atP_of
section
variable {R : Type}
@[simp] theorem gT2_of {bc : Bool} (x y : AV) (K : List AV → Option R) : gT 2 (.tup [x, y]) bc K = K [x, y] := gT_of _ rfl _
@[simp] theorem gT3_of {bc : Bool} (x y z : AV) (K : List AV → Option R) : gT 3 (.tup [x, y, z]) bc K = K [x, y, z] := gT_of _ rfl _
@[simp] theorem gT0_of {bc : Bool} (K : List AV → Option R) : gT 0 (.tup []) bc K = K [] := gT_of _ rfl _
@[simp] theorem add_mk (b v o n : Nat) : Ad.add ⟨b, v, o⟩ n = ⟨b, v, o + n⟩ := rfl
@[simp] theorem mm_min (a b : Int) : foldMM false a [b] = min a b := by simp only [foldMM]; split <;> omega
@[simp] theorem mm_max (a b : Int) : foldMM true a [b] = max a b := by simp only [foldMM]; split <;> omega
@[simp] theorem letK_eq {α : Type} (x : α) (K : α → Option R) : letK x K = K x := rfl
@[simp] theorem newK_eq (h : Heap) (b : Blk) (K : Heap → Option R) : newK h b K = K (h ++ [b]) := rfl
@[simp] theorem callO_true (m : Res) (z : AV) (h : Heap) : callO true m z h = m := rfl
@[simp] theorem callO_false (m : Res) (z : AV) (h : Heap) : callO false m z h = some (z, h) := rfl
@[simp] theorem callO_bool (c x : Bool) (h : Heap) : callO c (some (.bool x, h)) (.bool false) h = some (.bool (c && x), h) := by cases c <;> rfl
@[simp] theorem adP_pos (a : Ad) : adP (.pos a) = some a := rfl
@[simp] theorem andB_true (b : Bool) : andB true b = b := rfl
@[simp] theorem andB_false (b : Bool) : andB false b = false := rfl
theorem ld1_at {h : Heap} {b v o : Nat} {c : List AV} {m : Mode} {x : AV} (hb : h[b]? = some (.cells c m v)) (hx : c[o]? = some x) (hf : flatA x = true) : ld1 h ⟨b, v, o⟩ = some x := by
 unfold ld1
 simp only [hb, hx, hf, if_true]
theorem st1_at {h : Heap} {b v o : Nat} {c : List AV} {m : Mode} {x : AV} (hb : h[b]? = some (.cells c m v)) (hm : m ≠ .ro) (ho : o < c.length) : st1 h ⟨b, v, o⟩ x = some (h.set b (.cells (c.set o x) m v)) := by
 unfold st1
 simp only [hb]
 rw [if_pos ⟨trivial, hm, ho⟩]
theorem set_same {h : Heap} {b : Nat} {x y : Blk} (hb : h[b]? = some y) : (h.set b x)[b]? = some x := by
 have := (List.getElem?_eq_some_iff.1 hb).1
 simp [this]
theorem set_other {h : Heap} {b b' : Nat} {x : Blk} (hne : b ≠ b') : (h.set b x)[b']? = h[b']? := by simp [List.getElem?_set, hne]
theorem app_old {h l : Heap} {b : Nat} {x : Blk} (hb : h[b]? = some x) : (h ++ l)[b]? = some x := by
 rw [List.getElem?_append_left (List.getElem?_eq_some_iff.1 hb).1]; exact hb
end
end Go.Proofs.Ytnmdadadjneaiaa.Abs
/- From what the evaluator answers to a call of the loaded program: nothing that was there has turned. -/
set_option linter.unusedVariables false
set_option linter.unusedSimpArgs false
namespace Go.Proofs.Ytnmdadadjneaiaa.Abs
open Go Go.RowKit
theorem primsNone (P : Program) : PrimsOk P (fun _ => none) := fun f p h => nomatch h
def RoPhi (φ : Phi) : Prop := ∀ b, (∀ r, φ b = .live r → r.mode = .ro) ∧ ∀ c, φ b ≠ .lmap c
theorem RoPhi.owns {φ : Phi} (h : RoPhi φ) (k : Nat) : ¬ Owns φ k := by
 rintro ⟨b, ⟨r, hr, hm, _⟩ | hb⟩
 · exact hm ((h b).1 r hr)
 · exact (h b).2 k hb
theorem calls_true {P : Program} {T : Prims} (hm : P.follows .mixedOrders = true) (hT : PrimsOk P T) {f : FuncId} {as : List AV} {ah ah' : Heap} (he : EV P T f as ah = some (.bool true, ah'))
 {φ : Phi} {W : World} {args : List Value} (hv : VRs φ as args) (S : Sim φ ah W) (hro : RoPhi φ) :
 Calls P f args.toArray W fun e W' => e = .returned (.bool true) ∧ Below W.heap.size W W' := by
 obtain ⟨_, h⟩ := EV_sound hm hT f as ah _ ah' he
 refine Calls.mono (h φ W args hv S) fun e W' hk => ?_
 obtain ⟨vc, rfl, φ', hvr, E⟩ := hk
 cases hvr
 exact ⟨rfl, E.fr.os, E.fr.tape, E.fr.output, E.fr.size, fun k hk => E.fr.block k hk (hro.owns k)⟩
def phi0 : Phi := fun _ => .unborn
theorem sim0 (W : World) : Sim phi0 [] W := ⟨fun b r h => (nomatch h), fun b c h => (nomatch h), fun b h => (nomatch h), fun b b' c h => (nomatch h)⟩
theorem ro0 : RoPhi phi0 := fun b => ⟨fun r h => (nomatch h), fun c h => (nomatch h)⟩
end Go.Proofs.Ytnmdadadjneaiaa.Abs
/- The memory of a call, whole, as blocks that only are read; what the reading of an argument says of its cells. -/
set_option linter.unusedVariables false
set_option linter.unusedSimpArgs false
namespace Go.Proofs.Ytnmdadadjneaiaa.Abs
open Go
def blkOk (W : World) (b : Nat) : Bool := match W.heap[b]? with
 | some (.cells _ _ _) => true
 | _ => false
def toAV (W : World) : Value → AV
 | .int k n => .int k n
 | .bool b => .bool b
 | .string s => .str s
 | .pointer none => .ptr none
 | .pointer (some ⟨b, o, none⟩) => if blkOk W b = true then .ptr (some ⟨b, 0, o⟩) else .opq
 | .slice none 0 0 => .sl .nil 0
 | .slice (some _) 0 _ => .sl .lost 0
 | .slice (some ⟨b, o, none⟩) (n + 1) c => if blkOk W b = true ∧ n + 1 ≤ c then .sl (.pos ⟨b, 0, o⟩) (n + 1) else .opq
 | .map none => .map none
 | .nilFunc => .nilFn
 | .nilIface => .nilIface
 | _ => .opq
def argAV (W : World) : Value → AV
 | .agg cs => .agg (cs.toList.map (toAV W))
 | v => toAV W v
def phiW (W : World) : Phi := fun b => match W.heap[b]? with
 | some (.cells cc _ _) => .live ⟨b, 0, 0, .ro, cc.size⟩
 | _ => .unborn
def blkW (W : World) : Obj → Blk
 | .cells cc _ _ => .cells (cc.toList.map (toAV W)) .ro 0
 | _ => .gone
def ahW (W : World) : Heap := W.heap.toList.map (blkW W)
theorem ahW_get (W : World) (b : Nat) : (ahW W)[b]? = (W.heap[b]?).map (blkW W) := by
 unfold ahW
 rw [List.getElem?_map, Array.getElem?_toList]
theorem roW (W : World) : RoPhi (phiW W) := by
 intro b
 unfold phiW
 split
 · exact ⟨fun r h => (by cases h; rfl), fun c h => (nomatch h)⟩
 · exact ⟨fun r h => (nomatch h), fun c h => (nomatch h)⟩
theorem blkOk_live {W : World} {b : Nat} (h : blkOk W b = true) : ∃ r, phiW W b = .live r ∧ r.cb = b ∧ r.base = 0 ∧ r.ver = 0 ∧ r.mode = .ro := by
 unfold blkOk at h
 unfold phiW
 split at h
 · exact ⟨_, rfl, rfl, rfl, rfl, rfl⟩
 · cases h
theorem addrW {W : World} {b o : Nat} (h : blkOk W b = true) : AddrR (phiW W) ⟨b, 0, o⟩ ⟨b, o, none⟩ := by
 obtain ⟨r, hr, h1, h2, h3, h4⟩ := blkOk_live h
 unfold AddrR
 simp only [hr]
 exact ⟨by omega, fun _ => by rw [h1, h2]; simp⟩
theorem capW {W : World} {b o c : Nat} : CapR (phiW W) ⟨b, 0, o⟩ c := by
 unfold CapR
 split
 · rename_i r hr
   intro _ es he
   rw [(roW W b).1 r hr] at he
   cases he
 · trivial
theorem toAV_vr (W : World) (v : Value) : VR (phiW W) (toAV W v) v := by
 unfold toAV
 split
 all_goals first
  | exact .int _ _
  | exact .bool _
  | exact .str _
  | exact .ptrN
  | exact .slN
  | exact .slL
  | exact .mapN
  | exact .nilFn
  | exact .nilIface
  | (split
     · rename_i h; exact .ptr (addrW h)
     · exact .opq _)
  | (split
     · rename_i h; exact .sl (addrW h.1) capW h.2
     · exact .opq _)
  | exact .opq _
theorem argAV_vr (W : World) (v : Value) : VR (phiW W) (argAV W v) v := by
 unfold argAV
 split
 · refine .agg (by simp) fun i x y hx hy => ?_
   rw [List.getElem?_map] at hx
   rw [Array.getElem?_toList, hy] at hx
   cases hx
   exact toAV_vr W y
 · exact toAV_vr W v
theorem argsAV_vr (W : World) : ∀ (l : List Value), VRs (phiW W) (l.map (argAV W)) l := by
 intro l
 induction l with
 | nil => exact .nil _
 | cons v l ih => exact .cons (argAV_vr W v) ih
theorem simW (W : World) : Sim (phiW W) (ahW W) W := by
 constructor
 · intro b r hr
   unfold phiW at hr
   split at hr
   · rename_i cc ty fz e
     cases hr
     refine ⟨cc.toList.map (toAV W), cc, ty, fz, ?_, e, ⟨by simp, fun i x hx => ?_⟩, fun h => absurd rfl h, fun es h => by cases h⟩
     · rw [ahW_get, e]; rfl
     · rw [List.getElem?_map] at hx
       cases hg : cc.toList[i]? with
       | none => rw [hg] at hx; cases hx
       | some y =>
        rw [hg] at hx
        cases hx
        exact ⟨y, by simpa using hg, toAV_vr W y⟩
   · cases hr
 · intro b c h; exact absurd h ((roW W b).2 c)
 · intro b h
   unfold phiW at h
   split at h <;> cases h
 · intro b b' c h1 h2
   have key : ∀ b, cbOf (phiW W b) = some c → b = c := by
    intro b h
    unfold phiW at h
    split at h
    · cases h; rfl
    · cases h
   rw [key b h1, key b' h2]
theorem mapM_some_get {α β : Type} {F : α → Option β} : ∀ {l : List α} {r : List β}, l.mapM F = some r → r.length = l.length ∧ ∀ (i : Nat) x, l[i]? = some x → ∃ y, r[i]? = some y ∧ F x = some y := by
 intro l
 induction l with
 | nil => intro r h; simp at h; subst h; exact ⟨rfl, fun i x hx => by simp at hx⟩
 | cons a l ih =>
  intro r h
  rw [List.mapM_cons] at h
  cases e : F a with
  | none => rw [e] at h; simp at h
  | some y =>
   rw [e] at h
   simp only [Option.pure_def, Option.bind_eq_bind, Option.bind_some] at h
   rw [Option.bind_eq_some_iff] at h
   obtain ⟨r', hr', h⟩ := h
   cases h
   obtain ⟨h1, h2⟩ := ih hr'
   refine ⟨by simp [h1], fun i x hx => ?_⟩
   cases i with
   | zero => simp at hx; subst hx; exact ⟨y, rfl, e⟩
   | succ i => simp at hx; simpa using h2 i x hx
theorem cells_get {W : World} {b o : Nat} {sp : Option Nat} {n : Nat} {l : List Value} (h : W.cells? 0 ⟨b, o, sp⟩ n = some l) (hn : 0 < n) :
 sp = none ∧ ∃ cc ty fz, W.heap[b]? = some (.cells cc ty fz) ∧ l = (cc.toList.drop o).take n ∧ l.length = n := by
 unfold World.cells? at h
 rw [if_pos (Nat.zero_le _)] at h
 obtain ⟨h1, h2⟩ := mapM_some_get h
 obtain ⟨y0, _, hy0⟩ := h2 0 0 (by simp [hn])
 have hc : ∃ cc ty fz, W.heap[b]? = some (.cells cc ty fz) ∧ sp = none := by
  simp only [Addr.add, if_true, World.cell?] at hy0
  cases e : W.heap[b]? with
  | none => rw [e] at hy0; cases hy0
  | some ob =>
   rw [e] at hy0
   cases ob <;> simp only at hy0
   case cells cc ty fz =>
    split at hy0
    · cases hy0
    · rename_i hs
      exact ⟨cc, ty, fz, rfl, by simpa using hs⟩
   all_goals cases hy0
 obtain ⟨cc, ty, fz, e, rfl⟩ := hc
 refine ⟨rfl, cc, ty, fz, e, ?_, by simpa using h1⟩
 apply List.ext_getElem?
 intro i
 rw [List.getElem?_take]
 rcases Nat.lt_or_ge i n with hi | hi
 · rw [if_pos hi, List.getElem?_drop]
   obtain ⟨y, hy, hf⟩ := h2 i i (by simp [hi])
   rw [hy]
   have : (⟨b, o, none⟩ : Addr).add i = ⟨b, o + i, none⟩ := addr_add b o i
   rw [this] at hf
   simp only [World.cell?, e] at hf
   simpa using hf.symm
 · rw [if_neg (by omega), List.getElem?_eq_none (by simp at h1; omega)]
end Go.Proofs.Ytnmdadadjneaiaa.Abs
/- Arguments of a row: what their reading says of them abstractly; they read behind the call as before. -/
set_option linter.unusedVariables false
set_option linter.unusedSimpArgs false
namespace Go.Proofs.Ytnmdadadjneaiaa.Abs
open Go Go.RowKit
theorem trodAll_below {H : Type} {enc : TypeId × Value → H} {P : Program} (hl : laidOutB P = true) {W W' : World} (hb : Below W.heap.size W W') : ∀ {ts : List TypeId} {vs : List Value} {ds : List (DataW H)} {ps : List MemPlace},
 (∀ t ∈ ts, P.readableRec t = true ∧ t < P.types.size) → DataW.TrodAll enc P W 0 (fun _ => true) true ts vs ds ps → DataW.TrodAll enc P W' 0 (fun b => decide (b < W.heap.size)) true ts vs ds ps := by
 intro ts
 induction ts with
 | nil => intro vs ds ps _ h; cases vs <;> cases ds <;> first | exact h | exact h.elim
 | cons t ts ih =>
  intro vs ds ps hr h
  cases vs with
  | nil => exact h.elim
  | cons v vs =>
   cases ds with
   | nil => exact h.elim
   | cons d ds =>
    have hlt := DataW.TrodAll.lt h
    obtain ⟨p, q, h1, h2, rfl⟩ := h
    refine ⟨p, q, ?_, ih (fun t ht => hr t (.tail _ ht)) h2, rfl⟩
    exact Below.trod hl (hr t (.head _)).1 (hr t (.head _)).2 h1 hb fun x hx => hlt x (List.mem_append_left _ hx)
def oneK : TypeDesc → Bool
 | .bool | .int _ | .string | .slice _ => true
 | _ => false
end Go.Proofs.Ytnmdadadjneaiaa.Abs
/- Appending to a slice that nobody else holds. -/
set_option linter.unusedVariables false
set_option linter.unusedSimpArgs false
namespace Go.Proofs.Ytnmdadadjneaiaa.Abs
open Go
def GS (h : Heap) (s : SA) (n es : Nat) (cs : List AV) : Prop :=
 cs.length = n * es ∧ flatL cs = true ∧ ((s = .nil ∧ n = 0) ∨ ∃ b v, s = .pos ⟨b, v, 0⟩ ∧ h[b]? = some (.cells cs (.grow es) v))
def inS (s : SA) (b : Nat) : Prop := ∃ a, s = .pos a ∧ a.b = b
theorem apnd_GS {h : Heap} {s : SA} {n es bytes m : Nat} {cs ys : List AV} (H : GS h s n es cs) (hm : 0 < m) (he : 0 < es) (hy : ys.length = m * es) (fy : flatL ys = true) (fa : flatL (cs ++ ys) = true) (hb : (n + m) * bytes ≤ 140737488355328) :
 ∃ s' h', apnd h (.sl s n) es bytes ys m = some (.sl s' (n + m), h') ∧ GS h' s' (n + m) es (cs ++ ys) ∧ h.length ≤ h'.length ∧ (∀ b x, h[b]? = some x → ¬ inS s b → h'[b]? = some x) ∧ (∀ b, inS s' b → inS s b ∨ h.length ≤ b) := by
 obtain ⟨hl, fc, ⟨rfl, rfl⟩ | ⟨b, v, rfl, hk⟩⟩ := H
 · have : cs = [] := by
    rw [Nat.zero_mul] at hl
    exact List.length_eq_zero_iff.1 hl
   subst this
   obtain ⟨m, rfl⟩ : ∃ k, m = k + 1 := ⟨m - 1, by omega⟩
   refine ⟨.pos ⟨h.length, 0, 0⟩, h ++ [.cells ys (.grow es) 0], ?_, ⟨by simp [hy], by simpa using fa, .inr ⟨_, _, rfl, ?_⟩⟩, by simp, fun b x hx _ => app_old hx, ?_⟩
   · rw [Nat.zero_add] at hb
     simp only [apnd]
     rw [if_pos ⟨trivial, hb⟩, Nat.zero_add]
   · rw [List.getElem?_append_right (Nat.le_refl _), Nat.sub_self]; rfl
   · rintro b ⟨a, ha, rfl⟩
     cases ha
     exact .inr (Nat.le_refl _)
 · obtain ⟨m, rfl⟩ : ∃ k, m = k + 1 := ⟨m - 1, by omega⟩
   have hlt := (List.getElem?_eq_some_iff.1 hk).1
   have hgt : ¬ 0 + (n + (m + 1)) * es ≤ cs.length := by
    rw [hl, Nat.add_mul]
    have : 0 < (m + 1) * es := Nat.mul_pos (by omega) he
    omega
   have ht : (cs.drop 0).take (n * es) = cs := by rw [List.drop_zero, ← hl, List.take_length]
   refine ⟨.pos ⟨b, v + 1, 0⟩, h.set b (.cells (cs ++ ys) (.grow es) (v + 1)), ?_, ⟨by rw [List.length_append, hl, hy, Nat.add_mul n (m + 1)], fa, .inr ⟨_, _, rfl, set_same hk⟩⟩, by simp, ?_, ?_⟩
   · simp only [apnd, hk]
     rw [if_pos ⟨trivial, trivial, by omega, hb⟩, if_neg hgt, ht, if_pos fc]
   · intro b' x hx hn
     have : b ≠ b' := fun e => hn ⟨_, rfl, e⟩
     rw [set_other this]
     exact hx
   · rintro b' ⟨a, ha, rfl⟩
     cases ha
     exact .inl ⟨_, rfl, rfl⟩
end Go.Proofs.Ytnmdadadjneaiaa.Abs
/- What the reading of arguments says of their cells, with a bound on the size of each slice. -/
set_option linter.unusedVariables false
set_option linter.unusedSimpArgs false
namespace Go.Proofs.Ytnmdadadjneaiaa.Abs
open Go Go.RowKit
def IsTyS (P : Program) (h : Heap) : Nat → TypeId → List AV → Prop
 | 0, _, _ => False
 | f + 1, t, cs => match P.underlying t with
  | some .bool => ∃ b, cs = [.bool b]
  | some (.int k) => ∃ n, cs = [.int k n] ∧ k.min ≤ n ∧ n ≤ k.max
  | some .string => ∃ s, cs = [.str s]
  | some (.slice e) => P.cellsOf e = 0 ∨ cs = [.sl .nil 0] ∨ cs = [.sl .lost 0] ∨ ∃ b o n c, 0 < n ∧ n * P.bytesOf e ≤ reachBytes ∧ cs = [.sl (.pos ⟨b, 0, o⟩) n] ∧ h[b]? = some (.cells c .ro 0) ∧
   ∀ i, i < n → ((c.drop (o + i * P.cellsOf e)).take (P.cellsOf e)).length = P.cellsOf e ∧ IsTyS P h f e ((c.drop (o + i * P.cellsOf e)).take (P.cellsOf e))
  | some (.struct fs) => cs.length = P.cellsOf t ∧ ∀ fd ∈ fs.toList, IsTyS P h f fd.type ((cs.drop fd.offset).take (P.cellsOf fd.type))
  | some (.array n e) => cs.length = P.cellsOf t ∧ ∀ i, i < n → IsTyS P h f e ((cs.drop (i * P.cellsOf e)).take (P.cellsOf e))
  | _ => True
theorem weightsAll_mem {H : Type} {P : Program} {e : TypeId} : ∀ {ds : List (DataW H)} {i : Nat} {d : DataW H}, ds[i]? = some d → ∀ w ∈ d.weights P e, w ∈ DataW.weightsAll P e ds
 | [], i, d, h, w, hw => by simp at h
 | x :: ds, 0, d, h, w, hw => by
  simp at h; subst h
  rw [DataW.weightsAll]; exact List.mem_append_left _ hw
 | x :: ds, i + 1, d, h, w, hw => by
  rw [DataW.weightsAll]; exact List.mem_append_right _ (weightsAll_mem (by simpa using h) w hw)
theorem weightsEach_mem {H : Type} {P : Program} : ∀ {ts : List TypeId} {ds : List (DataW H)} {i : Nat} {t : TypeId} {d : DataW H}, ts[i]? = some t → ds[i]? = some d → ∀ w ∈ d.weights P t, w ∈ DataW.weightsEach P ts ds
 | [], ds, i, t, d, ht, h, w, hw => by simp at ht
 | t' :: ts, [], i, t, d, ht, h, w, hw => by simp at h
 | t' :: ts, x :: ds, 0, t, d, ht, h, w, hw => by
  simp at h ht; subst h ht
  rw [DataW.weightsEach]; exact List.mem_append_left _ hw
 | t' :: ts, x :: ds, i + 1, t, d, ht, h, w, hw => by
  rw [DataW.weightsEach]; exact List.mem_append_right _ (weightsEach_mem (by simpa using ht) (by simpa using h) w hw)
theorem isTyS_of_trod {H : Type} {enc : TypeId × Value → H} {P : Program} {W : World} {spare : Nat → Bool} {held : Bool} : ∀ (f : Nat) (t : TypeId) (cs : List Value) (d : DataW H) (ps : List MemPlace),
 DataW.trod enc P W 0 spare held f t cs = some (d, ps) → (∀ w ∈ d.weights P t, w ≤ reachBytes) → IsTyS P (ahW W) f t (cs.map (toAV W)) := by
 intro f
 induction f with
 | zero => intro t cs d ps h; simp [DataW.trod] at h
 | succ f ih =>
  intro t cs d ps h hwt
  unfold DataW.trod at h
  unfold IsTyS
  cases e : P.underlying t with
  | none => rw [e] at h; simp at h
  | some u =>
   rw [e] at h
   cases u with
   | bool =>
    match cs, h with
    | [.bool b], h => exact ⟨b, rfl⟩
   | int k =>
    match cs, h with
    | [.int k' n], h =>
     simp only at h
     split at h
     · rename_i hk
       obtain ⟨rfl, hw⟩ := hk
       simp only [Lit.wf, Bool.and_eq_true, decide_eq_true_eq] at hw
       exact ⟨n, rfl, hw.1, hw.2⟩
     · cases h
   | string =>
    match cs, h with
    | [.string s], h => exact ⟨s, rfl⟩
   | slice el =>
    match cs, h with
    | [.slice none 0 0], h => exact .inr (.inl rfl)
    | [.slice (some a) 0 c], h => exact .inr (.inr (.inl rfl))
    | [.slice (some ⟨b, o, sp⟩) (n + 1) c], h =>
     simp only at h
     split at h
     · rename_i hcond
       rw [Option.bind_eq_some_iff] at h
       obtain ⟨elems, hel, h⟩ := h
       rw [Option.map_eq_some_iff] at h
       obtain ⟨rest, hrest, hd⟩ := h
       cases hd
       obtain ⟨hlen, hget⟩ := mapM_some_get hel
       rw [List.length_range] at hlen
       have hws : ∀ w, w = (elems.length + rest.length) * P.bytesOf el ∨ w ∈ DataW.weightsAll P el (elems.map (·.1)) → w ≤ reachBytes := by
        intro w hw
        apply hwt
        unfold DataW.weights
        rw [e]
        simp only [List.length_map]
        rcases hw with rfl | hw
        · exact List.mem_cons_self
        · exact List.mem_cons_of_mem _ (List.mem_append_left _ hw)
       by_cases hz : P.cellsOf el = 0
       · exact .inl hz
       · have one : ∀ i, i < n + 1 → ∃ l x, elems[i]? = some x ∧ W.cells? 0 (Addr.add ⟨b, o, sp⟩ (i * P.cellsOf el)) (P.cellsOf el) = some l ∧ DataW.trod enc P W 0 spare held f el l = some x := by
          intro i hi
          obtain ⟨x, hx1, hx⟩ := hget i i (by rw [List.getElem?_range hi])
          rw [Option.bind_eq_some_iff] at hx
          obtain ⟨l, hl, hx⟩ := hx
          exact ⟨l, x, hx1, hl, hx⟩
         obtain ⟨l0, x0, _, hl0, _⟩ := one 0 (by omega)
         simp only [Nat.zero_mul, Addr.add, if_true] at hl0
         obtain ⟨rfl, cc, ty, fz, hh, _, _⟩ := cells_get hl0 (by omega)
         have hb : blkOk W b = true := by unfold blkOk; rw [hh]
         refine .inr (.inr (.inr ⟨b, o, n + 1, cc.toList.map (toAV W), by omega, ?_, ?_, by rw [ahW_get, hh]; rfl, fun i hi => ?_⟩))
         · have := hws _ (.inl rfl)
           rw [hlen, Nat.add_mul] at this
           omega
         · simp only [List.map_cons, List.map_nil, toAV]
           rw [if_pos ⟨hb, hcond.2.1⟩]
         · obtain ⟨l, x, hx1, hl, hx⟩ := one i hi
           rw [addr_add] at hl
           obtain ⟨_, cc', ty', fz', hh', hl', hlen⟩ := cells_get hl (by omega)
           rw [hh] at hh'
           cases hh'
           have := ih el l x.1 x.2 hx fun w hw => hws w (.inr (weightsAll_mem (i := i) (by rw [List.getElem?_map, hx1]; rfl) w hw))
           rw [hl'] at this hlen
           rw [← List.map_drop, ← List.map_take]
           exact ⟨by simpa using hlen, this⟩
     · cases h
   | struct fs =>
    have h : (if cs.length = P.cellsOf t then (fs.toList.mapM fun fd => DataW.trod enc P W 0 spare held f fd.type ((cs.drop fd.offset).take (P.cellsOf fd.type))).map fun xs => (.agg (xs.map (·.1)), xs.flatMap (·.2)) else none) = some (d, ps) := by
     cases cs <;> exact h
    split at h
    · rename_i hlen
      rw [Option.map_eq_some_iff] at h
      obtain ⟨xs, hxs, hd⟩ := h
      cases hd
      refine ⟨by simpa using hlen, fun fd hfd => ?_⟩
      obtain ⟨i, hi⟩ := List.mem_iff_getElem?.1 hfd
      obtain ⟨y, hy1, hy⟩ := (mapM_some_get hxs).2 i fd hi
      have := ih _ _ y.1 y.2 hy fun w hw => hwt w (by
       unfold DataW.weights
       rw [e]
       exact weightsEach_mem (i := i) (by rw [List.getElem?_map, hi]; rfl) (by rw [List.getElem?_map, hy1]; rfl) w hw)
      rw [← List.map_drop, ← List.map_take]
      exact this
    · cases h
   | array n el =>
    have h : (if cs.length = P.cellsOf t then ((List.range n).mapM fun i => DataW.trod enc P W 0 spare held f el ((cs.drop (i * P.cellsOf el)).take (P.cellsOf el))).map fun xs => (.agg (xs.map (·.1)), xs.flatMap (·.2)) else none) = some (d, ps) := by
     cases cs <;> exact h
    split at h
    · rename_i hlen
      rw [Option.map_eq_some_iff] at h
      obtain ⟨xs, hxs, hd⟩ := h
      cases hd
      refine ⟨by simpa using hlen, fun i hi => ?_⟩
      obtain ⟨y, hy1, hy⟩ := (mapM_some_get hxs).2 i i (by simp [hi])
      have := ih _ _ y.1 y.2 hy fun w hw => hwt w (by
       unfold DataW.weights
       rw [e]
       exact weightsAll_mem (i := i) (by rw [List.getElem?_map, hy1]; rfl) w hw)
      rw [← List.map_drop, ← List.map_take]
      exact this
    · cases h
   | _ => trivial
theorem weight_at {H : Type} {P : Program} {ts us : List TypeId} {ds gs : List (DataW H)} (hz : (DataW.weightsEach P (ts ++ us) (ds ++ gs)).all (· ≤ reachBytes) = true) {i : Nat} {t : TypeId} {d : DataW H} (ht : ts[i]? = some t) (hd : ds[i]? = some d) : ∀ w ∈ d.weights P t, w ≤ reachBytes := by
 intro w hw
 have := List.all_eq_true.1 hz w (weightsEach_mem (i := i) (by rw [List.getElem?_append_left (List.getElem?_eq_some_iff.1 ht).1]; exact ht) (by rw [List.getElem?_append_left (List.getElem?_eq_some_iff.1 hd).1]; exact hd) w hw)
 simpa using this
theorem args_agg {H : Type} {enc : TypeId × Value → H} {P : Program} {W : World} {r : Go.Reach} {b : Nat} {spare : Nat → Bool} {held : Bool} {t : TypeId} {v : Value} {d : DataW H} {ps : List MemPlace} {fs : Array Field} (hu : P.underlying t = some (.struct fs))
 (hval : Value.okWide P W r b t v) (h : DataW.Trod enc P W 0 spare held t v d ps) (hz : ∀ w ∈ d.weights P t, w ≤ reachBytes) : ∃ l f, argAV W v = .agg l ∧ IsTyS P (ahW W) f t l := by
 unfold Value.okWide at hval
 rw [hu] at hval
 obtain ⟨cs, rfl, _, _⟩ := hval
 obtain ⟨f, hf⟩ := h
 exact ⟨_, f, rfl, isTyS_of_trod f t _ d ps hf hz⟩
theorem args_one {H : Type} {enc : TypeId × Value → H} {P : Program} {W : World} {r : Go.Reach} {b : Nat} {spare : Nat → Bool} {held : Bool} {t : TypeId} {v : Value} {d : DataW H} {ps : List MemPlace} {u : TypeDesc} (hu : P.underlying t = some u) (hk : oneK u = true)
 (hval : Value.okWide P W r b t v) (h : DataW.Trod enc P W 0 spare held t v d ps) (hz : ∀ w ∈ d.weights P t, w ≤ reachBytes) : ∃ f, IsTyS P (ahW W) f t [argAV W v] := by
 obtain ⟨f, hf⟩ := h
 have := isTyS_of_trod f t _ d ps hf hz
 refine ⟨f, ?_⟩
 have hv : ∀ cs, v ≠ .agg cs := by
  rintro cs rfl
  unfold Value.okWide at hval
  rw [hu] at hval
  cases u <;> simp [oneK] at hk <;> simp [Cell.okWide, Cell.ok, hu] at hval
 have e : v.cells.toList.map (toAV W) = [argAV W v] := by
  cases v with
  | agg cs => exact absurd rfl (hv cs)
  | _ => rfl
 rw [e] at this
 exact this
end Go.Proofs.Ytnmdadadjneaiaa.Abs
