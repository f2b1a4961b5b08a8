/- From what the evaluator answers to a call of the loaded program: nothing that was there has turned. -/
import Derived.Test.YtmfmnbldngfelaaAbsUse
import Derived.Below
set_option linter.unusedVariables false
set_option linter.unusedSimpArgs false
namespace Go.Proofs.Ytmfmnbldngfelaa.Abs
open Go Go.RowKit

theorem primsNone (P : Program) : PrimsOk P (fun _ => none) := fun f p h => nomatch h

/-- No loaded block may be turned. -/
def RoPhi (φ : Phi) : Prop := ∀ b, (∀ r, φ b = .live r → r.mode = .ro) ∧ ∀ c, φ b ≠ .lmap c

theorem RoPhi.owns {φ : Phi} (h : RoPhi φ) (k : Nat) : ¬ Owns φ k := by
  rintro ⟨b, ⟨r, hr, hm, _⟩ | hb⟩
  · exact hm ((h b).1 r hr)
  · exact (h b).2 k hb

theorem calls_true {P : Program} {T : Prims} (hm : P.follows .mixedOrders = true) (hT : PrimsOk P T) {f : FuncId} {as : List AV} {ah ah' : Heap} (he : EV P T f as ah = some (.bool true, ah'))
    {φ : Phi} {W : World} {args : List Value} (hv : VRs φ as args) (S : Sim φ ah W) (hro : RoPhi φ) :
    Calls P f args.toArray W fun e W' => e = .returned (.bool true) ∧ Below W.heap.size W W' := by
  obtain ⟨_, h⟩ := EV_sound hm hT f as ah _ ah' he
  refine Calls.mono (h φ W args hv S) fun e W' hk => ?_
  obtain ⟨vc, rfl, φ', hvr, E⟩ := hk
  cases hvr
  exact ⟨rfl, E.fr.os, E.fr.tape, E.fr.output, E.fr.size, fun k hk => E.fr.block k hk (hro.owns k)⟩

/-- Nothing is there at first. -/
def phi0 : Phi := fun _ => .unborn

theorem sim0 (W : World) : Sim phi0 [] W := ⟨fun b r h => (nomatch h), fun b c h => (nomatch h), fun b h => (nomatch h), fun b b' c h => (nomatch h)⟩
theorem ro0 : RoPhi phi0 := fun b => ⟨fun r h => (nomatch h), fun c h => (nomatch h)⟩

end Go.Proofs.Ytmfmnbldngfelaa.Abs
