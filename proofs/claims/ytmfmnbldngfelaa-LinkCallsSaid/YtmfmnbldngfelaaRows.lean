/-
  No cell of these rows narrows 'for every input' (looked for: loops, veiled, ifaces, maps, wideKeys, modest, calm, conditions, laid).
  DERIVED. THE GIVEN ROWS OF THIS SEAT. 11 by the template 'for every input the law returns true; each argument reads behind the call as it read before'; 0 by the template 'total and deterministic' (their statements: YtmfmnbldngfelaaTotals.lean).
  GIVEN WITH THE SEED: the statements are not yours to turn. If you find one false, say at which input.
  Laid BY PROGRAM, IN A SANDBOX (cutbox-rows.mjs): the forced cells as the released guide's own fill.sh prints them over the translation 42c314bb7361111f… (all of the seat's roots in one cut). By AI agents, Wed Nov 11 2026. No macro, syntax, notation, axiom, sorry.
-/
import Derived.Test.YtmfmnbldngfelaaChecked
import GoSem.Claim
import GoSem.ClaimJoined
import GoSem.ClaimMapViews
import Derived.JoinedTies
import Derived.KernelRfl
namespace Go.Proofs.Ytmfmnbldngfelaa
/- THE CELL 'sum', in the pinned program and in every row, IS THE sha256 OF THE DUMP (.gsa) THAT YtmfmnbldngfelaaProg.lean LOADS. Nothing in Lean hashes anything: it is a label: what it is worth is what the hold of that sum in a sandbox is worth. -/
noncomputable def Try.pinned : Pinned := { name := "ytmfmnbldngfelaa", sum := "42c314bb7361111fe14c53cf6d3bfbe7375e8b283ed7483ada3287a2ec401330", checked := Try.checked }
namespace Rows
def none {H : Type} : Left H := { results := [], args := [] }

/-- 'provenancekeep4.HeapHeaders': WHATEVER THE INPUT: true; the input reads as it did. -/
def heapHeadersSpec : ChangeSpec := { name := "heapHeaders", fn := fun _ => fun
  | [d1, d2, d3] => { results := [.lit (.bool true)], args := [d1, d2, d3] }
  | _ => none }
def heapHeadersRow : OpenClaim := { program := "ytmfmnbldngfelaa", sum := "42c314bb7361111fe14c53cf6d3bfbe7375e8b283ed7483ada3287a2ec401330", func := "provenance/provenancekeep4.HeapHeaders", spec := "heapHeaders", apart := false }
def HeapHeadersSaid : Prop := heapHeadersRow.holds Try.pinned (OpenSpec.ofChange heapHeadersSpec)

/-- ITS FALSE NEIGHBOUR: 'it returns false'. Refute it at one input. -/
def heapHeadersWrong : ChangeSpec := { name := "heapHeaders", fn := fun _ => fun
  | [d1, d2, d3] => { results := [.lit (.bool false)], args := [d1, d2, d3] }
  | _ => none }
def HeapHeadersWrongFalsely : Prop := heapHeadersRow.holds Try.pinned (OpenSpec.ofChange heapHeadersWrong)

/-- 'provenancekeep4.PredictSteady': WHATEVER THE INPUT: true; the input reads as it did. -/
def predictSteadySpec : ChangeSpec := { name := "predictSteady", fn := fun _ => fun
  | [d1, d2, d3, d4] => { results := [.lit (.bool true)], args := [d1, d2, d3, d4] }
  | _ => none }
def predictSteadyRow : OpenClaim := { program := "ytmfmnbldngfelaa", sum := "42c314bb7361111fe14c53cf6d3bfbe7375e8b283ed7483ada3287a2ec401330", func := "provenance/provenancekeep4.PredictSteady", spec := "predictSteady", apart := false }
def PredictSteadySaid : Prop := predictSteadyRow.holds Try.pinned (OpenSpec.ofChange predictSteadySpec)

/-- ITS FALSE NEIGHBOUR: 'it returns false'. Refute it at one input. -/
def predictSteadyWrong : ChangeSpec := { name := "predictSteady", fn := fun _ => fun
  | [d1, d2, d3, d4] => { results := [.lit (.bool false)], args := [d1, d2, d3, d4] }
  | _ => none }
def PredictSteadyWrongFalsely : Prop := predictSteadyRow.holds Try.pinned (OpenSpec.ofChange predictSteadyWrong)

/-- 'provenancekeep4.PredictLoops': WHATEVER THE INPUT: true; the input reads as it did. -/
def predictLoopsSpec : ChangeSpec := { name := "predictLoops", fn := fun _ => fun
  | [d1, d2, d3] => { results := [.lit (.bool true)], args := [d1, d2, d3] }
  | _ => none }
def predictLoopsRow : OpenClaim := { program := "ytmfmnbldngfelaa", sum := "42c314bb7361111fe14c53cf6d3bfbe7375e8b283ed7483ada3287a2ec401330", func := "provenance/provenancekeep4.PredictLoops", spec := "predictLoops", apart := false }
def PredictLoopsSaid : Prop := predictLoopsRow.holds Try.pinned (OpenSpec.ofChange predictLoopsSpec)

/-- ITS FALSE NEIGHBOUR: 'it returns false'. Refute it at one input. -/
def predictLoopsWrong : ChangeSpec := { name := "predictLoops", fn := fun _ => fun
  | [d1, d2, d3] => { results := [.lit (.bool false)], args := [d1, d2, d3] }
  | _ => none }
def PredictLoopsWrongFalsely : Prop := predictLoopsRow.holds Try.pinned (OpenSpec.ofChange predictLoopsWrong)

/-- 'provenancekeep4.InsnSizes': WHATEVER THE INPUT: true; the input reads as it did. -/
def insnSizesSpec : ChangeSpec := { name := "insnSizes", fn := fun _ => fun
  | [d] => { results := [.lit (.bool true)], args := [d] }
  | _ => none }
def insnSizesRow : OpenClaim := { program := "ytmfmnbldngfelaa", sum := "42c314bb7361111fe14c53cf6d3bfbe7375e8b283ed7483ada3287a2ec401330", func := "provenance/provenancekeep4.InsnSizes", spec := "insnSizes", apart := false }
def InsnSizesSaid : Prop := insnSizesRow.holds Try.pinned (OpenSpec.ofChange insnSizesSpec)

/-- ITS FALSE NEIGHBOUR: 'it returns false'. Refute it at one input. -/
def insnSizesWrong : ChangeSpec := { name := "insnSizes", fn := fun _ => fun
  | [d] => { results := [.lit (.bool false)], args := [d] }
  | _ => none }
def InsnSizesWrongFalsely : Prop := insnSizesRow.holds Try.pinned (OpenSpec.ofChange insnSizesWrong)

/-- 'provenancekeep4.InsnUnique': WHATEVER THE INPUT: true; the input reads as it did. -/
def insnUniqueSpec : ChangeSpec := { name := "insnUnique", fn := fun _ => fun
  | [d1, d2] => { results := [.lit (.bool true)], args := [d1, d2] }
  | _ => none }
def insnUniqueRow : OpenClaim := { program := "ytmfmnbldngfelaa", sum := "42c314bb7361111fe14c53cf6d3bfbe7375e8b283ed7483ada3287a2ec401330", func := "provenance/provenancekeep4.InsnUnique", spec := "insnUnique", apart := false }
def InsnUniqueSaid : Prop := insnUniqueRow.holds Try.pinned (OpenSpec.ofChange insnUniqueSpec)

/-- ITS FALSE NEIGHBOUR: 'it returns false'. Refute it at one input. -/
def insnUniqueWrong : ChangeSpec := { name := "insnUnique", fn := fun _ => fun
  | [d1, d2] => { results := [.lit (.bool false)], args := [d1, d2] }
  | _ => none }
def InsnUniqueWrongFalsely : Prop := insnUniqueRow.holds Try.pinned (OpenSpec.ofChange insnUniqueWrong)

/-- 'provenancekeep4.InsnStream': WHATEVER THE INPUT: true; the input reads as it did. -/
def insnStreamSpec : ChangeSpec := { name := "insnStream", fn := fun _ => fun
  | [d1, d2] => { results := [.lit (.bool true)], args := [d1, d2] }
  | _ => none }
def insnStreamRow : OpenClaim := { program := "ytmfmnbldngfelaa", sum := "42c314bb7361111fe14c53cf6d3bfbe7375e8b283ed7483ada3287a2ec401330", func := "provenance/provenancekeep4.InsnStream", spec := "insnStream", unfollowed := true, recurses := true, apart := false }
def InsnStreamSaid : Prop := insnStreamRow.holds Try.pinned (OpenSpec.ofChange insnStreamSpec)

/-- ITS FALSE NEIGHBOUR: 'it returns false'. Refute it at one input. -/
def insnStreamWrong : ChangeSpec := { name := "insnStream", fn := fun _ => fun
  | [d1, d2] => { results := [.lit (.bool false)], args := [d1, d2] }
  | _ => none }
def InsnStreamWrongFalsely : Prop := insnStreamRow.holds Try.pinned (OpenSpec.ofChange insnStreamWrong)

/-- 'provenancekeep4.InsnBack': WHATEVER THE INPUT: true; the input reads as it did. -/
def insnBackSpec : ChangeSpec := { name := "insnBack", fn := fun _ => fun
  | [d] => { results := [.lit (.bool true)], args := [d] }
  | _ => none }
def insnBackRow : OpenClaim := { program := "ytmfmnbldngfelaa", sum := "42c314bb7361111fe14c53cf6d3bfbe7375e8b283ed7483ada3287a2ec401330", func := "provenance/provenancekeep4.InsnBack", spec := "insnBack", apart := false }
def InsnBackSaid : Prop := insnBackRow.holds Try.pinned (OpenSpec.ofChange insnBackSpec)

/-- ITS FALSE NEIGHBOUR: 'it returns false'. Refute it at one input. -/
def insnBackWrong : ChangeSpec := { name := "insnBack", fn := fun _ => fun
  | [d] => { results := [.lit (.bool false)], args := [d] }
  | _ => none }
def InsnBackWrongFalsely : Prop := insnBackRow.holds Try.pinned (OpenSpec.ofChange insnBackWrong)

/-- 'provenancekeep4.RelaxShorter': WHATEVER THE INPUT: true; the input reads as it did. -/
def relaxShorterSpec : ChangeSpec := { name := "relaxShorter", fn := fun _ => fun
  | [d] => { results := [.lit (.bool true)], args := [d] }
  | _ => none }
def relaxShorterRow : OpenClaim := { program := "ytmfmnbldngfelaa", sum := "42c314bb7361111fe14c53cf6d3bfbe7375e8b283ed7483ada3287a2ec401330", func := "provenance/provenancekeep4.RelaxShorter", spec := "relaxShorter", unfollowed := true, recurses := true, apart := false }
def RelaxShorterSaid : Prop := relaxShorterRow.holds Try.pinned (OpenSpec.ofChange relaxShorterSpec)

/-- ITS FALSE NEIGHBOUR: 'it returns false'. Refute it at one input. -/
def relaxShorterWrong : ChangeSpec := { name := "relaxShorter", fn := fun _ => fun
  | [d] => { results := [.lit (.bool false)], args := [d] }
  | _ => none }
def RelaxShorterWrongFalsely : Prop := relaxShorterRow.holds Try.pinned (OpenSpec.ofChange relaxShorterWrong)

/-- 'provenancekeep4.RelaxTargets': WHATEVER THE INPUT: true; the input reads as it did. -/
def relaxTargetsSpec : ChangeSpec := { name := "relaxTargets", fn := fun _ => fun
  | [d1, d2] => { results := [.lit (.bool true)], args := [d1, d2] }
  | _ => none }
def relaxTargetsRow : OpenClaim := { program := "ytmfmnbldngfelaa", sum := "42c314bb7361111fe14c53cf6d3bfbe7375e8b283ed7483ada3287a2ec401330", func := "provenance/provenancekeep4.RelaxTargets", spec := "relaxTargets", unfollowed := true, recurses := true, apart := false }
def RelaxTargetsSaid : Prop := relaxTargetsRow.holds Try.pinned (OpenSpec.ofChange relaxTargetsSpec)

/-- ITS FALSE NEIGHBOUR: 'it returns false'. Refute it at one input. -/
def relaxTargetsWrong : ChangeSpec := { name := "relaxTargets", fn := fun _ => fun
  | [d1, d2] => { results := [.lit (.bool false)], args := [d1, d2] }
  | _ => none }
def RelaxTargetsWrongFalsely : Prop := relaxTargetsRow.holds Try.pinned (OpenSpec.ofChange relaxTargetsWrong)

/-- 'provenancekeep4.LinkAgain': WHATEVER THE INPUT: true; the input reads as it did. -/
def linkAgainSpec : ChangeSpec := { name := "linkAgain", fn := fun _ => fun
  | [d] => { results := [.lit (.bool true)], args := [d] }
  | _ => none }
def linkAgainRow : OpenClaim := { program := "ytmfmnbldngfelaa", sum := "42c314bb7361111fe14c53cf6d3bfbe7375e8b283ed7483ada3287a2ec401330", func := "provenance/provenancekeep4.LinkAgain", spec := "linkAgain", unfollowed := true, recurses := true, apart := false }
def LinkAgainSaid : Prop := linkAgainRow.holds Try.pinned (OpenSpec.ofChange linkAgainSpec)

/-- ITS FALSE NEIGHBOUR: 'it returns false'. Refute it at one input. -/
def linkAgainWrong : ChangeSpec := { name := "linkAgain", fn := fun _ => fun
  | [d] => { results := [.lit (.bool false)], args := [d] }
  | _ => none }
def LinkAgainWrongFalsely : Prop := linkAgainRow.holds Try.pinned (OpenSpec.ofChange linkAgainWrong)

/-- 'provenancekeep4.LinkCalls': WHATEVER THE INPUT: true; the input reads as it did. -/
def linkCallsSpec : ChangeSpec := { name := "linkCalls", fn := fun _ => fun
  | [d1, d2] => { results := [.lit (.bool true)], args := [d1, d2] }
  | _ => none }
def linkCallsRow : OpenClaim := { program := "ytmfmnbldngfelaa", sum := "42c314bb7361111fe14c53cf6d3bfbe7375e8b283ed7483ada3287a2ec401330", func := "provenance/provenancekeep4.LinkCalls", spec := "linkCalls", unfollowed := true, recurses := true, apart := false }
def LinkCallsSaid : Prop := linkCallsRow.holds Try.pinned (OpenSpec.ofChange linkCallsSpec)

/-- ITS FALSE NEIGHBOUR: 'it returns false'. Refute it at one input. -/
def linkCallsWrong : ChangeSpec := { name := "linkCalls", fn := fun _ => fun
  | [d1, d2] => { results := [.lit (.bool false)], args := [d1, d2] }
  | _ => none }
def LinkCallsWrongFalsely : Prop := linkCallsRow.holds Try.pinned (OpenSpec.ofChange linkCallsWrong)

/- THE SECOND FORM. 'bulk': how many values and letters a reading holds, each counted each time it is reached (what is shared counts as often as it is met; a slice's spare places count too). A statement '..UptoSaid' is the law's where the arguments, and the package variables that the reading takes, are together of bulk at most 1048576: NARROWER than '..Said'. Prove '..Said' where nothing that the law and all that it calls make is longer than what came in: it says more and counts as full. Else prove '..UptoSaid'. A law counts once. -/
mutual
def uptoBulk {H : Type} : DataW H → Nat
  | .lit (.string bytes) => bytes.length + 1
  | .lit _ => 1
  | .nil => 1
  | .ptr d => uptoBulk d + 1
  | .slice elems spare => uptoBulkAll elems + uptoBulkAll spare + 1
  | .agg parts => uptoBulkAll parts + 1
  | .iface _ d => uptoBulk d + 1
  | .map entries => uptoBulkEntries entries + 1
  | .held _ => 1
def uptoBulkAll {H : Type} : List (DataW H) → Nat
  | [] => 0
  | d :: r => uptoBulk d + uptoBulkAll r
def uptoBulkEntries {H : Type} : List (Lit × DataW H) → Nat
  | [] => 0
  | x :: r => uptoBulkEntry x + uptoBulkEntries r
def uptoBulkEntry {H : Type} : Lit × DataW H → Nat
  | (.string bytes, d) => bytes.length + uptoBulk d + 1
  | (_, d) => uptoBulk d + 1
 end
def uptoSmall : (H : Type) → List (DataW H) → Bool := fun _ ds => decide (uptoBulkAll ds ≤ 1048576)
def OpenSpec.upto (s : _root_.Go.ChangeSpec) : _root_.Go.OpenSpec := { _root_.Go.OpenSpec.ofChange s with cond := some uptoSmall }

/-- 'provenancekeep4.HeapHeaders', WHERE WHAT IT READS IS OF BULK AT MOST 1048576: true; the input reads as it did. -/
def heapHeadersUptoRow : OpenClaim := { program := "ytmfmnbldngfelaa", sum := "42c314bb7361111fe14c53cf6d3bfbe7375e8b283ed7483ada3287a2ec401330", func := "provenance/provenancekeep4.HeapHeaders", spec := "heapHeaders", apart := false, narrowed := true }
def HeapHeadersUptoSaid : Prop := heapHeadersUptoRow.holds Try.pinned (OpenSpec.upto heapHeadersSpec)

/-- 'provenancekeep4.PredictSteady', WHERE WHAT IT READS IS OF BULK AT MOST 1048576: true; the input reads as it did. -/
def predictSteadyUptoRow : OpenClaim := { program := "ytmfmnbldngfelaa", sum := "42c314bb7361111fe14c53cf6d3bfbe7375e8b283ed7483ada3287a2ec401330", func := "provenance/provenancekeep4.PredictSteady", spec := "predictSteady", apart := false, narrowed := true }
def PredictSteadyUptoSaid : Prop := predictSteadyUptoRow.holds Try.pinned (OpenSpec.upto predictSteadySpec)

/-- 'provenancekeep4.PredictLoops', WHERE WHAT IT READS IS OF BULK AT MOST 1048576: true; the input reads as it did. -/
def predictLoopsUptoRow : OpenClaim := { program := "ytmfmnbldngfelaa", sum := "42c314bb7361111fe14c53cf6d3bfbe7375e8b283ed7483ada3287a2ec401330", func := "provenance/provenancekeep4.PredictLoops", spec := "predictLoops", apart := false, narrowed := true }
def PredictLoopsUptoSaid : Prop := predictLoopsUptoRow.holds Try.pinned (OpenSpec.upto predictLoopsSpec)

/-- 'provenancekeep4.InsnSizes', WHERE WHAT IT READS IS OF BULK AT MOST 1048576: true; the input reads as it did. -/
def insnSizesUptoRow : OpenClaim := { program := "ytmfmnbldngfelaa", sum := "42c314bb7361111fe14c53cf6d3bfbe7375e8b283ed7483ada3287a2ec401330", func := "provenance/provenancekeep4.InsnSizes", spec := "insnSizes", apart := false, narrowed := true }
def InsnSizesUptoSaid : Prop := insnSizesUptoRow.holds Try.pinned (OpenSpec.upto insnSizesSpec)

/-- 'provenancekeep4.InsnUnique', WHERE WHAT IT READS IS OF BULK AT MOST 1048576: true; the input reads as it did. -/
def insnUniqueUptoRow : OpenClaim := { program := "ytmfmnbldngfelaa", sum := "42c314bb7361111fe14c53cf6d3bfbe7375e8b283ed7483ada3287a2ec401330", func := "provenance/provenancekeep4.InsnUnique", spec := "insnUnique", apart := false, narrowed := true }
def InsnUniqueUptoSaid : Prop := insnUniqueUptoRow.holds Try.pinned (OpenSpec.upto insnUniqueSpec)

/-- 'provenancekeep4.InsnStream', WHERE WHAT IT READS IS OF BULK AT MOST 1048576: true; the input reads as it did. -/
def insnStreamUptoRow : OpenClaim := { program := "ytmfmnbldngfelaa", sum := "42c314bb7361111fe14c53cf6d3bfbe7375e8b283ed7483ada3287a2ec401330", func := "provenance/provenancekeep4.InsnStream", spec := "insnStream", unfollowed := true, recurses := true, apart := false, narrowed := true }
def InsnStreamUptoSaid : Prop := insnStreamUptoRow.holds Try.pinned (OpenSpec.upto insnStreamSpec)

/-- 'provenancekeep4.InsnBack', WHERE WHAT IT READS IS OF BULK AT MOST 1048576: true; the input reads as it did. -/
def insnBackUptoRow : OpenClaim := { program := "ytmfmnbldngfelaa", sum := "42c314bb7361111fe14c53cf6d3bfbe7375e8b283ed7483ada3287a2ec401330", func := "provenance/provenancekeep4.InsnBack", spec := "insnBack", apart := false, narrowed := true }
def InsnBackUptoSaid : Prop := insnBackUptoRow.holds Try.pinned (OpenSpec.upto insnBackSpec)

/-- 'provenancekeep4.RelaxShorter', WHERE WHAT IT READS IS OF BULK AT MOST 1048576: true; the input reads as it did. -/
def relaxShorterUptoRow : OpenClaim := { program := "ytmfmnbldngfelaa", sum := "42c314bb7361111fe14c53cf6d3bfbe7375e8b283ed7483ada3287a2ec401330", func := "provenance/provenancekeep4.RelaxShorter", spec := "relaxShorter", unfollowed := true, recurses := true, apart := false, narrowed := true }
def RelaxShorterUptoSaid : Prop := relaxShorterUptoRow.holds Try.pinned (OpenSpec.upto relaxShorterSpec)

/-- 'provenancekeep4.RelaxTargets', WHERE WHAT IT READS IS OF BULK AT MOST 1048576: true; the input reads as it did. -/
def relaxTargetsUptoRow : OpenClaim := { program := "ytmfmnbldngfelaa", sum := "42c314bb7361111fe14c53cf6d3bfbe7375e8b283ed7483ada3287a2ec401330", func := "provenance/provenancekeep4.RelaxTargets", spec := "relaxTargets", unfollowed := true, recurses := true, apart := false, narrowed := true }
def RelaxTargetsUptoSaid : Prop := relaxTargetsUptoRow.holds Try.pinned (OpenSpec.upto relaxTargetsSpec)

/-- 'provenancekeep4.LinkAgain', WHERE WHAT IT READS IS OF BULK AT MOST 1048576: true; the input reads as it did. -/
def linkAgainUptoRow : OpenClaim := { program := "ytmfmnbldngfelaa", sum := "42c314bb7361111fe14c53cf6d3bfbe7375e8b283ed7483ada3287a2ec401330", func := "provenance/provenancekeep4.LinkAgain", spec := "linkAgain", unfollowed := true, recurses := true, apart := false, narrowed := true }
def LinkAgainUptoSaid : Prop := linkAgainUptoRow.holds Try.pinned (OpenSpec.upto linkAgainSpec)

/-- 'provenancekeep4.LinkCalls', WHERE WHAT IT READS IS OF BULK AT MOST 1048576: true; the input reads as it did. -/
def linkCallsUptoRow : OpenClaim := { program := "ytmfmnbldngfelaa", sum := "42c314bb7361111fe14c53cf6d3bfbe7375e8b283ed7483ada3287a2ec401330", func := "provenance/provenancekeep4.LinkCalls", spec := "linkCalls", unfollowed := true, recurses := true, apart := false, narrowed := true }
def LinkCallsUptoSaid : Prop := linkCallsUptoRow.holds Try.pinned (OpenSpec.upto linkCallsSpec)

end Rows
end Go.Proofs.Ytmfmnbldngfelaa
