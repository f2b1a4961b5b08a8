/- alloccheck: what places hold, in memory. -/
import Derived.Test.YtnmdadadjneaiaaConDb
import Derived.Test.YtnmdadadjneaiaaDGen2
set_option linter.unusedVariables false
set_option linter.unusedSimpArgs false
namespace Go.Proofs.Ytnmdadadjneaiaa.D
open Go Go.Proofs.Ytnmdadadjneaiaa.Abs Go.Proofs
def Kp (S : Nat → Prop) (h h' : Heap) : Prop := ∀ (q : Nat) (x : Blk), h[q]? = some x → ¬ S q → h'[q]? = some x
theorem Kp.trans {S : Nat → Prop} {h1 h2 h3 : Heap} (x : Kp S h1 h2) (y : Kp S h2 h3) : Kp S h1 h3 := fun q z hq hn => y q z (x q z hq hn) hn
theorem Kp.mono {S T : Nat → Prop} {h1 h2 : Heap} (x : Kp S h1 h2) (st : ∀ q, S q → T q) : Kp T h1 h2 := fun q z hq hn => x q z hq fun hs => hn (st q hs)
theorem Old.kp {h h' : Heap} (x : Old h h') (S : Nat → Prop) : Kp S h h' := fun q z hq _ => x q z hq
theorem Kp.refl (S : Nat → Prop) (h : Heap) : Kp S h h := fun q z hq _ => hq
theorem kp_set (S : Nat → Prop) (b : Nat) (h : Heap) (x : Blk) (hb : S b) : Kp S h (h.set b x) := fun q z hq hn => by
 rw [set_other (fun e => hn (by subst e; exact hb))]; exact hq
theorem Kp.old {S : Nat → Prop} {h0 h h' : Heap} (x : Kp S h h') (o : Old h0 h) (hs : ∀ q, q < h0.length → ¬ S q) : Old h0 h' := fun q z hq => x q z (o q z hq) (hs q (List.getElem?_eq_some_iff.1 hq).1)
structure Mt where
 B : Nat
 qs : List (Nat × Nat)
 L : List (List Bool)
end Go.Proofs.Ytnmdadadjneaiaa.D
/- alloccheck: new, copied and met matrices. -/
set_option linter.unusedVariables false
set_option linter.unusedSimpArgs false
namespace Go.Proofs.Ytnmdadadjneaiaa.D
open Go Go.Proofs.Ytnmdadadjneaiaa.Abs Go.Proofs
end Go.Proofs.Ytnmdadadjneaiaa.D
/- alloccheck: an instruction on a matrix. -/
set_option linter.unusedVariables false
set_option linter.unusedSimpArgs false
namespace Go.Proofs.Ytnmdadadjneaiaa.D
open Go Go.Proofs.Ytnmdadadjneaiaa.Abs Go.Proofs
def isCall (op : Int) : Bool := decide (op = 101) || decide (op = 102)
theorem calls_ok (op : Int) (h : Heap) : E 21 [.int .i64 op] h = some (.bool (isCall op), h) := by
 rw [e21]
 simp only [letK_eq, isCall]
 by_cases h1 : op = 101 <;> by_cases h2 : op = 102 <;> simp [h1, h2]
end Go.Proofs.Ytnmdadadjneaiaa.D
/- alloccheck: the instructions of a block on a matrix. -/
set_option linter.unusedVariables false
set_option linter.unusedSimpArgs false
namespace Go.Proofs.Ytnmdadadjneaiaa.D
open Go Go.Proofs.Ytnmdadadjneaiaa.Abs Go.Proofs
end Go.Proofs.Ytnmdadadjneaiaa.D
