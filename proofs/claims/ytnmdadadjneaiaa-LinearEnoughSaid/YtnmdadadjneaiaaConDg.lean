/- color: the interference graph in memory. -/
import Derived.Test.YtnmdadadjneaiaaConDd
import Derived.Test.YtnmdadadjneaiaaDGen4
set_option linter.unusedVariables false
set_option linter.unusedSimpArgs false
namespace Go.Proofs.Ytnmdadadjneaiaa.D
open Go Go.Proofs.Ytnmdadadjneaiaa.Abs Go.Proofs
def edge (g : Nat → Nat → Bool) (a b : Nat) (v : Bool) : Nat → Nat → Bool := fun p q => if (p = a ∧ q = b) ∨ (p = b ∧ q = a) then v else g p q
end Go.Proofs.Ytnmdadadjneaiaa.D
/- color: liveness at the ends; an instruction's edges; marks. -/
set_option linter.unusedVariables false
set_option linter.unusedSimpArgs false
namespace Go.Proofs.Ytnmdadadjneaiaa.D
open Go Go.Proofs.Ytnmdadadjneaiaa.Abs Go.Proofs
def hdC (n : Nat) (q : Nat) : List AV := [hdr n q]
theorem ends_loop {h0 : Heap} {f : VF} {B : Nat} {qs : List Nat} {L : List (List Bool)} (R : f.R h0) (hr : 0 ≤ f.regs ∧ f.regs ≤ 8192) (hN : f.blocks.length ≤ 4096) (HB : BL h0 B qs L f.regs.toNat) (hB : ∀ q ∈ qs, q < h0.length) (hq : qs.length = f.blocks.length) (okx : ∀ x ∈ f.blocks, (∀ t ∈ x.e.to, 0 ≤ t ∧ t < (f.blocks.length : Int)) ∧ x.e.to.length ≤ 2) (Q : Kont (AV × Heap)) :
 ∀ (k j : Nat), j + k = f.blocks.length → ∀ (h : Heap) (s : SA) (es : List Nat), Old h0 h → es.length = j → GS h s j 1 (es.flatMap (hdC f.regs.toNat)) → (∀ b, inS s b → h0.length ≤ b) → (∀ e ∈ es, h0.length ≤ e ∧ ¬ inS s e) → es.Nodup →
  (∀ (i e : Nat) (x : VB), es[i]? = some e → f.blocks[i]? = some x → h[e]? = some (bits (afterL L (List.replicate f.regs.toNat false) x.e.to))) →
  ∃ h' s', ∃ es' : List Nat, L28x11 mk0 E f.nm f.sp f.params.length f.regs f.sb f.blocks.length (.pos ⟨B, 0, 0⟩) f.blocks.length s j ((f.blocks.length : Nat) : Int) ((j : Nat) : Int) h Q = Q (.exit 0) (S28xe0 (.pos ⟨B, 0, 0⟩) f.blocks.length s' f.blocks.length h') ∧
   Old h0 h' ∧ es'.length = f.blocks.length ∧ GS h' s' f.blocks.length 1 (es'.flatMap (hdC f.regs.toNat)) ∧ (∀ b, inS s' b → h0.length ≤ b) ∧ (∀ e ∈ es', h0.length ≤ e ∧ ¬ inS s' e) ∧ es'.Nodup ∧
   (∀ (i e : Nat) (x : VB), es'[i]? = some e → f.blocks[i]? = some x → h'[e]? = some (bits (afterL L (List.replicate f.regs.toNat false) x.e.to))) := by
 intro k
 induction k with
 | zero =>
  intro j hj h s es o hl G nw ne nd hc
  have : j = f.blocks.length := by omega
  subst this
  rw [L28x11xeq, letK_eq, if_neg (by simp)]
  exact ⟨h, s, es, rfl, o, hl, G, nw, ne, nd, hc⟩
 | succ k ih =>
  intro j hj h s es o hl G nw ne nd hc
  obtain ⟨x, hx⟩ := at_lt (l := f.blocks) (i := j) (by omega)
  obtain ⟨t1, t2⟩ := okx x (List.mem_of_getElem? hx)
  have hLl := HB.len
  obtain ⟨h1, a1, a2, a3, a4⟩ := after_ok (R.old o) hr hx (HB.old o) (fun q hm => by have := hB q hm; have := o.le; omega) (fun t ht => by have := t1 t ht; omega) (by omega)
  have G1 : GS h1 s j 1 (es.flatMap (hdC f.regs.toNat)) := gs_keep (s := .nil) G (fun b x hx _ => a2 b x hx) (fun b _ ⟨_, h, _⟩ => by cases h)
  have gl : ∀ b, inS s b → b < h.length := fun b hb => gs_lt G hb
  obtain ⟨s', h', G', k1, k2, k3⟩ : ∃ s' h', (∃ y, ldSl (h1 ++ [.cells [.sl (.pos ⟨h.length, 0, 0⟩) f.regs.toNat] (.grow 1) 0]) (.pos ⟨h1.length, 0, 0⟩) (1 * 1) = some y ∧ apnd (h1 ++ [.cells [.sl (.pos ⟨h.length, 0, 0⟩) f.regs.toNat] (.grow 1) 0]) (.sl s j) 1 24 y 1 = some (.sl s' (j + 1), h')) ∧ GS h' s' (j + 1) 1 ((es ++ [h.length]).flatMap (hdC f.regs.toNat)) ∧ Kp (inS s) h1 h' ∧ (∀ b, inS s' b → inS s b ∨ h1.length ≤ b) := by
   have fa : flatL (es.flatMap (hdC f.regs.toNat) ++ [.sl (.pos ⟨h.length, 0, 0⟩) f.regs.toNat]) = true := by
    have : es.flatMap (hdC f.regs.toNat) ++ [AV.sl (.pos ⟨h.length, 0, 0⟩) f.regs.toNat] = (es ++ [h.length]).flatMap (hdC f.regs.toNat) := by simp [hdC, hdr]
    rw [this]; exact rows_flat (fun _ => rfl) _
   obtain ⟨s', h', g1, g2, g3, g4, g5⟩ := apnd_GS (m := 1) (bytes := 24) (ys := [.sl (.pos ⟨h.length, 0, 0⟩) f.regs.toNat]) (gs_app G1 (l := [.cells [.sl (.pos ⟨h.length, 0, 0⟩) f.regs.toNat] (.grow 1) 0])) (by omega) (by omega) rfl rfl fa (by omega)
   refine ⟨s', h', ⟨_, ldSl_at (last_get _ _) rfl rfl, g1⟩, ?_, fun b x hx hn => g4 b x (app_old hx) hn, fun b hb => ?_⟩
   · have : (es ++ [h.length]).flatMap (hdC f.regs.toNat) = es.flatMap (hdC f.regs.toNat) ++ [AV.sl (.pos ⟨h.length, 0, 0⟩) f.regs.toNat] := by simp [hdC, hdr]
     rw [this]; exact g2
   · rcases g5 b hb with h | h
     · exact .inl h
     · rw [List.length_append] at h; exact .inr (by omega)
  obtain ⟨y, y1, y2⟩ := G'
  have le1 := a2.le
  have le0 := o.le
  have lt1 : h.length < h1.length := (List.getElem?_eq_some_iff.1 a3).1
  rw [hq] at a1
  unfold VF.cells at a1
  rw [L28x11xeq, letK_eq, if_pos (by simp; omega), a1, Option.bind_some, gL_of, newK_eq, y1, Option.bind_some, y2, Option.bind_some, gL_of, letK_eq, wrap64 (by omega) (by omega), show ((j : Int) + 1) = ((j + 1 : Nat) : Int) by omega]
  refine ih (j + 1) (by omega) h' s' (es ++ [h.length]) (k2.old (o.trans a2) fun q hq hi => by have := nw q hi; omega) (by simp [hl]) k1 (fun b hb => ?_) (fun e he => ?_) ?_ (fun i e z hi hz => ?_)
  · rcases k3 b hb with h | h
    · exact nw b h
    · omega
  · rcases List.mem_append.1 he with he | he
    · refine ⟨(ne e he).1, fun hi => ?_⟩
      rcases k3 e hi with h3 | h3
      · exact (ne e he).2 h3
      · obtain ⟨i, hi', e'⟩ := List.getElem_of_mem he
        obtain ⟨z, hz⟩ := at_lt (l := f.blocks) (i := i) (by omega)
        have := (List.getElem?_eq_some_iff.1 (hc i e z (by rw [List.getElem?_eq_getElem hi', e']) hz)).1
        omega
    · rw [List.mem_singleton] at he
      subst he
      refine ⟨le0, fun hi => ?_⟩
      rcases k3 _ hi with h3 | h3
      · have := gl _ h3; omega
      · omega
  · refine List.nodup_append.2 ⟨nd, by simp, fun a ha b hb => ?_⟩
    rw [List.mem_singleton] at hb
    subst hb
    obtain ⟨i, hi', e'⟩ := List.getElem_of_mem ha
    obtain ⟨z, hz⟩ := at_lt (l := f.blocks) (i := i) (by omega)
    have := (List.getElem?_eq_some_iff.1 (hc i a z (by rw [List.getElem?_eq_getElem hi', e']) hz)).1
    omega
  · by_cases hij : i < j
    · rw [List.getElem?_append_left (by omega)] at hi
      exact k2 _ _ (a2 _ _ (hc i e z hi hz)) (ne e (List.mem_of_getElem? hi)).2
    · have hl2 := (List.getElem?_eq_some_iff.1 hi).1
      have hij' : i = j := by simp [hl] at hl2; omega
      subst hij'
      rw [List.getElem?_append_right (by omega), hl, Nat.sub_self] at hi
      cases hi
      rw [hx] at hz; cases hz
      exact k2 _ _ a3 fun hs => by have := gl _ hs; omega
theorem liveB_ok {h : Heap} {f : VF} (R : f.R h) (B : f.B) (fo : f.ok) :
 ∃ h' B qs L s, ∃ es : List Nat, E 28 [.agg f.cells] h = some (.tup [.sl (.pos ⟨B, 0, 0⟩) f.blocks.length, .sl s f.blocks.length, .int .i64 0], h') ∧ Old h h' ∧ BL h' B qs L f.regs.toNat ∧ f.lfp L ∧ qs.length = f.blocks.length ∧ (h.length ≤ B ∧ ∀ q ∈ qs, h.length ≤ q) ∧
  es.length = f.blocks.length ∧ GS h' s f.blocks.length 1 (es.flatMap (hdC f.regs.toNat)) ∧ (∀ b, inS s b → h.length ≤ b) ∧ (∀ e ∈ es, h.length ≤ e ∧ ¬ inS s e ∧ e ≠ B ∧ e ∉ qs) ∧ es.Nodup ∧
   (∀ (i e : Nat) (x : VB), es[i]? = some e → f.blocks[i]? = some x → h'[e]? = some (bits (afterL L (List.replicate f.regs.toNat false) x.e.to))) := by
 have fr := fo.regs
 have okB := okB_of fr.1 fo.blk fo.sum
 have nb := fo.nb
 obtain ⟨h1, e, c1, c2, c3⟩ := check_ok R B
 have he := c3.2 fo
 subst he
 obtain ⟨h2, qs, L, l1, l2, l3, l4, l5, l6, l7⟩ := live_ok (R.old c2) ⟨by omega, fr.2⟩ okB (by omega)
 have LF : f.lfp L := ⟨⟨l5, fun i x hx => ⟨by rw [← l6 i x hx]; exact LeB.refl _, by
  have hi := (List.getElem?_eq_some_iff.1 hx).1
  have hl := l3.len
  obtain ⟨q, hq⟩ := at_lt (l := qs) (i := i) (by omega)
  obtain ⟨M, hM⟩ := at_lt (l := L) (i := i) (by omega)
  have := (l3.cell i q M hq hM).2
  simp only [List.getD, hM, Option.getD_some]
  exact this⟩⟩, l7⟩
 have hql : qs.length = f.blocks.length := by have := l3.len; omega
 have le1 := c2.le
 obtain ⟨h3, s, es, r1, r2, r3, r4, r5, r6, r7, r8⟩ := ends_loop ((R.old c2).old l2) ⟨by omega, fr.2⟩ nb l3 (fun q hm => (l4 q hm).2) hql (fun x hx => by
  obtain ⟨_, _, e3, _, _, e6⟩ := end_of (by omega) (fo.blk x hx).2
  refine ⟨fun t ht => by have := e6 t ht; omega, ?_⟩
  have : manyE x.e.kind ≤ 2 := by
   unfold manyE
   split
   · omega
   · split <;> omega
  omega) (Q28x11 mk0 E) f.blocks.length 0 (by omega) h2 .nil [] (Old.refl _) rfl ⟨rfl, rfl, .inl ⟨rfl, rfl⟩⟩ (fun b ⟨_, h, _⟩ => by cases h) (fun e he => by cases he) (by simp) (fun i e x hi => by simp at hi)
 rw [show (((0 : Nat) : Int)) = 0 from rfl] at r1
 have le2 := l2.le
 have Bl : h1.length < h2.length := (List.getElem?_eq_some_iff.1 l3.hd).1
 refine ⟨h3, h1.length, qs, L, s, es, ?_, (c2.trans l2).trans r2, l3.old r2, LF, hql, ⟨le1, fun q hm => by have := (l4 q hm).1; omega⟩, r3, r4, fun b hb => by have := r5 b hb; omega, fun e he => ⟨by have := (r6 e he).1; omega, (r6 e he).2, by have := (r6 e he).1; omega, fun hm => by have := (r6 e he).1; have := (l4 e hm).2; omega⟩, r7, r8⟩
 unfold VF.cells at *
 rw [e28, c1, Option.bind_some, gI_of, letK_eq, if_neg (by simp), l1, Option.bind_some, gL_of, r1, X28x11xe0]
end Go.Proofs.Ytnmdadadjneaiaa.D
/- color: the graph is built (its parts). -/
set_option linter.unusedVariables false
set_option linter.unusedSimpArgs false
namespace Go.Proofs.Ytnmdadadjneaiaa.D
open Go Go.Proofs.Ytnmdadadjneaiaa.Abs Go.Proofs
theorem vs_kp {α : Type} {f : α → List AV} {es n : Nat} {h h' : Heap} {s : SA} {l : List α} {S : Nat → Prop} (H : VS f es h s n l) (k : Kp S h h') (hs : ∀ b, inS s b → ¬ S b) : VS f es h' s n l := by
 obtain ⟨hl, H | ⟨b, v, o, c, m, rfl, hb, hc⟩⟩ := H
 · exact ⟨hl, .inl H⟩
 · exact ⟨hl, .inr ⟨b, v, o, c, m, rfl, k _ _ hb (hs b ⟨_, rfl, rfl⟩), hc⟩⟩
end Go.Proofs.Ytnmdadadjneaiaa.D
/- color.build: the instructions of a block. -/
set_option linter.unusedVariables false
set_option linter.unusedSimpArgs false
namespace Go.Proofs.Ytnmdadadjneaiaa.D
open Go Go.Proofs.Ytnmdadadjneaiaa.Abs Go.Proofs
end Go.Proofs.Ytnmdadadjneaiaa.D
/- color.build: one instruction. -/
set_option linter.unusedVariables false
set_option linter.unusedSimpArgs false
namespace Go.Proofs.Ytnmdadadjneaiaa.D
open Go Go.Proofs.Ytnmdadadjneaiaa.Abs Go.Proofs
end Go.Proofs.Ytnmdadadjneaiaa.D
/- color.build: the blocks. -/
set_option linter.unusedVariables false
set_option linter.unusedSimpArgs false
namespace Go.Proofs.Ytnmdadadjneaiaa.D
open Go Go.Proofs.Ytnmdadadjneaiaa.Abs Go.Proofs
end Go.Proofs.Ytnmdadadjneaiaa.D
/- color.build: all blocks. -/
set_option linter.unusedVariables false
set_option linter.unusedSimpArgs false
namespace Go.Proofs.Ytnmdadadjneaiaa.D
open Go Go.Proofs.Ytnmdadadjneaiaa.Abs Go.Proofs
end Go.Proofs.Ytnmdadadjneaiaa.D
/- color.build: the rows of the graph. -/
set_option linter.unusedVariables false
set_option linter.unusedSimpArgs false
namespace Go.Proofs.Ytnmdadadjneaiaa.D
open Go Go.Proofs.Ytnmdadadjneaiaa.Abs Go.Proofs
end Go.Proofs.Ytnmdadadjneaiaa.D
/- color.build: the parameters. -/
set_option linter.unusedVariables false
set_option linter.unusedSimpArgs false
namespace Go.Proofs.Ytnmdadadjneaiaa.D
open Go Go.Proofs.Ytnmdadadjneaiaa.Abs Go.Proofs
end Go.Proofs.Ytnmdadadjneaiaa.D
/- color.build. -/
set_option linter.unusedVariables false
set_option linter.unusedSimpArgs false
namespace Go.Proofs.Ytnmdadadjneaiaa.D
open Go Go.Proofs.Ytnmdadadjneaiaa.Abs Go.Proofs
theorem afterL_len {L : List (List Bool)} {n : Nat} : ∀ (to : List Int), (∀ t ∈ to, (L.getD t.toNat []).length = n) → ∀ l : List Bool, l.length = n → (afterL L l to).length = n := by
 intro to
 induction to with
 | nil => intro _ l hl; exact hl
 | cons t to ih =>
  intro h l hl
  show (afterL L (orL l (L.getD t.toNat [])) to).length = n
  have ht := h t (by simp)
  exact ih (fun u hu => h u (by simp [hu])) _ (by rw [orL_len (by omega), hl])
end Go.Proofs.Ytnmdadadjneaiaa.D
