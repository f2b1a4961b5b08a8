/- color: the interference graph in memory. -/
import Derived.Test.YtnmdadadjneaiaaConDd
import Derived.Test.YtnmdadadjneaiaaDGen4
set_option linter.unusedVariables false
set_option linter.unusedSimpArgs false
namespace Go.Proofs.Ytnmdadadjneaiaa.D
open Go Go.Proofs.Ytnmdadadjneaiaa.Abs Go.Proofs
structure Gr where
 G : Nat
 B : Nat
 v : Nat
 qs : List Nat
 S : Nat
 T : Nat
 sM : SA
 L : List (List Bool)
 sl : List Bool
 th : List Bool
 mv : List (Int × Int)
def mvC (x : Int × Int) : List AV := [.int .i64 x.1, .int .i64 x.2]
def Gr.cells (g : Gr) (n : Nat) : List AV := [.sl (.pos ⟨g.B, g.v, 0⟩) n, .sl (.pos ⟨g.S, 0, 0⟩) n, .sl (.pos ⟨g.T, 0, 0⟩) n, .sl g.sM g.mv.length]
def Gr.own (g : Gr) : List Nat := g.G :: g.S :: g.T :: g.B :: g.qs
def Gr.owns (g : Gr) (b : Nat) : Prop := b ∈ g.own ∨ inS g.sM b
structure GM (h : Heap) (g : Gr) (n : Nat) : Prop where
 hd : h[g.G]? = some (.cells (g.cells n) .fix 0)
 rw : h[g.B]? = some (.cells (g.qs.map (hdr n)) (.grow 1) g.v)
 lq : g.qs.length = n
 ll : g.L.length = n
 cell : ∀ (j q : Nat) (M : List Bool), g.qs[j]? = some q → g.L[j]? = some M → h[q]? = some (bits M) ∧ M.length = n
 s : h[g.S]? = some (bits g.sl) ∧ g.sl.length = n
 t : h[g.T]? = some (bits g.th) ∧ g.th.length = n
 m : GS h g.sM g.mv.length 2 (g.mv.flatMap mvC)
 nd : g.own.Nodup
 nm : ∀ b ∈ g.own, ¬ inS g.sM b
theorem GM.kp {S : Nat → Prop} {h h' : Heap} {g : Gr} {n : Nat} (H : GM h g n) (k : Kp S h h') (hs : ∀ b, g.owns b → ¬ S b) : GM h' g n := by
 have o : ∀ b ∈ g.own, ¬ S b := fun b hb => hs b (.inl hb)
 refine ⟨k _ _ H.hd (o _ (by simp [Gr.own])), k _ _ H.rw (o _ (by simp [Gr.own])), H.lq, H.ll, fun j q M hq hM => ⟨k _ _ (H.cell j q M hq hM).1 (o _ ?_), (H.cell j q M hq hM).2⟩, ⟨k _ _ H.s.1 (o _ (by simp [Gr.own])), H.s.2⟩, ⟨k _ _ H.t.1 (o _ (by simp [Gr.own])), H.t.2⟩, ?_, H.nd, H.nm⟩
 · unfold Gr.own
   exact .tail _ (.tail _ (.tail _ (.tail _ (List.mem_of_getElem? hq))))
 · obtain ⟨h1, h2, h3⟩ := H.m
   refine ⟨h1, h2, ?_⟩
   rcases h3 with h3 | ⟨b, w, e, hb⟩
   · exact .inl h3
   · exact .inr ⟨b, w, e, k _ _ hb (hs b (.inr ⟨_, e, rfl⟩))⟩
theorem GM.old {h h' : Heap} {g : Gr} {n : Nat} (H : GM h g n) (k : Old h h') : GM h' g n := H.kp (k.kp fun _ => False) fun _ _ h => h
theorem GM.lt {h : Heap} {g : Gr} {n : Nat} (H : GM h g n) : ∀ b, g.owns b → b < h.length := by
 rintro b (hb | hb)
 · unfold Gr.own at hb
   rcases List.mem_cons.1 hb with rfl | hb
   · exact (List.getElem?_eq_some_iff.1 H.hd).1
   rcases List.mem_cons.1 hb with rfl | hb
   · exact (List.getElem?_eq_some_iff.1 H.s.1).1
   rcases List.mem_cons.1 hb with rfl | hb
   · exact (List.getElem?_eq_some_iff.1 H.t.1).1
   rcases List.mem_cons.1 hb with rfl | hb
   · exact (List.getElem?_eq_some_iff.1 H.rw).1
   · obtain ⟨j, hj, he⟩ := List.getElem_of_mem hb
     have h1 := H.lq
     have h2 := H.ll
     obtain ⟨M, hM⟩ := at_lt (l := g.L) (i := j) (by omega)
     exact (List.getElem?_eq_some_iff.1 (H.cell j b M (by rw [List.getElem?_eq_getElem hj, he]) hM).1).1
 · exact gs_lt H.m hb
theorem GM.row {h : Heap} {g : Gr} {n : Nat} (H : GM h g n) {j : Nat} (hj : j < n) : ∃ q M, g.qs[j]? = some q ∧ g.L[j]? = some M ∧ h[q]? = some (bits M) ∧ M.length = n ∧ ld1 h ⟨g.B, g.v, 0 + j * 1⟩ = some (.sl (.pos ⟨q, 0, 0⟩) n) ∧ q ∈ g.own := by
 have h1 := H.lq
 have h2 := H.ll
 obtain ⟨q, hq⟩ := at_lt (l := g.qs) (i := j) (by omega)
 obtain ⟨M, hM⟩ := at_lt (l := g.L) (i := j) (by omega)
 obtain ⟨c1, c2⟩ := H.cell j q M hq hM
 refine ⟨q, M, hq, hM, c1, c2, ld1_at H.rw (by rw [Nat.zero_add, Nat.mul_one, List.getElem?_map, hq]; rfl) rfl, ?_⟩
 unfold Gr.own
 exact .tail _ (.tail _ (.tail _ (.tail _ (List.mem_of_getElem? hq))))
theorem GM.ld {h : Heap} {g : Gr} {n : Nat} (H : GM h g n) (k : Nat) (x : AV) (hx : (g.cells n)[k]? = some x) (hf : flatA x = true) : ld1 h ⟨g.G, 0, 0 + k⟩ = some x :=
 ld1_at H.hd (by rw [Nat.zero_add]; exact hx) hf
theorem nd_get {l : List Nat} (hn : l.Nodup) {i j q : Nat} (hi : l[i]? = some q) (hj : l[j]? = some q) : i = j := by
 have h1 := List.getElem?_eq_some_iff.1 hi
 have h2 := List.getElem?_eq_some_iff.1 hj
 exact (List.getElem_inj (h₀ := h1.1) (h₁ := h2.1) hn).1 (by rw [h1.2, h2.2])
theorem GM.setbit {h : Heap} {g : Gr} {n : Nat} (H : GM h g n) {j q : Nat} {M : List Bool} (hq : g.qs[j]? = some q) (hM : g.L[j]? = some M) {r : Nat} (hr : r < n) (b : Bool) :
 ∃ h', st1 h ⟨q, 0, 0 + r * 1⟩ (.bool b) = some h' ∧ h'.length = h.length ∧ Kp (· = q) h h' ∧ GM h' { g with L := g.L.set j (M.set r b) } n := by
 obtain ⟨c1, c2⟩ := H.cell j q M hq hM
 have hqm := List.mem_of_getElem? hq
 have nd := H.nd
 unfold Gr.own at nd
 obtain ⟨n1, nd⟩ := List.nodup_cons.1 nd
 obtain ⟨n2, nd⟩ := List.nodup_cons.1 nd
 obtain ⟨n3, nd⟩ := List.nodup_cons.1 nd
 obtain ⟨n4, nd⟩ := List.nodup_cons.1 nd
 have e1 : q ≠ g.G := fun e => n1 (by rw [← e]; simp [hqm])
 have e2 : q ≠ g.S := fun e => n2 (by rw [← e]; simp [hqm])
 have e3 : q ≠ g.T := fun e => n3 (by rw [← e]; simp [hqm])
 have e4 : q ≠ g.B := fun e => n4 (by rw [← e]; exact hqm)
 have em : ¬ inS g.sM q := H.nm q (by unfold Gr.own; simp [hqm])
 have kp := kp_set (· = q) q h (bits (M.set r b)) rfl
 refine ⟨_, bits_set c1 r (by omega) b, by simp, kp, ⟨kp _ _ H.hd fun e => e1 e.symm, kp _ _ H.rw fun e => e4 e.symm, H.lq, by simp [H.ll], fun i q' M' hq' hM' => ?_, ⟨kp _ _ H.s.1 fun e => e2 e.symm, H.s.2⟩, ⟨kp _ _ H.t.1 fun e => e3 e.symm, H.t.2⟩, ?_, H.nd, H.nm⟩⟩
 · have hj := (List.getElem?_eq_some_iff.1 hM).1
   simp only at hq' hM'
   by_cases e : i = j
   · subst e
     rw [hq] at hq'; cases hq'
     rw [List.getElem?_set, if_pos rfl, if_pos hj] at hM'
     cases hM'
     exact ⟨set_same c1, by rw [List.length_set]; exact c2⟩
   · rw [List.getElem?_set, if_neg (fun x => e x.symm)] at hM'
     obtain ⟨d1, d2⟩ := H.cell i q' M' hq' hM'
     exact ⟨kp _ _ d1 fun ee => e (nd_get nd (by rw [hq', ee]) hq), d2⟩
 · obtain ⟨h1, h2, h3⟩ := H.m
   refine ⟨h1, h2, ?_⟩
   rcases h3 with h3 | ⟨b', w, e, hb⟩
   · exact .inl h3
   · exact .inr ⟨b', w, e, kp _ _ hb fun ee => em ⟨_, e, ee⟩⟩
theorem GM.setS {h : Heap} {g : Gr} {n : Nat} (H : GM h g n) {r : Nat} (hr : r < n) (b : Bool) :
 ∃ h', st1 h ⟨g.S, 0, 0 + r * 1⟩ (.bool b) = some h' ∧ h'.length = h.length ∧ Kp (· = g.S) h h' ∧ GM h' { g with sl := g.sl.set r b } n := by
 have nd := H.nd
 unfold Gr.own at nd
 obtain ⟨n1, nd⟩ := List.nodup_cons.1 nd
 obtain ⟨n2, nd⟩ := List.nodup_cons.1 nd
 have e1 : g.G ≠ g.S := fun e => n1 (by rw [e]; simp)
 have em : ¬ inS g.sM g.S := H.nm _ (by unfold Gr.own; simp)
 have kp := kp_set (· = g.S) g.S h (bits (g.sl.set r b)) rfl
 refine ⟨_, bits_set H.s.1 r (by rw [H.s.2]; exact hr) b, by simp, kp, ⟨kp _ _ H.hd e1, kp _ _ H.rw fun e => n2 (by rw [← e]; simp), H.lq, H.ll, fun i q' M' hq' hM' => ?_, ⟨set_same H.s.1, by rw [List.length_set]; exact H.s.2⟩, ⟨kp _ _ H.t.1 fun e => n2 (by rw [← e]; simp), H.t.2⟩, ?_, H.nd, H.nm⟩⟩
 · obtain ⟨d1, d2⟩ := H.cell i q' M' hq' hM'
   exact ⟨kp _ _ d1 fun ee => n2 (by rw [← ee]; simp [List.mem_of_getElem? hq']), d2⟩
 · obtain ⟨h1, h2, h3⟩ := H.m
   refine ⟨h1, h2, ?_⟩
   rcases h3 with h3 | ⟨b', w, e, hb⟩
   · exact .inl h3
   · exact .inr ⟨b', w, e, kp _ _ hb fun ee => em ⟨_, e, ee⟩⟩
theorem GM.setT {h : Heap} {g : Gr} {n : Nat} (H : GM h g n) {r : Nat} (hr : r < n) (b : Bool) :
 ∃ h', st1 h ⟨g.T, 0, 0 + r * 1⟩ (.bool b) = some h' ∧ h'.length = h.length ∧ Kp (· = g.T) h h' ∧ GM h' { g with th := g.th.set r b } n := by
 have nd := H.nd
 unfold Gr.own at nd
 obtain ⟨n1, nd⟩ := List.nodup_cons.1 nd
 obtain ⟨n2, nd⟩ := List.nodup_cons.1 nd
 obtain ⟨n3, nd⟩ := List.nodup_cons.1 nd
 have e1 : g.G ≠ g.T := fun e => n1 (by rw [e]; simp)
 have em : ¬ inS g.sM g.T := H.nm _ (by unfold Gr.own; simp)
 have kp := kp_set (· = g.T) g.T h (bits (g.th.set r b)) rfl
 refine ⟨_, bits_set H.t.1 r (by rw [H.t.2]; exact hr) b, by simp, kp, ⟨kp _ _ H.hd e1, kp _ _ H.rw fun e => n3 (by rw [← e]; simp), H.lq, H.ll, fun i q' M' hq' hM' => ?_, ⟨kp _ _ H.s.1 fun e => n2 (by rw [e]; simp), H.s.2⟩, ⟨set_same H.t.1, by rw [List.length_set]; exact H.t.2⟩, ?_, H.nd, H.nm⟩⟩
 · obtain ⟨d1, d2⟩ := H.cell i q' M' hq' hM'
   exact ⟨kp _ _ d1 fun ee => n3 (by rw [← ee]; simp [List.mem_of_getElem? hq']), d2⟩
 · obtain ⟨h1, h2, h3⟩ := H.m
   refine ⟨h1, h2, ?_⟩
   rcases h3 with h3 | ⟨b', w, e, hb⟩
   · exact .inl h3
   · exact .inr ⟨b', w, e, kp _ _ hb fun ee => em ⟨_, e, ee⟩⟩
def edge (g : Nat → Nat → Bool) (a b : Nat) (v : Bool) : Nat → Nat → Bool := fun p q => if (p = a ∧ q = b) ∨ (p = b ∧ q = a) then v else g p q
def addE (g : Nat → Nat → Bool) (a b : Nat) : Nat → Nat → Bool := if a ≠ b ∧ a ≠ 0 ∧ b ≠ 0 then edge g a b true else g
theorem GM.edge {h : Heap} {g : Gr} {n : Nat} (H : GM h g n) {a b : Nat} (ha : a < n) (hb : b < n) (hne : a ≠ b) (v : Bool) {q1 q2 : Nat} (h1 : g.qs[a]? = some q1) (h2 : g.qs[b]? = some q2) :
 ∃ h' h'' L', st1 h ⟨q1, 0, 0 + b * 1⟩ (.bool v) = some h' ∧ st1 h' ⟨q2, 0, 0 + a * 1⟩ (.bool v) = some h'' ∧ h''.length = h.length ∧ Kp (· ∈ g.own) h h'' ∧ GM h'' { g with L := L' } n ∧ gg L' = Go.Proofs.Ytnmdadadjneaiaa.D.edge (gg g.L) a b v := by
 have hll := H.ll
 obtain ⟨M1, hM1⟩ := at_lt (l := g.L) (i := a) (by omega)
 obtain ⟨h', s1, s2, s3, s4⟩ := H.setbit h1 hM1 (r := b) hb v
 have hM2 : ∃ M2, (g.L.set a (M1.set b v))[b]? = some M2 := at_lt (by rw [List.length_set]; omega)
 obtain ⟨M2, hM2⟩ := hM2
 obtain ⟨h'', t1, t2, t3, t4⟩ := s4.setbit h2 hM2 (r := a) ha v
 have m1 := (H.cell a q1 M1 h1 hM1).2
 have m2 := (s4.cell b q2 M2 h2 hM2).2
 refine ⟨h', h'', _, s1, t1, by omega, ?_, t4, ?_⟩
 · refine (s3.mono fun z hz => ?_).trans (t3.mono fun z hz => ?_)
   · rw [hz]; unfold Gr.own; simp [List.mem_of_getElem? h1]
   · rw [hz]; unfold Gr.own; simp [List.mem_of_getElem? h2]
 · funext p q
   unfold Go.Proofs.Ytnmdadadjneaiaa.D.edge
   rw [gg_set hM2 (by omega), gg_set hM1 (by omega)]
   by_cases e1 : p = b ∧ q = a
   · rw [if_pos e1, if_pos (.inr e1)]
   · rw [if_neg e1]
     by_cases e2 : p = a ∧ q = b
     · rw [if_pos e2, if_pos (.inl e2)]
     · rw [if_neg e2, if_neg (by rintro (e | e); exact e2 e; exact e1 e)]
theorem add_ok {h : Heap} {g : Gr} {n : Nat} (H : GM h g n) {a b : Nat} (ha : a < n) (hb : b < n) :
 ∃ h' L', E 79 [.ptr (some ⟨g.G, 0, 0⟩), .int .i64 a, .int .i64 b] h = some (.tup [], h') ∧ h'.length = h.length ∧ Kp (· ∈ g.own) h h' ∧ GM h' { g with L := L' } n ∧ gg L' = addE (gg g.L) a b := by
 rw [e79, letK_eq, letK_eq, letK_eq, letK_eq, letK_eq]
 unfold addE
 by_cases hc : a ≠ b ∧ a ≠ 0 ∧ b ≠ 0
 · obtain ⟨q1, M1, r1, r2, r3, r4, r5, r6⟩ := H.row ha
   obtain ⟨q2, M2, s1, s2, s3, s4, s5, s6⟩ := H.row hb
   obtain ⟨h', h'', L', t1, t2, t3, t4, t5, t6⟩ := H.edge ha hb hc.1 true r1 s1
   have rd := H.ld 0 (.sl (.pos ⟨g.B, g.v, 0⟩) n) rfl rfl
   rw [if_pos hc, if_pos (by
    have e1 : ¬ ((a : Nat) : Int) = ((b : Nat) : Int) := by have := hc.1; omega
    simp [e1, hc.2.1, hc.2.2]), atP_of, add_mk, rd, gL_of, chk_of (by intro _; omega), adP_pos, atP_of, Int.toNat_natCast, add_mk, r5, gL_of, atP_of, add_mk, rd, gL_of, chk_of (by intro _; omega), adP_pos, atP_of, Int.toNat_natCast, add_mk, s5, gL_of, chk_of (by intro _; omega), adP_pos, atP_of, add_mk, t1, Option.bind_some, chk_of (by intro _; omega), adP_pos, atP_of, add_mk, t2, Option.bind_some, J79x2xeq]
   exact ⟨h'', L', rfl, t3, t4, t5, t6⟩
 · rw [if_neg hc, if_neg (by
    by_cases e1 : a = b
    · simp [e1]
    by_cases e2 : a = 0
    · simp [e2]
    · have e3 : b = 0 := by omega
      simp [e3]), J79x2xeq]
   exact ⟨h, g.L, rfl, rfl, Kp.refl _ _, H, rfl⟩
end Go.Proofs.Ytnmdadadjneaiaa.D
/- color: liveness at the ends; an instruction's edges; marks. -/
set_option linter.unusedVariables false
set_option linter.unusedSimpArgs false
namespace Go.Proofs.Ytnmdadadjneaiaa.D
open Go Go.Proofs.Ytnmdadadjneaiaa.Abs Go.Proofs
def hdC (n : Nat) (q : Nat) : List AV := [hdr n q]
theorem ends_loop {h0 : Heap} {f : VF} {B : Nat} {qs : List Nat} {L : List (List Bool)} (R : f.R h0) (hr : 0 ≤ f.regs ∧ f.regs ≤ 8192) (hN : f.blocks.length ≤ 4096) (HB : BL h0 B qs L f.regs.toNat) (hB : ∀ q ∈ qs, q < h0.length) (hq : qs.length = f.blocks.length) (okx : ∀ x ∈ f.blocks, (∀ t ∈ x.e.to, 0 ≤ t ∧ t < (f.blocks.length : Int)) ∧ x.e.to.length ≤ 2) (Q : Kont (AV × Heap)) :
 ∀ (k j : Nat), j + k = f.blocks.length → ∀ (h : Heap) (s : SA) (es : List Nat), Old h0 h → es.length = j → GS h s j 1 (es.flatMap (hdC f.regs.toNat)) → (∀ b, inS s b → h0.length ≤ b) → (∀ e ∈ es, h0.length ≤ e ∧ ¬ inS s e) → es.Nodup →
  (∀ (i e : Nat) (x : VB), es[i]? = some e → f.blocks[i]? = some x → h[e]? = some (bits (afterL L (List.replicate f.regs.toNat false) x.e.to))) →
  ∃ h' s', ∃ es' : List Nat, L28x11 mk0 E f.nm f.sp f.params.length f.regs f.sb f.blocks.length (.pos ⟨B, 0, 0⟩) f.blocks.length s j ((f.blocks.length : Nat) : Int) ((j : Nat) : Int) h Q = Q (.exit 0) (S28xe0 (.pos ⟨B, 0, 0⟩) f.blocks.length s' f.blocks.length h') ∧
   Old h0 h' ∧ es'.length = f.blocks.length ∧ GS h' s' f.blocks.length 1 (es'.flatMap (hdC f.regs.toNat)) ∧ (∀ b, inS s' b → h0.length ≤ b) ∧ (∀ e ∈ es', h0.length ≤ e ∧ ¬ inS s' e) ∧ es'.Nodup ∧
   (∀ (i e : Nat) (x : VB), es'[i]? = some e → f.blocks[i]? = some x → h'[e]? = some (bits (afterL L (List.replicate f.regs.toNat false) x.e.to))) := by
 intro k
 induction k with
 | zero =>
  intro j hj h s es o hl G nw ne nd hc
  have : j = f.blocks.length := by omega
  subst this
  rw [L28x11xeq, letK_eq, if_neg (by simp)]
  exact ⟨h, s, es, rfl, o, hl, G, nw, ne, nd, hc⟩
 | succ k ih =>
  intro j hj h s es o hl G nw ne nd hc
  obtain ⟨x, hx⟩ := at_lt (l := f.blocks) (i := j) (by omega)
  obtain ⟨t1, t2⟩ := okx x (List.mem_of_getElem? hx)
  have hLl := HB.len
  obtain ⟨h1, a1, a2, a3, a4⟩ := after_ok (R.old o) hr hx (HB.old o) (fun q hm => by have := hB q hm; have := o.le; omega) (fun t ht => by have := t1 t ht; omega) (by omega)
  have G1 : GS h1 s j 1 (es.flatMap (hdC f.regs.toNat)) := gs_keep (s := .nil) G (fun b x hx _ => a2 b x hx) (fun b _ ⟨_, h, _⟩ => by cases h)
  have gl : ∀ b, inS s b → b < h.length := fun b hb => gs_lt G hb
  obtain ⟨s', h', G', k1, k2, k3⟩ : ∃ s' h', (∃ y, ldSl (h1 ++ [.cells [.sl (.pos ⟨h.length, 0, 0⟩) f.regs.toNat] (.grow 1) 0]) (.pos ⟨h1.length, 0, 0⟩) (1 * 1) = some y ∧ apnd (h1 ++ [.cells [.sl (.pos ⟨h.length, 0, 0⟩) f.regs.toNat] (.grow 1) 0]) (.sl s j) 1 24 y 1 = some (.sl s' (j + 1), h')) ∧ GS h' s' (j + 1) 1 ((es ++ [h.length]).flatMap (hdC f.regs.toNat)) ∧ Kp (inS s) h1 h' ∧ (∀ b, inS s' b → inS s b ∨ h1.length ≤ b) := by
   have fa : flatL (es.flatMap (hdC f.regs.toNat) ++ [.sl (.pos ⟨h.length, 0, 0⟩) f.regs.toNat]) = true := by
    have : es.flatMap (hdC f.regs.toNat) ++ [AV.sl (.pos ⟨h.length, 0, 0⟩) f.regs.toNat] = (es ++ [h.length]).flatMap (hdC f.regs.toNat) := by simp [hdC, hdr]
    rw [this]; exact rows_flat (fun _ => rfl) _
   obtain ⟨s', h', g1, g2, g3, g4, g5⟩ := apnd_GS (m := 1) (bytes := 24) (ys := [.sl (.pos ⟨h.length, 0, 0⟩) f.regs.toNat]) (gs_app G1 (l := [.cells [.sl (.pos ⟨h.length, 0, 0⟩) f.regs.toNat] (.grow 1) 0])) (by omega) (by omega) rfl rfl fa (by omega)
   refine ⟨s', h', ⟨_, ldSl_at (last_get _ _) rfl rfl, g1⟩, ?_, fun b x hx hn => g4 b x (app_old hx) hn, fun b hb => ?_⟩
   · have : (es ++ [h.length]).flatMap (hdC f.regs.toNat) = es.flatMap (hdC f.regs.toNat) ++ [AV.sl (.pos ⟨h.length, 0, 0⟩) f.regs.toNat] := by simp [hdC, hdr]
     rw [this]; exact g2
   · rcases g5 b hb with h | h
     · exact .inl h
     · rw [List.length_append] at h; exact .inr (by omega)
  obtain ⟨y, y1, y2⟩ := G'
  have le1 := a2.le
  have le0 := o.le
  have lt1 : h.length < h1.length := (List.getElem?_eq_some_iff.1 a3).1
  rw [hq] at a1
  unfold VF.cells at a1
  rw [L28x11xeq, letK_eq, if_pos (by simp; omega), a1, Option.bind_some, gL_of, newK_eq, y1, Option.bind_some, y2, Option.bind_some, gL_of, letK_eq, wrap64 (by omega) (by omega), show ((j : Int) + 1) = ((j + 1 : Nat) : Int) by omega]
  refine ih (j + 1) (by omega) h' s' (es ++ [h.length]) (k2.old (o.trans a2) fun q hq hi => by have := nw q hi; omega) (by simp [hl]) k1 (fun b hb => ?_) (fun e he => ?_) ?_ (fun i e z hi hz => ?_)
  · rcases k3 b hb with h | h
    · exact nw b h
    · omega
  · rcases List.mem_append.1 he with he | he
    · refine ⟨(ne e he).1, fun hi => ?_⟩
      rcases k3 e hi with h3 | h3
      · exact (ne e he).2 h3
      · obtain ⟨i, hi', e'⟩ := List.getElem_of_mem he
        obtain ⟨z, hz⟩ := at_lt (l := f.blocks) (i := i) (by omega)
        have := (List.getElem?_eq_some_iff.1 (hc i e z (by rw [List.getElem?_eq_getElem hi', e']) hz)).1
        omega
    · rw [List.mem_singleton] at he
      subst he
      refine ⟨le0, fun hi => ?_⟩
      rcases k3 _ hi with h3 | h3
      · have := gl _ h3; omega
      · omega
  · refine List.nodup_append.2 ⟨nd, by simp, fun a ha b hb => ?_⟩
    rw [List.mem_singleton] at hb
    subst hb
    obtain ⟨i, hi', e'⟩ := List.getElem_of_mem ha
    obtain ⟨z, hz⟩ := at_lt (l := f.blocks) (i := i) (by omega)
    have := (List.getElem?_eq_some_iff.1 (hc i a z (by rw [List.getElem?_eq_getElem hi', e']) hz)).1
    omega
  · by_cases hij : i < j
    · rw [List.getElem?_append_left (by omega)] at hi
      exact k2 _ _ (a2 _ _ (hc i e z hi hz)) (ne e (List.mem_of_getElem? hi)).2
    · have hl2 := (List.getElem?_eq_some_iff.1 hi).1
      have hij' : i = j := by simp [hl] at hl2; omega
      subst hij'
      rw [List.getElem?_append_right (by omega), hl, Nat.sub_self] at hi
      cases hi
      rw [hx] at hz; cases hz
      exact k2 _ _ a3 fun hs => by have := gl _ hs; omega
theorem liveB_ok {h : Heap} {f : VF} (R : f.R h) (B : f.B) (fo : f.ok) :
 ∃ h' B qs L s, ∃ es : List Nat, E 28 [.agg f.cells] h = some (.tup [.sl (.pos ⟨B, 0, 0⟩) f.blocks.length, .sl s f.blocks.length, .int .i64 0], h') ∧ Old h h' ∧ BL h' B qs L f.regs.toNat ∧ f.lfp L ∧ qs.length = f.blocks.length ∧ (h.length ≤ B ∧ ∀ q ∈ qs, h.length ≤ q) ∧
  es.length = f.blocks.length ∧ GS h' s f.blocks.length 1 (es.flatMap (hdC f.regs.toNat)) ∧ (∀ b, inS s b → h.length ≤ b) ∧ (∀ e ∈ es, h.length ≤ e ∧ ¬ inS s e ∧ e ≠ B ∧ e ∉ qs) ∧ es.Nodup ∧
   (∀ (i e : Nat) (x : VB), es[i]? = some e → f.blocks[i]? = some x → h'[e]? = some (bits (afterL L (List.replicate f.regs.toNat false) x.e.to))) := by
 have fr := fo.regs
 have okB := okB_of fr.1 fo.blk fo.sum
 have nb := fo.nb
 obtain ⟨h1, e, c1, c2, c3⟩ := check_ok R B
 have he := c3.2 fo
 subst he
 obtain ⟨h2, qs, L, l1, l2, l3, l4, l5, l6, l7⟩ := live_ok (R.old c2) ⟨by omega, fr.2⟩ okB (by omega)
 have LF : f.lfp L := ⟨⟨l5, fun i x hx => ⟨by rw [← l6 i x hx]; exact LeB.refl _, by
  have hi := (List.getElem?_eq_some_iff.1 hx).1
  have hl := l3.len
  obtain ⟨q, hq⟩ := at_lt (l := qs) (i := i) (by omega)
  obtain ⟨M, hM⟩ := at_lt (l := L) (i := i) (by omega)
  have := (l3.cell i q M hq hM).2
  simp only [List.getD, hM, Option.getD_some]
  exact this⟩⟩, l7⟩
 have hql : qs.length = f.blocks.length := by have := l3.len; omega
 have le1 := c2.le
 obtain ⟨h3, s, es, r1, r2, r3, r4, r5, r6, r7, r8⟩ := ends_loop ((R.old c2).old l2) ⟨by omega, fr.2⟩ nb l3 (fun q hm => (l4 q hm).2) hql (fun x hx => by
  obtain ⟨_, _, e3, _, _, e6⟩ := end_of (by omega) (fo.blk x hx).2
  refine ⟨fun t ht => by have := e6 t ht; omega, ?_⟩
  have : manyE x.e.kind ≤ 2 := by
   unfold manyE
   split
   · omega
   · split <;> omega
  omega) (Q28x11 mk0 E) f.blocks.length 0 (by omega) h2 .nil [] (Old.refl _) rfl ⟨rfl, rfl, .inl ⟨rfl, rfl⟩⟩ (fun b ⟨_, h, _⟩ => by cases h) (fun e he => by cases he) (by simp) (fun i e x hi => by simp at hi)
 rw [show (((0 : Nat) : Int)) = 0 from rfl] at r1
 have le2 := l2.le
 have Bl : h1.length < h2.length := (List.getElem?_eq_some_iff.1 l3.hd).1
 refine ⟨h3, h1.length, qs, L, s, es, ?_, (c2.trans l2).trans r2, l3.old r2, LF, hql, ⟨le1, fun q hm => by have := (l4 q hm).1; omega⟩, r3, r4, fun b hb => by have := r5 b hb; omega, fun e he => ⟨by have := (r6 e he).1; omega, (r6 e he).2, by have := (r6 e he).1; omega, fun hm => by have := (r6 e he).1; have := (l4 e hm).2; omega⟩, r7, r8⟩
 unfold VF.cells at *
 rw [e28, c1, Option.bind_some, gI_of, letK_eq, if_neg (by simp), l1, Option.bind_some, gL_of, r1, X28x11xe0]
def newE (l : List Bool) (d : Nat) (ex : Int) (j : Nat) (p q : Nat) : Prop := ∃ r, j ≤ r ∧ l[r]? = some true ∧ ((r : Nat) : Int) ≠ ex ∧ d ≠ r ∧ d ≠ 0 ∧ r ≠ 0 ∧ ((p = d ∧ q = r) ∨ (p = r ∧ q = d))
theorem addE_iff (g : Nat → Nat → Bool) (a b p q : Nat) : addE g a b p q = true ↔ g p q = true ∨ (a ≠ b ∧ a ≠ 0 ∧ b ≠ 0 ∧ ((p = a ∧ q = b) ∨ (p = b ∧ q = a))) := by
 unfold addE edge
 by_cases hc : a ≠ b ∧ a ≠ 0 ∧ b ≠ 0
 · rw [if_pos hc]
   by_cases hd : (p = a ∧ q = b) ∨ (p = b ∧ q = a)
   · rw [if_pos hd]
     exact ⟨fun _ => .inr ⟨hc.1, hc.2.1, hc.2.2, hd⟩, fun _ => rfl⟩
   · rw [if_neg hd]
     exact ⟨fun h => .inl h, fun h => by rcases h with h | h; exact h; exact absurd h.2.2.2 hd⟩
 · rw [if_neg hc]
   exact ⟨fun h => .inl h, fun h => by rcases h with h | h; exact h; exact absurd ⟨h.1, h.2.1, h.2.2.1⟩ hc⟩
theorem def_loop {h0 : Heap} {g0 : Gr} {n lb : Nat} {l : List Bool} (hl : l.length = n) (hlb : h0[lb]? = some (bits l)) (hno : ¬ g0.owns lb) (hn : n ≤ 8192) {d : Nat} (hd : d < n) (ex : Int) (Q : Kont (AV × Heap)) :
 ∀ (k j : Nat), j + k = n → ∀ (h : Heap) (L : List (List Bool)), Kp (· ∈ g0.own) h0 h → h.length = h0.length → GM h { g0 with L := L } n →
  ∃ h' L', L78x2 mk0 E (some ⟨g0.G, 0, 0⟩) ((d : Nat) : Int) ex (.pos ⟨lb, 0, 0⟩) n ((n : Nat) : Int) ((j : Nat) : Int) h Q = Q (.exit 0) (S78xe0 h') ∧ Kp (· ∈ g0.own) h0 h' ∧ h'.length = h0.length ∧ GM h' { g0 with L := L' } n ∧ ∀ p q, gg L' p q = true ↔ gg L p q = true ∨ newE l d ex j p q := by
 intro k
 induction k with
 | zero =>
  intro j hj h L kp hlen H
  rw [L78x2xeq, letK_eq, if_neg (by simp; omega)]
  refine ⟨h, L, rfl, kp, hlen, H, fun p q => ⟨fun h => .inl h, fun h => ?_⟩⟩
  rcases h with h | ⟨r, r1, r2, _⟩
  · exact h
  · have := (List.getElem?_eq_some_iff.1 r2).1
    omega
 | succ k ih =>
  intro j hj h L kp hlen H
  obtain ⟨b, hb⟩ := at_lt (l := l) (i := j) (by omega)
  have lb' : h[lb]? = some (bits l) := kp _ _ hlb fun hm => hno (.inl hm)
  have rd := bits_get lb' hb
  have step : ∀ (h1 : Heap) (L1 : List (List Bool)), Kp (· ∈ g0.own) h0 h1 → h1.length = h0.length → GM h1 { g0 with L := L1 } n → (∀ p q, gg L1 p q = true ↔ gg L p q = true ∨ (b = true ∧ ((j : Nat) : Int) ≠ ex ∧ d ≠ j ∧ d ≠ 0 ∧ j ≠ 0 ∧ ((p = d ∧ q = j) ∨ (p = j ∧ q = d)))) →
   ∃ h' L', L78x2 mk0 E (some ⟨g0.G, 0, 0⟩) ((d : Nat) : Int) ex (.pos ⟨lb, 0, 0⟩) n ((n : Nat) : Int) (((j + 1 : Nat)) : Int) h1 Q = Q (.exit 0) (S78xe0 h') ∧ Kp (· ∈ g0.own) h0 h' ∧ h'.length = h0.length ∧ GM h' { g0 with L := L' } n ∧ ∀ p q, gg L' p q = true ↔ gg L p q = true ∨ newE l d ex j p q := by
   intro h1 L1 k1 l1 G1 e1
   obtain ⟨h', L', r1, r2, r3, r4, r5⟩ := ih (j + 1) (by omega) h1 L1 k1 l1 G1
   refine ⟨h', L', r1, r2, r3, r4, fun p q => ?_⟩
   rw [r5, e1]
   constructor
   · rintro ((h | ⟨hb1, h⟩) | ⟨r, h1, h2⟩)
     · exact .inl h
     · subst hb1; exact .inr ⟨j, Nat.le_refl _, hb, h⟩
     · exact .inr ⟨r, by omega, h2⟩
   · rintro (h | ⟨r, h1, h2, h3⟩)
     · exact .inl (.inl h)
     · by_cases hr : r = j
       · subst hr
         rw [hb] at h2; cases h2
         exact .inl (.inr ⟨rfl, h3⟩)
       · exact .inr ⟨r, by omega, h2, h3⟩
  rw [L78x2xeq, letK_eq, if_pos (by simp; omega), chk_of (by intro _; omega), adP_pos, atP_of, Int.toNat_natCast, add_mk, rd, gB_of, letK_eq, letK_eq]
  by_cases hc : b = true ∧ ((j : Nat) : Int) ≠ ex
  · obtain ⟨h1, L1, a1, a2, a3, a4, a5⟩ := add_ok H (a := d) (b := j) hd (by omega)
    have a1' : E 79 [.ptr (some ⟨g0.G, 0, 0⟩), .int .i64 d, .int .i64 j] h = some (.tup [], h1) := a1
    rw [if_pos (by simp [hc.1, hc.2]), a1', Option.bind_some, gT0_of, J78x12xeq, letK_eq, wrap64 (by omega) (by omega), show ((j : Int) + 1) = ((j + 1 : Nat) : Int) by omega]
    refine step h1 L1 (kp.trans a3) (by omega) a4 fun p q => ?_
    rw [a5, addE_iff]
    constructor
    · rintro (h | ⟨h1, h2, h3, h4⟩)
      · exact .inl h
      · exact .inr ⟨hc.1, hc.2, h1, h2, h3, h4⟩
    · rintro (h | ⟨_, _, h1, h2, h3, h4⟩)
      · exact .inl h
      · exact .inr ⟨h1, h2, h3, h4⟩
  · rw [if_neg (by
     cases b with
     | false => simp
     | true =>
      have : ((j : Nat) : Int) = ex := by
       by_cases e : ((j : Nat) : Int) = ex
       · exact e
       · exact absurd ⟨rfl, e⟩ hc
      simp [this]), J78x12xeq, letK_eq, wrap64 (by omega) (by omega), show ((j : Int) + 1) = ((j + 1 : Nat) : Int) by omega]
    exact step h L kp hlen H fun p q => ⟨fun h => .inl h, fun h => by
     rcases h with h | ⟨h1, h2, _⟩
     · exact h
     · exact absurd ⟨h1, h2⟩ hc⟩
theorem defineE_ok {h : Heap} {g : Gr} {n lb : Nat} (H : GM h g n) {l : List Bool} (hl : l.length = n) (hlb : h[lb]? = some (bits l)) (hno : ¬ g.owns lb) (hn : n ≤ 8192) {d : Nat} (hd : d < n) (ex : Int) :
 ∃ h' L', E 78 [.ptr (some ⟨g.G, 0, 0⟩), .int .i64 d, .int .i64 ex, .sl (.pos ⟨lb, 0, 0⟩) n] h = some (.tup [], h') ∧ Kp (· ∈ g.own) h h' ∧ h'.length = h.length ∧ GM h' { g with L := L' } n ∧ ∀ p q, gg L' p q = true ↔ gg g.L p q = true ∨ newE l d ex 0 p q := by
 obtain ⟨h', L', r1, r2, r3, r4, r5⟩ := def_loop hl hlb hno hn hd ex (Q78x2 mk0 E) n 0 (by omega) h g.L (Kp.refl _ _) rfl H
 rw [show (((0 : Nat) : Int)) = 0 from rfl] at r1
 exact ⟨h', L', by rw [e78, r1, X78x2xe0], r2, r3, r4, r5⟩
end Go.Proofs.Ytnmdadadjneaiaa.D
/- color: the graph is built (its parts). -/
set_option linter.unusedVariables false
set_option linter.unusedSimpArgs false
namespace Go.Proofs.Ytnmdadadjneaiaa.D
open Go Go.Proofs.Ytnmdadadjneaiaa.Abs Go.Proofs
structure GX (X : Nat → Prop) (g g' : Gr) (h h' : Heap) : Prop where
 own : g'.own = g.own
 G : g'.G = g.G
 S : g'.S = g.S
 T : g'.T = g.T
 k : Kp (fun b => g.owns b ∨ X b) h h'
 n : ∀ b, inS g'.sM b → inS g.sM b ∨ h.length ≤ b
 l : h.length ≤ h'.length
theorem GX.refl (X : Nat → Prop) (g : Gr) (h : Heap) : GX X g g h h := ⟨rfl, rfl, rfl, rfl, Kp.refl _ _, fun _ h => .inl h, Nat.le_refl _⟩
theorem GX.trans {X : Nat → Prop} {g1 g2 g3 : Gr} {h1 h2 h3 : Heap} (a : GX X g1 g2 h1 h2) (b : GX X g2 g3 h2 h3) : GX X g1 g3 h1 h3 := by
 refine ⟨b.own.trans a.own, b.G.trans a.G, b.S.trans a.S, b.T.trans a.T, fun q y hq hn => b.k q y (a.k q y hq hn) fun hh => ?_, fun q hq => ?_, Nat.le_trans a.l b.l⟩
 · have hl := (List.getElem?_eq_some_iff.1 hq).1
   rcases hh with (hh | hh) | hh
   · exact hn (.inl (.inl (by rw [← a.own]; exact hh)))
   · rcases a.n q hh with hi | hi
     · exact hn (.inl (.inr hi))
     · omega
   · exact hn (.inr hh)
 · rcases b.n q hq with hi | hi
   · exact a.n q hi
   · have := a.l; exact .inr (by omega)
theorem GX.old {X : Nat → Prop} {g g' : Gr} {hb h h' : Heap} (a : GX X g g' h h') (o : Old hb h) (hs : ∀ b, g.owns b ∨ X b → hb.length ≤ b) : Old hb h' := a.k.old o fun q hq hh => by have := hs q hh; omega
theorem GX.low {X : Nat → Prop} {g g' : Gr} {hb h h' : Heap} (a : GX X g g' h h') (o : Old hb h) (hs : ∀ b, g.owns b ∨ X b → hb.length ≤ b) : ∀ b, g'.owns b ∨ X b → hb.length ≤ b := by
 have := o.le
 rintro b ((h | h) | h)
 · exact hs b (.inl (.inl (by rw [← a.own]; exact h)))
 · rcases a.n b h with hi | hi
   · exact hs b (.inl (.inr hi))
   · omega
 · exact hs b (.inr h)
theorem GX.of_kp {X : Nat → Prop} {g g' : Gr} {h h' : Heap} (e : g'.own = g.own) (eG : g'.G = g.G) (eS : g'.S = g.S) (eT : g'.T = g.T) (em : g'.sM = g.sM) (k : Kp (fun b => g.owns b ∨ X b) h h') (l : h.length ≤ h'.length) : GX X g g' h h' :=
 ⟨e, eG, eS, eT, k, fun b hb => .inl (by rw [← em]; exact hb), l⟩
theorem mem_T (g : Gr) : g.T ∈ g.own := by simp [Gr.own]
theorem mem_S (g : Gr) : g.S ∈ g.own := by simp [Gr.own]
theorem vs_kp {α : Type} {f : α → List AV} {es n : Nat} {h h' : Heap} {s : SA} {l : List α} {S : Nat → Prop} (H : VS f es h s n l) (k : Kp S h h') (hs : ∀ b, inS s b → ¬ S b) : VS f es h' s n l := by
 obtain ⟨hl, H | ⟨b, v, o, c, m, rfl, hb, hc⟩⟩ := H
 · exact ⟨hl, .inl H⟩
 · exact ⟨hl, .inr ⟨b, v, o, c, m, rfl, k _ _ hb (hs b ⟨_, rfl, rfl⟩), hc⟩⟩
theorem mark77_loop {h0 : Heap} {g0 : Gr} {n lb LB PB : Nat} {s : SA} {N : Nat} {rs : List Int} (hn : n ≤ 8192) (hN : N ≤ 1000000) (hr : ∀ r ∈ rs, 0 ≤ r ∧ r < (n : Int)) (V : VS intC 1 h0 s N rs) (hs : ∀ b, inS s b → b ≠ lb ∧ b ≠ g0.T)
 (hLB : h0[LB]? = some (.cells [.sl (.pos ⟨lb, 0, 0⟩) n] .fix 0)) (hPB : h0[PB]? = some (.cells [.ptr (some ⟨g0.G, 0, 0⟩)] .fix 0)) (d1 : LB ≠ lb ∧ LB ≠ g0.T) (d2 : PB ≠ lb ∧ PB ≠ g0.T) (d3 : ¬ g0.owns lb) (Q : Kont (AV × Heap)) :
 ∀ (k j : Nat), j + k = N → ∀ (h : Heap) (l th : List Bool), Kp (fun b => b = lb ∨ b = g0.T) h0 h → h.length = h0.length → GM h { g0 with th := th } n → h[lb]? = some (bits l) → l.length = n →
  ∃ h', L77x2 mk0 E (some ⟨LB, 0, 0⟩) (some ⟨PB, 0, 0⟩) s N ((N : Nat) : Int) ((j : Nat) : Int) h Q = Q (.exit 0) (S77xe0 h') ∧ Kp (fun b => b = lb ∨ b = g0.T) h0 h' ∧ h'.length = h0.length ∧ GM h' { g0 with th := mark th (rs.drop j) } n ∧ h'[lb]? = some (bits (mark l (rs.drop j))) := by
 have hl := V.1
 intro k
 induction k with
 | zero =>
  intro j hj h l th kp le H hb hll
  rw [L77x2xeq, letK_eq, if_neg (by simp; omega), List.drop_eq_nil_of_le (by omega)]
  exact ⟨h, rfl, kp, le, H, hb⟩
 | succ k ih =>
  intro j hj h l th kp le H hb hll
  obtain ⟨r, hr'⟩ := at_lt (l := rs) (i := j) (by omega)
  obtain ⟨r0, r1⟩ := hr r (List.mem_of_getElem? hr')
  obtain ⟨a, ha, la⟩ := vs_ld1 (g := AV.int .i64) (vs_kp V kp fun b hb hh => by have := hs b hb; rcases hh with hh | hh; exact this.1 hh; exact this.2 hh) (fun _ => rfl) _ r hr'
  have c1 : ld1 h ⟨LB, 0, 0⟩ = some (.sl (.pos ⟨lb, 0, 0⟩) n) := ld1_at (kp _ _ hLB fun hh => by rcases hh with hh | hh; exact d1.1 hh; exact d1.2 hh) rfl rfl
  have c2 : ld1 h ⟨PB, 0, 0⟩ = some (.ptr (some ⟨g0.G, 0, 0⟩)) := ld1_at (kp _ _ hPB fun hh => by rcases hh with hh | hh; exact d2.1 hh; exact d2.2 hh) rfl rfl
  have rt := H.ld 2 (.sl (.pos ⟨g0.T, 0, 0⟩) n) rfl rfl
  have kl := kp_set (· = lb) lb h (bits (l.set r.toNat true)) rfl
  have H1 : GM (h.set lb (bits (l.set r.toNat true))) { g0 with th := th } n := H.kp kl fun b hbo e => d3 (by rw [← e]; exact hbo)
  obtain ⟨h2, t1, t2, t3, t4⟩ := H1.setT (r := r.toNat) (by omega) true
  have t1' : st1 (h.set lb (bits (l.set r.toNat true))) ⟨g0.T, 0, 0 + r.toNat * 1⟩ (.bool true) = some h2 := t1
  have nT : lb ≠ g0.T := fun e => d3 (.inl (e ▸ mem_T g0))
  have rt' : ld1 h ⟨g0.G, 0, 0 + 2⟩ = some (.sl (.pos ⟨g0.T, 0, 0⟩) n) := rt
  rw [L77x2xeq, letK_eq, if_pos (by simp; omega), chk_of (by intro _; omega), ha, atP_of, Int.toNat_natCast, la, gI_of, atP_of, c1, gL_of, atP_of, c2, gP_of, atP_of, add_mk, rt', gL_of, chk_of (by intro _; omega), adP_pos, atP_of, add_mk, bits_set hb _ (by omega), Option.bind_some, chk_of (by intro _; omega), adP_pos, atP_of, add_mk, t1', Option.bind_some, letK_eq, wrap64 (by omega) (by omega), show ((j : Int) + 1) = ((j + 1 : Nat) : Int) by omega, drop_at hr']
  exact ih (j + 1) (by omega) h2 (l.set r.toNat true) (th.set r.toNat true) (kp.trans ((kl.mono fun b hb => .inl hb).trans (t3.mono fun b hb => .inr hb))) (by rw [t2, List.length_set]; exact le) t4 (t3 _ _ (set_same hb) nT) (by rw [List.length_set]; exact hll)
theorem mark77_ok {h : Heap} {g : Gr} {n lb LB PB : Nat} {s : SA} {N : Nat} {rs : List Int} (H : GM h g n) (hn : n ≤ 8192) (hN : N ≤ 1000000) (hr : ∀ r ∈ rs, 0 ≤ r ∧ r < (n : Int)) (V : VS intC 1 h s N rs) (hs : ∀ b, inS s b → b ≠ lb ∧ b ≠ g.T)
 (hLB : h[LB]? = some (.cells [.sl (.pos ⟨lb, 0, 0⟩) n] .fix 0)) (hPB : h[PB]? = some (.cells [.ptr (some ⟨g.G, 0, 0⟩)] .fix 0)) (d1 : LB ≠ lb ∧ LB ≠ g.T) (d2 : PB ≠ lb ∧ PB ≠ g.T) (d3 : ¬ g.owns lb) {l : List Bool} (hb : h[lb]? = some (bits l)) (hl : l.length = n) :
 ∃ h', E 77 [.sl s N, .ptr (some ⟨LB, 0, 0⟩), .ptr (some ⟨PB, 0, 0⟩)] h = some (.tup [], h') ∧ GM h' { g with th := mark g.th rs } n ∧ h'[lb]? = some (bits (mark l rs)) ∧ GX (· = lb) g { g with th := mark g.th rs } h h' := by
 obtain ⟨h', r1, r2, r3, r4, r5⟩ := mark77_loop hn hN hr V hs hLB hPB d1 d2 d3 (Q77x2 mk0 E) N 0 (by omega) h l g.th (Kp.refl _ _) rfl H hb hl
 rw [show (((0 : Nat) : Int)) = 0 from rfl] at r1
 rw [List.drop_zero] at r4 r5
 refine ⟨h', by rw [e77, r1, X77x2xe0], r4, r5, GX.of_kp rfl rfl rfl rfl rfl (r2.mono fun b hb => ?_) (by omega)⟩
 rcases hb with hb | hb
 · exact .inr hb
 · exact .inl (.inl (hb ▸ mem_T g))
theorem GM.move {h : Heap} {g : Gr} {n : Nat} (H : GM h g n) (hl : g.mv.length ≤ 100000) (x : Int × Int) :
 ∃ sM' h3 h4, ldSl (h ++ [.cells [.int .i64 x.1, .int .i64 x.2] (.grow 2) 0]) (.pos ⟨h.length, 0, 0⟩) (1 * 2) = some (mvC x) ∧ apnd (h ++ [.cells [.int .i64 x.1, .int .i64 x.2] (.grow 2) 0]) (.sl g.sM g.mv.length) 2 16 (mvC x) 1 = some (.sl sM' (g.mv ++ [x]).length, h3) ∧
  st1 h3 ⟨g.G, 0, 0 + 3⟩ (.sl sM' (g.mv ++ [x]).length) = some h4 ∧ GM h4 { g with sM := sM', mv := g.mv ++ [x] } n ∧ GX (fun _ => False) g { g with sM := sM', mv := g.mv ++ [x] } h h4 ∧ (∀ b, h[b]? ≠ none → ¬ g.owns b → h3[b]? = h[b]?) := by
 have fa : flatL (g.mv.flatMap mvC ++ mvC x) = true := by
  have : g.mv.flatMap mvC ++ mvC x = (g.mv ++ [x]).flatMap mvC := by simp
  rw [this]; exact rows_flat (fun _ => rfl) _
 obtain ⟨s', h3, g1, g2, g3, g4, g5⟩ := apnd_GS (m := 1) (bytes := 16) (ys := mvC x) (gs_app H.m (l := [.cells [.int .i64 x.1, .int .i64 x.2] (.grow 2) 0])) (by omega) (by omega) rfl rfl fa (by omega)
 rw [List.length_append] at g3
 have k3 : Kp (inS g.sM) h h3 := fun b y hb hn => g4 b y (app_old hb) hn
 have lt := H.lt
 have new : ∀ b, inS s' b → inS g.sM b ∨ h.length ≤ b := fun b hb => by
  rcases g5 b hb with h5 | h5
  · exact .inl h5
  · rw [List.length_append] at h5; exact .inr (by omega)
 have nm' : ∀ b ∈ g.own, ¬ inS s' b := fun b hb hi => by
  rcases new b hi with h5 | h5
  · exact H.nm b hb h5
  · have := lt b (.inl hb); omega
 have o3 : ∀ b ∈ g.own, ∀ y, h[b]? = some y → h3[b]? = some y := fun b hb y hy => k3 b y hy (H.nm b hb)
 have mG : g.G ∈ g.own := by simp [Gr.own]
 have hG := o3 _ mG _ H.hd
 have kG := kp_set (· = g.G) g.G h3 (.cells (Gr.cells { g with sM := s', mv := g.mv ++ [x] } n) .fix 0) rfl
 have el : (g.mv ++ [x]).length = g.mv.length + 1 := by simp
 have nd := H.nd
 unfold Gr.own at nd
 obtain ⟨n1, _⟩ := List.nodup_cons.1 nd
 refine ⟨s', h3, _, ldSl_at (last_get _ _) rfl rfl, by rw [g1, el], st1_at hG (by simp) (show 0 + 3 < 4 by omega), ⟨?_, ?_, H.lq, H.ll, fun j q M hq hM => ?_, ⟨?_, H.s.2⟩, ⟨?_, H.t.2⟩, ?_, H.nd, nm'⟩, ⟨rfl, rfl, rfl, rfl, fun b y hb hn => ?_, new, by simp; omega⟩, fun b hb hn => ?_⟩
 · rw [set_same hG]; rfl
 · exact kG _ _ (o3 _ (by simp [Gr.own]) _ H.rw) fun e => n1 (by rw [← e]; simp)
 · have hqm := List.mem_of_getElem? hq
   exact ⟨kG _ _ (o3 _ (by simp [Gr.own]; simp only at hqm; simp [hqm]) _ (H.cell j q M hq hM).1) fun e => n1 (by rw [← e]; simp only at hqm; simp [hqm]), (H.cell j q M hq hM).2⟩
 · exact kG _ _ (o3 _ (mem_S g) _ H.s.1) fun e => n1 (by rw [← e]; simp)
 · exact kG _ _ (o3 _ (mem_T g) _ H.t.1) fun e => n1 (by rw [← e]; simp)
 · obtain ⟨k1, k2, k3'⟩ := g2
   have e2 : g.mv.flatMap mvC ++ mvC x = (g.mv ++ [x]).flatMap mvC := by simp
   rw [e2] at k1 k2 k3'
   refine ⟨by rw [k1, el], k2, ?_⟩
   rcases k3' with ⟨_, h0⟩ | ⟨b, w, e, hb⟩
   · omega
   · exact .inr ⟨b, w, e, kG _ _ hb fun ee => nm' _ mG ⟨_, e, ee⟩⟩
 · exact kG _ _ (k3 b y hb fun hi => hn (.inl (.inr hi))) fun e => hn (.inl (.inl (e ▸ mG)))
 · obtain ⟨y, hy⟩ := Option.ne_none_iff_exists'.1 hb
   rw [hy]; exact k3 b y hy fun hi => hn (.inr hi)
end Go.Proofs.Ytnmdadadjneaiaa.D
/- color.build: the instructions of a block. -/
set_option linter.unusedVariables false
set_option linter.unusedSimpArgs false
namespace Go.Proofs.Ytnmdadadjneaiaa.D
open Go Go.Proofs.Ytnmdadadjneaiaa.Abs Go.Proofs
structure Pbs where
 E : Nat → Nat → Prop
 sl : List Bool
 th : List Bool
 l : List Bool
 mv : List (Int × Int)
def exR (x : VI) : Int := if x.op = 100 then x.a else 0
def pI (s : Pbs) (x : VI) : Pbs :=
 { E := fun p q => s.E p q ∨ newE s.l (defR x.op x.d).toNat (exR x) 0 p q
   sl := if isCall x.op = true then orL s.sl (s.l.set (defR x.op x.d).toNat false) else s.sl
   th := mark (s.th.set (defR x.op x.d).toNat true) (usesL x)
   l := stepB s.l x
   mv := if x.op = 100 ∧ x.a ≠ 0 ∧ defR x.op x.d ≠ 0 ∧ x.a ≠ defR x.op x.d then s.mv ++ [(defR x.op x.d, x.a)] else s.mv }
structure BI (h : Heap) (g : Gr) (n lb : Nat) (s : Pbs) : Prop where
 m : GM h g n
 e : ∀ p q, gg g.L p q = true ↔ s.E p q
 sl : g.sl = s.sl
 th : g.th = s.th
 mv : g.mv = s.mv
 l : h[lb]? = some (bits s.l)
 ll : s.l.length = n
structure BX (h : Heap) (g : Gr) (n lb LB PB : Nat) : Prop where
 bl : h[LB]? = some (.cells [.sl (.pos ⟨lb, 0, 0⟩) n] .fix 0)
 bp : h[PB]? = some (.cells [.ptr (some ⟨g.G, 0, 0⟩)] .fix 0)
 l1 : ¬ g.owns LB ∧ LB ≠ lb
 p1 : ¬ g.owns PB ∧ PB ≠ lb
 d : ¬ g.owns lb
theorem BX.go {h h' : Heap} {g g' : Gr} {n lb LB PB : Nat} (H : BX h g n lb LB PB) (X : GX (· = lb) g g' h h') (hlb : lb < h.length) : BX h' g' n lb LB PB := by
 have lL := (List.getElem?_eq_some_iff.1 H.bl).1
 have lP := (List.getElem?_eq_some_iff.1 H.bp).1
 have key : ∀ b, b < h.length → ¬ g.owns b → ¬ g'.owns b := by
  rintro b hb hn (hh | hh)
  · exact hn (.inl (by rw [← X.own]; exact hh))
  · rcases X.n b hh with hi | hi
    · exact hn (.inr hi)
    · omega
 refine ⟨X.k _ _ H.bl fun hh => ?_, ?_, ⟨key _ lL H.l1.1, H.l1.2⟩, ⟨key _ lP H.p1.1, H.p1.2⟩, key _ hlb H.d⟩
 · rcases hh with hh | hh
   · exact H.l1.1 hh
   · exact H.l1.2 hh
 · rw [X.G]
   refine X.k _ _ H.bp fun hh => ?_
   rcases hh with hh | hh
   · exact H.p1.1 hh
   · exact H.p1.2 hh
theorem GX.one {X : Nat → Prop} {g g' : Gr} {h h' : Heap} (e : g'.own = g.own) (eG : g'.G = g.G) (eS : g'.S = g.S) (eT : g'.T = g.T) (em : g'.sM = g.sM) (k : Kp (· ∈ g.own) h h') (l : h'.length = h.length) : GX X g g' h h' :=
 GX.of_kp e eG eS eT em (k.mono fun b hb => .inl (.inl hb)) (by omega)
theorem slot_loop {h0 : Heap} {g0 : Gr} {n lb LB PB : Nat} {l : List Bool} (X : BX h0 g0 n lb LB PB) (hb : h0[lb]? = some (bits l)) (hl : l.length = n) (hn : n ≤ 8192) {sl0 : List Bool} (hs0 : sl0.length = n)
 (i1x0 : Int) (s1x1 : SA) (n1x1 : Nat) (i1x2 : Int) (s1x3 : SA) (n1x3 : Nat) (s4 : SA) (n4 : Nat) (s5 : SA) (n5 : Nat) (s8x0 : SA) (n8x0 : Nat) (i8x1 i8x2 i8x3 i8x4 i8x5 : Int) (s8x6 : SA) (n8x6 : Nat) (p9 p10c0 p10c1 : Option Ad) (i11 i12x0 i12x1 i12x2 i12x3 i12x4 : Int) (s12x5 : SA) (n12x5 : Nat) (s53 : SA) (n53 : Nat) (i54 i55 : Int) (Q : Kont (AV × Heap)) :
 ∀ (k j : Nat), j + k = n → ∀ (h : Heap), Kp (· ∈ g0.own) h0 h → h.length = h0.length → GM h { g0 with sl := (orL sl0 l).take j ++ sl0.drop j } n →
  ∃ h', L40x53 mk0 E i1x0 s1x1 n1x1 i1x2 s1x3 n1x3 (some ⟨PB, 0, 0⟩) s4 n4 s5 n5 s8x0 n8x0 i8x1 i8x2 i8x3 i8x4 i8x5 s8x6 n8x6 p9 p10c0 p10c1 i11 i12x0 i12x1 i12x2 i12x3 i12x4 s12x5 n12x5 s53 n53 i54 i55 (.pos ⟨lb, 0, 0⟩) n ((n : Nat) : Int) ((j : Nat) : Int) h Q = Q (.exit 6) (S40xe6 i1x0 s1x1 n1x1 i1x2 s1x3 n1x3 (some ⟨PB, 0, 0⟩) s4 n4 s5 n5 s8x0 n8x0 i8x1 i8x2 i8x3 i8x4 i8x5 s8x6 n8x6 p9 p10c0 p10c1 i11 i12x0 i12x1 i12x2 i12x3 i12x4 s12x5 n12x5 s53 n53 i54 i55 h') ∧
   Kp (· ∈ g0.own) h0 h' ∧ h'.length = h0.length ∧ GM h' { g0 with sl := orL sl0 l } n := by
 have ho : (orL sl0 l).length = n := by rw [orL_len (by omega), hs0]
 intro k
 induction k with
 | zero =>
  intro j hj h kp le H
  rw [L40x53xeq, letK_eq, if_neg (by simp; omega)]
  rw [List.take_of_length_le (by omega), List.drop_eq_nil_of_le (by omega), List.append_nil] at H
  exact ⟨h, rfl, kp, le, H⟩
 | succ k ih =>
  intro j hj h kp le H
  obtain ⟨x, hx⟩ := at_lt (l := sl0) (i := j) (by omega)
  obtain ⟨y, hy⟩ := at_lt (l := l) (i := j) (by omega)
  have g1 := bits_get (kp _ _ hb fun hm => X.d (.inl hm)) hy
  have g2 := bits_get H.s.1 (part_get (by omega) hx)
  have c2 : ld1 h ⟨PB, 0, 0⟩ = some (.ptr (some ⟨g0.G, 0, 0⟩)) := ld1_at (kp _ _ X.bp fun hm => X.p1.1 (.inl hm)) rfl rfl
  have rs : ld1 h ⟨g0.G, 0, 0 + 1⟩ = some (.sl (.pos ⟨g0.S, 0, 0⟩) n) := H.ld 1 (.sl (.pos ⟨g0.S, 0, 0⟩) n) rfl rfl
  obtain ⟨h1, t1, t2, t3, t4⟩ := H.setS (r := j) (by omega) (x || y)
  have t1' : st1 h ⟨g0.S, 0, 0 + j * 1⟩ (.bool (x || y)) = some h1 := t1
  have g2' : ld1 h ⟨g0.S, 0, 0 + j * 1⟩ = some (.bool x) := g2
  have e : (if x = true then true else y) = (x || y) := by cases x <;> rfl
  rw [L40x53xeq, letK_eq, if_pos (by simp; omega), chk_of (by intro _; omega), adP_pos, atP_of, Int.toNat_natCast, add_mk, g1, gB_of, atP_of, c2, gP_of, atP_of, add_mk, rs, gL_of, atP_of, c2, gP_of, atP_of, add_mk, rs, gL_of, chk_of (by intro _; omega), adP_pos, atP_of, add_mk, g2', gB_of, letK_eq, chk_of (by intro _; omega), atP_of, add_mk, e, t1', Option.bind_some, letK_eq, wrap64 (by omega) (by omega), show ((j : Int) + 1) = ((j + 1 : Nat) : Int) by omega]
  refine ih (j + 1) (by omega) h1 (kp.trans (t3.mono fun b hb => ?_)) (by omega) ?_
  · rw [hb]; exact mem_S g0
  · rw [part_step (by omega) hx hy] at t4
    exact t4
theorem ldN_one {h h' : Heap} {b : Nat} {c : List AV} (h1 : h[b]? = some (.cells c .fix 0)) (h2 : h'[b]? = some (.cells c .fix 0)) : ldN h' ⟨b, 0, 0⟩ 1 = ldN h ⟨b, 0, 0⟩ 1 := by
 simp only [ldN, h1, h2]
end Go.Proofs.Ytnmdadadjneaiaa.D
/- color.build: one instruction. -/
set_option linter.unusedVariables false
set_option linter.unusedSimpArgs false
namespace Go.Proofs.Ytnmdadadjneaiaa.D
open Go Go.Proofs.Ytnmdadadjneaiaa.Abs Go.Proofs
def pJ (s : Pbs) (x : VI) : Pbs := { pI s x with mv := s.mv }
theorem GX.setl (g : Gr) (lb : Nat) (h : Heap) (x : Blk) : GX (· = lb) g g h (h.set lb x) :=
 GX.of_kp rfl rfl rfl rfl rfl ((kp_set (· = lb) lb h x rfl).mono fun b hb => .inr hb) (by simp)
theorem GX.oldg (X : Nat → Prop) (g : Gr) {h h' : Heap} (o : Old h h') : GX X g g h h' :=
 GX.of_kp rfl rfl rfl rfl rfl (o.kp _) o.le
theorem step45 {hb h : Heap} {g : Gr} {n lb LB PB : Nat} {s : Pbs} {y : VI} (B : BI h g n lb s) (X : BX h g n lb LB PB) (o : Old hb h) (low : ∀ b, g.owns b ∨ b = lb → hb.length ≤ b) (R : y.R hb) (ok : y.okR n) (hn : n ≤ 8192) (h0n : 0 < n)
 (i1x0 : Int) (s1x1 : SA) (n1x1 : Nat) (i1x2 : Int) (s1x3 : SA) (n1x3 : Nat) (s4 : SA) (n4 : Nat) (s5 : SA) (n5 : Nat) (s8x0 : SA) (n8x0 : Nat) (i8x1 i8x2 i8x3 i8x4 i8x5 : Int) (s8x6 : SA) (n8x6 : Nat) (k : Nat) (hk : k ≤ 1000000) (s53 : SA) (n53 : Nat) (i54 i55 : Int) (Q : Kont (AV × Heap)) :
 ∃ h' g', J40x45 mk0 E i1x0 s1x1 n1x1 i1x2 s1x3 n1x3 (some ⟨PB, 0, 0⟩) s4 n4 s5 n5 s8x0 n8x0 i8x1 i8x2 i8x3 i8x4 i8x5 s8x6 n8x6 (some ⟨LB, 0, 0⟩) (some ⟨LB, 0, 0⟩) (some ⟨PB, 0, 0⟩) ((k : Nat) : Int) y.op y.d y.a y.b y.n y.s y.args.length (defR y.op y.d) (exR y) s53 n53 i54 i55 h Q =
  L40x29 mk0 E i1x0 s1x1 n1x1 i1x2 s1x3 n1x3 (some ⟨PB, 0, 0⟩) s4 n4 s5 n5 s8x0 n8x0 i8x1 i8x2 i8x3 i8x4 i8x5 s8x6 n8x6 (some ⟨LB, 0, 0⟩) (some ⟨LB, 0, 0⟩) (some ⟨PB, 0, 0⟩) (((k : Nat) : Int) - 1) s53 n53 i54 i55 h' Q ∧
  BI h' g' n lb (pJ s y) ∧ GX (· = lb) g g' h h' := by
 have dr := ok.def
 have ll := B.ll
 have hlb : lb < h.length := (List.getElem?_eq_some_iff.1 B.l).1
 have c2 : ld1 h ⟨PB, 0, 0⟩ = some (.ptr (some ⟨g.G, 0, 0⟩)) := ld1_at X.bp rfl rfl
 have c1 : ld1 h ⟨LB, 0, 0⟩ = some (.sl (.pos ⟨lb, 0, 0⟩) n) := ld1_at X.bl rfl rfl
 obtain ⟨h1, L1, a1, a2, a3, a4, a5⟩ := defineE_ok B.m ll B.l X.d hn (d := (defR y.op y.d).toNat) (by omega) (exR y)
 rw [show (((defR y.op y.d).toNat : Nat) : Int) = defR y.op y.d by omega] at a1
 have G1 : GX (· = lb) g { g with L := L1 } h h1 := GX.one rfl rfl rfl rfl rfl a2 a3
 have X1 := X.go G1 hlb
 have l1 : h1[lb]? = some (bits s.l) := a2 _ _ B.l fun hm => X.d (.inl hm)
 have c2' : ld1 h1 ⟨PB, 0, 0⟩ = some (.ptr (some ⟨g.G, 0, 0⟩)) := ld1_at X1.bp rfl rfl
 have c1' : ld1 h1 ⟨LB, 0, 0⟩ = some (.sl (.pos ⟨lb, 0, 0⟩) n) := ld1_at X1.bl rfl rfl
 have rt : ld1 h1 ⟨g.G, 0, 0 + 2⟩ = some (.sl (.pos ⟨g.T, 0, 0⟩) n) := a4.ld 2 (.sl (.pos ⟨g.T, 0, 0⟩) n) rfl rfl
 obtain ⟨h2, t1, t2, t3, t4⟩ := a4.setT (r := (defR y.op y.d).toNat) (by omega) true
 have t1' : st1 h1 ⟨g.T, 0, 0 + (defR y.op y.d).toNat * 1⟩ (.bool true) = some h2 := t1
 have G2 : GX (· = lb) { g with L := L1 } { g with L := L1, th := g.th.set (defR y.op y.d).toNat true } h1 h2 := GX.one rfl rfl rfl rfl rfl (t3.mono fun b hb => by rw [hb]; exact mem_T _) t2
 have hlb1 : lb < h1.length := by omega
 have X2 := X1.go G2 hlb1
 have nT : lb ≠ g.T := fun e => X.d (.inl (e ▸ mem_T g))
 have l2 : h2[lb]? = some (bits s.l) := t3 _ _ l1 nT
 have G3 := GX.setl { g with L := L1, th := g.th.set (defR y.op y.d).toNat true } lb h2 (bits (s.l.set (defR y.op y.d).toNat false))
 have X3 := X2.go G3 (by omega)
 have M3 : GM (h2.set lb (bits (s.l.set (defR y.op y.d).toNat false))) { g with L := L1, th := g.th.set (defR y.op y.d).toNat true } n := t4.kp (kp_set (· = lb) lb h2 _ rfl) fun b hb e => X2.d (by rw [← e]; exact hb)
 have l3 : (h2.set lb (bits (s.l.set (defR y.op y.d).toNat false)))[lb]? = some (bits (s.l.set (defR y.op y.d).toNat false)) := set_same l2
 have ck := calls_ok y.op (h2.set lb (bits (s.l.set (defR y.op y.d).toNat false)))
 have cst := ldN_one (h := h1) (h' := h2) X1.bl X2.bl
 rw [J40x45xeq, atP_of, c2, gP_of, atP_of, c1, gL_of, a1, Option.bind_some, gT0_of, atP_of, c2', gP_of, atP_of, add_mk, rt, gL_of, atP_of, c1', gL_of, chk_of (by intro _; omega), adP_pos, atP_of, add_mk, t1', Option.bind_some, reP_of, chkC_of (fun _ => cst), chk_of (by intro _; omega), adP_pos, atP_of, add_mk, bits_set l2 _ (by omega), Option.bind_some, ck, Option.bind_some, gB_of]
 have tl : ∀ (h4 : Heap) (sl' : List Bool), GM h4 { g with L := L1, th := g.th.set (defR y.op y.d).toNat true, sl := sl' } n → GX (· = lb) { g with L := L1, th := g.th.set (defR y.op y.d).toNat true } { g with L := L1, th := g.th.set (defR y.op y.d).toNat true, sl := sl' } (h2.set lb (bits (s.l.set (defR y.op y.d).toNat false))) h4 → h4[lb]? = some (bits (s.l.set (defR y.op y.d).toNat false)) → sl' = (pI s y).sl →
  ∃ h' g', J40x61 mk0 E i1x0 s1x1 n1x1 i1x2 s1x3 n1x3 (some ⟨PB, 0, 0⟩) s4 n4 s5 n5 s8x0 n8x0 i8x1 i8x2 i8x3 i8x4 i8x5 s8x6 n8x6 (some ⟨LB, 0, 0⟩) (some ⟨LB, 0, 0⟩) (some ⟨PB, 0, 0⟩) ((k : Nat) : Int) y.op y.d y.a y.b y.n y.s y.args.length s53 n53 i54 i55 h4 Q =
   L40x29 mk0 E i1x0 s1x1 n1x1 i1x2 s1x3 n1x3 (some ⟨PB, 0, 0⟩) s4 n4 s5 n5 s8x0 n8x0 i8x1 i8x2 i8x3 i8x4 i8x5 s8x6 n8x6 (some ⟨LB, 0, 0⟩) (some ⟨LB, 0, 0⟩) (some ⟨PB, 0, 0⟩) (((k : Nat) : Int) - 1) s53 n53 i54 i55 h' Q ∧
  BI h' g' n lb (pJ s y) ∧ GX (· = lb) g g' h h' := by
  intro h4 sl' M4 G4 l4 es
  have G14 := G1.trans (G2.trans (G3.trans G4))
  have hlb3 : lb < (h2.set lb (bits (s.l.set (defR y.op y.d).toNat false))).length := (List.getElem?_eq_some_iff.1 l3).1
  have X4 := X3.go G4 hlb3
  have o4 : Old hb h4 := G14.old o low
  have low4 := G14.low o low
  have le4 := o4.le
  obtain ⟨h5, s9, u1, u2, u3, u4⟩ := uses_ok (R.old o4) (by have := ok.1; omega)
  have us : (usesL y).length ≤ (y.a :: y.b :: y.args).length := List.length_filter_le _ _
  have lt4 := M4.lt
  have X5 := X4.go (GX.oldg (· = lb) _ u2) (List.getElem?_eq_some_iff.1 l4).1
  have M5 := M4.old u2
  have lT : g.T < h4.length := lt4 g.T (.inl (mem_T _))
  have lB4 : lb < h4.length := (List.getElem?_eq_some_iff.1 l4).1
  have nLT : LB ≠ g.T := fun e => X5.l1.1 (.inl (by rw [e]; exact mem_T { g with L := L1, th := g.th.set (defR y.op y.d).toNat true, sl := sl' }))
  have nPT : PB ≠ g.T := fun e => X5.p1.1 (.inl (by rw [e]; exact mem_T { g with L := L1, th := g.th.set (defR y.op y.d).toNat true, sl := sl' }))
  obtain ⟨h6, m1, m2, m3, m4⟩ := mark77_ok M5 hn (by have := ok.1; simp only [List.length_cons] at us; omega) (fun r hr => ok.uses r hr) u3 (fun b hb => by have := u4 b hb; exact ⟨by omega, by show b ≠ g.T; omega⟩) X5.bl X5.bp ⟨X5.l1.2, nLT⟩ ⟨X5.p1.2, nPT⟩ X5.d (u2 _ _ l4) (by rw [List.length_set]; exact ll)
  unfold VI.cells at u1
  rw [J40x61xeq, u1, Option.bind_some, gL_of, m1, Option.bind_some, gT0_of, letK_eq, wrap64 (by omega) (by omega)]
  refine ⟨h6, _, rfl, ⟨m2, fun p q => ?_, es, ?_, B.mv, m3, ?_⟩, G14.trans ((GX.oldg _ _ u2).trans m4)⟩
  · show gg L1 p q = true ↔ _
    rw [a5, B.e]; rfl
  · show mark (g.th.set _ true) _ = _
    rw [B.th]; rfl
  · show (stepB s.l y).length = n
    unfold stepB
    rw [mark_len, List.length_set]; exact ll
 cases hc : isCall y.op with
 | false =>
  rw [if_neg (by simp)]
  exact tl _ g.sl M3 (GX.refl ..) l3 (by rw [B.sl]; unfold pI; rw [hc]; rfl)
 | true =>
  have c1'' : ld1 (h2.set lb (bits (s.l.set (defR y.op y.d).toNat false))) ⟨LB, 0, 0⟩ = some (.sl (.pos ⟨lb, 0, 0⟩) n) := ld1_at X3.bl rfl rfl
  obtain ⟨h4, r1, r2, r3, r4⟩ := slot_loop X3 l3 (by rw [List.length_set]; exact ll) hn (sl0 := g.sl) B.m.s.2 i1x0 s1x1 n1x1 i1x2 s1x3 n1x3 s4 n4 s5 n5 s8x0 n8x0 i8x1 i8x2 i8x3 i8x4 i8x5 s8x6 n8x6 (some ⟨LB, 0, 0⟩) (some ⟨LB, 0, 0⟩) (some ⟨PB, 0, 0⟩) ((k : Nat) : Int) y.op y.d y.a y.b y.n y.s y.args.length s53 n53 i54 i55 (Q40x53 mk0 E Q) n 0 (by omega) _ (Kp.refl _ _) rfl (by simpa using M3)
  rw [show (((0 : Nat) : Int)) = 0 from rfl] at r1
  rw [if_pos rfl, atP_of, c1'', gL_of, r1, X40x53xe6]
  exact tl h4 _ r4 (GX.one rfl rfl rfl rfl rfl r2 r3) (r2 _ _ l3 fun hm => X3.d (.inl hm)) (by rw [B.sl]; unfold pI; rw [hc]; rfl)
end Go.Proofs.Ytnmdadadjneaiaa.D
/- color.build: the blocks. -/
set_option linter.unusedVariables false
set_option linter.unusedSimpArgs false
namespace Go.Proofs.Ytnmdadadjneaiaa.D
open Go Go.Proofs.Ytnmdadadjneaiaa.Abs Go.Proofs
theorem pI_mv (s : Pbs) (x : VI) (mv' : List (Int × Int)) (h : mv' = (pI s x).mv) : pJ { s with mv := mv' } x = pI s x := by
 subst h; rfl
theorem insB_loop {hb : Heap} {x : VB} (R : x.R hb) {n lb LB PB : Nat} (okx : ∀ y ∈ x.ins, y.okR n) (hlx : x.ins.length ≤ 4096) (hn : n ≤ 8192) (h0n : 0 < n)
 (i1x0 : Int) (s1x1 : SA) (n1x1 : Nat) (i1x2 : Int) (s1x3 : SA) (n1x3 : Nat) (s4 : SA) (n4 : Nat) (s5 : SA) (n5 : Nat) (i8x1 i8x2 i8x3 i8x4 i8x5 : Int) (s8x6 : SA) (n8x6 : Nat) (s53 : SA) (n53 : Nat) (i54 i55 : Int) (Q : Kont (AV × Heap)) :
 ∀ (m : Nat), m ≤ x.ins.length → ∀ (h : Heap) (g : Gr) (s : Pbs), BI h g n lb s → BX h g n lb LB PB → Old hb h → (∀ b, g.owns b ∨ b = lb → hb.length ≤ b) → s.mv.length + m ≤ 50000 →
  ∃ h' g', L40x29 mk0 E i1x0 s1x1 n1x1 i1x2 s1x3 n1x3 (some ⟨PB, 0, 0⟩) s4 n4 s5 n5 x.s x.ins.length i8x1 i8x2 i8x3 i8x4 i8x5 s8x6 n8x6 (some ⟨LB, 0, 0⟩) (some ⟨LB, 0, 0⟩) (some ⟨PB, 0, 0⟩) (((m : Nat) : Int) - 1) s53 n53 i54 i55 h Q = Q (.exit 4) (S40xe4 i1x0 s1x1 n1x1 i1x2 s1x3 n1x3 (some ⟨PB, 0, 0⟩) s4 n4 s5 n5 s53 n53 i54 i55 h') ∧
   BI h' g' n lb ((x.ins.take m).reverse.foldl pI s) ∧ GX (· = lb) g g' h h' ∧ ((x.ins.take m).reverse.foldl pI s).mv.length ≤ s.mv.length + m := by
 intro m
 induction m with
 | zero =>
  intro hm h g s B X o low hl
  rw [L40x29xeq, letK_eq, if_neg (by simp)]
  exact ⟨h, g, rfl, by simpa using B, GX.refl .., by simp⟩
 | succ m ih =>
  intro hm h g s B X o low hl
  obtain ⟨y, hy⟩ := at_lt (l := x.ins) (i := m) (by omega)
  have hym := List.mem_of_getElem? hy
  have oky := okx y hym
  obtain ⟨a, ha, la⟩ := vs_ld (vs_old R.i o) vi_flat m y hy
  have dk := def_ok y h
  have dr := oky.def
  have ra := oky.2 y.a (by unfold insL; simp)
  have hlb : lb < h.length := (List.getElem?_eq_some_iff.1 B.l).1
  have fold : (x.ins.take (m + 1)).reverse.foldl pI s = (x.ins.take m).reverse.foldl pI (pI s y) := by
   rw [List.take_add_one, hy]
   simp
  have tl : ∀ (h1 : Heap) (g1 : Gr), BI h1 g1 n lb { s with mv := (pI s y).mv } → GX (· = lb) g g1 h h1 →
   ∃ h' g', J40x45 mk0 E i1x0 s1x1 n1x1 i1x2 s1x3 n1x3 (some ⟨PB, 0, 0⟩) s4 n4 s5 n5 x.s x.ins.length i8x1 i8x2 i8x3 i8x4 i8x5 s8x6 n8x6 (some ⟨LB, 0, 0⟩) (some ⟨LB, 0, 0⟩) (some ⟨PB, 0, 0⟩) ((m : Nat) : Int) y.op y.d y.a y.b y.n y.s y.args.length (defR y.op y.d) (exR y) s53 n53 i54 i55 h1 Q = Q (.exit 4) (S40xe4 i1x0 s1x1 n1x1 i1x2 s1x3 n1x3 (some ⟨PB, 0, 0⟩) s4 n4 s5 n5 s53 n53 i54 i55 h') ∧
    BI h' g' n lb ((x.ins.take (m + 1)).reverse.foldl pI s) ∧ GX (· = lb) g g' h h' ∧ ((x.ins.take (m + 1)).reverse.foldl pI s).mv.length ≤ s.mv.length + (m + 1) := by
   intro h1 g1 B1 G1
   obtain ⟨h2, g2, r1, r2, r3⟩ := step45 B1 (X.go G1 hlb) (G1.old o low) (G1.low o low) (R.r y hym) oky hn h0n i1x0 s1x1 n1x1 i1x2 s1x3 n1x3 s4 n4 s5 n5 x.s x.ins.length i8x1 i8x2 i8x3 i8x4 i8x5 s8x6 n8x6 m (by omega) s53 n53 i54 i55 Q
   rw [pI_mv s y _ rfl] at r2
   have G2 := G1.trans r3
   have mvl : (pI s y).mv.length ≤ s.mv.length + 1 := by
    unfold pI
    dsimp only
    split
    · simp
    · omega
   obtain ⟨h', g', q1, q2, q3, q4⟩ := ih (by omega) h2 g2 (pI s y) r2 ((X.go G1 hlb).go r3 (List.getElem?_eq_some_iff.1 B1.l).1) (G2.old o low) (G2.low o low) (by omega)
   rw [fold]
   exact ⟨h', g', by rw [r1, q1], q2, G2.trans q3, by omega⟩
  unfold VI.cells at la dk
  rw [show ((((m + 1 : Nat) : Int)) - 1) = (m : Int) by omega, L40x29xeq, letK_eq, if_pos (by simp), chk_of (by intro _; omega), ha, atP_of, Int.toNat_natCast, la, gCells_of]
  simp only [List.getElem?_cons_zero, List.getElem?_cons_succ]
  rw [gI_of, gI_of, gI_of, gI_of, gI_of, gL_of, dk, Option.bind_some, gI_of, letK_eq]
  by_cases h100 : y.op = 100
  · have eE : exR y = y.a := by unfold exR; rw [if_pos h100]
    rw [if_pos (by simp [h100]), letK_eq, letK_eq, letK_eq, gI_any, letK_eq, letK_eq]
    by_cases hc : y.a ≠ 0 ∧ defR y.op y.d ≠ 0 ∧ y.a ≠ defR y.op y.d
    · have c2 : ld1 h ⟨PB, 0, 0⟩ = some (.ptr (some ⟨g.G, 0, 0⟩)) := ld1_at X.bp rfl rfl
      have rm := B.m.ld 3 (.sl g.sM g.mv.length) rfl rfl
      have eml : g.mv.length = s.mv.length := by rw [B.mv]
      obtain ⟨sM', h3, h4, t1, t2, t3, t4, t5, t6⟩ := B.m.move (by omega) (defR y.op y.d, y.a)
      have c2' : h3[PB]? = some (.cells [.ptr (some ⟨g.G, 0, 0⟩)] .fix 0) := by
       rw [t6 PB (by rw [X.bp]; simp) X.p1.1]; exact X.bp
      have bpn : (h ++ [Blk.cells [.int .i64 (defR y.op y.d), .int .i64 y.a] (.grow 2) 0])[PB]? = some (.cells [.ptr (some ⟨g.G, 0, 0⟩)] .fix 0) := app_old X.bp
      have cst := ldN_one bpn c2'
      rw [if_pos (by simp [hc.1, hc.2.1, hc.2.2]), atP_of, c2, gP_of, atP_of, c2, gP_of, atP_of, add_mk, rm, gL_of, newK_eq, t1, Option.bind_some, t2, Option.bind_some, gL_of, reP_of, chkC_of (fun _ => cst), atP_of, add_mk, t3, Option.bind_some, J40x44xeq]
      have G4 : GX (· = lb) g { g with sM := sM', mv := g.mv ++ [(defR y.op y.d, y.a)] } h h4 := ⟨t5.own, t5.G, t5.S, t5.T, t5.k.mono fun b hb => by rcases hb with hb | hb; exact .inl hb; exact absurd hb id, t5.n, t5.l⟩
      have := tl h4 { g with sM := sM', mv := g.mv ++ [(defR y.op y.d, y.a)] } ⟨t4, B.e, B.sl, B.th, by
       show g.mv ++ _ = (pI s y).mv
       unfold pI
       dsimp only
       rw [if_pos ⟨h100, hc⟩, B.mv], t5.k _ _ B.l fun hh => by
        rcases hh with hh | hh
        · exact X.d hh
        · exact hh, B.ll⟩ G4
      rw [eE] at this; exact this
    · have hmv : (pI s y).mv = s.mv := by unfold pI; dsimp only; rw [if_neg (fun h => hc h.2)]
      rw [if_neg (by
       by_cases e1 : y.a = 0
       · simp [e1]
       by_cases e2 : defR y.op y.d = 0
       · simp [e2]
       · have e3 : y.a = defR y.op y.d := by
          by_cases e3 : y.a = defR y.op y.d
          · exact e3
          · exact absurd ⟨e1, e2, e3⟩ hc
         simp [e3]), J40x44xeq]
      have := tl h g (by rw [hmv]; exact B) (GX.refl ..)
      rw [eE] at this; exact this
  · have eE : exR y = 0 := by unfold exR; rw [if_neg h100]
    have hmv : (pI s y).mv = s.mv := by unfold pI; dsimp only; rw [if_neg (fun h => h100 h.1)]
    rw [if_neg (by simp [h100])]
    have := tl h g (by rw [hmv]; exact B) (GX.refl ..)
    rw [eE] at this; exact this
end Go.Proofs.Ytnmdadadjneaiaa.D
/- color.build: all blocks. -/
set_option linter.unusedVariables false
set_option linter.unusedSimpArgs false
namespace Go.Proofs.Ytnmdadadjneaiaa.D
open Go Go.Proofs.Ytnmdadadjneaiaa.Abs Go.Proofs
def pStart (L : List (List Bool)) (n : Nat) (s : Pbs) (x : VB) : Pbs := { s with th := mark s.th (endL x.e), l := mark (afterL L (List.replicate n false) x.e.to) (endL x.e) }
def pBlk (L : List (List Bool)) (n : Nat) (s : Pbs) (x : VB) : Pbs := x.ins.reverse.foldl pI (pStart L n s x)
structure BG (h : Heap) (g : Gr) (n : Nat) (s : Pbs) : Prop where
 m : GM h g n
 e : ∀ p q, gg g.L p q = true ↔ s.E p q
 sl : g.sl = s.sl
 th : g.th = s.th
 mv : g.mv = s.mv
theorem BI.bg {h : Heap} {g : Gr} {n lb : Nat} {s : Pbs} (B : BI h g n lb s) : BG h g n s := ⟨B.m, B.e, B.sl, B.th, B.mv⟩
theorem blkB_loop {hb hS : Heap} {f : VF} (R : f.R hb) (oS : Old hb hS) (fo : f.ok) {n : Nat} (hn : n = f.regs.toNat) {g0 : Gr} {L : List (List Bool)} (hL : ∀ x ∈ f.blocks, (afterL L (List.replicate n false) x.e.to).length = n) {s5 : SA} {es : List Nat} (hes : es.length = f.blocks.length) (V5 : VS (hdC n) 1 hS s5 es.length es) (nd : es.Nodup)
 (he : ∀ (i e : Nat) (x : VB), es[i]? = some e → f.blocks[i]? = some x → hS[e]? = some (bits (afterL L (List.replicate n false) x.e.to))) (ne : ∀ e ∈ es, ¬ g0.owns e ∧ ¬ inS s5 e ∧ hb.length ≤ e) (n5 : ∀ b, inS s5 b → ¬ g0.owns b) {PB : Nat} (hPB : hS[PB]? = some (.cells [.ptr (some ⟨g0.G, 0, 0⟩)] .fix 0)) (nPB : ¬ g0.owns PB ∧ PB ∉ es) (low : ∀ b, g0.owns b → hb.length ≤ b) (s4 : SA) (n4 : Nat) (Q : Kont (AV × Heap)) :
 ∀ (k j : Nat), j + k = f.blocks.length → ∀ (h : Heap) (g : Gr) (s : Pbs), BG h g n s → Kp (fun b => g0.owns b ∨ b ∈ es.take j) hS h → hS.length ≤ h.length → (∀ b, g.owns b → g0.owns b ∨ hS.length ≤ b) → g.G = g0.G → s.mv.length + sumI (f.blocks.drop j) ≤ 50000 →
  ∃ h' g', L40x16 mk0 E f.nm f.sp f.params.length f.regs f.sb f.blocks.length (some ⟨PB, 0, 0⟩) s4 n4 s5 es.length f.sb f.blocks.length ((f.blocks.length : Nat) : Int) ((j : Nat) : Int) h Q = Q (.exit 2) (S40xe2 f.nm f.sp f.params.length f.regs f.sb f.blocks.length (some ⟨PB, 0, 0⟩) s4 n4 h') ∧
   BG h' g' n ((f.blocks.drop j).foldl (pBlk L n) s) ∧ Kp (fun b => g0.owns b ∨ b ∈ es) hS h' ∧ hS.length ≤ h'.length ∧ (∀ b, g'.owns b → g0.owns b ∨ hS.length ≤ b) ∧ g'.G = g0.G := by
 have fr := fo.regs
 have okB := okB_of fr.1 fo.blk fo.sum
 have nb := fo.nb
 have fs := fo.sum
 intro k
 induction k with
 | zero =>
  intro j hj h g s B kp le ow eG hm
  rw [L40x16xeq, letK_eq, if_neg (by simp; omega), List.drop_eq_nil_of_le (by omega)]
  exact ⟨h, g, rfl, B, kp.mono fun b hb => by rcases hb with hb | hb; exact .inl hb; exact .inr (List.mem_of_mem_take hb), le, ow, eG⟩
 | succ k ih =>
  intro j hj h g s B kp le ow eG hm
  obtain ⟨x, hx⟩ := at_lt (l := f.blocks) (i := j) (by omega)
  have hxm := List.mem_of_getElem? hx
  have okx := okB x hxm
  have sm := sumI_mem hxm
  have sd : sumI (f.blocks.drop j) = x.ins.length + sumI (f.blocks.drop (j + 1)) := by rw [drop_at hx]; rfl
  obtain ⟨e, he'⟩ := at_lt (l := es) (i := j) (by omega)
  have hem := List.mem_of_getElem? he'
  obtain ⟨ne1, ne2, ne3⟩ := ne e hem
  have eS := he j e x he' hx
  have eSl : e < hS.length := (List.getElem?_eq_some_iff.1 eS).1
  have ntk : e ∉ es.take j := fun hm => by
   obtain ⟨i, hi, hh⟩ := List.getElem_of_mem hm
   rw [List.length_take] at hi
   rw [List.getElem_take] at hh
   have := nd_get nd (i := i) (j := j) (q := e) (by rw [List.getElem?_eq_getElem (by omega), hh]) he'
   omega
  have eh : h[e]? = some (bits (afterL L (List.replicate n false) x.e.to)) := kp _ _ eS fun hh => by
   rcases hh with hh | hh
   · exact ne1 hh
   · exact ntk hh
  have oh : Old hb h := kp.old oS fun q hq hh => by
   rcases hh with hh | hh
   · have := low q hh; omega
   · have := (ne q (List.mem_of_mem_take hh)).2.2; omega
  have V : VS (hdC n) 1 h s5 es.length es := vs_kp V5 kp fun b hb hh => by
   rcases hh with hh | hh
   · exact n5 b hb hh
   · exact (ne b (List.mem_of_mem_take hh)).2.1 hb
  have PBl : PB < hS.length := (List.getElem?_eq_some_iff.1 hPB).1
  have hP : h[PB]? = some (.cells [.ptr (some ⟨g0.G, 0, 0⟩)] .fix 0) := kp _ _ hPB fun hh => by
   rcases hh with hh | hh
   · exact nPB.1 hh
   · exact nPB.2 (List.mem_of_mem_take hh)
  obtain ⟨a, ha, la⟩ := vs_ld (vs_old R.b oh) vb_flat j x hx
  obtain ⟨a5, ha5, la5⟩ := vs_ld1 (g := hdr n) V (fun _ => rfl) _ e he'
  have bx : st1 (h ++ [.cells [.sl .nil 0] .fix 0]) ⟨h.length, 0, 0⟩ (.sl (.pos ⟨e, 0, 0⟩) n) = some (h ++ [.cells [.sl (.pos ⟨e, 0, 0⟩) n] .fix 0]) := by
   rw [st1_at (last_get _ _) (by simp) (by simp), set_last]; rfl
  have ob : Old h (h ++ [.cells [.sl (.pos ⟨e, 0, 0⟩) n] .fix 0]) := old_app _ _
  obtain ⟨h1, sU, u1, u2, u3, u4⟩ := endUses_ok x.e (h ++ [.cells [.sl (.pos ⟨e, 0, 0⟩) n] .fix 0])
  have o1 : Old h h1 := ob.trans u2
  have M1 := B.m.old o1
  have lt := B.m.lt
  have nge : ¬ g.owns e := fun hh => by
   rcases ow e hh with hh | hh
   · exact ne1 hh
   · omega
  have nP : ¬ g.owns PB := fun hh => by
   rcases ow PB hh with hh | hh
   · exact nPB.1 hh
   · omega
  have nL : ¬ g.owns h.length := fun hh => Nat.lt_irrefl _ (lt _ hh)
  have eP : PB ≠ e := fun hh => nPB.2 (hh ▸ hem)
  have bl1 : h1[h.length]? = some (.cells [.sl (.pos ⟨e, 0, 0⟩) n] .fix 0) := u2 _ _ (last_get _ _)
  have X1 : BX h1 g n e h.length PB := ⟨bl1, by rw [eG]; exact o1 _ _ hP, ⟨nL, by have := (List.getElem?_eq_some_iff.1 eh).1; omega⟩, ⟨nP, eP⟩, nge⟩
  have el : (endL x.e).length ≤ 2 := List.length_filter_le _ [x.e.a, x.e.b]
  have ghT : g.owns g.T := .inl (mem_T g)
  have lT := lt g.T ghT
  obtain ⟨h2, m1, m2, m3, m4⟩ := mark77_ok M1 (by omega) (by omega) (fun r hr => by have := okx.e r hr; rw [hn]; exact this) u3 (fun b hb => by
   have := u4 b hb
   rw [List.length_append] at this
   exact ⟨by omega, by omega⟩) bl1 X1.bp ⟨X1.l1.2, fun hh => nL (by rw [hh]; exact ghT)⟩ ⟨eP, fun hh => nP (by rw [hh]; exact ghT)⟩ nge (o1 _ _ eh) (hL x hxm)
  have BI2 : BI h2 { g with th := mark g.th (endL x.e) } n e (pStart L n s x) := ⟨m2, B.e, B.sl, by show mark g.th _ = mark s.th _; rw [B.th], B.mv, m3, by show (mark _ _).length = n; rw [mark_len]; exact hL x hxm⟩
  have el1 : e < h1.length := by have := o1.le; omega
  have X2 := X1.go m4 el1
  have lowg : ∀ b, g.owns b ∨ b = e → hb.length ≤ b := by
   rintro b (hh | hh)
   · rcases ow b hh with hh | hh
     · exact low b hh
     · have := oS.le; omega
   · omega
  obtain ⟨h3, g3, q1, q2, q3, q4⟩ := insB_loop (R.r x hxm) (fun y hy => by rw [hn]; exact okx.ins y hy) (by omega) (by omega) (by omega) f.nm f.sp f.params.length f.regs f.sb f.blocks.length s4 n4 s5 es.length x.e.kind x.e.op x.e.a x.e.b x.e.n x.e.s x.e.to.length f.sb f.blocks.length ((f.blocks.length : Nat) : Int) ((j : Nat) : Int) (Q40x29 mk0 E Q) x.ins.length (Nat.le_refl _) h2 _ _ BI2 X2 (m4.old (oh.trans o1) lowg) (m4.low (oh.trans o1) lowg) (by show s.mv.length + x.ins.length ≤ 50000; omega)
  rw [List.take_length] at q2 q4
  have G3 := m4.trans q3
  unfold VB.cells VE.cells at la
  unfold VE.cells at u1
  rw [L40x16xeq, letK_eq, if_pos (by simp; omega), chk_of (by intro _; omega), ha, atP_of, Int.toNat_natCast, la, gCells_of]
  simp only [List.getElem?_cons_zero, List.getElem?_cons_succ]
  rw [gL_of, gI_of, gI_of, gI_of, gI_of, gI_of, gL_of, chk_of (by intro _; omega), ha5, atP_of, la5]
  show ∃ h' g', (gL (some (AV.sl (.pos ⟨e, 0, 0⟩) n)) true _ : Option _) = _ ∧ _
  rw [gL_of, newK_eq, bx, Option.bind_some, u1, Option.bind_some, gL_of, m1, Option.bind_some, gT0_of, letK_eq, wrap64 (by omega) (by omega), q1, X40x29xe4, letK_eq, wrap64 (by omega) (by omega), show ((j : Int) + 1) = ((j + 1 : Nat) : Int) by omega]
  have tk : es.take (j + 1) = es.take j ++ [e] := by rw [List.take_add_one, he']; rfl
  have l1 := o1.le
  have kp3 : Kp (fun b => g0.owns b ∨ b ∈ es.take (j + 1)) hS h3 := fun b y hy hno => G3.k b y (o1 b y (kp b y hy fun hh => hno (by
   rcases hh with hh | hh
   · exact .inl hh
   · exact .inr (by rw [tk]; exact List.mem_append_left _ hh)))) fun hh => by
     have hbl := (List.getElem?_eq_some_iff.1 hy).1
     rcases hh with hh | hh
     · rcases ow b hh with hh | hh
       · exact hno (.inl hh)
       · omega
     · exact hno (.inr (by rw [tk, hh]; simp))
  obtain ⟨h', g', r1, r2, r3, r4, r5, r6⟩ := ih (j + 1) (by omega) h3 g3 _ q2.bg kp3 (by have := G3.l; omega) (fun b hh => by
   rcases hh with hh | hh
   · exact ow b (.inl (by rw [← G3.own]; exact hh))
   · rcases G3.n b hh with hi | hi
     · exact ow b (.inr hi)
     · exact .inr (by omega)) (G3.G.trans eG) (by
   have : (x.ins.reverse.foldl pI (pStart L n s x)).mv.length ≤ s.mv.length + x.ins.length := q4
   omega)
  refine ⟨h', g', r1, ?_, r3, r4, r5, r6⟩
  rw [drop_at hx]
  exact r2
end Go.Proofs.Ytnmdadadjneaiaa.D
/- color.build: the rows of the graph. -/
set_option linter.unusedVariables false
set_option linter.unusedSimpArgs false
namespace Go.Proofs.Ytnmdadadjneaiaa.D
open Go Go.Proofs.Ytnmdadadjneaiaa.Abs Go.Proofs
theorem gs_add {h : Heap} {s : SA} {n es bytes : Nat} {cs : List AV} (H : GS h s n es cs) (c : List AV) (he : 0 < es) (hc : c.length = es) (fc : flatL c = true) (fa : flatL (cs ++ c) = true) (hb : (n + 1) * bytes ≤ 140737488355328) :
 ∃ s' h', ldSl (h ++ [.cells c (.grow es) 0]) (.pos ⟨h.length, 0, 0⟩) (1 * es) = some c ∧ apnd (h ++ [.cells c (.grow es) 0]) (.sl s n) es bytes c 1 = some (.sl s' (n + 1), h') ∧ GS h' s' (n + 1) es (cs ++ c) ∧ Kp (inS s) h h' ∧ (∀ b, inS s' b → inS s b ∨ h.length ≤ b) ∧ h.length ≤ h'.length := by
 obtain ⟨s', h', g1, g2, g3, g4, g5⟩ := apnd_GS (m := 1) (bytes := bytes) (ys := c) (gs_app H (l := [.cells c (.grow es) 0])) (by omega) he (by omega) fc fa hb
 rw [List.length_append] at g3
 refine ⟨s', h', by rw [Nat.one_mul]; exact ldSl_at (last_get _ _) hc fc, g1, g2, fun b x hx hn => g4 b x (app_old hx) hn, fun b hb => ?_, by omega⟩
 rcases g5 b hb with h | h
 · exact .inl h
 · rw [List.length_append] at h; exact .inr (by omega)
theorem rows_loop {h0 : Heap} {f : VF} {n : Nat} (hn : n = f.regs.toNat) (hr : 1 ≤ f.regs ∧ f.regs ≤ 8192) {G PB S T : Nat} (hG : G < h0.length) (hP : h0[PB]? = some (.cells [.ptr (some ⟨G, 0, 0⟩)] .fix 0)) (nP : PB ≠ G) (Q : Kont (AV × Heap)) :
 ∀ (k j : Nat), j + k = n → ∀ (h : Heap) (s : SA) (es : List Nat), es.length = j → Kp (· = G) h0 h → h0.length ≤ h.length → h[G]? = some (.cells [.sl s j, .sl (.pos ⟨S, 0, 0⟩) n, .sl (.pos ⟨T, 0, 0⟩) n, .sl .nil 0] .fix 0) → GS h s j 1 (es.flatMap (hdC n)) → (∀ b, inS s b → h0.length ≤ b) → (∀ e ∈ es, h0.length ≤ e ∧ ¬ inS s e ∧ h[e]? = some (bits (List.replicate n false))) → es.Nodup →
  ∃ h' s', ∃ es' : List Nat, L40x5 mk0 E f.nm f.sp f.params.length f.regs f.sb f.blocks.length (some ⟨PB, 0, 0⟩) f.regs ((j : Nat) : Int) h Q = Q (.exit 0) (S40xe0 f.nm f.sp f.params.length f.regs f.sb f.blocks.length (some ⟨PB, 0, 0⟩) h') ∧
   es'.length = n ∧ Kp (· = G) h0 h' ∧ h0.length ≤ h'.length ∧ h'[G]? = some (.cells [.sl s' n, .sl (.pos ⟨S, 0, 0⟩) n, .sl (.pos ⟨T, 0, 0⟩) n, .sl .nil 0] .fix 0) ∧ GS h' s' n 1 (es'.flatMap (hdC n)) ∧ (∀ b, inS s' b → h0.length ≤ b) ∧ (∀ e ∈ es', h0.length ≤ e ∧ ¬ inS s' e ∧ h'[e]? = some (bits (List.replicate n false))) ∧ es'.Nodup := by
 intro k
 induction k with
 | zero =>
  intro j hj h s es hl kp le gG g nw ne nd
  have : j = n := by omega
  subst this
  rw [L40x5xeq, letK_eq, if_neg (by simp; omega)]
  exact ⟨h, s, es, rfl, hl, kp, le, gG, g, nw, ne, nd⟩
 | succ k ih =>
  intro j hj h s es hl kp le gG g nw ne nd
  have gl : ∀ b, inS s b → b < h.length := fun b hb => gs_lt g hb
  have rp : Blk.cells (repl (Int.toNat f.regs) [AV.bool false]) (.grow 1) 0 = bits (List.replicate n false) := by simp [repl, bits, hn]
  have g1 : GS (h ++ [bits (List.replicate n false)]) s j 1 (es.flatMap (hdC n)) := gs_app g
  have cat : (es ++ [h.length]).flatMap (hdC n) = es.flatMap (hdC n) ++ [AV.sl (.pos ⟨h.length, 0, 0⟩) n] := by simp [hdC, hdr]
  obtain ⟨s', h', a1, a2, a3, a4, a5, a6⟩ := gs_add (bytes := 24) g1 [.sl (.pos ⟨h.length, 0, 0⟩) n] (by omega) rfl rfl (by rw [← cat]; exact rows_flat (fun _ => rfl) _) (by omega)
  rw [← cat] at a3
  rw [List.length_append] at a5 a6
  have nsG : ¬ inS s G := fun hh => by have := nw G hh; omega
  have nsP : ¬ inS s PB := fun hh => by have := nw PB hh; have := (List.getElem?_eq_some_iff.1 hP).1; omega
  have hP1 := kp _ _ hP nP
  have c2 : ld1 h ⟨PB, 0, 0⟩ = some (.ptr (some ⟨G, 0, 0⟩)) := ld1_at hP1 rfl rfl
  have hPo : ((h ++ [bits (List.replicate n false)]) ++ [Blk.cells [.sl (.pos ⟨h.length, 0, 0⟩) n] (.grow 1) 0])[PB]? = some (.cells [.ptr (some ⟨G, 0, 0⟩)] .fix 0) := app_old (app_old hP1)
  have hP' : h'[PB]? = some (.cells [.ptr (some ⟨G, 0, 0⟩)] .fix 0) := a4 _ _ (app_old hP1) nsP
  have cst := ldN_one hPo hP'
  have rw0 : ld1 h ⟨G, 0, 0 + 0⟩ = some (.sl s j) := ld1_at gG rfl rfl
  have gG' := a4 _ _ (app_old (l := [bits (List.replicate n false)]) gG) nsG
  have t3 : st1 h' ⟨G, 0, 0 + 0⟩ (.sl s' (j + 1)) = some (h'.set G (.cells [.sl s' (j + 1), .sl (.pos ⟨S, 0, 0⟩) n, .sl (.pos ⟨T, 0, 0⟩) n, .sl .nil 0] .fix 0)) := st1_at gG' (by simp) (show 0 + 0 < 4 by omega)
  rw [L40x5xeq, letK_eq, if_pos (by simp; omega), atP_of, c2, gP_of, atP_of, c2, gP_of, atP_of, add_mk, rw0, gL_of, chk_of (by omega), newK_eq, letK_eq, newK_eq, rp, ← hn, a1, Option.bind_some, a2, Option.bind_some, gL_of, reP_of, chkC_of (fun _ => cst), atP_of, add_mk, t3, Option.bind_some, letK_eq, wrap64 (by omega) (by omega), show ((j : Int) + 1) = ((j + 1 : Nat) : Int) by omega]
  have kG := kp_set (· = G) G h' (.cells [.sl s' (j + 1), .sl (.pos ⟨S, 0, 0⟩) n, .sl (.pos ⟨T, 0, 0⟩) n, .sl .nil 0] .fix 0) rfl
  have eS : ∀ e ∈ es, e < h.length := fun e he => (List.getElem?_eq_some_iff.1 (ne e he).2.2).1
  have nG : ∀ e ∈ es ++ [h.length], e ≠ G := fun e he hh => by
   rcases List.mem_append.1 he with he | he
   · have := (ne e he).1; omega
   · rw [List.mem_singleton] at he; omega
  refine ih (j + 1) (by omega) _ s' (es ++ [h.length]) (by simp [hl]) ?_ (by rw [List.length_set]; omega) ?_ ?_ (fun b hb => ?_) (fun e he => ?_) ?_
  · exact fun b x hx hnb => kG b x (a4 b x (app_old (kp b x hx hnb)) fun hh => by have := nw b hh; have := (List.getElem?_eq_some_iff.1 hx).1; omega) hnb
  · exact set_same gG'
  · exact gs_keep (s := .pos ⟨G, 0, 0⟩) a3 (fun b x hx hnb => kG b x hx fun e => hnb ⟨_, rfl, e.symm⟩) (fun b hb hh => by
     obtain ⟨a, ha, hab⟩ := hh
     cases ha
     simp only at hab
     rcases a5 b hb with h5 | h5
     · exact nsG (by rw [hab]; exact h5)
     · omega)
  · rcases a5 b hb with h5 | h5
    · exact nw b h5
    · omega
  · rcases List.mem_append.1 he with he' | he'
    · obtain ⟨n1, n2, n3⟩ := ne e he'
      refine ⟨n1, fun hi => ?_, kG _ _ (a4 _ _ (app_old n3) n2) (nG e he)⟩
      rcases a5 e hi with h5 | h5
      · exact n2 h5
      · have := eS e he'; omega
    · rw [List.mem_singleton] at he'
      subst he'
      have nh : ¬ inS s h.length := fun hi => Nat.lt_irrefl _ (gl _ hi)
      refine ⟨le, fun hi => ?_, kG _ _ (a4 _ _ (last_get _ _) nh) (nG _ he)⟩
      rcases a5 _ hi with h5 | h5
      · exact nh h5
      · simp at h5; omega
  · refine List.nodup_append.2 ⟨nd, by simp, fun a ha b hb => ?_⟩
    rw [List.mem_singleton] at hb
    have := eS a ha
    omega
end Go.Proofs.Ytnmdadadjneaiaa.D
/- color.build: the parameters. -/
set_option linter.unusedVariables false
set_option linter.unusedSimpArgs false
namespace Go.Proofs.Ytnmdadadjneaiaa.D
open Go Go.Proofs.Ytnmdadadjneaiaa.Abs Go.Proofs
def parE (a b : Int) (p q : Nat) : Prop := a.toNat ≠ b.toNat ∧ a.toNat ≠ 0 ∧ b.toNat ≠ 0 ∧ ((p = a.toNat ∧ q = b.toNat) ∨ (p = b.toNat ∧ q = a.toNat))
def parsE (ps : List Int) (b0 : List Bool) (j : Nat) (p q : Nat) : Prop := ∃ i r, j ≤ i ∧ ps[i]? = some r ∧ ((∃ t ∈ ps.take i, parE r t p q) ∨ newE b0 r.toNat 0 0 p q)
def pPar (ps : List Int) (b0 : List Bool) (j : Nat) (s : Pbs) : Pbs := { s with E := fun p q => s.E p q ∨ parsE ps b0 j p q, th := mark s.th (ps.drop j) }
theorem GX.keep {g g' : Gr} {h h' : Heap} (G : GX (fun _ => False) g g' h h') {b : Nat} {x : Blk} (hx : h[b]? = some x) (hn : ¬ g.owns b) : h'[b]? = some x ∧ ¬ g'.owns b := by
 have hb := (List.getElem?_eq_some_iff.1 hx).1
 refine ⟨G.k b x hx fun hh => hh.elim hn id, fun hh => ?_⟩
 rcases hh with hh | hh
 · exact hn (.inl (by rw [← G.own]; exact hh))
 · rcases G.n b hh with h5 | h5
   · exact hn (.inr h5)
   · omega
structure PX (hb h : Heap) (g : Gr) (n PB B e0 : Nat) (b0 : List Bool) (c0 : List AV) : Prop where
 bp : h[PB]? = some (.cells [.ptr (some ⟨g.G, 0, 0⟩)] .fix 0)
 hB : h[B]? = some (.cells (hdr n e0 :: c0) (.grow 1) 0)
 he : h[e0]? = some (bits b0)
 lb : b0.length = n
 n1 : ¬ g.owns PB
 n2 : ¬ g.owns B
 n3 : ¬ g.owns e0
 o : Old hb h
 low : ∀ b, g.owns b → hb.length ≤ b
theorem PX.go {hb h h' : Heap} {g g' : Gr} {n PB B e0 : Nat} {b0 : List Bool} {c0 : List AV} (X : PX hb h g n PB B e0 b0 c0) (G : GX (fun _ => False) g g' h h') : PX hb h' g' n PB B e0 b0 c0 := by
 have low' : ∀ b, g.owns b ∨ False → hb.length ≤ b := fun b hh => hh.elim (X.low b) False.elim
 exact ⟨by rw [G.G]; exact (G.keep X.bp X.n1).1, (G.keep X.hB X.n2).1, (G.keep X.he X.n3).1, X.lb, (G.keep X.bp X.n1).2, (G.keep X.hB X.n2).2, (G.keep X.he X.n3).2, G.old X.o low', fun b hh => G.low X.o low' b (.inl hh)⟩
theorem par77_loop {hb : Heap} {f : VF} {s : SA} {m : Nat} {ts : List Int} (V : VS intC 1 hb s m ts) (hm : m ≤ 6) {n PB B e0 : Nat} {b0 : List Bool} {c0 : List AV} {r : Int} (hr : 0 ≤ r ∧ r < (n : Int)) (ht : ∀ t ∈ ts, 0 ≤ t ∧ t < (n : Int)) (s4 : SA) (n4 : Nat) (s163 : SA) (n163 : Nat) (i164 i165 : Int) (Q : Kont (AV × Heap)) :
 ∀ (k j : Nat), j + k = m → ∀ (h : Heap) (g : Gr), GM h g n → PX hb h g n PB B e0 b0 c0 →
  ∃ h' L', L40x77 mk0 E f.nm f.sp f.params.length f.regs f.sb f.blocks.length (some ⟨PB, 0, 0⟩) s4 n4 r s163 n163 i164 i165 s m ((m : Nat) : Int) ((j : Nat) : Int) h Q = Q (.exit 10) (S40xe10 f.nm f.sp f.params.length f.regs f.sb f.blocks.length (some ⟨PB, 0, 0⟩) s4 n4 r s163 n163 i164 i165 h') ∧
   GM h' { g with L := L' } n ∧ GX (fun _ => False) g { g with L := L' } h h' ∧ ∀ p q, gg L' p q = true ↔ gg g.L p q = true ∨ ∃ t ∈ ts.drop j, parE r t p q := by
 have tl := V.1
 intro k
 induction k with
 | zero =>
  intro j hj h g M X
  rw [L40x77xeq, letK_eq, if_neg (by simp; omega), List.drop_eq_nil_of_le (by omega)]
  exact ⟨h, g.L, rfl, M, GX.refl _ _ _, fun p q => ⟨.inl, fun hh => hh.elim id fun ⟨_, h, _⟩ => by cases h⟩⟩
 | succ k ih =>
  intro j hj h g M X
  obtain ⟨y, hy⟩ := at_lt (l := ts) (i := j) (by omega)
  have hyb := ht y (List.mem_of_getElem? hy)
  obtain ⟨a, ha, la⟩ := vs_ld1 (g := AV.int .i64) (vs_old V X.o) (fun _ => rfl) j y hy
  have c2 : ld1 h ⟨PB, 0, 0⟩ = some (.ptr (some ⟨g.G, 0, 0⟩)) := ld1_at X.bp rfl rfl
  obtain ⟨h1, L1, a1, a2, a3, a4, a5⟩ := add_ok M (a := r.toNat) (b := y.toNat) (by omega) (by omega)
  rw [show ((r.toNat : Nat) : Int) = r by omega, show ((y.toNat : Nat) : Int) = y by omega] at a1
  have G1 : GX (fun _ => False) g { g with L := L1 } h h1 := GX.one rfl rfl rfl rfl rfl a3 a2
  obtain ⟨h', L', r1, r2, r3, r4⟩ := ih (j + 1) (by omega) h1 { g with L := L1 } a4 (X.go G1)
  rw [L40x77xeq, letK_eq, if_pos (by simp; omega), chk_of (by intro _; omega), ha, atP_of, Int.toNat_natCast, la, gI_of, atP_of, c2, gP_of, a1, Option.bind_some, gT0_of, letK_eq, wrap64 (by omega) (by omega), show ((j : Int) + 1) = ((j + 1 : Nat) : Int) by omega, r1]
  refine ⟨h', L', rfl, r2, G1.trans r3, fun p q => ?_⟩
  rw [r4, drop_at hy, show gg L1 = _ from a5, addE_iff]
  constructor
  · rintro ((h | h) | ⟨t, h, h'⟩)
    · exact .inl h
    · exact .inr ⟨y, by simp, h⟩
    · exact .inr ⟨t, by simp [h], h'⟩
  · rintro (h | ⟨t, h, h'⟩)
    · exact .inl (.inl h)
    · rcases List.mem_cons.1 h with rfl | h
      · exact .inl (.inr h')
      · exact .inr ⟨t, h, h'⟩
theorem par_loop {hb : Heap} {f : VF} (R : f.R hb) (fo : f.ok) {n : Nat} (hn : n = f.regs.toNat) {PB B e0 : Nat} {b0 : List Bool} {c0 : List AV} (Q : Kont (AV × Heap)) :
 ∀ (k j : Nat), j + k = f.params.length → ∀ (h : Heap) (g : Gr) (s : Pbs), BG h g n s → PX hb h g n PB B e0 b0 c0 →
  ∃ h' g', L40x65 mk0 E f.nm f.sp f.params.length f.regs f.sb f.blocks.length (some ⟨PB, 0, 0⟩) (.pos ⟨B, 0, 0⟩) f.blocks.length f.sp f.params.length ((f.params.length : Nat) : Int) ((j : Nat) : Int) h Q = Q (.exit 8) (S40xe8 (some ⟨PB, 0, 0⟩) h') ∧
   BG h' g' n (pPar f.params b0 j s) ∧ GX (fun _ => False) g g' h h' := by
 have fr := fo.regs
 have np := fo.np
 have hb0 := fo.b0
 intro k
 induction k with
 | zero =>
  intro j hj h g s M X
  rw [L40x65xeq, letK_eq, if_neg (by simp; omega)]
  refine ⟨h, g, rfl, ⟨M.m, fun p q => ?_, M.sl, ?_, M.mv⟩, GX.refl _ _ _⟩
  · rw [M.e]
    refine ⟨.inl, fun hh => hh.elim id fun ⟨i, r, h1, h2, _⟩ => ?_⟩
    have := (List.getElem?_eq_some_iff.1 h2).1
    omega
  · show g.th = mark s.th (f.params.drop j)
    rw [List.drop_eq_nil_of_le (by omega), M.th]; rfl
 | succ k ih =>
  intro j hj h g s M X
  obtain ⟨y, hy⟩ := at_lt (l := f.params) (i := j) (by omega)
  have hyb := (fo.par j y hy).1
  obtain ⟨a, ha, la⟩ := vs_ld1 (g := AV.int .i64) (vs_old R.p X.o) (fun _ => rfl) j y hy
  have c2 : ld1 h ⟨PB, 0, 0⟩ = some (.ptr (some ⟨g.G, 0, 0⟩)) := ld1_at X.bp rfl rfl
  have rt : ld1 h ⟨g.G, 0, 0 + 2⟩ = some (.sl (.pos ⟨g.T, 0, 0⟩) n) := M.m.ld 2 (.sl (.pos ⟨g.T, 0, 0⟩) n) rfl rfl
  obtain ⟨h1, t1, t2, t3, t4⟩ := M.m.setT (r := y.toNat) (by omega) true
  have G1 : GX (fun _ => False) g { g with th := g.th.set y.toNat true } h h1 := GX.one rfl rfl rfl rfl rfl (t3.mono fun b hb => by rw [hb]; exact mem_T _) t2
  have X1 := X.go G1
  obtain ⟨h2, L2, u1, u2, u3, u4⟩ := par77_loop (f := f) (vs_take R.p j (by omega)) (by omega) (n := n) (r := y) (by omega) (fun t ht => by
   obtain ⟨i, hi⟩ := List.getElem?_of_mem (List.mem_of_mem_take ht)
   have := (fo.par i t hi).1; omega) (.pos ⟨B, 0, 0⟩) f.blocks.length f.sp f.params.length ((f.params.length : Nat) : Int) ((j : Nat) : Int) (Q40x77 mk0 E Q) j 0 (by omega) h1 _ t4 X1
  have X2 := X1.go u3
  have c3 : ld1 h2 ⟨PB, 0, 0⟩ = some (.ptr (some ⟨g.G, 0, 0⟩)) := ld1_at X2.bp rfl rfl
  have rB : ld1 h2 ⟨B, 0, 0 + Int.toNat 0 * 1⟩ = some (.sl (.pos ⟨e0, 0, 0⟩) n) := ld1_at X2.hB rfl rfl
  obtain ⟨h3, L3, v1, v2, v3, v4, v5⟩ := defineE_ok u2 X2.lb X2.he X2.n3 (by omega) (d := y.toNat) (by omega) 0
  rw [show ((y.toNat : Nat) : Int) = y by omega] at v1
  have G3 : GX (fun _ => False) { g with th := g.th.set y.toNat true, L := L2 } { g with th := g.th.set y.toNat true, L := L3 } h2 h3 := GX.one rfl rfl rfl rfl rfl v2 v3
  have Bn : BG h3 { g with th := g.th.set y.toNat true, L := L3 } n { s with E := fun p q => (s.E p q ∨ ∃ t ∈ (f.params.take j).drop 0, parE y t p q) ∨ newE b0 y.toNat 0 0 p q, th := s.th.set y.toNat true } := ⟨v4, fun p q => by
   show gg L3 p q = true ↔ _
   rw [v5]
   show gg L2 p q = true ∨ _ ↔ _
   rw [u4]
   show (gg g.L p q = true ∨ _) ∨ _ ↔ _
   rw [M.e], M.sl, by show g.th.set _ _ = _; rw [M.th], M.mv⟩
  obtain ⟨h', g', w1, w2, w3⟩ := ih (j + 1) (by omega) h3 _ _ Bn (X2.go G3)
  rw [show (((0 : Nat) : Int)) = 0 from rfl] at u1
  rw [L40x65xeq, letK_eq, if_pos (by simp; omega), chk_of (by intro _; omega), ha, atP_of, Int.toNat_natCast, la, gI_of, atP_of, c2, gP_of, atP_of, add_mk, rt, gL_of, chk_of (by intro _; omega), adP_pos, atP_of, add_mk, t1, Option.bind_some, chkC_of (by intro _; exact ⟨by omega, .inl (by omega)⟩), letK_eq, u1, X40x77xe10, atP_of, c3, gP_of, chk_of (by intro _; omega), adP_pos, atP_of, add_mk, rB, gL_of, v1, Option.bind_some, gT0_of, letK_eq, wrap64 (by omega) (by omega), show ((j : Int) + 1) = ((j + 1 : Nat) : Int) by omega, w1]
  refine ⟨h', g', rfl, ?_, G1.trans (u3.trans (G3.trans w3))⟩
  have hE : ∀ p q, (pPar f.params b0 (j + 1) { s with E := fun p q => (s.E p q ∨ ∃ t ∈ (f.params.take j).drop 0, parE y t p q) ∨ newE b0 y.toNat 0 0 p q, th := s.th.set y.toNat true }).E p q ↔ (pPar f.params b0 j s).E p q := by
   intro p q
   show ((s.E p q ∨ ∃ t ∈ (f.params.take j).drop 0, parE y t p q) ∨ newE b0 y.toNat 0 0 p q) ∨ parsE f.params b0 (j + 1) p q ↔ s.E p q ∨ parsE f.params b0 j p q
   rw [List.drop_zero]
   constructor
   · rintro (((h | h) | h) | ⟨i, r, h1, h2, h3⟩)
     · exact .inl h
     · exact .inr ⟨j, y, Nat.le_refl _, hy, .inl h⟩
     · exact .inr ⟨j, y, Nat.le_refl _, hy, .inr h⟩
     · exact .inr ⟨i, r, by omega, h2, h3⟩
   · rintro (h | ⟨i, r, h1, h2, h3⟩)
     · exact .inl (.inl (.inl h))
     · by_cases hij : i = j
       · subst hij
         rw [hy] at h2; cases h2
         rcases h3 with h3 | h3
         · exact .inl (.inl (.inr h3))
         · exact .inl (.inr h3)
       · exact .inr ⟨i, r, by omega, h2, h3⟩
  exact ⟨w2.m, fun p q => (w2.e p q).trans (hE p q), w2.sl, by
   rw [w2.th]
   show mark (s.th.set y.toNat true) (f.params.drop (j + 1)) = mark s.th (f.params.drop j)
   rw [drop_at hy]; rfl, w2.mv⟩
end Go.Proofs.Ytnmdadadjneaiaa.D
/- color.build. -/
set_option linter.unusedVariables false
set_option linter.unusedSimpArgs false
namespace Go.Proofs.Ytnmdadadjneaiaa.D
open Go Go.Proofs.Ytnmdadadjneaiaa.Abs Go.Proofs
theorem afterL_len {L : List (List Bool)} {n : Nat} : ∀ (to : List Int), (∀ t ∈ to, (L.getD t.toNat []).length = n) → ∀ l : List Bool, l.length = n → (afterL L l to).length = n := by
 intro to
 induction to with
 | nil => intro _ l hl; exact hl
 | cons t to ih =>
  intro h l hl
  show (afterL L (orL l (L.getD t.toNat [])) to).length = n
  have ht := h t (by simp)
  exact ih (fun u hu => h u (by simp [hu])) _ (by rw [orL_len (by omega), hl])
theorem hdC_map (n : Nat) (l : List Nat) : l.flatMap (hdC n) = l.map (hdr n) := by
 induction l with
 | nil => rfl
 | cons x l ih => rw [List.flatMap_cons, ih]; rfl
def pZero (n : Nat) : Pbs := ⟨fun _ _ => False, List.replicate n false, List.replicate n false, [], []⟩
def pBuild (f : VF) (L : List (List Bool)) : Pbs :=
 let s := pPar f.params (L.getD 0 []) 0 (f.blocks.foldl (pBlk L f.regs.toNat) (pZero f.regs.toNat))
 { s with th := s.th.set 0 false }
theorem build_ok {h : Heap} {f : VF} (R : f.R h) (B : f.B) (fo : f.ok) :
 ∃ h' g L, E 40 [.agg f.cells] h = some (.ptr (some ⟨g.G, 0, 0⟩), h') ∧ Old h h' ∧ f.lfp L ∧ BG h' g f.regs.toNat (pBuild f L) ∧ (∀ b, g.owns b → h.length ≤ b) := by
 have fr := fo.regs
 have hb0 := fo.b0
 obtain ⟨n, hn⟩ : ∃ n, n = f.regs.toNat := ⟨_, rfl⟩
 have rp : Blk.cells (repl (Int.toNat f.regs) [AV.bool false]) (.grow 1) 0 = bits (List.replicate n false) := by simp [repl, bits, hn]
 obtain ⟨hA, eA⟩ : ∃ hA, hA = h ++ [bits (List.replicate n false)] := ⟨_, rfl⟩
 obtain ⟨hB, eB⟩ : ∃ hB, hB = hA ++ [bits (List.replicate n false)] := ⟨_, rfl⟩
 obtain ⟨hC, eC⟩ : ∃ hC, hC = hB ++ [Blk.cells [.sl .nil 0, .sl (.pos ⟨h.length, 0, 0⟩) n, .sl (.pos ⟨hA.length, 0, 0⟩) n, .sl .nil 0] .fix 0] := ⟨_, rfl⟩
 obtain ⟨h6, e6⟩ : ∃ h6, h6 = hC ++ [Blk.cells [.ptr (some ⟨hB.length, 0, 0⟩)] .fix 0] := ⟨_, rfl⟩
 have lA : hA.length = h.length + 1 := by rw [eA]; simp
 have lB : hB.length = h.length + 2 := by rw [eB]; simp [lA]
 have lC : hC.length = h.length + 3 := by rw [eC]; simp [lB]
 have l6 : h6.length = h.length + 4 := by rw [e6]; simp [lC]
 have bx : st1 (hC ++ [.cells [.ptr none] .fix 0]) ⟨hC.length, 0, 0⟩ (.ptr (some ⟨hB.length, 0, 0⟩)) = some h6 := by
  rw [st1_at (last_get _ _) (by simp) (by simp), set_last, e6]; rfl
 have o6 : Old h h6 := by rw [e6, eC, eB, eA]; exact (((old_app _ _).trans (old_app _ _)).trans (old_app _ _)).trans (old_app _ _)
 have gS : h6[h.length]? = some (bits (List.replicate n false)) := by rw [e6, eC, eB]; exact app_old (app_old (app_old (by rw [eA]; exact last_get _ _)))
 have gT : h6[hA.length]? = some (bits (List.replicate n false)) := by rw [e6, eC]; exact app_old (app_old (by rw [eB]; exact last_get _ _))
 have gG : h6[hB.length]? = some (.cells [.sl .nil 0, .sl (.pos ⟨h.length, 0, 0⟩) n, .sl (.pos ⟨hA.length, 0, 0⟩) n, .sl .nil 0] .fix 0) := by rw [e6]; exact app_old (by rw [eC]; exact last_get _ _)
 have gP : h6[hC.length]? = some (.cells [.ptr (some ⟨hB.length, 0, 0⟩)] .fix 0) := by rw [e6]; exact last_get _ _
 obtain ⟨h7, s', es', r1, r2, r3, r4, r5, r6, r7, r8, r9⟩ := rows_loop (f := f) hn fr (G := hB.length) (PB := hC.length) (S := h.length) (T := hA.length) (by omega) gP (by omega) (Q40x5 mk0 E) n 0 (by omega) h6 .nil [] rfl (Kp.refl _ _) (Nat.le_refl _) gG ⟨rfl, rfl, .inl ⟨rfl, rfl⟩⟩ (fun b ⟨_, h, _⟩ => by cases h) (fun e he => by cases he) (by simp)
 rw [show (((0 : Nat) : Int)) = 0 from rfl] at r1
 obtain ⟨q1, q2, ⟨_, q3⟩ | ⟨b', v', q3, q4⟩⟩ := r6
 · omega
 subst q3
 have b'lo := r7 b' ⟨_, rfl, rfl⟩
 have b'lt := (List.getElem?_eq_some_iff.1 q4).1
 have o7 : Old h h7 := r3.old o6 fun q hq hh => by omega
 obtain ⟨h8, Bb, qs, L, s5, es, c1, c2, c3, c4, c5, c6, c7, c8, c9, c10, c11, c12⟩ := liveB_ok (R.old o7) B fo
 rw [← hn] at c3 c8 c12
 have le8 := c2.le
 have Ll : L.length = f.blocks.length := by have := c3.len; omega
 have Lc : ∀ (i : Nat) (M : List Bool), L[i]? = some M → M.length = n := fun i M hM => by
  obtain ⟨q, hq⟩ := at_lt (l := qs) (i := i) (by have := (List.getElem?_eq_some_iff.1 hM).1; omega)
  exact (c3.cell i q M hq hM).2
 have hL : ∀ x ∈ f.blocks, (afterL L (List.replicate n false) x.e.to).length = n := fun x hx => by
  obtain ⟨_, _, _, _, _, z6⟩ := end_of (by omega) (fo.blk x hx).2
  refine afterL_len _ (fun t ht => ?_) _ (List.length_replicate ..)
  have := z6 t ht
  obtain ⟨M, hM⟩ := at_lt (l := L) (i := t.toNat) (by omega)
  simp only [List.getD, hM, Option.getD_some]
  exact Lc _ _ hM
 have cat : es'.flatMap (hdC n) = es'.map (hdr n) := hdC_map n es'
 obtain ⟨g0, eg⟩ : ∃ g0 : Gr, g0 = ⟨hB.length, b', v', es', h.length, hA.length, .nil, List.replicate n (List.replicate n false), List.replicate n false, List.replicate n false, []⟩ := ⟨_, rfl⟩
 have es7 : ∀ e ∈ es', e < h7.length := fun e he => (List.getElem?_eq_some_iff.1 (r8 e he).2.2).1
 have own : ∀ b, g0.owns b → h.length ≤ b ∧ b < h7.length ∧ b ≠ hC.length := fun b hb => by
  rw [eg] at hb
  rcases hb with hb | ⟨_, hb, _⟩
  · simp only [Gr.own, List.mem_cons] at hb
    rcases hb with rfl | rfl | rfl | rfl | hb
    · omega
    · omega
    · omega
    · omega
    · have := (r8 b hb).1; have := es7 b hb; omega
  · cases hb
 have nh : ∀ q, ¬ inS SA.nil q := fun q ⟨_, h, _⟩ => by cases h
 have k7 : ∀ q x, q ≠ hB.length → h6[q]? = some x → h8[q]? = some x := fun q x hq hx => c2 _ _ (r3 _ _ hx hq)
 have M0 : GM h8 g0 n := by
  rw [eg]
  refine ⟨c2 _ _ r5, c2 _ _ (by rw [← cat]; exact q4), r2, List.length_replicate .., fun j q M hq hM => ?_, ⟨k7 _ _ (by show h.length ≠ _; omega) gS, List.length_replicate ..⟩, ⟨k7 _ _ (by show hA.length ≠ _; omega) gT, List.length_replicate ..⟩, ⟨rfl, rfl, .inl ⟨rfl, rfl⟩⟩, ?_, fun b _ => nh b⟩
  · have hM' := List.mem_of_getElem? hM
    have := List.eq_of_mem_replicate hM'
    subst this
    exact ⟨c2 _ _ (r8 q (List.mem_of_getElem? hq)).2.2, List.length_replicate ..⟩
  · have lo : ∀ e ∈ es', h6.length ≤ e := fun e he => (r8 e he).1
    have nb : b' ∉ es' := fun he => (r8 b' he).2.1 ⟨_, rfl, rfl⟩
    show (hB.length :: h.length :: hA.length :: b' :: es').Nodup
    refine List.nodup_cons.2 ⟨fun hm => ?_, List.nodup_cons.2 ⟨fun hm => ?_, List.nodup_cons.2 ⟨fun hm => ?_, List.nodup_cons.2 ⟨nb, r9⟩⟩⟩⟩
    · simp only [List.mem_cons] at hm
      rcases hm with hm | hm | hm | hm
      · omega
      · omega
      · omega
      · have := lo _ hm; omega
    · simp only [List.mem_cons] at hm
      rcases hm with hm | hm | hm
      · omega
      · omega
      · have := lo _ hm; omega
    · simp only [List.mem_cons] at hm
      rcases hm with hm | hm
      · omega
      · have := lo _ hm; omega
 have G0 : BG h8 g0 n (pZero n) := ⟨M0, fun p q => by
  rw [eg]
  show gg (List.replicate n (List.replicate n false)) p q = true ↔ False
  rw [gg_zero]; simp, by rw [eg]; rfl, by rw [eg]; rfl, by rw [eg]; rfl⟩
 have e0G : g0.G = hB.length := by rw [eg]
 have o8 : Old h h8 := o7.trans c2
 have hP8 : h8[hC.length]? = some (.cells [.ptr (some ⟨g0.G, 0, 0⟩)] .fix 0) := by rw [e0G]; exact k7 _ _ (by omega) gP
 obtain ⟨h9, g9, d1, d2, d3, d4, d5, d6⟩ := blkB_loop R o8 fo hn hL c7 (by rw [c7]; exact vs_GS (f := hdC n) (es := 1) (fun _ => rfl) c7 c8) c11 c12 (fun e he => by
  have := (c10 e he).1
  exact ⟨fun hh => by have := own e hh; omega, (c10 e he).2.1, by have := o7.le; omega⟩) (fun b hb hh => by have := c9 b hb; have := own b hh; omega) hP8 ⟨fun hh => (own _ hh).2.2 rfl, fun hh => by have := (c10 _ hh).1; omega⟩ (fun b hb => (own b hb).1) (.pos ⟨Bb, 0, 0⟩) f.blocks.length (Q40x16 mk0 E) f.blocks.length 0 (by omega) h8 g0 (pZero n) G0 (Kp.refl _ _) (Nat.le_refl _) (fun b hb => .inl hb) rfl (by show 0 + _ ≤ _; have := fo.sum; rw [List.drop_zero]; omega)
 rw [show (((0 : Nat) : Int)) = 0 from rfl, c7] at d1
 rw [List.drop_zero] at d2
 obtain ⟨q0, hq0⟩ := at_lt (l := qs) (i := 0) (by omega)
 obtain ⟨L0, hL0⟩ := at_lt (l := L) (i := 0) (by omega)
 obtain ⟨qt, eqs⟩ : ∃ qt, qs = q0 :: qt := by
  cases qs with
  | nil => cases hq0
  | cons a b => cases hq0; exact ⟨b, rfl⟩
 have Bl := (List.getElem?_eq_some_iff.1 c3.hd).1
 have q0c := c3.cell 0 q0 L0 hq0 hL0
 have q0l := (List.getElem?_eq_some_iff.1 q0c.1).1
 have q0m := List.mem_of_getElem? hq0
 have nn : ∀ b, h7.length ≤ b → b < h8.length → ¬ g9.owns b := fun b h1 h2 hh => by
  rcases d5 b hh with hh | hh
  · have := own b hh; omega
  · omega
 have nB : ¬ (g0.owns Bb ∨ Bb ∈ es) := fun hh => by
  rcases hh with hh | hh
  · have := own _ hh; have := c6.1; omega
  · exact (c10 _ hh).2.2.1 rfl
 have nq : ¬ (g0.owns q0 ∨ q0 ∈ es) := fun hh => by
  rcases hh with hh | hh
  · have := own _ hh; have := c6.2 q0 q0m; omega
  · exact (c10 _ hh).2.2.2 q0m
 have nP : ¬ (g0.owns hC.length ∨ hC.length ∈ es) := fun hh => by
  rcases hh with hh | hh
  · exact (own _ hh).2.2 rfl
  · have := (c10 _ hh).1; omega
 have low9 : ∀ b, g9.owns b → h.length ≤ b := fun b hh => by
  rcases d5 b hh with hh | hh
  · exact (own b hh).1
  · have := o8.le; omega
 have o9 : Old h h9 := d3.old o8 fun q hq hh => by
  rcases hh with hh | hh
  · have := own q hh; omega
  · have := (c10 q hh).1; have := o7.le; omega
 have PX9 : PX h h9 g9 n hC.length Bb q0 L0 (qt.map (hdr n)) := ⟨by rw [d6]; exact d3 _ _ hP8 nP, d3 _ _ (by rw [c3.hd, eqs]; rfl) nB, d3 _ _ q0c.1 nq, q0c.2, fun hh => by
  rcases d5 _ hh with hh | hh
  · exact nP (.inl hh)
  · have := o8.le; omega, nn _ c6.1 Bl, nn _ (c6.2 q0 q0m) q0l, o9, low9⟩
 obtain ⟨h10, g10, f1, f2, f3⟩ := par_loop R fo hn (Q40x65 mk0 E) f.params.length 0 (by omega) h9 g9 _ d2 PX9
 rw [show (((0 : Nat) : Int)) = 0 from rfl] at f1
 have X10 := PX9.go f3
 have k1 : ld1 h10 ⟨hC.length, 0, 0⟩ = some (.ptr (some ⟨g10.G, 0, 0⟩)) := ld1_at X10.bp rfl rfl
 have rt : ld1 h10 ⟨g10.G, 0, 0 + 2⟩ = some (.sl (.pos ⟨g10.T, 0, 0⟩) n) := f2.m.ld 2 (.sl (.pos ⟨g10.T, 0, 0⟩) n) rfl rfl
 obtain ⟨h11, t1, t2, t3, t4⟩ := f2.m.setT (r := 0) (by omega) false
 have t1' : st1 h10 ⟨g10.T, 0, 0 + Int.toNat 0 * 1⟩ (.bool false) = some h11 := t1
 have G11 : GX (fun _ => False) g10 { g10 with th := g10.th.set 0 false } h10 h11 := GX.one rfl rfl rfl rfl rfl (t3.mono fun b hb => by rw [hb]; exact mem_T _) t2
 have X11 := X10.go G11
 have k2 : ld1 h11 ⟨hC.length, 0, 0⟩ = some (.ptr (some ⟨g10.G, 0, 0⟩)) := ld1_at X11.bp rfl rfl
 refine ⟨h11, { g10 with th := g10.th.set 0 false }, L, ?_, X11.o, c4, ?_, X11.low⟩
 · unfold VF.cells at *
   rw [e40, chk_of (by omega), newK_eq, letK_eq, chk_of (by omega), newK_eq, letK_eq, newK_eq, newK_eq, rp, ← hn, ← eA, ← eB, ← eC, bx, Option.bind_some, r1, X40x5xe0, c1, Option.bind_some, gT_of (n := 3) [_, _, _] rfl]
   simp only [List.getD_cons_zero, List.getD_cons_succ]
   rw [gL_of, gL_of, gI_of, d1, X40x16xe2, f1, X40x65xe8, atP_of, k1, gP_of, atP_of, add_mk, rt, gL_of, chk_of (by intro _; omega), adP_pos, atP_of, add_mk, t1', Option.bind_some, atP_of, k2, gP_of]
 · have eL : L.getD 0 [] = L0 := by simp [List.getD, hL0]
   rw [← hn]
   unfold pBuild
   rw [← hn, eL]
   exact ⟨t4, f2.e, f2.sl, by show g10.th.set 0 false = _; rw [f2.th], f2.mv⟩
end Go.Proofs.Ytnmdadadjneaiaa.D
