/- The interpreter of virtual code: arithmetic, memory. -/
import Derived.Test.YtnmdadadjneaiaaConDe
import Derived.Test.YtnmdadadjneaiaaDGen3
set_option linter.unusedVariables false
set_option linter.unusedSimpArgs false
namespace Go.Proofs.Ytnmdadadjneaiaa.D
open Go Go.Proofs.Ytnmdadadjneaiaa.Abs Go.Proofs
theorem smi_ex (x : Int) : ∃ v, ∀ h, E 22 [.int .i64 x] h = some (.int .i64 v, h) := ⟨_, fun h => by rw [e22, letK_eq, letK_eq, letK_eq, letK_eq]⟩
noncomputable def smi (x : Int) : Int := (smi_ex x).choose
theorem smi_ok (x : Int) (h : Heap) : E 22 [.int .i64 x] h = some (.int .i64 (smi x), h) := (smi_ex x).choose_spec h
theorem shl_loop (n : Int) (hn : n ≤ 2147483647) : ∀ (k : Nat) (i a : Int), 0 ≤ i → (n - i).toNat = k → ∃ v, ∀ h, L88x60 mk0 E a n i h (Q88x60 mk0 E) = some (.tup [.int .i64 v, .bool true], h) := by
 intro k
 induction k with
 | zero =>
  intro i a h0 hk
  refine ⟨a, fun h => ?_⟩
  rw [L88x60xeq, letK_eq, if_neg (by simp; omega), X88x60xe1]
 | succ k ih =>
  intro i a h0 hk
  obtain ⟨v, hv⟩ := ih (i + 1) (smi (IntKind.wrap .i64 (a + a))) (by omega) (by omega)
  refine ⟨v, fun h => ?_⟩
  rw [L88x60xeq, letK_eq, if_pos (by simp; omega), letK_eq, smi_ok, Option.bind_some, gI_of, letK_eq, wrap64 (x := i + 1) (by omega) (by omega)]
  exact hv h
theorem sar_loop (n : Int) (hn : n ≤ 2147483647) : ∀ (k : Nat) (i a : Int), 0 ≤ i → (n - i).toNat = k → ∃ v, ∀ h, L88x74 mk0 E a n i h (Q88x74 mk0 E) = some (.tup [.int .i64 v, .bool true], h) := by
 intro k
 induction k with
 | zero =>
  intro i a h0 hk
  refine ⟨a, fun h => ?_⟩
  rw [L88x74xeq, letK_eq, if_neg (by simp; omega), X88x74xe3]
 | succ k ih =>
  intro i a h0 hk
  obtain ⟨v, hv⟩ := ih (i + 1) (IntKind.wrap .i64 (Int.tdiv (IntKind.wrap .i64 (a - a % 2)) 2)) (by omega) (by omega)
  refine ⟨v, fun h => ?_⟩
  rw [L88x74xeq, letK_eq, if_pos (by simp; omega), modulo_ok _ _ _ (by omega) (by omega), Option.bind_some, gI_of, letK_eq, letK_eq, letK_eq, wrap64 (x := i + 1) (by omega) (by omega)]
  exact hv h
theorem math_ex (op a b n : Int) (hn : n ≤ 2147483647) : ∃ (v : Int) (ok : Bool), (op ≠ 4 → op ≠ 5 → ok = true) ∧ ∀ h, E 88 [.int .i64 op, .int .i64 a, .int .i64 b, .int .i64 n] h = some (.tup [.int .i64 v, .bool ok], h) := by
 by_cases h1 : op = 1
 · refine ⟨smi (IntKind.wrap .i64 (a + b)), true, fun _ _ => rfl, fun h => ?_⟩
   rw [e88, letK_eq, if_pos (by simp [h1]), letK_eq, smi_ok, Option.bind_some, gI_of]
 by_cases h2 : op = 2
 · refine ⟨smi (IntKind.wrap .i64 (a - b)), true, fun _ _ => rfl, fun h => ?_⟩
   rw [e88, letK_eq, if_neg (by simp [h1]), letK_eq, if_pos (by simp [h2]), letK_eq, smi_ok, Option.bind_some, gI_of]
 by_cases h3 : op = 3
 · refine ⟨smi (IntKind.wrap .i64 (a * b)), true, fun _ _ => rfl, fun h => ?_⟩
   rw [e88, letK_eq, if_neg (by simp [h1]), letK_eq, if_neg (by simp [h2]), letK_eq, if_pos (by simp [h3]), letK_eq, smi_ok, Option.bind_some, gI_of]
 by_cases h45 : op = 4 ∨ op = 5
 · have pre : ∀ h, E 88 [.int .i64 op, .int .i64 a, .int .i64 b, .int .i64 n] h = J88x19 mk0 E op a b n op true h := by
    intro h
    rw [e88, letK_eq, if_neg (by simp [h1]), letK_eq, if_neg (by simp [h2]), letK_eq, if_neg (by simp [h3]), letK_eq]
    rcases h45 with h4 | h5
    · rw [if_pos (by simp [h4]), decide_eq_true h4]
    · rw [if_neg (by simp [h5]), letK_eq, decide_eq_true h5]
   by_cases hb : b = 0
   · refine ⟨0, false, fun h4 h5 => by rcases h45 with h | h; exact absurd h h4; exact absurd h h5, fun h => ?_⟩
     rw [pre, J88x19xeq, if_pos rfl, letK_eq, if_pos (by simp [hb])]
   · by_cases h4 : op = 4
     · refine ⟨smi (IntKind.wrap .i64 (Int.tdiv a b)), true, fun _ _ => rfl, fun h => ?_⟩
       rw [pre, J88x19xeq, if_pos rfl, letK_eq, if_neg (by simp [hb]), letK_eq, if_pos (by simp [h4]), chk_of (fun _ => hb), letK_eq, smi_ok, Option.bind_some, gI_of]
     · refine ⟨smi (IntKind.wrap .i64 (a - IntKind.wrap .i64 (IntKind.wrap .i64 (Int.tdiv a b) * b))), true, fun _ _ => rfl, fun h => ?_⟩
       rw [pre, J88x19xeq, if_pos rfl, letK_eq, if_neg (by simp [hb]), letK_eq, if_neg (by simp [h4]), chk_of (fun _ => hb), letK_eq, letK_eq, letK_eq, smi_ok, Option.bind_some, gI_of]
 · have pre : ∀ h, E 88 [.int .i64 op, .int .i64 a, .int .i64 b, .int .i64 n] h = J88x19 mk0 E op a b n op false h := by
    intro h
    rw [e88, letK_eq, if_neg (by simp [h1]), letK_eq, if_neg (by simp [h2]), letK_eq, if_neg (by simp [h3]), letK_eq, if_neg (by simp; omega), letK_eq, decide_eq_false (by omega)]
   by_cases h6 : op = 6
   · by_cases c : a < b
     · refine ⟨1, true, fun _ _ => rfl, fun h => ?_⟩
       rw [pre, J88x19xeq, if_neg (by simp), letK_eq, if_pos (by simp [h6]), letK_eq, if_pos (by simp [c])]
     · refine ⟨0, true, fun _ _ => rfl, fun h => ?_⟩
       rw [pre, J88x19xeq, if_neg (by simp), letK_eq, if_pos (by simp [h6]), letK_eq, if_neg (by simp [c])]
   by_cases h7 : op = 7
   · by_cases c : a = b
     · refine ⟨1, true, fun _ _ => rfl, fun h => ?_⟩
       rw [pre, J88x19xeq, if_neg (by simp), letK_eq, if_neg (by simp [h6]), letK_eq, if_pos (by simp [h7]), letK_eq, if_pos (by simp [c])]
     · refine ⟨0, true, fun _ _ => rfl, fun h => ?_⟩
       rw [pre, J88x19xeq, if_neg (by simp), letK_eq, if_neg (by simp [h6]), letK_eq, if_pos (by simp [h7]), letK_eq, if_neg (by simp [c])]
   by_cases h8 : op = 8
   · refine ⟨smi (IntKind.wrap .i64 (a + n)), true, fun _ _ => rfl, fun h => ?_⟩
     rw [pre, J88x19xeq, if_neg (by simp), letK_eq, if_neg (by simp [h6]), letK_eq, if_neg (by simp [h7]), letK_eq, if_pos (by simp [h8]), letK_eq, smi_ok, Option.bind_some, gI_of]
   by_cases h9 : op = 9
   · obtain ⟨v, hv⟩ := shl_loop n hn _ 0 a (by omega) rfl
     refine ⟨v, true, fun _ _ => rfl, fun h => ?_⟩
     rw [pre, J88x19xeq, if_neg (by simp), letK_eq, if_neg (by simp [h6]), letK_eq, if_neg (by simp [h7]), letK_eq, if_neg (by simp [h8]), letK_eq, if_pos (by simp [h9])]
     exact hv h
   by_cases h10 : op = 10
   · obtain ⟨v, hv⟩ := sar_loop n hn _ 0 a (by omega) rfl
     refine ⟨v, true, fun _ _ => rfl, fun h => ?_⟩
     rw [pre, J88x19xeq, if_neg (by simp), letK_eq, if_neg (by simp [h6]), letK_eq, if_neg (by simp [h7]), letK_eq, if_neg (by simp [h8]), letK_eq, if_neg (by simp [h9]), letK_eq, if_pos (by simp [h10])]
     exact hv h
   · refine ⟨n, true, fun _ _ => rfl, fun h => ?_⟩
     rw [pre, J88x19xeq, if_neg (by simp), letK_eq, if_neg (by simp [h6]), letK_eq, if_neg (by simp [h7]), letK_eq, if_neg (by simp [h8]), letK_eq, if_neg (by simp [h9]), letK_eq, if_neg (by simp [h10])]
open Classical in
noncomputable def mv (op a b n : Int) : Int := if h : n ≤ 2147483647 then (math_ex op a b n h).choose else 0
open Classical in
noncomputable def mok (op a b n : Int) : Bool := if h : n ≤ 2147483647 then (math_ex op a b n h).choose_spec.choose else true
theorem math_ok {op a b n : Int} (hn : n ≤ 2147483647) (h : Heap) : E 88 [.int .i64 op, .int .i64 a, .int .i64 b, .int .i64 n] h = some (.tup [.int .i64 (mv op a b n), .bool (mok op a b n)], h) := by
 unfold mv mok
 rw [dif_pos hn, dif_pos hn]
 exact (math_ex op a b n hn).choose_spec.choose_spec.2 h
theorem wrap_rng (x : Int) : -9223372036854775808 ≤ IntKind.wrap .i64 x ∧ IntKind.wrap .i64 x ≤ 9223372036854775807 := by
 unfold IntKind.wrap
 simp only [IntKind.bits, IntKind.signed]
 simp
 split <;> omega
def okA (x : Int) (m : Nat) : Bool := decide (Int.tmod x 2 = 0) && !decide (x < 2) && !decide ((m : Int) ≤ IntKind.wrap .i64 (Int.tdiv x 2))
def ixA (x : Int) : Nat := (IntKind.wrap .i64 (Int.tdiv x 2)).toNat
structure VSt where
 words : List Int
 out : List Int
 most : Int
 fuel : Int
 en : Int
 stop : Bool
 bad : Bool
def rmC (F : AV) (q v : Nat) (so : SA) (s : VSt) (d : Int) : List AV := [F, .sl (.pos ⟨q, v, 0⟩) s.words.length, .int .i64 s.most, .int .i64 s.fuel, .sl so s.out.length, .int .i64 s.en, .bool s.stop, .bool s.bad, .int .i64 d]
structure RM (h : Heap) (p : Nat) (F : AV) (s : VSt) (d : Int) (q v : Nat) (so : SA) : Prop where
 hd : h[p]? = some (.cells (rmC F q v so s d) .fix 0)
 hw : h[q]? = some (.cells (s.words.map (.int .i64)) (.grow 1) v)
 ho : GS h so s.out.length 1 (s.out.map (.int .i64))
 n1 : p ≠ q
 n2 : ¬ inS so p
 n3 : ¬ inS so q
def ownR (p q : Nat) (so : SA) (b : Nat) : Prop := b = p ∨ b = q ∨ inS so b
theorem RM.kp {h h' : Heap} {p : Nat} {F : AV} {s : VSt} {d : Int} {q v : Nat} {so : SA} (H : RM h p F s d q v so) {S : Nat → Prop} (k : Kp S h h') (hs : ∀ b, ownR p q so b → ¬ S b) : RM h' p F s d q v so := by
 refine ⟨k _ _ H.hd (hs _ (.inl rfl)), k _ _ H.hw (hs _ (.inr (.inl rfl))), ?_, H.n1, H.n2, H.n3⟩
 obtain ⟨h1, h2, h3⟩ := H.ho
 refine ⟨h1, h2, ?_⟩
 rcases h3 with h3 | ⟨b, w, rfl, hb⟩
 · exact .inl h3
 · exact .inr ⟨b, w, rfl, k _ _ hb (hs _ (.inr (.inr ⟨_, rfl, rfl⟩)))⟩
theorem RM.old {h h' : Heap} {p : Nat} {F : AV} {s : VSt} {d : Int} {q v : Nat} {so : SA} (H : RM h p F s d q v so) (k : Old h h') : RM h' p F s d q v so := H.kp (k.kp fun _ => False) fun _ _ h => h
theorem RM.lt {h : Heap} {p : Nat} {F : AV} {s : VSt} {d : Int} {q v : Nat} {so : SA} (H : RM h p F s d q v so) : ∀ b, ownR p q so b → b < h.length := by
 rintro b (rfl | rfl | hb)
 · exact (List.getElem?_eq_some_iff.1 H.hd).1
 · exact (List.getElem?_eq_some_iff.1 H.hw).1
 · exact gs_lt H.ho hb
theorem RM.upd {h : Heap} {p : Nat} {F : AV} {s : VSt} {d : Int} {q v : Nat} {so : SA} (H : RM h p F s d q v so) (k : Nat) (x : AV) (s' : VSt) (d' : Int) (hk : k < 9) (hc : (rmC F q v so s d).set k x = rmC F q v so s' d') (e1 : s'.words = s.words) (e2 : s'.out = s.out) :
 ∃ h', st1 h ⟨p, 0, 0 + k⟩ x = some h' ∧ h'.length = h.length ∧ Kp (· = p) h h' ∧ RM h' p F s' d' q v so := by
 refine ⟨h.set p (.cells (rmC F q v so s' d') .fix 0), ?_, by simp, kp_set _ _ _ _ rfl, ⟨set_same H.hd, by rw [set_other H.n1, e1]; exact H.hw, ?_, H.n1, H.n2, H.n3⟩⟩
 · rw [st1_at H.hd (by simp) (by rw [Nat.zero_add]; exact hk), Nat.zero_add, hc]
 · rw [e2]
   obtain ⟨h1, h2, h3⟩ := H.ho
   refine ⟨h1, h2, ?_⟩
   rcases h3 with h3 | ⟨b, w, rfl, hb⟩
   · exact .inl h3
   · exact .inr ⟨b, w, rfl, by rw [set_other (fun e => H.n2 ⟨_, rfl, e.symm⟩)]; exact hb⟩
theorem own_app {h : Heap} {q v : Nat} {l : List Int} (hq : h[q]? = some (.cells (l.map (.int .i64)) (.grow 1) v)) (hl : l.length ≤ 1000000000) (x : Int) :
 apnd h (.sl (.pos ⟨q, v, 0⟩) l.length) 1 8 [.int .i64 x] 1 = some (.sl (.pos ⟨q, v + 1, 0⟩) (l ++ [x]).length, h.set q (.cells ((l ++ [x]).map (.int .i64)) (.grow 1) (v + 1))) := by
 simp only [apnd, hq]
 have ct : (l.map (AV.int .i64)).take (l.length * 1) = l.map (AV.int .i64) := List.take_of_length_le (by simp)
 rw [if_pos ⟨trivial, trivial, by simp, by omega⟩, if_neg (by simp), List.drop_zero, ct, if_pos (flat_ints l)]
 simp
theorem one_ld (h : Heap) (x : Int) : ldSl (h ++ [.cells [.int .i64 x] (.grow 1) 0]) (.pos ⟨h.length, 0, 0⟩) (1 * 1) = some [.int .i64 x] := ldSl_at (last_get _ _) rfl rfl
theorem RM.word {h : Heap} {p : Nat} {F : AV} {s : VSt} {d : Int} {q v : Nat} {so : SA} (H : RM h p F s d q v so) (hl : s.words.length ≤ 1000000000) (x : Int) :
 ∃ h3 h4, apnd (h ++ [.cells [.int .i64 x] (.grow 1) 0]) (.sl (.pos ⟨q, v, 0⟩) s.words.length) 1 8 [.int .i64 x] 1 = some (.sl (.pos ⟨q, v + 1, 0⟩) (s.words ++ [x]).length, h3) ∧ st1 h3 ⟨p, 0, 1 + 0⟩ (.sl (.pos ⟨q, v + 1, 0⟩) (s.words ++ [x]).length) = some h4 ∧
  RM h4 p F { s with words := s.words ++ [x] } d q (v + 1) so ∧ Kp (ownR p q so) h h4 ∧ h.length ≤ h4.length := by
 have H2 := H.old (old_app h [.cells [.int .i64 x] (.grow 1) 0])
 have ap := own_app H2.hw hl x
 have hp : ((h ++ [Blk.cells [.int .i64 x] (.grow 1) 0]).set q (Blk.cells ((s.words ++ [x]).map (.int .i64)) (.grow 1) (v + 1)))[p]? = some (.cells (rmC F q v so s d) .fix 0) := by rw [set_other (fun e => H.n1 e.symm)]; exact H2.hd
 refine ⟨_, _, ap, st1_at hp (by simp) (show 1 + 0 < (rmC F q v so s d).length from of_decide_eq_true rfl), ⟨?_, ?_, ?_, H.n1, H.n2, H.n3⟩, fun b y hb hn => ?_, by simp⟩
 · rw [set_same hp]; rfl
 · rw [set_other H.n1, set_same H2.hw]
 · obtain ⟨g1, g2, g3⟩ := H2.ho
   refine ⟨g1, g2, ?_⟩
   rcases g3 with g3 | ⟨b, w, rfl, hb⟩
   · exact .inl g3
   · exact .inr ⟨b, w, rfl, by rw [set_other (fun e => H.n2 ⟨_, rfl, e.symm⟩), set_other (fun e => H.n3 ⟨_, rfl, e.symm⟩)]; exact hb⟩
 · rw [set_other (fun e => hn (.inl e.symm)), set_other (fun e => hn (.inr (.inl e.symm)))]
   exact app_old hb
theorem RM.ld {h : Heap} {p : Nat} {F : AV} {s : VSt} {d : Int} {q v : Nat} {so : SA} (H : RM h p F s d q v so) (k : Nat) (x : AV) (hx : (rmC F q v so s d)[k]? = some x) (hf : flatA x = true) : ld1 h ⟨p, 0, 0 + k⟩ = some x :=
 ld1_at H.hd (by rw [Nat.zero_add]; exact hx) hf
theorem get_ok {h : Heap} {p : Nat} {F : AV} {s : VSt} {d : Int} {q v : Nat} {so : SA} (H : RM h p F s d q v so) {x : Int} (hx : -9223372036854775808 ≤ x ∧ x ≤ 9223372036854775807) :
 E 85 [.ptr (some ⟨p, 0, 1⟩), .int .i64 x] h = some (.tup [.int .i64 (if okA x s.words.length = true then s.words.getD (ixA x) 0 else 0), .bool (okA x s.words.length)], h) ∧ (okA x s.words.length = true → ixA x < s.words.length) := by
 have rd : ld1 h ⟨p, 0, 1 + 0⟩ = some (.sl (.pos ⟨q, v, 0⟩) s.words.length) := ld1_at H.hd rfl rfl
 have rd' : ∀ bc (K : SA → Nat → Res), gL (ld1 h (Ad.add ⟨p, 0, 1⟩ 0)) bc K = K (.pos ⟨q, v, 0⟩) s.words.length := by
  intro bc K
  rw [add_mk, rd, gL_any]
 rw [e85, letK_eq, letK_eq, letK_eq, letK_eq, chk_of (by intro _; omega), letK_eq, atP_any, atP_any, atP_any, rd', letK_eq, letK_eq]
 by_cases h1 : Int.tmod x 2 = 0
 · by_cases h2 : x < 2
   · have hok : okA x s.words.length = false := by unfold okA; simp [h1, h2]
     rw [hok, if_pos (by simp [h2])]
     exact ⟨rfl, fun h => by cases h⟩
   · have e0 : Int.tdiv x 2 = x / 2 := Int.tdiv_eq_ediv_of_nonneg (by omega)
     have e1 : IntKind.wrap .i64 (Int.tdiv x 2) = x / 2 := by rw [e0, wrap64 (by omega) (by omega)]
     by_cases h3 : (s.words.length : Int) ≤ x / 2
     · have hok : okA x s.words.length = false := by unfold okA; rw [e1]; simp [h3]
       rw [hok, e1, if_pos (by simp [h3])]
       exact ⟨rfl, fun h => by cases h⟩
     · have hok : okA x s.words.length = true := by unfold okA; rw [e1]; simp [h1, h3]; omega
       have hix : ixA x = (x / 2).toNat := by unfold ixA; rw [e1]
       have hlt : (x / 2).toNat < s.words.length := by omega
       have rw1 : ld1 h ⟨q, v, 0 + (x / 2).toNat * 1⟩ = some (.int .i64 (s.words.getD (x / 2).toNat 0)) := ld1_at H.hw (by rw [Nat.zero_add, Nat.mul_one, List.getElem?_map]; simp [List.getD, hlt]) rfl
       rw [hok, e1, if_neg (by simp [h1, h3]; omega), atP_any, rd', letK_eq, chk_of (by intro _; omega), adP_pos, atP_any, add_mk, rw1, gI_of, if_pos rfl, hix]
       exact ⟨rfl, fun _ => hlt⟩
 · have hok : okA x s.words.length = false := by unfold okA; simp [h1]
   rw [hok, if_pos (by simp [h1])]
   exact ⟨rfl, fun h => by cases h⟩
theorem RM.words {h : Heap} {p : Nat} {F : AV} {s : VSt} {d : Int} {q v : Nat} {so : SA} (H : RM h p F s d q v so) {l : List Int} (hl : l.length = s.words.length) :
 RM (h.set q (.cells (l.map (.int .i64)) (.grow 1) v)) p F { s with words := l } d q v so := by
 refine ⟨?_, set_same H.hw, ?_, H.n1, H.n2, H.n3⟩
 · rw [set_other (fun e => H.n1 e.symm), H.hd]
   unfold rmC
   simp only [hl]
 · obtain ⟨g1, g2, g3⟩ := H.ho
   refine ⟨g1, g2, ?_⟩
   rcases g3 with g3 | ⟨b, w, rfl, hb⟩
   · exact .inl g3
   · exact .inr ⟨b, w, rfl, by rw [set_other (fun e => H.n3 ⟨_, rfl, e.symm⟩)]; exact hb⟩
theorem mset_ok {h : Heap} {p : Nat} {F : AV} {s : VSt} {d : Int} {q v : Nat} {so : SA} (H : RM h p F s d q v so) {x : Int} (hx : -9223372036854775808 ≤ x ∧ x ≤ 9223372036854775807) (y : Int) :
 ∃ h', E 86 [.ptr (some ⟨p, 0, 1⟩), .int .i64 x, .int .i64 y] h = some (.bool (okA x s.words.length), h') ∧ Kp (ownR p q so) h h' ∧ h'.length = h.length ∧ RM h' p F { s with words := if okA x s.words.length = true then s.words.set (ixA x) y else s.words } d q v so := by
 obtain ⟨g1, g2⟩ := get_ok H hx
 have rd : ld1 h ⟨p, 0, 1 + 0⟩ = some (.sl (.pos ⟨q, v, 0⟩) s.words.length) := ld1_at H.hd rfl rfl
 rw [e86, g1, Option.bind_some, gT2_of]
 simp only [List.getD_cons_zero, List.getD_cons_succ]
 rw [gI_of, gB_of]
 cases hok : okA x s.words.length with
 | false =>
  rw [if_pos (by simp)]
  exact ⟨h, rfl, Kp.refl _ _, rfl, by simpa using H⟩
 | true =>
  have hlt := g2 hok
  have hix : IntKind.wrap .i64 (Int.tdiv x 2) = ((ixA x : Nat) : Int) := by
   unfold okA at hok
   simp at hok
   have e0 : Int.tdiv x 2 = x / 2 := Int.tdiv_eq_ediv_of_nonneg (by omega)
   unfold ixA
   rw [e0, wrap64 (by omega) (by omega)]
   omega
  rw [if_neg (by simp), atP_of, add_mk, rd, gL_of, letK_eq, hix, chk_of (by intro _; omega), adP_pos, atP_of, add_mk, Int.toNat_natCast, ints_set H.hw _ hlt, Option.bind_some]
  refine ⟨_, rfl, kp_set _ _ _ _ (.inr (.inl rfl)), by simp, ?_⟩
  rw [if_pos rfl]
  exact H.words (by simp)
theorem make_loop {p : Nat} {F : AV} {d : Int} {q : Nat} {so : SA} (fill : Int) (i10 : Int) {n : Nat} (hn : n ≤ 4095) : ∀ (k j : Nat), j + k = n → ∀ (h : Heap) (s : VSt) (v : Nat), RM h p F s d q v so → s.words.length + k ≤ 1000000000 →
 ∃ h' v', L87x15 mk0 E (some ⟨p, 0, 1⟩) fill i10 ((n : Nat) : Int) ((j : Nat) : Int) h (Q87x15 mk0 E) = some (.tup [.int .i64 i10, .bool true], h') ∧ RM h' p F { s with words := s.words ++ List.replicate k fill } d q v' so ∧ Kp (ownR p q so) h h' ∧ h.length ≤ h'.length := by
 intro k
 induction k with
 | zero =>
  intro j hj h s v H hl
  rw [L87x15xeq, letK_eq, if_neg (by simp; omega), X87x15xe0]
  exact ⟨h, v, rfl, by simpa using H, Kp.refl _ _, Nat.le_refl _⟩
 | succ k ih =>
  intro j hj h s v H hl
  have rd : ld1 h ⟨p, 0, 1 + 0⟩ = some (.sl (.pos ⟨q, v, 0⟩) s.words.length) := ld1_at H.hd rfl rfl
  obtain ⟨h3, h4, a1, a2, a3, a4, a5⟩ := H.word (by omega) fill
  rw [L87x15xeq, letK_eq, if_pos (by simp; omega), atP_of, add_mk, rd, gL_of, newK_eq, one_ld, Option.bind_some, a1, Option.bind_some, gL_of, atP_of, add_mk, a2, Option.bind_some, letK_eq, wrap64 (by omega) (by omega), show ((j : Int) + 1) = ((j + 1 : Nat) : Int) by omega]
  obtain ⟨h', v', r1, r2, r3, r4⟩ := ih (j + 1) (by omega) h4 _ (v + 1) a3 (by simp; omega)
  refine ⟨h', v', r1, ?_, a4.trans r3, by omega⟩
  have e : s.words ++ [fill] ++ List.replicate k fill = s.words ++ List.replicate (k + 1) fill := by rw [List.append_assoc]; rfl
  simp only [e] at r2
  exact r2
def makeP (s : VSt) (hd : Int) (n : Nat) (fill : Int) : Option Int × VSt :=
 if s.most < ((s.words.length + n + 1 : Nat) : Int) then (none, s) else (some (2 * ((s.words.length : Nat) : Int)), { s with words := s.words ++ [hd] ++ List.replicate n fill })
structure VSt.inv (s : VSt) : Prop where
 w0 : 0 < s.words.length
 w1 : s.words.length ≤ 1000000
 m : s.most ≤ 1000000
 o : s.out.length ≤ 1000
theorem make_ok {h : Heap} {p : Nat} {F : AV} {s : VSt} {d : Int} {q v : Nat} {so : SA} (H : RM h p F s d q v so) (I : s.inv) (hd : Int) {n : Nat} (hn : n ≤ 4095) (fill : Int) :
 ∃ h' v', E 87 [.ptr (some ⟨p, 0, 1⟩), .int .i64 hd, .int .i64 n, .int .i64 fill] h = some (.tup [.int .i64 ((makeP s hd n fill).1.getD 0), .bool (makeP s hd n fill).1.isSome], h') ∧ RM h' p F (makeP s hd n fill).2 d q v' so ∧ Kp (ownR p q so) h h' ∧ h.length ≤ h'.length ∧ (makeP s hd n fill).2.inv := by
 have w0 := I.w0
 have w1 := I.w1
 have rd : ld1 h ⟨p, 0, 1 + 0⟩ = some (.sl (.pos ⟨q, v, 0⟩) s.words.length) := ld1_at H.hd rfl rfl
 have rm : ld1 h ⟨p, 0, 1 + 1⟩ = some (.int .i64 s.most) := ld1_at H.hd rfl rfl
 rw [e87, atP_of, add_mk, rd, gL_of, letK_eq, if_neg (by simp; intro e; rw [e] at w0; simp at w0), J87x4xeq, atP_of, add_mk, rd, gL_of, letK_eq, letK_eq, wrap64 (x := ((s.words.length : Nat) : Int) + ((n : Nat) : Int)) (by omega) (by omega), wrap64 (by omega) (by omega), atP_of, add_mk, rm, gI_of, letK_eq]
 unfold makeP
 by_cases hc : s.most < ((s.words.length + n + 1 : Nat) : Int)
 · rw [if_pos (by simp; omega), if_pos hc]
   exact ⟨h, v, rfl, H, Kp.refl _ _, Nat.le_refl _, I⟩
 · obtain ⟨h3, h4, a1, a2, a3, a4, a5⟩ := H.word (by omega) hd
   obtain ⟨h', v', r1, r2, r3, r4⟩ := make_loop fill (2 * ((s.words.length : Nat) : Int)) hn n 0 (by omega) h4 _ (v + 1) a3 (by simp; omega)
   rw [show (((0 : Nat) : Int)) = 0 from rfl] at r1
   rw [if_neg (by simp; omega), if_neg hc, atP_of, add_mk, rd, gL_of, letK_eq, wrap64 (by omega) (by omega), atP_of, add_mk, rd, gL_of, newK_eq, one_ld, Option.bind_some, a1, Option.bind_some, gL_of, atP_of, add_mk, a2, Option.bind_some, r1]
   have := I.m
   have el : (s.words ++ [hd] ++ List.replicate n fill).length = s.words.length + 1 + n := by rw [List.length_append, List.length_append, List.length_replicate, List.length_singleton]
   exact ⟨h', v', rfl, r2, a4.trans r3, by omega, ⟨by show 0 < (s.words ++ [hd] ++ List.replicate n fill).length; omega, by show (s.words ++ [hd] ++ List.replicate n fill).length ≤ 1000000; omega, I.m, I.o⟩⟩
theorem RM.print {h : Heap} {p : Nat} {F : AV} {s : VSt} {d : Int} {q v : Nat} {so : SA} (H : RM h p F s d q v so) (hl : s.out.length ≤ 1000000) (x : Int) :
 ∃ so' h3 h4, apnd (h ++ [.cells [.int .i64 x] (.grow 1) 0]) (.sl so s.out.length) 1 8 [.int .i64 x] 1 = some (.sl so' (s.out ++ [x]).length, h3) ∧ st1 h3 ⟨p, 0, 0 + 4⟩ (.sl so' (s.out ++ [x]).length) = some h4 ∧
  RM h4 p F { s with out := s.out ++ [x] } d q v so' ∧ Kp (ownR p q so) h h4 ∧ h.length ≤ h4.length ∧ ∀ b, inS so' b → inS so b ∨ h.length ≤ b := by
 have H2 := H.old (old_app h [.cells [.int .i64 x] (.grow 1) 0])
 obtain ⟨so', h3, g1, g2, g3, g4, g5⟩ := apnd_GS (m := 1) (bytes := 8) (ys := [.int .i64 x]) H2.ho (by omega) (by omega) rfl rfl (by rw [show s.out.map (AV.int .i64) ++ [.int .i64 x] = (s.out ++ [x]).map (.int .i64) by simp]; exact flat_ints _) (by omega)
 have pl := (List.getElem?_eq_some_iff.1 H.hd).1
 have ql := (List.getElem?_eq_some_iff.1 H.hw).1
 have new : ∀ b, inS so' b → inS so b ∨ h.length ≤ b := fun b hb => by
  rcases g5 b hb with h5 | h5
  · exact .inl h5
  · rw [List.length_append] at h5; exact .inr (by omega)
 have hp : h3[p]? = some (.cells (rmC F q v so s d) .fix 0) := g4 p _ H2.hd H.n2
 have np : ¬ inS so' p := fun hb => by
  rcases new p hb with h | h
  · exact H.n2 h
  · omega
 have nq : ¬ inS so' q := fun hb => by
  rcases new q hb with h | h
  · exact H.n3 h
  · omega
 rw [List.length_append] at g3
 refine ⟨so', h3, _, by rw [g1]; simp, st1_at hp (by simp) (show 0 + 4 < 9 by omega), ⟨?_, ?_, ?_, H.n1, np, nq⟩, fun b y hb hn => ?_, by simp; omega, new⟩
 · rw [set_same hp]; rfl
 · rw [set_other H.n1]; exact g4 q _ H2.hw H.n3
 · obtain ⟨k1, k2, k3⟩ := g2
   rw [show s.out.map (AV.int .i64) ++ [.int .i64 x] = (s.out ++ [x]).map (.int .i64) by simp] at k1 k2 k3
   refine ⟨by simp, k2, ?_⟩
   rcases k3 with ⟨_, k3⟩ | ⟨b, w, rfl, hb⟩
   · omega
   · exact .inr ⟨b, w, rfl, by rw [set_other (fun e => np ⟨_, rfl, e.symm⟩)]; exact hb⟩
 · rw [set_other (fun e => hn (.inl e.symm))]
   exact g4 b y (app_old hb) (fun hi => hn (.inr (.inr hi)))
end Go.Proofs.Ytnmdadadjneaiaa.D
/- The interpreter of virtual code: one instruction. -/
set_option linter.unusedVariables false
set_option linter.unusedSimpArgs false
namespace Go.Proofs.Ytnmdadadjneaiaa.D
open Go Go.Proofs.Ytnmdadadjneaiaa.Abs Go.Proofs
def failS (s : VSt) : VSt := { s with stop := true, bad := true }
def trapS (n : Int) (s : VSt) : VSt := if s.stop = true then s else { s with stop := true, en := n }
theorem failS_inv {s : VSt} (I : s.inv) : (failS s).inv := ⟨I.w0, I.w1, I.m, I.o⟩
theorem trapS_inv {s : VSt} (I : s.inv) (n : Int) : (trapS n s).inv := by
 unfold trapS
 split
 · exact I
 · exact ⟨I.w0, I.w1, I.m, I.o⟩
theorem fail_ok {h : Heap} {p : Nat} {F : AV} {s : VSt} {d : Int} {q v : Nat} {so : SA} (H : RM h p F s d q v so) :
 ∃ h', E 55 [.ptr (some ⟨p, 0, 0⟩)] h = some (.tup [], h') ∧ h'.length = h.length ∧ Kp (· = p) h h' ∧ RM h' p F (failS s) d q v so := by
 obtain ⟨h1, a1, a2, a3, a4⟩ := H.upd 6 (.bool true) { s with stop := true } d (by omega) rfl rfl rfl
 obtain ⟨h2, b1, b2, b3, b4⟩ := a4.upd 7 (.bool true) (failS s) d (by omega) rfl rfl rfl
 rw [e55, atP_of, add_mk, a1, Option.bind_some, atP_of, add_mk, b1, Option.bind_some]
 exact ⟨h2, rfl, by omega, a3.trans b3, b4⟩
theorem trap_ok {h : Heap} {p : Nat} {F : AV} {s : VSt} {d : Int} {q v : Nat} {so : SA} (H : RM h p F s d q v so) (n : Int) :
 ∃ h', E 57 [.ptr (some ⟨p, 0, 0⟩), .int .i64 n] h = some (.tup [], h') ∧ h'.length = h.length ∧ Kp (· = p) h h' ∧ RM h' p F (trapS n s) d q v so := by
 have rd := H.ld 6 (.bool s.stop) rfl rfl
 rw [e57, atP_of, add_mk, rd, gB_of]
 unfold trapS
 cases hs : s.stop with
 | true =>
  rw [if_neg (show ¬ ((!true) = true) by simp), J57x2xeq, if_pos rfl]
  exact ⟨h, rfl, rfl, Kp.refl _ _, H⟩
 | false =>
  obtain ⟨h1, a1, a2, a3, a4⟩ := H.upd 6 (.bool true) { s with stop := true } d (by omega) rfl rfl rfl
  obtain ⟨h2, b1, b2, b3, b4⟩ := a4.upd 5 (.int .i64 n) { s with stop := true, en := n } d (by omega) rfl rfl rfl
  rw [if_pos (show (!false) = true from rfl), atP_of, add_mk, a1, Option.bind_some, atP_of, add_mk, b1, Option.bind_some, J57x2xeq, if_neg (by simp)]
  exact ⟨h2, rfl, by omega, a3.trans b3, b4⟩
theorem insDef_ok (x : VI) (h : Heap) : E 45 [.agg x.cells] h = some (.int .i64 (defR x.op x.d), h) := by
 unfold VI.cells
 rw [e45, letK_eq, gI_any, letK_eq, letK_eq]
 unfold defR
 by_cases h1 : x.op = 13 <;> by_cases h2 : x.op = 23 <;> simp [h1, h2]
structure VW (h : Heap) (p q rb : Nat) (F : AV) (d : Int) (rs : List Int) (s : VSt) (v : Nat) (so : SA) : Prop where
 rm : RM h p F s d q v so
 rg : h[rb]? = some (.cells (rs.map (.int .i64)) (.grow 1) 0)
 nr : ¬ ownR p q so rb
structure Ext (p q rb : Nat) (so0 so : SA) (h0 h : Heap) : Prop where
 k : Kp (fun b => ownR p q so0 b ∨ b = rb) h0 h
 n : ∀ b, inS so b → inS so0 b ∨ h0.length ≤ b
 l : h0.length ≤ h.length
theorem Ext.refl (p q rb : Nat) (so : SA) (h : Heap) : Ext p q rb so so h h := ⟨Kp.refl _ _, fun b hb => .inl hb, Nat.le_refl _⟩
theorem Ext.trans {p q rb : Nat} {so0 so1 so2 : SA} {h0 h1 h2 : Heap} (a : Ext p q rb so0 so1 h0 h1) (b : Ext p q rb so1 so2 h1 h2) : Ext p q rb so0 so2 h0 h2 := by
 refine ⟨fun z y hz hn => b.k z y (a.k z y hz hn) fun hh => ?_, fun z hz => ?_, Nat.le_trans a.l b.l⟩
 · have hl := (List.getElem?_eq_some_iff.1 hz).1
   rcases hh with (hh | hh | hh) | hh
   · exact hn (.inl (.inl hh))
   · exact hn (.inl (.inr (.inl hh)))
   · rcases a.n z hh with hi | hi
     · exact hn (.inl (.inr (.inr hi)))
     · omega
   · exact hn (.inr hh)
 · rcases b.n z hz with hi | hi
   · exact a.n z hi
   · have := a.l; exact .inr (by omega)
theorem VW.part {h h' : Heap} {p q rb : Nat} {F : AV} {d : Int} {rs : List Int} {s s' : VSt} {v v' : Nat} {so so' : SA} (H : VW h p q rb F d rs s v so) (R : RM h' p F s' d q v' so') (k : Kp (ownR p q so) h h') (n : ∀ b, inS so' b → inS so b ∨ h.length ≤ b) (l : h.length ≤ h'.length) :
 VW h' p q rb F d rs s' v' so' ∧ Ext p q rb so so' h h' := by
 refine ⟨⟨R, k _ _ H.rg H.nr, fun hh => ?_⟩, k.mono (fun b hb => .inl hb), n, l⟩
 have hl := (List.getElem?_eq_some_iff.1 H.rg).1
 rcases hh with hh | hh | hh
 · exact H.nr (.inl hh)
 · exact H.nr (.inr (.inl hh))
 · rcases n rb hh with hi | hi
   · exact H.nr (.inr (.inr hi))
   · omega
theorem VW.part0 {h h' : Heap} {p q rb : Nat} {F : AV} {d : Int} {rs : List Int} {s s' : VSt} {v v' : Nat} {so : SA} (H : VW h p q rb F d rs s v so) (R : RM h' p F s' d q v' so) (k : Kp (ownR p q so) h h') (l : h.length ≤ h'.length) :
 VW h' p q rb F d rs s' v' so ∧ Ext p q rb so so h h' := H.part R k (fun b hb => .inl hb) l
def setR (rs : List Int) (d v : Int) : List Int := if d = 0 then rs else rs.set d.toNat v
theorem VW.reg {h : Heap} {p q rb : Nat} {F : AV} {d : Int} {rs : List Int} {s : VSt} {v : Nat} {so : SA} (H : VW h p q rb F d rs s v so) (l : List Int) :
 VW (h.set rb (.cells (l.map (.int .i64)) (.grow 1) 0)) p q rb F d l s v so ∧ Ext p q rb so so h (h.set rb (.cells (l.map (.int .i64)) (.grow 1) 0)) := by
 have k := kp_set (· = rb) rb h (.cells (l.map (.int .i64)) (.grow 1) 0) rfl
 exact ⟨⟨H.rm.kp k fun b hb e => H.nr (e ▸ hb), set_same H.rg, H.nr⟩, k.mono (fun b hb => .inr hb), fun b hb => .inl hb, by simp⟩
theorem fin_ok {h : Heap} {p q rb : Nat} {F : AV} {d : Int} {rs : List Int} {s : VSt} {v : Nat} {so : SA} (H : VW h p q rb F d rs s v so) {x : VI} (ok : x.okR rs.length) (val : Int) (b : Bool) :
 ∃ h', J56x71 mk0 E (some ⟨p, 0, 0⟩) (.pos ⟨rb, 0, 0⟩) rs.length x.op x.d x.a x.b x.n x.s x.args.length val b h = some (.tup [], h') ∧ VW h' p q rb F d (if b = true then setR rs (defR x.op x.d) val else rs) (if b = true then s else failS s) v so ∧ Ext p q rb so so h h' := by
 rw [J56x71xeq]
 cases b with
 | false =>
  obtain ⟨h1, a1, a2, a3, a4⟩ := fail_ok H.rm
  rw [if_pos (show (!false) = true from rfl), a1, Option.bind_some, gT0_of, if_neg (by simp), if_neg (by simp)]
  obtain ⟨c1, c2⟩ := H.part0 a4 (a3.mono fun b hb => .inl hb) (by omega)
  exact ⟨h1, rfl, c1, c2⟩
 | true =>
  have dk := insDef_ok x h
  have dr := ok.def
  unfold VI.cells at dk
  rw [if_neg (show ¬ ((!true) = true) by simp), dk, Option.bind_some, gI_of, letK_eq, if_pos rfl, if_pos rfl]
  unfold setR
  by_cases h0 : defR x.op x.d = 0
  · rw [if_neg (by simp [h0]), J56x80xeq, if_pos h0]
    exact ⟨h, rfl, H, Ext.refl ..⟩
  · rw [if_pos (by simp [h0]), chk_of (by intro _; omega), adP_pos, atP_of, add_mk, ints_set H.rg _ (by omega), Option.bind_some, J56x80xeq, if_neg h0]
    obtain ⟨c1, c2⟩ := H.reg (rs.set (defR x.op x.d).toNat val)
    exact ⟨_, rfl, c1, c2⟩
def getR (rs : List Int) (i : Int) : Int := rs.getD i.toNat 0
def adr (a n : Int) : Int := IntKind.wrap .i64 (a + n)
def prV (a : Int) : Int := IntKind.wrap .i64 (Int.tdiv (IntKind.wrap .i64 (a - a % 2)) 2)
noncomputable def effP (op n a b : Int) (s : VSt) : Option Int × VSt :=
 if op = 100 then (some a, s)
 else if op = 103 then (some (IntKind.wrap .i64 (IntKind.wrap .i64 (2 * n) + 1)), s)
 else if op = 12 then (if okA (adr a n) s.words.length = true then (some (s.words.getD (ixA (adr a n)) 0), s) else (none, failS s))
 else if op = 13 then (if okA (adr a n) s.words.length = true then (some 0, { s with words := s.words.set (ixA (adr a n)) b }) else (none, failS s))
 else if op = 14 then (match makeP s b n.toNat 1 with | (some w, s') => (some w, s') | (none, s') => (none, failS s'))
 else if op = 15 then (if a < 0 ∨ 1024 < a then (none, trapS 6 s) else match makeP s ((1052672 + a) * 2 + 1) a.toNat b with | (some w, s') => (some w, s') | (none, s') => (none, failS s'))
 else if op = 23 then (if 1000 ≤ s.out.length then (none, trapS 6 s) else if a % 2 = 1 then (some 0, { s with out := s.out ++ [prV a] }) else (none, failS { s with out := s.out ++ [prV a] }))
 else if mok op a b n = true then (some (mv op a b n), s) else (none, trapS 1 s)
noncomputable def stepP (x : VI) (rs : List Int) (s : VSt) : List Int × VSt :=
 if s.fuel - 1 < 0 then (rs, failS { s with fuel := s.fuel - 1 })
 else match effP x.op x.n (getR rs x.a) (getR rs x.b) { s with fuel := s.fuel - 1 } with
  | (some w, s') => (setR rs (defR x.op x.d) w, s')
  | (none, s') => (rs, s')
theorem inv_of {s s' : VSt} (I : s.inv) (e1 : s'.words.length = s.words.length) (e2 : s'.most = s.most) (e3 : s'.out.length ≤ 1000) : s'.inv := ⟨by rw [e1]; exact I.w0, by rw [e1]; exact I.w1, by rw [e2]; exact I.m, e3⟩
def nOK (x : VI) : Prop := -2147483648 ≤ x.n ∧ x.n ≤ 2147483647 ∧ (x.op = 14 → 0 ≤ x.n ∧ x.n ≤ 4095)
theorem nOK_of {x : VI} {regs : Int} (hb : badV x regs = 0) : nOK x ∧ (isCall x.op = false → x.args = []) := by
 unfold badV at hb
 split at hb
 · omega
 split at hb
 · omega
 rename_i h2
 split at hb
 · omega
 · rename_i h3
   unfold bad2 at h3
   simp only [Bool.or_eq_true, Bool.and_eq_true, not_or, decide_eq_true_eq, not_and, Bool.not_eq_true', Bool.not_eq_false] at h3
   obtain ⟨⟨⟨⟨_, h4⟩, _⟩, _⟩, h5⟩ := h3
   unfold inB at h4 h5
   simp only [Bool.and_eq_true, decide_eq_true_eq] at h4 h5
   refine ⟨⟨h4.1, h4.2, h5⟩, fun nc => ?_⟩
   unfold isCall at nc
   simp only [Bool.or_eq_false_iff, decide_eq_false_iff_not] at nc
   have e : shR x.op = false := by unfold shR; simp [nc.1, nc.2]
   unfold bad1 at h2
   rw [e] at h2
   simp only [Bool.or_eq_true, not_or, Bool.and_eq_true, Bool.not_false, true_and, decide_eq_true_eq] at h2
   have := h2.2
   exact List.length_eq_zero_iff.1 (by omega)
theorem step_ok {h : Heap} {p q rb : Nat} {F : AV} {d : Int} {rs : List Int} {s : VSt} {v : Nat} {so : SA} (H : VW h p q rb F d rs s v so) (I : s.inv) {x : VI} (ok : x.okR rs.length) (nb0 : nOK x) (nc : isCall x.op = false) (hf : -1000000 ≤ s.fuel ∧ s.fuel ≤ 1000000) :
 ∃ h' v' so', E 56 [.ptr (some ⟨p, 0, 0⟩), .sl (.pos ⟨rb, 0, 0⟩) rs.length, .agg x.cells] h = some (.tup [], h') ∧ VW h' p q rb F d (stepP x rs s).1 (stepP x rs s).2 v' so' ∧ Ext p q rb so so' h h' ∧ (stepP x rs s).2.inv := by
 have nb := nb0
 unfold nOK at nb
 have ra := ok.2 x.a (by unfold insL; simp)
 have rbb := ok.2 x.b (by unfold insL; simp)
 obtain ⟨a, ha⟩ := at_lt (l := rs) (i := x.a.toNat) (by omega)
 obtain ⟨b, hbv⟩ := at_lt (l := rs) (i := x.b.toNat) (by omega)
 have ga : getR rs x.a = a := by simp [getR, List.getD, ha]
 have gb : getR rs x.b = b := by simp [getR, List.getD, hbv]
 unfold isCall at nc
 simp only [Bool.or_eq_false_iff, decide_eq_false_iff_not] at nc
 have rf := H.rm.ld 3 (.int .i64 s.fuel) rfl rfl
 obtain ⟨h1, a1, a2, a3, a4⟩ := H.rm.upd 3 (.int .i64 (s.fuel - 1)) { s with fuel := s.fuel - 1 } d (by omega) rfl rfl rfl
 obtain ⟨H1, X1⟩ := H.part0 a4 (a3.mono fun b hb => .inl hb) (by omega)
 have rf1 := a4.ld 3 (.int .i64 (s.fuel - 1)) rfl rfl
 have I1 : VSt.inv { s with fuel := s.fuel - 1 } := inv_of I rfl rfl I.o
 unfold VI.cells
 rw [e56, atP_of, add_mk, rf, gI_of, letK_eq, wrap64 (by omega) (by omega), atP_of, add_mk, a1, Option.bind_some, atP_of, add_mk, rf1, gI_of, letK_eq]
 unfold stepP
 by_cases hfu : s.fuel - 1 < 0
 · obtain ⟨h2, b1, b2, b3, b4⟩ := fail_ok a4
   rw [if_pos (by simp [hfu]), b1, Option.bind_some, gT0_of]
   obtain ⟨c1, c2⟩ := H1.part0 b4 (b3.mono fun b hb => .inl hb) (by omega)
   rw [if_pos hfu]
   exact ⟨h2, v, so, rfl, c1, X1.trans c2, failS_inv I1⟩
 rw [if_neg (by simp [hfu]), chk_of (by intro _; omega), adP_pos, atP_of, add_mk, ints_get H1.rg ha, gI_of, chk_of (by intro _; omega), atP_of, add_mk, ints_get H1.rg hbv, gI_of, letK_eq, if_neg hfu, ga, gb]
 generalize { s with fuel := s.fuel - 1 } = t at *
 have J70 : ∀ val b h, J56x70 mk0 E (some ⟨p, 0, 0⟩) (.pos ⟨rb, 0, 0⟩) rs.length x.op x.d x.a x.b x.n x.s x.args.length val b h = J56x71 mk0 E (some ⟨p, 0, 0⟩) (.pos ⟨rb, 0, 0⟩) rs.length x.op x.d x.a x.b x.n x.s x.args.length val b h := fun _ _ _ => J56x70xeq ..
 have J68 : ∀ val b h, J56x68 mk0 E (some ⟨p, 0, 0⟩) (.pos ⟨rb, 0, 0⟩) rs.length x.op x.d x.a x.b x.n x.s x.args.length val b h = J56x71 mk0 E (some ⟨p, 0, 0⟩) (.pos ⟨rb, 0, 0⟩) rs.length x.op x.d x.a x.b x.n x.s x.args.length val b h := fun _ _ _ => by rw [J56x68xeq, J56x69xeq, J70]
 have J66 : ∀ val b h, J56x66 mk0 E (some ⟨p, 0, 0⟩) (.pos ⟨rb, 0, 0⟩) rs.length x.op x.d x.a x.b x.n x.s x.args.length val b h = J56x71 mk0 E (some ⟨p, 0, 0⟩) (.pos ⟨rb, 0, 0⟩) rs.length x.op x.d x.a x.b x.n x.s x.args.length val b h := fun _ _ _ => by rw [J56x66xeq, J56x67xeq, J68]
 have J64 : ∀ val b h, J56x64 mk0 E (some ⟨p, 0, 0⟩) (.pos ⟨rb, 0, 0⟩) rs.length x.op x.d x.a x.b x.n x.s x.args.length val b h = J56x71 mk0 E (some ⟨p, 0, 0⟩) (.pos ⟨rb, 0, 0⟩) rs.length x.op x.d x.a x.b x.n x.s x.args.length val b h := fun _ _ _ => by rw [J56x64xeq, J56x65xeq, J66]
 unfold effP
 by_cases o100 : x.op = 100
 · obtain ⟨h', f1, f2, f3⟩ := fin_ok H1 ok a true
   rw [if_pos (by simp [o100]), f1, if_pos o100]
   exact ⟨h', v, so, rfl, f2, X1.trans f3, I1⟩
 rw [if_neg (by simp [o100]), letK_eq, if_neg o100]
 by_cases o103 : x.op = 103
 · obtain ⟨h', f1, f2, f3⟩ := fin_ok H1 ok (IntKind.wrap .i64 (IntKind.wrap .i64 (2 * x.n) + 1)) true
   rw [if_pos (by simp [o103]), letK_eq, letK_eq, J70, f1, if_pos o103]
   exact ⟨h', v, so, rfl, f2, X1.trans f3, I1⟩
 rw [if_neg (by simp [o103]), letK_eq, if_neg (by simp [nc.1]), letK_eq, J56x19xeq, if_neg (by simp [nc.2]), letK_eq, if_neg o103]
 by_cases o12 : x.op = 12
 · have aw := wrap_rng (a + x.n)
   obtain ⟨g1, g2⟩ := get_ok H1.rm aw
   rw [if_pos (by simp [o12]), atP_of, letK_eq, add_mk, show (0 + 1) = 1 from rfl, g1, Option.bind_some, gT2_of]
   simp only [List.getD_cons_zero, List.getD_cons_succ]
   rw [gI_of, gB_of, J68, if_pos o12]
   obtain ⟨h', f1, f2, f3⟩ := fin_ok H1 ok (if okA (IntKind.wrap .i64 (a + x.n)) t.words.length = true then t.words.getD (ixA (IntKind.wrap .i64 (a + x.n))) 0 else 0) (okA (IntKind.wrap .i64 (a + x.n)) t.words.length)
   rw [f1]
   unfold adr
   cases hok : okA (IntKind.wrap .i64 (a + x.n)) t.words.length with
   | true =>
    rw [hok, if_pos rfl, if_pos rfl, if_pos rfl] at f2
    rw [if_pos rfl]
    exact ⟨h', v, so, rfl, f2, X1.trans f3, I1⟩
   | false =>
    rw [hok, if_neg (by simp), if_neg (by simp)] at f2
    rw [if_neg (by simp)]
    exact ⟨h', v, so, rfl, f2, X1.trans f3, failS_inv I1⟩
 rw [if_neg (by simp [o12]), letK_eq, if_neg o12]
 by_cases o13 : x.op = 13
 · have aw := wrap_rng (a + x.n)
   obtain ⟨h2, g1, g2, g3, g4⟩ := mset_ok H1.rm aw b
   obtain ⟨H2, X2⟩ := H1.part0 g4 g2 (by omega)
   rw [if_pos (by simp [o13]), atP_of, letK_eq, add_mk, show (0 + 1) = 1 from rfl, g1, Option.bind_some, gB_of, J56x67xeq, J68, if_pos o13]
   obtain ⟨h', f1, f2, f3⟩ := fin_ok H2 ok 0 (okA (IntKind.wrap .i64 (a + x.n)) t.words.length)
   rw [f1]
   unfold adr
   cases hok : okA (IntKind.wrap .i64 (a + x.n)) t.words.length with
   | true =>
    rw [hok, if_pos rfl, if_pos rfl, if_pos rfl] at f2
    rw [if_pos rfl]
    exact ⟨h', v, so, rfl, f2, X1.trans (X2.trans f3), inv_of I1 (by simp) rfl I1.o⟩
   | false =>
    rw [hok, if_neg (by simp), if_neg (by simp), if_neg (by simp)] at f2
    rw [if_neg (by simp)]
    exact ⟨h', v, so, rfl, f2, X1.trans (X2.trans f3), failS_inv I1⟩
 rw [if_neg (by simp [o13]), letK_eq, if_neg o13]
 by_cases o14 : x.op = 14
 · have nn := nb.2.2 o14
   obtain ⟨h2, v2, g1, g2, g3, g4, g5⟩ := make_ok H1.rm I1 b (n := x.n.toNat) (by omega) 1
   rw [show ((x.n.toNat : Nat) : Int) = x.n by omega] at g1
   obtain ⟨H2, X2⟩ := H1.part0 g2 g3 g4
   rw [if_pos (by simp [o14]), atP_of, add_mk, show (0 + 1) = 1 from rfl, g1, Option.bind_some, gT2_of]
   simp only [List.getD_cons_zero, List.getD_cons_succ]
   rw [gI_of, gB_of, J66, if_pos o14]
   obtain ⟨h', f1, f2, f3⟩ := fin_ok H2 ok ((makeP t b x.n.toNat 1).1.getD 0) (makeP t b x.n.toNat 1).1.isSome
   rw [f1]
   cases hm : makeP t b x.n.toNat 1 with
   | mk r s2 =>
    rw [hm] at f2 g5
    cases r with
    | none => exact ⟨h', v2, so, rfl, f2, X1.trans (X2.trans f3), failS_inv g5⟩
    | some w => exact ⟨h', v2, so, rfl, f2, X1.trans (X2.trans f3), g5⟩
 rw [if_neg (by simp [o14]), letK_eq, if_neg o14]
 by_cases o15 : x.op = 15
 · rw [if_pos (by simp [o15]), letK_eq, letK_eq, letK_eq, if_pos o15]
   by_cases hc : a < 0 ∨ 1024 < a
   · obtain ⟨h2, b1, b2, b3, b4⟩ := trap_ok H1.rm 6
     obtain ⟨c1, c2⟩ := H1.part0 b4 (b3.mono fun b hb => .inl hb) (by omega)
     rw [if_pos (by rcases hc with hc | hc <;> simp [hc]), b1, Option.bind_some, gT0_of, if_pos hc]
     exact ⟨h2, v, so, rfl, c1, X1.trans c2, trapS_inv I1 6⟩
   · obtain ⟨h2, v2, g1, g2, g3, g4, g5⟩ := make_ok H1.rm I1 ((1052672 + a) * 2 + 1) (n := a.toNat) (by omega) b
     rw [show ((a.toNat : Nat) : Int) = a by omega] at g1
     obtain ⟨H2, X2⟩ := H1.part0 g2 g3 g4
     rw [if_neg (by
      have e1 : ¬ a < 0 := by omega
      have e2 : ¬ 1024 < a := by omega
      simp [e1, e2]), atP_of, letK_eq, letK_eq, letK_eq, wrap64 (x := 1052672 + a) (by omega) (by omega), wrap64 (x := (1052672 + a) * 2) (by omega) (by omega), wrap64 (x := (1052672 + a) * 2 + 1) (by omega) (by omega), add_mk, show (0 + 1) = 1 from rfl, g1, Option.bind_some, gT2_of]
     simp only [List.getD_cons_zero, List.getD_cons_succ]
     rw [gI_of, gB_of, J56x65xeq, J66, if_neg hc]
     obtain ⟨h', f1, f2, f3⟩ := fin_ok H2 ok ((makeP t ((1052672 + a) * 2 + 1) a.toNat b).1.getD 0) (makeP t ((1052672 + a) * 2 + 1) a.toNat b).1.isSome
     rw [f1]
     cases hm : makeP t ((1052672 + a) * 2 + 1) a.toNat b with
     | mk r s2 =>
      rw [hm] at f2 g5
      cases r with
      | none => exact ⟨h', v2, so, rfl, f2, X1.trans (X2.trans f3), failS_inv g5⟩
      | some w => exact ⟨h', v2, so, rfl, f2, X1.trans (X2.trans f3), g5⟩
 rw [if_neg (by simp [o15]), letK_eq, if_neg o15]
 by_cases o23 : x.op = 23
 · have ro := H1.rm.ld 4 (.sl so t.out.length) rfl rfl
   rw [if_pos (by simp [o23]), atP_of, add_mk, ro, gL_of, letK_eq, if_pos o23]
   by_cases hc : 1000 ≤ t.out.length
   · obtain ⟨h2, b1, b2, b3, b4⟩ := trap_ok H1.rm 6
     obtain ⟨c1, c2⟩ := H1.part0 b4 (b3.mono fun b hb => .inl hb) (by omega)
     rw [if_pos (by simp; omega), b1, Option.bind_some, gT0_of, if_pos hc]
     exact ⟨h2, v, so, rfl, c1, X1.trans c2, trapS_inv I1 6⟩
   · obtain ⟨so', h3, h4, g1, g2, g3, g4, g5, g6⟩ := H1.rm.print (by omega) (prV a)
     obtain ⟨H2, X2⟩ := H1.part g3 g4 g6 g5
     have I2 : VSt.inv { t with out := t.out ++ [prV a] } := inv_of I1 rfl rfl (by show (t.out ++ [prV a]).length ≤ 1000; rw [List.length_append, List.length_singleton]; omega)
     rw [if_neg (by simp; omega), atP_of, add_mk, ro, gL_of, modulo_ok _ _ _ (by omega) (by omega), Option.bind_some, gI_of, chkC_of (fun _ => rfl), letK_eq, letK_eq, newK_eq]
     have g1' : apnd (h1 ++ [.cells [.int .i64 (IntKind.wrap .i64 (Int.tdiv (IntKind.wrap .i64 (a - a % 2)) 2))] (.grow 1) 0]) (.sl so t.out.length) 1 8 [.int .i64 (prV a)] 1 = some (.sl so' (t.out ++ [prV a]).length, h3) := g1
     rw [one_ld, Option.bind_some]
     show ∃ h' v' so'', (Option.bind (apnd (h1 ++ [.cells [.int .i64 (IntKind.wrap .i64 (Int.tdiv (IntKind.wrap .i64 (a - a % 2)) 2))] (.grow 1) 0]) (.sl so t.out.length) 1 8 [.int .i64 (prV a)] 1) _) = _ ∧ _
     rw [g1', Option.bind_some, gL_of, atP_of, add_mk, g2, Option.bind_some, modulo_ok _ _ _ (by omega) (by omega), Option.bind_some, gI_of, letK_eq, J64, if_neg hc]
     obtain ⟨h', f1, f2, f3⟩ := fin_ok H2 ok 0 (decide (a % 2 = 1))
     rw [f1]
     by_cases hm : a % 2 = 1
     · rw [if_pos hm]
       rw [decide_eq_true hm, if_pos rfl, if_pos rfl] at f2
       exact ⟨h', v, so', rfl, f2, X1.trans (X2.trans f3), I2⟩
     · rw [if_neg hm]
       rw [decide_eq_false hm, if_neg (by simp), if_neg (by simp)] at f2
       exact ⟨h', v, so', rfl, f2, X1.trans (X2.trans f3), failS_inv I2⟩
 rw [if_neg (by simp [o23]), math_ok nb.2.1, Option.bind_some, gT2_of]
 simp only [List.getD_cons_zero, List.getD_cons_succ]
 rw [gI_of, gB_of, if_neg o23]
 cases hm : mok x.op a b x.n with
 | false =>
  obtain ⟨h2, b1, b2, b3, b4⟩ := trap_ok H1.rm 1
  obtain ⟨c1, c2⟩ := H1.part0 b4 (b3.mono fun b hb => .inl hb) (by omega)
  rw [if_pos (show (!false) = true from rfl), b1, Option.bind_some, gT0_of, if_neg (by simp)]
  exact ⟨h2, v, so, rfl, c1, X1.trans c2, trapS_inv I1 1⟩
 | true =>
  obtain ⟨h', f1, f2, f3⟩ := fin_ok H1 ok (mv x.op a b x.n) true
  rw [if_neg (show ¬ ((!true) = true) by simp), J64, f1, if_pos rfl]
  exact ⟨h', v, so, rfl, f2, X1.trans f3, I1⟩
end Go.Proofs.Ytnmdadadjneaiaa.D
/- The interpreter of virtual code: a function without calls. -/
set_option linter.unusedVariables false
set_option linter.unusedSimpArgs false
namespace Go.Proofs.Ytnmdadadjneaiaa.D
open Go Go.Proofs.Ytnmdadadjneaiaa.Abs Go.Proofs
theorem makeP_fuel (s : VSt) (hd : Int) (n : Nat) (fill : Int) : (makeP s hd n fill).2.fuel = s.fuel := by
 unfold makeP; split <;> rfl
theorem effP_fuel (op n a b : Int) (s : VSt) : (effP op n a b s).2.fuel = s.fuel := by
 have ht : ∀ k, (trapS k s).fuel = s.fuel := fun k => by unfold trapS; split <;> rfl
 unfold effP
 split
 · rfl
 split
 · rfl
 split
 · split <;> rfl
 split
 · split <;> rfl
 split
 · have := makeP_fuel s b n.toNat 1
   cases hm : makeP s b n.toNat 1 with
   | mk r s2 => rw [hm] at this; cases r <;> exact this
 split
 · split
   · exact ht 6
   · have := makeP_fuel s ((1052672 + a) * 2 + 1) a.toNat b
     cases hm : makeP s ((1052672 + a) * 2 + 1) a.toNat b with
     | mk r s2 => rw [hm] at this; cases r <;> exact this
 split
 · split
   · exact ht 6
   · split <;> rfl
 split
 · rfl
 · exact ht 1
theorem stepP_fuel (x : VI) (rs : List Int) (s : VSt) : (stepP x rs s).2.fuel = s.fuel - 1 ∧ ((stepP x rs s).2.stop = false → 0 ≤ s.fuel - 1) := by
 unfold stepP
 split
 · exact ⟨rfl, fun h => by cases h⟩
 · rename_i hf
   have := effP_fuel x.op x.n (getR rs x.a) (getR rs x.b) { s with fuel := s.fuel - 1 }
   split
   · rename_i w s' he
     rw [he] at this
     exact ⟨this, fun _ => by omega⟩
   · rename_i s' he
     rw [he] at this
     exact ⟨this, fun _ => by omega⟩
theorem setR_len (rs : List Int) (d v : Int) : (setR rs d v).length = rs.length := by
 unfold setR; split
 · rfl
 · simp
theorem stepP_len (x : VI) (rs : List Int) (s : VSt) : (stepP x rs s).1.length = rs.length := by
 unfold stepP
 split
 · rfl
 · split
   · exact setR_len ..
   · rfl
noncomputable def insP : List VI → List Int → VSt → List Int × VSt
 | [], rs, s => (rs, s)
 | x :: xs, rs, s => if (stepP x rs s).2.stop = true then stepP x rs s else insP xs (stepP x rs s).1 (stepP x rs s).2
theorem insP_len : ∀ (xs : List VI) (rs : List Int) (s : VSt), (insP xs rs s).1.length = rs.length
 | [], _, _ => rfl
 | x :: xs, rs, s => by
  unfold insP
  split
  · exact stepP_len ..
  · rw [insP_len xs, stepP_len]
theorem insP_fuel : ∀ (xs : List VI) (rs : List Int) (s : VSt), 0 ≤ s.fuel → -1 ≤ (insP xs rs s).2.fuel ∧ (insP xs rs s).2.fuel ≤ s.fuel
 | [], _, s, h => by unfold insP; exact ⟨by show -1 ≤ s.fuel; omega, Int.le_refl _⟩
 | x :: xs, rs, s, h => by
  obtain ⟨f1, f2⟩ := stepP_fuel x rs s
  unfold insP
  split
  · exact ⟨by omega, by omega⟩
  · rename_i hs
    have := insP_fuel xs (stepP x rs s).1 (stepP x rs s).2 (by rw [f1]; exact f2 (by simpa using hs))
    omega
theorem Ext.old {p q rb : Nat} {so0 so : SA} {hb h0 h : Heap} (X : Ext p q rb so0 so h0 h) (o : Old hb h0) (hs : ∀ b, ownR p q so0 b ∨ b = rb → hb.length ≤ b) : Old hb h :=
 X.k.old o fun b hb' hh => by have := hs b hh; omega
theorem Ext.low {p q rb : Nat} {so0 so : SA} {hb h0 h : Heap} (X : Ext p q rb so0 so h0 h) (o : Old hb h0) (hs : ∀ b, ownR p q so0 b ∨ b = rb → hb.length ≤ b) : ∀ b, ownR p q so b ∨ b = rb → hb.length ≤ b := by
 have := o.le
 rintro b ((h | h | h) | h)
 · exact hs b (.inl (.inl h))
 · exact hs b (.inl (.inr (.inl h)))
 · rcases X.n b h with hi | hi
   · exact hs b (.inl (.inr (.inr hi)))
   · omega
 · exact hs b (.inr h)
theorem ins_run {hb : Heap} {x : VB} (R : x.R hb) (hl : x.ins.length ≤ 1000000) {p q rb : Nat} {F : AV} {d : Int} {n : Nat} (okx : ∀ y ∈ x.ins, y.okR n ∧ nOK y ∧ isCall y.op = false) (i7x0 : Int) (s7x1 : SA) (n7x1 : Nat) (i7x2 : Int) (s7x3 : SA) (n7x3 : Nat) (i11 : Int) (Q : Kont (AV × Heap)) :
 ∀ (k j : Nat), j + k = x.ins.length → ∀ (h : Heap) (rs : List Int) (s : VSt) (v : Nat) (so : SA), VW h p q rb F d rs s v so → rs.length = n → Old hb h → (∀ b, ownR p q so b ∨ b = rb → hb.length ≤ b) → s.inv → s.stop = false → 0 ≤ s.fuel → s.fuel ≤ 1000000 →
  ∃ h' v' so', L23x33 mk0 E (some ⟨p, 0, 0⟩) i7x0 s7x1 n7x1 i7x2 s7x3 n7x3 (.pos ⟨rb, 0, 0⟩) n i11 x.s x.ins.length ((x.ins.length : Nat) : Int) ((j : Nat) : Int) h Q = Q (.exit 4) (S23xe4 (some ⟨p, 0, 0⟩) i7x0 s7x1 n7x1 i7x2 s7x3 n7x3 (.pos ⟨rb, 0, 0⟩) n i11 h') ∧
   VW h' p q rb F d (insP (x.ins.drop j) rs s).1 (insP (x.ins.drop j) rs s).2 v' so' ∧ Ext p q rb so so' h h' ∧ (insP (x.ins.drop j) rs s).2.inv := by
 intro k
 induction k with
 | zero =>
  intro j hj h rs s v so H hn o low I hs hf hf2
  rw [L23x33xeq, letK_eq, if_neg (by simp; omega), List.drop_eq_nil_of_le (by omega)]
  exact ⟨h, v, so, rfl, H, Ext.refl .., I⟩
 | succ k ih =>
  intro j hj h rs s v so H hn o low I hs hf hf2
  obtain ⟨y, hy⟩ := at_lt (l := x.ins) (i := j) (by omega)
  have hym := List.mem_of_getElem? hy
  obtain ⟨ok1, ok2, ok3⟩ := okx y hym
  subst hn
  obtain ⟨a, ha, la⟩ := vs_ld (vs_old R.i o) vi_flat j y hy
  obtain ⟨h1, v1, so1, s1, s2, s3, s4⟩ := step_ok H I ok1 ok2 ok3 ⟨by omega, by omega⟩
  have rd := s2.rm.ld 6 (.bool (stepP y rs s).2.stop) rfl rfl
  obtain ⟨f1, f2⟩ := stepP_fuel y rs s
  have e1 : insP (y :: x.ins.drop (j + 1)) rs s = if (stepP y rs s).2.stop = true then stepP y rs s else insP (x.ins.drop (j + 1)) (stepP y rs s).1 (stepP y rs s).2 := by rw [insP]
  unfold VI.cells at la s1
  rw [L23x33xeq, letK_eq, if_pos (by simp; omega), chk_of (by intro _; omega), ha, atP_of, Int.toNat_natCast, la, gCells_of]
  simp only [List.getElem?_cons_zero, List.getElem?_cons_succ]
  rw [gI_of, gI_of, gI_of, gI_of, gI_of, gL_of, s1, Option.bind_some, gT0_of, atP_of, add_mk, rd, gB_of, drop_at hy, e1]
  cases hst : (stepP y rs s).2.stop with
  | true =>
   rw [if_pos rfl, if_pos rfl]
   exact ⟨h1, v1, so1, rfl, s2, s3, s4⟩
  | false =>
   rw [if_neg (show ¬ (false = true) by simp), if_neg (show ¬ (false = true) by simp), letK_eq, wrap64 (by omega) (by omega), show ((j : Int) + 1) = ((j + 1 : Nat) : Int) by omega]
   have := f2 hst
   obtain ⟨h', v', so', r1, r2, r3, r4⟩ := ih (j + 1) (by omega) h1 _ _ v1 so1 s2 (stepP_len ..) (s3.old o low) (s3.low o low) s4 hst (by omega) (by omega)
   exact ⟨h', v', so', r1, r2, s3.trans r3, r4⟩
def brV (op a b : Int) : Bool := (decide (op = 16) && decide (a = b)) || (decide (op = 17) && !decide (a = b)) || (decide (op = 18) && decide (a < b))
def endS (s : VSt) : VSt := if s.fuel - 1 < 0 then failS { s with fuel := s.fuel - 1 } else { s with fuel := s.fuel - 1 }
noncomputable def runP (bs : List VB) : Nat → Nat → List Int → VSt → Int × VSt
 | 0, _, _, s => (0, s)
 | k + 1, i, rs, s =>
  if s.stop = true then (0, s) else match bs[i]? with
  | none => (0, s)
  | some x =>
   let r := insP x.ins rs s
   let t := endS r.2
   if t.stop = true then (0, t)
   else if x.e.kind = 0 then (getR r.1 x.e.a, t)
   else if x.e.kind = 3 then runP bs k i r.1 (trapS x.e.n t)
   else if x.e.kind = 1 then runP bs k (x.e.to.getD 0 0).toNat r.1 t
   else runP bs k (if brV x.e.op (getR r.1 x.e.a) (getR r.1 x.e.b) = true then x.e.to.getD 0 0 else x.e.to.getD 1 0).toNat r.1 t
structure BOK (x : VB) (n N : Nat) : Prop where
 ins : ∀ y ∈ x.ins, y.okR n ∧ nOK y ∧ isCall y.op = false
 len : x.ins.length ≤ 1000000
 kind : x.e.kind = 0 ∨ x.e.kind = 1 ∨ x.e.kind = 2 ∨ x.e.kind = 3
 many : ((x.e.to.length : Nat) : Int) = manyE x.e.kind
 a : 0 ≤ x.e.a ∧ x.e.a < (n : Int)
 b : 0 ≤ x.e.b ∧ x.e.b < (n : Int)
 to : ∀ t ∈ x.e.to, 0 ≤ t ∧ t < (N : Int)
theorem ret_ok {h : Heap} {p q rb : Nat} {F : AV} {d : Int} {rs : List Int} {s : VSt} {v : Nat} {so : SA} (H : VW h p q rb F d rs s v so) (hd : 0 ≤ d ∧ d ≤ 1000) :
 ∃ h', J23x75 mk0 E (some ⟨p, 0, 0⟩) h = some (.int .i64 0, h') ∧ VW h' p q rb F (d - 1) rs s v so ∧ Ext p q rb so so h h' := by
 have rd := H.rm.ld 8 (.int .i64 d) rfl rfl
 obtain ⟨h1, a1, a2, a3, a4⟩ := H.rm.upd 8 (.int .i64 (d - 1)) s (d - 1) (by omega) rfl rfl rfl
 rw [J23x75xeq, atP_of, add_mk, rd, gI_of, letK_eq, wrap64 (by omega) (by omega), atP_of, add_mk, a1, Option.bind_some]
 refine ⟨h1, rfl, ⟨a4, ?_, H.nr⟩, ⟨a3.mono fun b hb => .inl (.inl hb), fun b hb => .inl hb, by omega⟩⟩
 exact a3 _ _ H.rg fun e => H.nr (.inl e)
theorem run_loop {hb : Heap} {f : VF} (R : f.R hb) (hN : f.blocks.length ≤ 1000000) {p q rb : Nat} {F : AV} {d : Int} (hd : 0 ≤ d ∧ d ≤ 1000) {n : Nat} (okb : ∀ x ∈ f.blocks, BOK x n f.blocks.length) :
 ∀ (k : Nat) (i : Nat) (h : Heap) (rs : List Int) (s : VSt) (v : Nat) (so : SA), i < f.blocks.length → VW h p q rb F d rs s v so → rs.length = n → Old hb h → (∀ b, ownR p q so b ∨ b = rb → hb.length ≤ b) → s.inv → (s.stop = false → 0 ≤ s.fuel) → s.fuel ≤ 1000000 → s.fuel < (k : Int) → 0 < k →
  ∃ h' v' so', L23x24 mk0 E (some ⟨p, 0, 0⟩) f.nm f.sp f.params.length f.regs f.sb f.blocks.length (.pos ⟨rb, 0, 0⟩) n ((i : Nat) : Int) h (Q23x24 mk0 E) = some (.int .i64 (runP f.blocks k i rs s).1, h') ∧
   ∃ rs', VW h' p q rb F (d - 1) rs' (runP f.blocks k i rs s).2 v' so' ∧ Ext p q rb so so' h h' ∧ (runP f.blocks k i rs s).2.inv := by
 intro k
 induction k with
 | zero => intro i h rs s v so hi H hn o low I hs hf hf2 hk; omega
 | succ k ih =>
  intro i h rs s v so hi H hn o low I hs hf hf2 hk
  obtain ⟨x, hx⟩ := at_lt hi
  have ob := okb x (List.mem_of_getElem? hx)
  have rd := H.rm.ld 6 (.bool s.stop) rfl rfl
  rw [L23x24xeq, atP_of, add_mk, rd, gB_of]
  unfold runP
  cases hst : s.stop with
  | true =>
   obtain ⟨h', a1, a2, a3⟩ := ret_ok H hd
   rw [if_neg (show ¬ ((!true) = true) by simp), X23x24xe2, a1, if_pos rfl]
   exact ⟨h', v, so, rfl, rs, a2, a3, I⟩
  | false =>
   obtain ⟨a, ha, la⟩ := vs_cell (vs_old R.b o) i 0 x (.sl x.s x.ins.length) hx (by omega) rfl rfl
   obtain ⟨h1, v1, so1, s1, s2, s3, s4⟩ := ins_run (R.r x (List.mem_of_getElem? hx)) ob.len ob.ins f.nm f.sp f.params.length f.regs f.sb f.blocks.length ((i : Nat) : Int) (Q23x33 mk0 E (Q23x24 mk0 E)) x.ins.length 0 (by omega) h rs s v so H hn o low I hst (hs hst) hf
   rw [show (((0 : Nat) : Int)) = 0 from rfl] at s1
   rw [List.drop_zero] at s2 s4
   obtain ⟨f1, f2⟩ := insP_fuel x.ins rs s (hs hst)
   rw [if_pos (show (!false) = true from rfl), chk_of (by intro _; omega), ha, atP_of, Int.toNat_natCast, la, gL_of, s1, X23x33xe4, if_neg (show ¬ (false = true) by simp), hx]
   dsimp only
   have len := insP_len x.ins rs s
   generalize insP x.ins rs s = r at *
   have low1 := s3.low o low
   have o1 := s3.old o low
   have rf := s2.rm.ld 3 (.int .i64 r.2.fuel) rfl rfl
   obtain ⟨h2, b1, b2, b3, b4⟩ := s2.rm.upd 3 (.int .i64 (r.2.fuel - 1)) { r.2 with fuel := r.2.fuel - 1 } d (by omega) rfl rfl rfl
   obtain ⟨H2, X2⟩ := s2.part0 b4 (b3.mono fun b hb => .inl hb) (by omega)
   have rf2 := b4.ld 3 (.int .i64 (r.2.fuel - 1)) rfl rfl
   have I2 : VSt.inv { r.2 with fuel := r.2.fuel - 1 } := inv_of s4 rfl rfl s4.o
   rw [J23x45xeq, atP_of, add_mk, rf, gI_of, letK_eq, wrap64 (by omega) (by omega), atP_of, add_mk, b1, Option.bind_some, atP_of, add_mk, rf2, gI_of, letK_eq]
   have mid : ∃ h3, (if decide (r.2.fuel - 1 < 0) = true then (E 55 [.ptr (some ⟨p, 0, 0⟩)] h2).bind fun r123 => gT 0 r123.1 true fun u123 => J23x50 mk0 E (some ⟨p, 0, 0⟩) f.nm f.sp f.params.length f.regs f.sb f.blocks.length (.pos ⟨rb, 0, 0⟩) n ((i : Nat) : Int) r123.2 (Q23x24 mk0 E) else J23x50 mk0 E (some ⟨p, 0, 0⟩) f.nm f.sp f.params.length f.regs f.sb f.blocks.length (.pos ⟨rb, 0, 0⟩) n ((i : Nat) : Int) h2 (Q23x24 mk0 E)) =
    J23x50 mk0 E (some ⟨p, 0, 0⟩) f.nm f.sp f.params.length f.regs f.sb f.blocks.length (.pos ⟨rb, 0, 0⟩) n ((i : Nat) : Int) h3 (Q23x24 mk0 E) ∧ VW h3 p q rb F d r.1 (endS r.2) v1 so1 ∧ Ext p q rb so1 so1 h1 h3 ∧ (endS r.2).inv ∧ (endS r.2).fuel = r.2.fuel - 1 ∧ ((endS r.2).stop = false → 0 ≤ r.2.fuel - 1) := by
    unfold endS
    by_cases hc : r.2.fuel - 1 < 0
    · obtain ⟨h3, c1, c2, c3, c4⟩ := fail_ok b4
      obtain ⟨H3, X3⟩ := H2.part0 c4 (c3.mono fun b hb => .inl hb) (by omega)
      rw [if_pos (by simp [hc]), c1, Option.bind_some, gT0_of, if_pos hc]
      exact ⟨h3, rfl, H3, X2.trans X3, failS_inv I2, rfl, fun h => by cases h⟩
    · rw [if_neg (by simp [hc]), if_neg hc]
      exact ⟨h2, rfl, H2, X2, I2, rfl, fun _ => by omega⟩
   obtain ⟨h3, m1, m2, m3, m4, m5, m6⟩ := mid
   rw [m1]
   generalize endS r.2 = t at *
   have rs3 := m2.rm.ld 6 (.bool t.stop) rfl rfl
   have X3 := s3.trans m3
   have low3 := m3.low o1 low1
   have o3 := m3.old o1 low1
   rw [J23x50xeq, atP_of, add_mk, rs3, gB_of]
   cases hts : t.stop with
   | true =>
    obtain ⟨h', a1, a2, a3⟩ := ret_ok m2 hd
    rw [if_pos rfl, X23x24xe2, a1, if_pos rfl]
    exact ⟨h', v1, so1, rfl, r.1, a2, X3.trans a3, m4⟩
   | false =>
    have ft := m6 hts
    obtain ⟨ac, hac, lac⟩ := vs_part (vs_old R.b o3) i 1 6 x x.e.cells hx (by omega) rfl rfl
    rw [ha] at hac
    cases hac
    unfold VE.cells at lac
    rw [if_neg (show ¬ (false = true) by simp), if_neg (show ¬ (false = true) by simp), chk_of (by intro _; omega), ha, atP_of, Int.toNat_natCast, lac, gCells_of]
    simp only [List.getElem?_cons_zero, List.getElem?_cons_succ]
    rw [gI_of, gI_of, gI_of, gI_of, gI_of, gL_of, letK_eq]
    have er := (R.r x (List.mem_of_getElem? hx)).e.old o3
    obtain ⟨va, hva⟩ := at_lt (l := r.1) (i := x.e.a.toNat) (by have := ob.a; omega)
    obtain ⟨vb, hvb⟩ := at_lt (l := r.1) (i := x.e.b.toNat) (by have := ob.b; omega)
    have ga : getR r.1 x.e.a = va := by simp [getR, List.getD, hva]
    have gb : getR r.1 x.e.b = vb := by simp [getR, List.getD, hvb]
    have oba := ob.a
    have obb := ob.b
    have go : ∀ (t1 : VSt) (j : Int) (h4 : Heap), 0 ≤ j → j < (f.blocks.length : Int) → VW h4 p q rb F d r.1 t1 v1 so1 → Ext p q rb so1 so1 h3 h4 → t1.inv → (t1.stop = false → 0 ≤ t1.fuel) → t1.fuel = t.fuel →
     ∃ h' v' so', L23x24 mk0 E (some ⟨p, 0, 0⟩) f.nm f.sp f.params.length f.regs f.sb f.blocks.length (.pos ⟨rb, 0, 0⟩) n j h4 (Q23x24 mk0 E) = some (.int .i64 (runP f.blocks k j.toNat r.1 t1).1, h') ∧
      ∃ rs', VW h' p q rb F (d - 1) rs' (runP f.blocks k j.toNat r.1 t1).2 v' so' ∧ Ext p q rb so so' h h' ∧ (runP f.blocks k j.toNat r.1 t1).2.inv := by
     intro t1 j h4 j0 j1 W4 X4 I4 hs4 hf4
     obtain ⟨h', v', so', r1, rs', r2, r3, r4⟩ := ih j.toNat h4 r.1 t1 v1 so1 (by omega) W4 (by omega) (X4.old o3 low3) (X4.low o3 low3) I4 hs4 (by omega) (by omega) (by omega)
     rw [show ((j.toNat : Nat) : Int) = j by omega] at r1
     exact ⟨h', v', so', r1, rs', r2, X3.trans (X4.trans r3), r4⟩
    by_cases k0 : x.e.kind = 0
    · have rd8 := m2.rm.ld 8 (.int .i64 d) rfl rfl
      obtain ⟨h4, a1, a2, a3, a4⟩ := m2.rm.upd 8 (.int .i64 (d - 1)) t (d - 1) (by omega) rfl rfl rfl
      have rg4 : h4[rb]? = some (.cells (r.1.map (.int .i64)) (.grow 1) 0) := a3 _ _ m2.rg fun e => m2.nr (.inl e)
      rw [if_pos (by simp [k0]), atP_of, add_mk, rd8, gI_of, letK_eq, wrap64 (by omega) (by omega), atP_of, add_mk, a1, Option.bind_some, chk_of (by intro _; omega), adP_pos, atP_of, add_mk, ints_get rg4 hva, gI_of, X23x24xr, if_pos k0, ga]
      exact ⟨h4, v1, so1, rfl, r.1, ⟨a4, rg4, m2.nr⟩, X3.trans ⟨a3.mono fun b hb => .inl (.inl hb), fun b hb => .inl hb, by omega⟩, m4⟩
    rw [if_neg (by simp [k0]), letK_eq, if_neg k0]
    by_cases k3 : x.e.kind = 3
    · obtain ⟨h4, c1, c2, c3, c4⟩ := trap_ok m2.rm x.e.n
      obtain ⟨H4, X4⟩ := m2.part0 c4 (c3.mono fun b hb => .inl hb) (by omega)
      rw [if_pos (by simp [k3]), c1, Option.bind_some, gT0_of, J23x74xeq, if_pos k3]
      have := go (trapS x.e.n t) ((i : Nat) : Int) h4 (by omega) (by omega) H4 X4 (trapS_inv m4 _) (fun h => by unfold trapS at h; rw [if_neg (by simp [hts])] at h; cases h) (by unfold trapS; split <;> rfl)
      rw [Int.toNat_natCast] at this
      exact this
    rw [if_neg (by simp [k3]), letK_eq, if_neg k3]
    have mk := ob.many
    by_cases k1 : x.e.kind = 1
    · have e1 : manyE x.e.kind = 1 := by unfold manyE; rw [if_pos k1]
      obtain ⟨t0, ht0⟩ := at_lt (l := x.e.to) (i := 0) (by omega)
      obtain ⟨ad, had, lad⟩ := vs_ld1 (g := AV.int .i64) er (fun _ => rfl) 0 t0 ht0
      have tr := ob.to t0 (List.mem_of_getElem? ht0)
      rw [if_pos (by simp [k1]), chk_of (by intro _; omega), had, atP_of, show Int.toNat 0 * 1 = 0 * 1 from rfl, lad, gI_of, J23x73xeq, J23x74xeq, if_pos k1]
      have e0 : x.e.to.getD 0 0 = t0 := by simp [List.getD, ht0]
      rw [e0]
      exact go t t0 h3 tr.1 tr.2 m2 (Ext.refl ..) m4 (fun _ => by omega) rfl
    · have k2 : x.e.kind = 2 := by have := ob.kind; omega
      have e1 : manyE x.e.kind = 2 := by unfold manyE; rw [if_neg k1, if_pos k2]
      obtain ⟨t0, ht0⟩ := at_lt (l := x.e.to) (i := 0) (by omega)
      obtain ⟨t1, ht1⟩ := at_lt (l := x.e.to) (i := 1) (by omega)
      obtain ⟨ad, had, lad⟩ := vs_ld1 (g := AV.int .i64) er (fun _ => rfl) 0 t0 ht0
      obtain ⟨ad', had', lad'⟩ := vs_ld1 (g := AV.int .i64) er (fun _ => rfl) 1 t1 ht1
      rw [had] at had'
      cases had'
      have tr0 := ob.to t0 (List.mem_of_getElem? ht0)
      have tr1 := ob.to t1 (List.mem_of_getElem? ht1)
      have e0 : x.e.to.getD 0 0 = t0 := by simp [List.getD, ht0]
      have e01 : x.e.to.getD 1 0 = t1 := by simp [List.getD, ht1]
      have eb : (if (if (if decide (x.e.op = 16) = true then decide (va = vb) else false) = true then true else if decide (x.e.op = 17) = true then !decide (va = vb) else false) = true then true else if decide (x.e.op = 18) = true then decide (va < vb) else false) = brV x.e.op va vb := by
       unfold brV
       cases decide (x.e.op = 16) <;> cases decide (x.e.op = 17) <;> cases decide (x.e.op = 18) <;> cases decide (va = vb) <;> cases decide (va < vb) <;> rfl
      rw [if_neg (by simp [k1]), chk_of (by intro _; omega), adP_pos, atP_of, add_mk, ints_get m2.rg hva, gI_of, chk_of (by intro _; omega), atP_of, add_mk, ints_get m2.rg hvb, gI_of]
      simp only [letK_eq, gI_any]
      rw [eb, chk_of (by intro _; omega), had, atP_of, show Int.toNat 1 * 1 = 1 * 1 from rfl, lad', gI_of, if_neg k1, e0, e01, ga, gb]
      cases brV x.e.op va vb with
      | true =>
       rw [if_pos rfl, if_pos rfl, chk_of (by intro _; omega), atP_of, show Int.toNat 0 * 1 = 0 * 1 from rfl, lad, gI_of, J23x72xeq, J23x73xeq, J23x74xeq]
       exact go t t0 h3 tr0.1 tr0.2 m2 (Ext.refl ..) m4 (fun _ => by omega) rfl
      | false =>
       rw [if_neg (by simp), if_neg (by simp), J23x72xeq, J23x73xeq, J23x74xeq]
       exact go t t1 h3 tr1.1 tr1.2 m2 (Ext.refl ..) m4 (fun _ => by omega) rfl
end Go.Proofs.Ytnmdadadjneaiaa.D
/- What an accepted allocation means: the same run with places instead of registers (plain). -/
set_option linter.unusedVariables false
set_option linter.unusedSimpArgs false
namespace Go.Proofs.Ytnmdadadjneaiaa.D
open Go Go.Proofs.Ytnmdadadjneaiaa.Abs Go.Proofs
def plc (a : VA) (r : Int) : Int := if r = 0 then 0 else if placeV a r = 0 then 11 + a.slots else placeV a r
def mapI (a : VA) (x : VI) : VI := { x with d := plc a x.d, a := plc a x.a, b := plc a x.b }
def mapE (a : VA) (x : VE) : VE := { x with a := plc a x.a, b := plc a x.b }
def MapB (a : VA) (x y : VB) : Prop := y.ins = x.ins.map (mapI a) ∧ y.e = mapE a x.e
structure Sm (a : VA) (n : Nat) (g : Nat → Nat → Bool) (rs qs : List Int) : Prop where
 lr : rs.length = n
 lq : ((qs.length : Nat) : Int) = 12 + a.slots
 r0 : getR rs 0 = 0
 q0 : getR qs 0 = 0
 eq : ∀ p s : Nat, (p : Int) < 11 + a.slots → s < n → g p s = true → qs.getD p 0 = rs.getD s 0
theorem Sm.le {a : VA} {n : Nat} {g k : Nat → Nat → Bool} {rs qs : List Int} (H : Sm a n g rs qs) (h : LeG k g) : Sm a n k rs qs :=
 ⟨H.lr, H.lq, H.r0, H.q0, fun p s h1 h2 h3 => H.eq p s h1 h2 (h p s h3)⟩
theorem getD_setI (l : List Int) (i j : Nat) (v : Int) (hi : i < l.length) : (l.set i v).getD j 0 = if i = j then v else l.getD j 0 := by
 simp only [List.getD, List.getElem?_set]
 by_cases e : i = j
 · subst e; simp [hi]
 · simp [e]
theorem effP_none {op m x y : Int} {s s' : VSt} (h : effP op m x y s = (none, s')) : s'.stop = true := by
 have ht : ∀ k, (trapS k s).stop = true := fun k => by
  unfold trapS
  split
  · assumption
  · rfl
 have hm : ∀ (r : Option Int × VSt), (match r with | (some w, s') => ((some w : Option Int), s') | (none, s') => (none, failS s')) = (none, s') → s'.stop = true := by
  rintro ⟨r, t⟩ he
  cases r with
  | none => cases he; rfl
  | some w => cases he
 unfold effP at h
 split at h
 · cases h
 split at h
 · cases h
 split at h
 · split at h <;> cases h
   rfl
 split at h
 · split at h <;> cases h
   rfl
 split at h
 · exact hm _ h
 split at h
 · split at h
   · cases h; exact ht 6
   · exact hm _ h
 split at h
 · split at h
   · cases h; exact ht 6
   · split at h <;> cases h
     rfl
 split at h
 · cases h
 · cases h; exact ht 1
section
variable {a : VA} {n : Nat} (ok : a.ok (n : Int))
include ok
theorem plc_rng {r : Int} (h0 : 0 ≤ r) (h1 : r < (n : Int)) : 0 ≤ plc a r ∧ plc a r < 12 + a.slots ∧ (plc a r = 0 ↔ r = 0) := by
 have pr := ok.place h0 h1
 have := ok.sl
 unfold plc
 split
 · rename_i h; exact ⟨by omega, by omega, by simp [h]⟩
 · rename_i h
   split
   · exact ⟨by omega, by omega, by omega⟩
   · exact ⟨by omega, by omega, by omega⟩
theorem Sm.use {g : Nat → Nat → Bool} {rs qs : List Int} (H : Sm a n g rs qs) {l : List Int} (hu : useG a g l = true) {r : Int} (h0 : 0 ≤ r) (h1 : r < (n : Int)) (hm : r ≠ 0 → r ∈ l) : getR qs (plc a r) = getR rs r := by
 by_cases hr : r = 0
 · subst hr
   have : plc a 0 = 0 := rfl
   rw [this, H.q0, H.r0]
 · unfold useG at hu
   rw [List.all_eq_true] at hu
   have := hu r (hm hr)
   simp only [Bool.and_eq_true, Bool.not_eq_true', decide_eq_false_iff_not] at this
   have pr := ok.place h0 h1
   have e : plc a r = placeV a r := by unfold plc; rw [if_neg hr, if_neg this.1]
   rw [e]
   exact H.eq _ _ (by omega) (by omega) this.2
theorem Sm.set {g : Nat → Nat → Bool} {rs qs : List Int} (H : Sm a n g rs qs) {d : Int} (h0 : 0 < d) (h1 : d < (n : Int)) (w : Int) (A : Nat → Bool) (hA : ∀ s, s < n → A s = true → rs.getD s 0 = w) :
 Sm a n (defG g (placeV a d).toNat d.toNat A) (rs.set d.toNat w) (qs.set (plc a d).toNat w) := by
 have lr := H.lr
 have lq := H.lq
 have hs := ok.sl
 obtain ⟨p1, p2, p3⟩ := plc_rng ok (r := d) (by omega) h1
 have pr := ok.place (r := d) (by omega) h1
 have s1 := getD_setI rs d.toNat
 have s2 := getD_setI qs (plc a d).toNat
 refine ⟨by rw [List.length_set]; exact lr, by rw [List.length_set]; exact lq, ?_, ?_, fun p s hp hs hg => ?_⟩
 · unfold getR
   rw [s1 _ _ (by omega), if_neg (by show ¬ d.toNat = 0; omega)]; exact H.r0
 · unfold getR
   rw [s2 _ _ (by omega), if_neg (by show ¬ (plc a d).toNat = 0; omega)]; exact H.q0
 · rw [s1 _ _ (by omega), s2 _ _ (by omega)]
   have e : plc a d = if placeV a d = 0 then 11 + a.slots else placeV a d := by unfold plc; rw [if_neg (by omega)]
   unfold defG at hg
   by_cases hc : (placeV a d).toNat ≠ 0 ∧ p = (placeV a d).toNat
   · rw [if_pos hc] at hg
     have e2 : (plc a d).toNat = p := by rw [e, if_neg (by omega)]; exact hc.2.symm
     rw [if_pos e2]
     by_cases hd : d.toNat = s
     · rw [if_pos hd]
     · rw [if_neg hd]
       have : A s = true := by
        rw [Bool.or_eq_true] at hg
        rcases hg with hg | hg
        · exact absurd (of_decide_eq_true hg).symm hd
        · exact hg
       exact (hA s hs this).symm
   · rw [if_neg hc] at hg
     rw [Bool.and_eq_true] at hg
     have hd : ¬ d.toNat = s := fun e => by rw [← e] at hg; simp at hg
     have e2 : ¬ (plc a d).toNat = p := by
      rw [e]
      by_cases hz : placeV a d = 0
      · rw [if_pos hz]; omega
      · rw [if_neg hz]
        intro hh
        exact hc ⟨by omega, hh.symm⟩
     rw [if_neg hd, if_neg e2]
     exact H.eq p s hp hs hg.2
theorem step_sim {g g' : Nat → Nat → Bool} {rs qs : List Int} (H : Sm a n g rs qs) {x : VI} (okx : x.okR n) (nc : isCall x.op = false) (hs : stepG a x g = some g') (s : VSt) :
 (stepP x rs s).2 = (stepP (mapI a x) qs s).2 ∧ ((stepP x rs s).2.stop = false → Sm a n g' (stepP x rs s).1 (stepP (mapI a x) qs s).1) := by
 have ra := okx.2 x.a (by unfold insL; simp)
 have rb := okx.2 x.b (by unfold insL; simp)
 have rd := okx.2 x.d (by unfold insL; simp)
 unfold stepG at hs
 split at hs
 case isFalse => cases hs
 rename_i hu
 rw [if_neg (by rw [nc]; simp)] at hs
 cases hs
 have ea := H.use ok hu ra.1 ra.2 (fun h => by unfold usesL; simp [nz, h])
 have eb := H.use ok hu rb.1 rb.2 (fun h => by unfold usesL; simp [nz, h])
 have ea' : getR qs (mapI a x).a = getR rs x.a := ea
 have eb' : getR qs (mapI a x).b = getR rs x.b := eb
 unfold stepP
 rw [ea', eb']
 have eo : (mapI a x).op = x.op := rfl
 have en : (mapI a x).n = x.n := rfl
 rw [eo, en]
 by_cases hf : s.fuel - 1 < 0
 · rw [if_pos hf, if_pos hf]
   exact ⟨rfl, fun h => by cases h⟩
 · rw [if_neg hf, if_neg hf]
   cases he : effP x.op x.n (getR rs x.a) (getR rs x.b) { s with fuel := s.fuel - 1 } with
   | mk r s2 =>
    cases r with
    | none => exact ⟨rfl, fun h => by rw [effP_none he] at h; cases h⟩
    | some w =>
     refine ⟨rfl, fun _ => ?_⟩
     dsimp only
     have ed : defR x.op (mapI a x).d = plc a (defR x.op x.d) := by
      unfold defR mapI
      split
      · rfl
      · rfl
     rw [ed]
     have dr := okx.def
     obtain ⟨p1, p2, p3⟩ := plc_rng ok dr.1 dr.2
     unfold setG setR
     by_cases hd : defR x.op x.d = 0
     · rw [if_pos hd, if_pos hd, if_pos (p3.2 hd)]
       exact H
     · rw [if_neg hd, if_neg hd, if_neg (fun e => hd (p3.1 e))]
       refine H.set ok (by omega) dr.2 w _ fun t ht hA => ?_
       unfold mvG at hA
       split at hA
       · rename_i hm
         have hw : w = getR rs x.a := by
          unfold effP at he
          rw [if_pos hm.1] at he
          cases he; rfl
         have hpl : getR qs (plc a x.a) = qs.getD (placeV a x.a).toNat 0 := by
          unfold useG at hu
          rw [List.all_eq_true] at hu
          have := hu x.a (by unfold usesL; simp [nz, hm.2])
          simp only [Bool.and_eq_true, Bool.not_eq_true', decide_eq_false_iff_not] at this
          unfold plc getR
          rw [if_neg hm.2, if_neg this.1]
         have pr := ok.place ra.1 ra.2
         rw [hw, ← ea, hpl, H.eq _ t (by omega) ht hA]
       · cases hA
theorem ins_sim : ∀ (xs : List VI) {g g' : Nat → Nat → Bool} {rs qs : List Int}, Sm a n g rs qs → (∀ x ∈ xs, x.okR n ∧ isCall x.op = false) → runG a xs g = some g' → ∀ (s : VSt), s.stop = false →
 (insP xs rs s).2 = (insP (xs.map (mapI a)) qs s).2 ∧ ((insP xs rs s).2.stop = false → Sm a n g' (insP xs rs s).1 (insP (xs.map (mapI a)) qs s).1)
 | [], g, g', rs, qs, H, _, hr, s, hs => by
  cases hr
  exact ⟨rfl, fun _ => H⟩
 | x :: xs, g, g', rs, qs, H, hx, hr, s, hs => by
  simp only [runG] at hr
  cases h1 : stepG a x g with
  | none => rw [h1] at hr; cases hr
  | some g1 =>
   rw [h1] at hr
   obtain ⟨e1, e2⟩ := step_sim ok H (hx x (.head _)).1 (hx x (.head _)).2 h1 s
   rw [List.map_cons]
   unfold insP
   rw [← e1]
   cases hst : (stepP x rs s).2.stop with
   | true =>
    rw [if_pos rfl, if_pos rfl]
    exact ⟨e1, fun h => by rw [hst] at h; cases h⟩
   | false =>
    rw [if_neg (show ¬ (false = true) by simp), if_neg (show ¬ (false = true) by simp)]
    have := ins_sim xs (e2 hst) (fun y hy => hx y (.tail _ hy)) (show runG a xs g1 = some g' from hr) (stepP x rs s).2 hst
    exact this
theorem run_sim {f : VF} {T : Nat → Prop} {S : Nat → Nat → Nat → Bool} (A : Acc f a T S) {gb : List VB} (hb : ∀ (i : Nat) (x : VB), f.blocks[i]? = some x → ∃ y, gb[i]? = some y ∧ MapB a x y) (hl : gb.length = f.blocks.length) (okb : ∀ x ∈ f.blocks, BOK x n f.blocks.length) :
 ∀ (k i : Nat) (rs qs : List Int) (s : VSt), T i → Sm a n (S i) rs qs → runP f.blocks k i rs s = runP gb k i qs s := by
 intro k
 induction k with
 | zero => intro i rs qs s _ _; rfl
 | succ k ih =>
  intro i rs qs s hT H
  unfold runP
  cases hst : s.stop with
  | true => rw [if_pos rfl, if_pos rfl]
  | false =>
   rw [if_neg (show ¬ (false = true) by simp), if_neg (show ¬ (false = true) by simp)]
   by_cases hi : i < f.blocks.length
   case neg => rw [List.getElem?_eq_none (by omega), List.getElem?_eq_none (by omega)]
   obtain ⟨x, hx⟩ := at_lt hi
   obtain ⟨y, hy, hm1, hm2⟩ := hb i x hx
   have ob := okb x (List.mem_of_getElem? hx)
   obtain ⟨g', r1, r2, r3⟩ := A.stp i x hT hx
   obtain ⟨e1, e2⟩ := ins_sim ok x.ins H (fun z hz => ⟨(ob.ins z hz).1, (ob.ins z hz).2.2⟩) r1 s hst
   rw [hx, hy]
   dsimp only
   rw [hm1, hm2, ← e1]
   have hes : (endS (insP x.ins rs s).2).stop = false → (insP x.ins rs s).2.stop = false := by
    unfold endS
    split
    · intro h; cases h
    · intro h; exact h
   generalize hr : insP x.ins rs s = r at *
   generalize insP (x.ins.map (mapI a)) qs s = r' at *
   cases hts : (endS r.2).stop with
   | true => rw [if_pos rfl, if_pos rfl]
   | false =>
    rw [if_neg (show ¬ (false = true) by simp), if_neg (show ¬ (false = true) by simp)]
    have H2 := e2 (hes hts)
    have ek : (mapE a x.e).kind = x.e.kind := rfl
    have ea : getR r'.1 (mapE a x.e).a = getR r.1 x.e.a := H2.use ok r2 ob.a.1 ob.a.2 (fun h => by unfold endL; simp [nz, h])
    have eb : getR r'.1 (mapE a x.e).b = getR r.1 x.e.b := H2.use ok r2 ob.b.1 ob.b.2 (fun h => by unfold endL; simp [nz, h])
    rw [ek, ea, eb]
    have go : ∀ t ∈ x.e.to, runP f.blocks k t.toNat r.1 (endS r.2) = runP gb k t.toNat r'.1 (endS r.2) := fun t ht => ih t.toNat r.1 r'.1 (endS r.2) (r3 t ht).1 (H2.le (r3 t ht).2)
    by_cases k0 : x.e.kind = 0
    · rw [if_pos k0, if_pos k0]
    rw [if_neg k0, if_neg k0]
    by_cases k3 : x.e.kind = 3
    · rw [if_pos k3, if_pos k3]
      have en : (mapE a x.e).n = x.e.n := rfl
      rw [en]
      cases k with
      | zero => rfl
      | succ k =>
       have : (trapS x.e.n (endS r.2)).stop = true := by unfold trapS; rw [if_neg (by simp [hts])]
       unfold runP
       rw [if_pos this, if_pos this]
    rw [if_neg k3, if_neg k3]
    have mk := ob.many
    have et : (mapE a x.e).to = x.e.to := rfl
    have eo : (mapE a x.e).op = x.e.op := rfl
    rw [et, eo]
    have mem : ∀ j, j < x.e.to.length → x.e.to.getD j 0 ∈ x.e.to := fun j hj => by
     obtain ⟨t, ht⟩ := at_lt hj
     rw [show x.e.to.getD j 0 = t by simp [List.getD, ht]]
     exact List.mem_of_getElem? ht
    by_cases k1 : x.e.kind = 1
    · rw [if_pos k1, if_pos k1]
      have e1 : manyE x.e.kind = 1 := by unfold manyE; rw [if_pos k1]
      exact go _ (mem 0 (by omega))
    · rw [if_neg k1, if_neg k1]
      have k2 : x.e.kind = 2 := by have := ob.kind; omega
      have e1 : manyE x.e.kind = 2 := by unfold manyE; rw [if_neg k1, if_pos k2]
      cases brV x.e.op (getR r.1 x.e.a) (getR r.1 x.e.b) with
      | true => rw [if_pos rfl]; exact go _ (mem 0 (by omega))
      | false => rw [if_neg (by simp)]; exact go _ (mem 1 (by omega))
def parP : List Int → List Int → List Int → List Int
 | r :: ps, v :: vs, rs => parP ps vs (rs.set r.toNat v)
 | _, _, rs => rs
theorem par_sim : ∀ (ps vs : List Int) {g : Nat → Nat → Bool} {rs qs : List Int}, Sm a n g rs qs → (∀ r ∈ ps, 1 ≤ r ∧ r < (n : Int)) → ps.length = vs.length → Sm a n (ps.foldl (stepI a) g) (parP ps vs rs) (parP (ps.map (plc a)) vs qs)
 | [], [], g, rs, qs, H, _, _ => H
 | [], v :: vs, g, rs, qs, H, _, hl => by simp at hl
 | r :: ps, [], g, rs, qs, H, _, hl => by simp at hl
 | r :: ps, v :: vs, g, rs, qs, H, hp, hl => by
  rw [List.foldl_cons, List.map_cons]
  unfold parP
  have hr := hp r (.head _)
  exact par_sim ps vs (H.set ok (by omega) hr.2 v _ fun s _ h => by cases h) (fun r hr => hp r (.tail _ hr)) (by simpa using hl)
end
end Go.Proofs.Ytnmdadadjneaiaa.D
/- The interpreter of virtual code: a call; lists compared; the place of a register. -/
set_option linter.unusedVariables false
set_option linter.unusedSimpArgs false
namespace Go.Proofs.Ytnmdadadjneaiaa.D
open Go Go.Proofs.Ytnmdadadjneaiaa.Abs Go.Proofs
theorem par_loop {hb : Heap} {f : VF} (R : f.R hb) {p q rb : Nat} {F : AV} {d : Int} {s : VSt} {n : Nat} (hp : ∀ r ∈ f.params, 1 ≤ r ∧ r < (n : Int)) (hpl : f.params.length ≤ 6) {sl : SA} {l : List Int} (hL : VS intC 1 hb sl l.length l) (hll : l.length = f.params.length) (v : Nat) (so : SA) (Q : Kont (AV × Heap)) :
 ∀ (k j : Nat), j + k = f.params.length → ∀ (h : Heap) (rs : List Int), VW h p q rb F d rs s v so → rs.length = n → Old hb h → (∀ b, ownR p q so b ∨ b = rb → hb.length ≤ b) →
  ∃ h', L23x13 mk0 E (some ⟨p, 0, 0⟩) sl l.length f.nm f.sp f.params.length f.regs f.sb f.blocks.length (.pos ⟨rb, 0, 0⟩) n f.sp f.params.length ((f.params.length : Nat) : Int) ((j : Nat) : Int) h Q = Q (.exit 0) (S23xe0 (some ⟨p, 0, 0⟩) f.nm f.sp f.params.length f.regs f.sb f.blocks.length (.pos ⟨rb, 0, 0⟩) n h') ∧
   VW h' p q rb F d (parP (f.params.drop j) (l.drop j) rs) s v so ∧ Ext p q rb so so h h' ∧ (parP (f.params.drop j) (l.drop j) rs).length = n := by
 intro k
 induction k with
 | zero =>
  intro j hj h rs H hn o low
  rw [L23x13xeq, letK_eq, if_neg (by simp; omega), List.drop_eq_nil_of_le (by omega), List.drop_eq_nil_of_le (by omega)]
  exact ⟨h, rfl, H, Ext.refl .., hn⟩
 | succ k ih =>
  intro j hj h rs H hn o low
  obtain ⟨r, hr⟩ := at_lt (l := f.params) (i := j) (by omega)
  obtain ⟨y, hy⟩ := at_lt (l := l) (i := j) (by omega)
  obtain ⟨a, ha, la⟩ := vs_ld1 (g := AV.int .i64) (vs_old R.p o) (fun _ => rfl) _ r hr
  obtain ⟨b, hb', lb⟩ := vs_ld1 (g := AV.int .i64) (vs_old hL o) (fun _ => rfl) _ y hy
  have rr := hp r (List.mem_of_getElem? hr)
  obtain ⟨H1, X1⟩ := H.reg (rs.set r.toNat y)
  rw [L23x13xeq, letK_eq, if_pos (by simp; omega), chk_of (by intro _; omega), ha, atP_of, Int.toNat_natCast, la, gI_of, chk_of (by intro _; omega), hb', atP_of, lb, gI_of, chk_of (by intro _; omega), adP_pos, atP_of, add_mk, ints_set H.rg _ (by omega), Option.bind_some, letK_eq, wrap64 (by omega) (by omega), show ((j : Int) + 1) = ((j + 1 : Nat) : Int) by omega, drop_at hr, drop_at hy]
  obtain ⟨h', r1, r2, r3, r4⟩ := ih (j + 1) (by omega) _ _ H1 (by rw [List.length_set]; exact hn) (X1.old o low) (X1.low o low)
  exact ⟨h', r1, r2, X1.trans r3, r4⟩
theorem call_ok {hb h : Heap} {f : VF} (R : f.R hb) (o : Old hb h) (hN : 0 < f.blocks.length) (hN2 : f.blocks.length ≤ 1000000) {p q fb : Nat} {s : VSt} {v : Nat} {so : SA} (H : RM h p (.sl (.pos ⟨fb, 0, 0⟩) 1) s 0 q v so) (hF : h[fb]? = some (.cells f.cells (.grow 4) 0)) (nF : ¬ ownR p q so fb)
 {n : Nat} (hn : ((n : Nat) : Int) = f.regs) (hn8 : n ≤ 100000) (hp : ∀ r ∈ f.params, 1 ≤ r ∧ r < (n : Int)) (hpl : f.params.length ≤ 6) (okb : ∀ x ∈ f.blocks, BOK x n f.blocks.length) {sl : SA} {l : List Int} (hL : VS intC 1 hb sl l.length l) (hll : l.length = f.params.length) (low : ∀ b, ownR p q so b → hb.length ≤ b)
 (I : s.inv) (hs : s.stop = false) (hf : s.fuel = 500) :
 ∃ h' v' so', E 23 [.ptr (some ⟨p, 0, 0⟩), .int .i64 0, .sl sl l.length] h = some (.int .i64 (runP f.blocks 600 0 (parP f.params l (List.replicate n 0)) s).1, h') ∧
  RM h' p (.sl (.pos ⟨fb, 0, 0⟩) 1) (runP f.blocks 600 0 (parP f.params l (List.replicate n 0)) s).2 0 q v' so' ∧ Kp (ownR p q so) h h' ∧ (∀ b, inS so' b → inS so b ∨ h.length ≤ b) ∧ h.length ≤ h'.length ∧ (runP f.blocks 600 0 (parP f.params l (List.replicate n 0)) s).2.inv := by
 have r0 := H.ld 0 (.sl (.pos ⟨fb, 0, 0⟩) 1) rfl rfl
 have r8 := H.ld 8 (.int .i64 0) rfl rfl
 have rp : ld1 h ⟨fb, 0, 0 + Int.toNat 0 * 4 + 1⟩ = some (.sl f.sp f.params.length) := ld1_at hF rfl rfl
 obtain ⟨h1, a1, a2, a3, a4⟩ := H.upd 8 (.int .i64 1) s 1 (by omega) rfl rfl rfl
 have r01 := a4.ld 0 (.sl (.pos ⟨fb, 0, 0⟩) 1) rfl rfl
 have hF1 : h1[fb]? = some (.cells f.cells (.grow 4) 0) := a3 _ _ hF fun e => nF (.inl e)
 have rc : ldN h1 ⟨fb, 0, 0 + Int.toNat 0 * 4⟩ 4 = some f.cells := by
  simp only [ldN, hF1]
  rfl
 have hrep : repl n [AV.int .i64 0] = (List.replicate n 0).map (.int .i64) := by simp [repl]
 rw [e23]
 simp only [letK_eq, atP_any, add_mk, adP_pos]
 rw [show (0 + 0) = 0 from rfl] at r0
 rw [show (0 + 0) = 0 from rfl, r0, gL_any, show (0 + 8) = 8 from rfl] 
 rw [show (0 + 8) = 8 from rfl] at r8
 rw [r8, gI_any]
 simp only [gL_any]
 rw [chk_of (by intro _; omega), adP_pos, atP_any, add_mk, add_mk, rp]
 simp only [gL_any]
 rw [if_neg (by simp [hll])]
 rw [gI_of, show ((0 : Int) + 1) = 1 from rfl, wrap64 (x := 1) (by omega) (by omega)]
 rw [show (0 + 8) = 8 from rfl] at a1
 rw [a1, Option.bind_some]
 rw [show (0 + 0) = 0 from rfl] at r01
 rw [r01, gL_of, chk_of (by intro _; omega), adP_pos, atP_of, add_mk, rc, gCells_of]
 unfold VF.cells
 simp only [List.getElem?_cons_zero, List.getElem?_cons_succ]
 rw [gI_of, gL_of, gI_of, gL_of, ← hn, chk_of (by omega), newK_eq, Int.toNat_natCast, hrep]
 have o1 : Old hb h1 := a3.old o fun b hb' e => by have := low p (.inl rfl); omega
 have lt1 := a4.lt
 have W : VW (h1 ++ [.cells ((List.replicate n 0).map (.int .i64)) (.grow 1) 0]) p q h1.length (.sl (.pos ⟨fb, 0, 0⟩) 1) 1 (List.replicate n 0) s v so :=
  ⟨a4.old (old_app _ _), last_get _ _, fun hh => Nat.lt_irrefl _ (lt1 _ hh)⟩
 have low1 : ∀ b, ownR p q so b ∨ b = h1.length → hb.length ≤ b := by
  rintro b (hh | hh)
  · exact low b hh
  · have := o1.le; omega
 obtain ⟨h2, p1, p2, p3, p4⟩ := par_loop R hp hpl hL hll v so (Q23x13 mk0 E) f.params.length 0 (by omega) _ _ W (by simp) (o1.app _) low1
 rw [show (((0 : Nat) : Int)) = 0 from rfl] at p1
 rw [List.drop_zero, List.drop_zero] at p2 p4
 obtain ⟨h3, v', so', q1, rs', q2, q3, q4⟩ := run_loop R hN2 (d := 1) (by omega) okb 600 0 h2 _ s v so hN p2 p4 (p3.old (o1.app _) low1) (p3.low (o1.app _) low1) I (fun _ => by omega) (by omega) (by omega) (by omega)
 rw [show (((0 : Nat) : Int)) = 0 from rfl] at q1
 rw [hn, p1, X23x13xe0, q1]
 have X := p3.trans q3
 refine ⟨h3, v', so', rfl, q2.rm, fun b y hb' hno => X.k b y (app_old (a3 b y hb' fun e => hno (.inl e))) fun hh => ?_, fun b hb' => ?_, ?_, q4⟩
 · have := (List.getElem?_eq_some_iff.1 hb').1
   rcases hh with hh | hh
   · exact hno hh
   · omega
 · rcases X.n b hb' with hh | hh
   · exact .inl hh
   · rw [List.length_append] at hh; exact .inr (by omega)
 · have := X.l
   rw [List.length_append] at this; omega
theorem eqI_loop {h : Heap} {s0 s1 : SA} {n : Nat} {l M : List Int} (h1 : VS intC 1 h s0 n l) (h2 : VS intC 1 h s1 n M) (hn : n < 9223372036854775807) : ∀ (k j : Nat), j + k = n →
 L24x9 mk0 E s0 n s1 n ((n : Nat) : Int) ((j : Nat) : Int) h (Q24x9 mk0 E) = some (.bool (decide (l.drop j = M.drop j)), h) := by
 have l1 := h1.1
 have l2 := h2.1
 intro k
 induction k with
 | zero =>
  intro j hj
  rw [L24x9xeq, letK_eq, if_neg (by simp; omega), X24x9xe0, List.drop_eq_nil_of_le (by omega), List.drop_eq_nil_of_le (by omega)]
  rfl
 | succ k ih =>
  intro j hj
  obtain ⟨x, hx⟩ := at_lt (l := l) (i := j) (by omega)
  obtain ⟨y, hy⟩ := at_lt (l := M) (i := j) (by omega)
  obtain ⟨a, ha, la⟩ := vs_ld1 (g := AV.int .i64) h1 (fun _ => rfl) _ x hx
  obtain ⟨b, hb, lb⟩ := vs_ld1 (g := AV.int .i64) h2 (fun _ => rfl) _ y hy
  rw [L24x9xeq, letK_eq, if_pos (by simp; omega), chk_of (by intro _; omega), ha, atP_of, Int.toNat_natCast, la, gI_of, chk_of (by intro _; omega), hb, atP_of, lb, gI_of, letK_eq, drop_at hx, drop_at hy]
  by_cases he : x = y
  · subst he
    rw [if_neg (by simp), letK_eq, wrap64 (by omega) (by omega), show ((j : Int) + 1) = ((j + 1 : Nat) : Int) by omega, ih (j + 1) (by omega)]
    simp
  · rw [if_pos (by simp [he]), X24x9xr]
    simp [he]
theorem eqI_same {h : Heap} {s0 s1 : SA} {l : List Int} (h1 : VS intC 1 h s0 l.length l) (h2 : VS intC 1 h s1 l.length l) (hn : l.length < 9223372036854775807) :
 E 24 [.sl s0 l.length, .sl s1 l.length] h = some (.bool true, h) := by
 rw [e24, letK_eq, if_neg (by simp)]
 have := eqI_loop h1 h2 hn l.length 0 (by omega)
 rw [show (((0 : Nat) : Int)) = 0 from rfl, List.drop_zero] at this
 rw [this]; simp
theorem plc_ok {h : Heap} {a : VA} {H : Nat} (hH : h[H]? = some (.cells a.cells .fix 0)) (R : a.R h) {regs : Int} (ok : a.ok regs) {r : Int} (h0 : 0 ≤ r) (h1 : r < regs) : E 19 [.int .i64 r, .ptr (some ⟨H, 0, 0⟩)] h = some (.int .i64 (plc a r), h) := by
 have hsl := ok.sl
 have h2 := ok.lr
 have h3 := ok.ls
 obtain ⟨x, hx⟩ := at_lt (l := a.reg) (i := r.toNat) (by omega)
 obtain ⟨y, hy⟩ := at_lt (l := a.slot) (i := r.toNat) (by omega)
 have hk := ok.each _ x y hx hy
 obtain ⟨b, hb, lb⟩ := vs_ld1 (g := AV.int .i64) R.r (fun _ => rfl) _ x hx
 obtain ⟨c, hc, lc⟩ := vs_ld1 (g := AV.int .i64) R.s (fun _ => rfl) _ y hy
 have m0 : ld1 h ⟨H, 0, 0 + 0⟩ = some (.sl a.s0 a.reg.length) := ld1_at hH rfl rfl
 have m1 : ld1 h ⟨H, 0, 0 + 1⟩ = some (.sl a.s1 a.slot.length) := ld1_at hH rfl rfl
 have m2 : ld1 h ⟨H, 0, 0 + 2⟩ = some (.int .i64 a.slots) := ld1_at hH rfl rfl
 unfold plc placeV
 rw [e19, letK_eq]
 simp only [List.getD, hx, hy, Option.getD_some]
 by_cases hr : r = 0
 · rw [if_pos (by simp [hr]), if_pos hr]
 · rw [if_neg (by simp [hr]), if_neg hr, if_neg hr, atP_of, add_mk, m0, gL_of, chk_of (by intro _; omega), hb, atP_of, lb, gI_of, letK_eq]
   by_cases hx0 : 0 < x
   · rw [if_pos (by simp [hx0]), if_pos hx0, if_neg (by omega), atP_of, add_mk, m0, gL_of, chk_of (by intro _; omega), hb, atP_of, lb, gI_of]
   · rw [if_neg (by simp [hx0]), if_neg hx0, atP_of, add_mk, m1, gL_of, chk_of (by intro _; omega), hc, atP_of, lc, gI_of, letK_eq]
     by_cases hy0 : 0 ≤ y
     · rw [if_pos (by simp [hy0]), if_pos hy0, if_neg (by omega), atP_of, add_mk, m1, gL_of, chk_of (by intro _; omega), hc, atP_of, lc, gI_of, letK_eq, wrap64 (by omega) (by omega)]
     · rw [if_neg (by simp [hy0]), if_neg hy0, if_pos rfl, atP_of, add_mk, m2, gI_of, letK_eq, wrap64 (by omega) (by omega)]
end Go.Proofs.Ytnmdadadjneaiaa.D
/- AlloccheckMeans. -/
set_option linter.unusedVariables false
set_option linter.unusedSimpArgs false
namespace Go.Proofs.Ytnmdadadjneaiaa.D
open Go Go.Proofs.Ytnmdadadjneaiaa.Abs Go.Proofs
theorem gs_push {h : Heap} {s : SA} {n es bytes : Nat} {cs : List AV} (H : GS h s n es cs) (c : List AV) (he : 0 < es) (hc : c.length = es) (fc : flatL c = true) (fa : flatL (cs ++ c) = true) (hb : (n + 1) * bytes ≤ 140737488355328) :
 ∃ s' h', ldSl (h ++ [.cells c (.grow es) 0]) (.pos ⟨h.length, 0, 0⟩) (1 * es) = some c ∧ apnd (h ++ [.cells c (.grow es) 0]) (.sl s n) es bytes c 1 = some (.sl s' (n + 1), h') ∧ GS h' s' (n + 1) es (cs ++ c) ∧ Kp (inS s) h h' ∧ (∀ b, inS s' b → inS s b ∨ h.length ≤ b) ∧ h.length ≤ h'.length := by
 obtain ⟨s', h', g1, g2, g3, g4, g5⟩ := apnd_GS (m := 1) (bytes := bytes) (ys := c) (gs_app H (l := [.cells c (.grow es) 0])) (by omega) he (by omega) fc fa hb
 rw [List.length_append] at g3
 refine ⟨s', h', by rw [Nat.one_mul]; exact ldSl_at (last_get _ _) hc fc, g1, g2, fun b x hx hn => g4 b x (app_old hx) hn, fun b hb => ?_, by omega⟩
 rcases g5 b hb with h | h
 · exact .inl h
 · rw [List.length_append] at h; exact .inr (by omega)
theorem flat_app {a b : List AV} (h1 : flatL a = true) (h2 : flatL b = true) : flatL (a ++ b) = true := by
 have := rows_flat (f := fun x : List AV => x) (α := List AV)
 induction a with
 | nil => exact h2
 | cons x a ih =>
  rw [List.cons_append]
  unfold flatL at h1 ⊢
  rw [Bool.and_eq_true] at h1 ⊢
  exact ⟨h1.1, ih h1.2⟩
theorem mpar_loop {h0 : Heap} {f : VF} (R : f.R h0) {a : VA} (A : a.R h0) (ok : a.ok f.regs) (hp : ∀ r ∈ f.params, 1 ≤ r ∧ r < f.regs) (hpl : f.params.length ≤ 6) {H : Nat} (hH : h0[H]? = some (.cells a.cells .fix 0)) (s2 : SA) (n2 : Nat) (i8x0 i8x2 : Int)
 (K : ∀ (h : Heap) (s8 : SA), Old h0 h → GS h s8 f.params.length 1 ((f.params.map (plc a)).map (.int .i64)) → (∀ b, inS s8 b → h0.length ≤ b) → ∃ h', Q7x16 mk0 E (.exit 0) (S7xe0 s2 n2 f.nm f.sp f.params.length f.regs f.sb f.blocks.length (some ⟨H, 0, 0⟩) i8x0 s8 f.params.length i8x2 .nil 0 h) = some (.bool true, h')) :
 ∀ (k j : Nat), j + k = f.params.length → ∀ (h : Heap) (s8 : SA), Old h0 h → GS h s8 j 1 (((f.params.take j).map (plc a)).map (.int .i64)) → (∀ b, inS s8 b → h0.length ≤ b) →
  ∃ h', L7x16 mk0 E s2 n2 f.nm f.sp f.params.length f.regs f.sb f.blocks.length (some ⟨H, 0, 0⟩) i8x0 s8 j i8x2 .nil 0 f.sp f.params.length ((f.params.length : Nat) : Int) ((j : Nat) : Int) h (Q7x16 mk0 E) = some (.bool true, h') := by
 intro k
 induction k with
 | zero =>
  intro j hj h s8 o G nw
  have : j = f.params.length := by omega
  subst this
  rw [L7x16xeq, letK_eq, if_neg (by simp)]
  rw [List.take_length] at G
  exact K h s8 o G nw
 | succ k ih =>
  intro j hj h s8 o G nw
  obtain ⟨r, hr⟩ := at_lt (l := f.params) (i := j) (by omega)
  obtain ⟨b, hb, lb⟩ := vs_ld1 (g := AV.int .i64) (vs_old R.p o) (fun _ => rfl) _ r hr
  have rr := hp r (List.mem_of_getElem? hr)
  have pk := plc_ok (o _ _ hH) (A.old o) ok (r := r) (by omega) rr.2
  have tk : (f.params.take (j + 1)).map (plc a) = (f.params.take j).map (plc a) ++ [plc a r] := by rw [List.take_add_one, hr]; simp
  obtain ⟨s', h1, g1, g2, g3, g4, g5, g6⟩ := gs_push (bytes := 8) G [.int .i64 (plc a r)] (by omega) rfl rfl (flat_app (flat_ints _) rfl) (by omega)
  have o1 : Old h0 h1 := g4.old o fun q hq hi => by have := nw q hi; omega
  have g3' : GS h1 s' (j + 1) 1 (((f.params.take (j + 1)).map (plc a)).map (.int .i64)) := by rw [tk, List.map_append]; exact g3
  have nw1 : ∀ b, inS s' b → h0.length ≤ b := fun b hb => by
   rcases g5 b hb with h | h
   · exact nw b h
   · have := o.le; omega
  have pk1 := plc_ok (o1 _ _ hH) (A.old o1) ok (r := r) (by omega) rr.2
  have V : VS intC 1 h1 s' (j + 1) ((f.params.take (j + 1)).map (plc a)) := vs_GS (f := intC) (fun _ => rfl) (by rw [List.length_map, List.length_take]; omega) (by rw [show ((f.params.take (j + 1)).map (plc a)).flatMap intC = ((f.params.take (j + 1)).map (plc a)).map (.int .i64) from rows_one _ _]; exact g3')
  have Vt := vs_take V j (by omega)
  have ct := contains_ok Vt (by omega) (plc a r)
  have g3c := g3'
  obtain ⟨_, _, ⟨_, hz⟩ | ⟨bb, vv, hs', _⟩⟩ := g3'
  · omega
  rw [L7x16xeq, letK_eq, if_pos (by simp; omega), chk_of (by intro _; omega), hb, atP_of, Int.toNat_natCast, lb, gI_of, pk, Option.bind_some, gI_of, newK_eq, g1, Option.bind_some, g2, Option.bind_some, gL_of, chkC_of (by intro _; exact ⟨by omega, .inl (by omega)⟩), letK_eq, pk1, Option.bind_some, gI_of]
  subst hs'
  show ∃ h', (chkC _ _ : Res) = _
  rw [chkC_of (fun _ => rfl), ct, Option.bind_some, gB_of]
  by_cases hm : plc a r ∈ ((f.params.take (j + 1)).map (plc a)).take j
  · rw [decide_eq_true hm, if_pos rfl, X7x16xr]
    exact ⟨h1, rfl⟩
  · rw [decide_eq_false hm, if_neg (by simp), letK_eq, wrap64 (by omega) (by omega), show ((j : Int) + 1) = ((j + 1 : Nat) : Int) by omega]
    exact ih (j + 1) (by omega) h1 _ o1 g3c nw1
theorem vi_flatM (l : List VI) : flatL (l.flatMap VI.cells) = true := rows_flat (fun x => vi_flat x) l
theorem vb_flatM (l : List VB) : flatL (l.flatMap VB.cells) = true := rows_flat (fun x => vb_flat x) l
theorem mins_loop {h0 hS : Heap} {x : VB} (R : x.R h0) (oS : Old h0 hS) (hl : x.ins.length ≤ 4096) {a : VA} (A : a.R h0) {regs : Int} (hr : 0 ≤ regs) (ok : a.ok regs) (okx : ∀ y ∈ x.ins, y.okR regs.toNat) {H : Nat} (hH : h0[H]? = some (.cells a.cells .fix 0)) (s2 : SA) (n2 : Nat) (i3x0 : Int) (s3x1 : SA) (n3x1 : Nat) (i3x2 : Int) (s3x3 : SA) (n3x3 : Nat) (i8x0 : Int) (s8x1 : SA) (n8x1 : Nat) (i8x2 : Int) (s8x3 : SA) (n8x3 : Nat) (s65 : SA) (n65 : Nat) (i66 i67 : Int) (Q : Kont (AV × Heap))
 (K : ∀ (h : Heap) (s13 : SA), Old hS h → GS h s13 x.ins.length 6 ((x.ins.map (mapI a)).flatMap VI.cells) → (∀ b, inS s13 b → hS.length ≤ b) → (∀ y ∈ x.ins, isCall y.op = false) →
   ∃ h', Q (.exit 4) (S7xe4 s2 n2 i3x0 s3x1 n3x1 i3x2 s3x3 n3x3 (some ⟨H, 0, 0⟩) i8x0 s8x1 n8x1 i8x2 s8x3 n8x3 x.s x.ins.length x.e.kind x.e.op x.e.a x.e.b x.e.n x.e.s x.e.to.length s13 x.ins.length 0 0 0 0 0 .nil 0 s65 n65 i66 i67 h) = some (.bool true, h'))
 (K2 : ∀ h, ∃ h', Q .ret (S7xr true h) = some (.bool true, h')) :
 ∀ (k j : Nat), j + k = x.ins.length → ∀ (h : Heap) (s13 : SA), Old hS h → GS h s13 j 6 (((x.ins.take j).map (mapI a)).flatMap VI.cells) → (∀ b, inS s13 b → hS.length ≤ b) → (∀ y ∈ x.ins.take j, isCall y.op = false) →
  ∃ h', L7x44 mk0 E s2 n2 i3x0 s3x1 n3x1 i3x2 s3x3 n3x3 (some ⟨H, 0, 0⟩) i8x0 s8x1 n8x1 i8x2 s8x3 n8x3 x.s x.ins.length x.e.kind x.e.op x.e.a x.e.b x.e.n x.e.s x.e.to.length s13 j 0 0 0 0 0 .nil 0 s65 n65 i66 i67 x.s x.ins.length ((x.ins.length : Nat) : Int) ((j : Nat) : Int) h Q = some (.bool true, h') := by
 intro k
 induction k with
 | zero =>
  intro j hj h s13 o G nw nc
  have : j = x.ins.length := by omega
  subst this
  rw [L7x44xeq, letK_eq, if_neg (by simp)]
  rw [List.take_length] at G nc
  exact K h s13 o G nw nc
 | succ k ih =>
  intro j hj h s13 o G nw nc
  obtain ⟨y, hy⟩ := at_lt (l := x.ins) (i := j) (by omega)
  have o0 := oS.trans o
  have oky := okx y (List.mem_of_getElem? hy)
  obtain ⟨b, hb, lb⟩ := vs_ld (vs_old R.i o0) vi_flat j y hy
  have rd := oky.2 y.d (by unfold insL; simp)
  have ra := oky.2 y.a (by unfold insL; simp)
  have rb := oky.2 y.b (by unfold insL; simp)
  have pd := plc_ok (o0 _ _ hH) (A.old o0) ok (r := y.d) (by omega) (by omega)
  have pa := plc_ok (o0 _ _ hH) (A.old o0) ok (r := y.a) (by omega) (by omega)
  have pb := plc_ok (o0 _ _ hH) (A.old o0) ok (r := y.b) (by omega) (by omega)
  have ck := calls_ok y.op h
  unfold VI.cells at lb
  rw [L7x44xeq, letK_eq, if_pos (by simp; omega), chk_of (by intro _; omega), hb, atP_of, Int.toNat_natCast, lb, gCells_of]
  simp only [List.getElem?_cons_zero, List.getElem?_cons_succ]
  rw [gI_of, gI_of, gI_of, gI_of, gI_of, gL_of, ck, Option.bind_some, gB_of]
  cases hc : isCall y.op with
  | true =>
   rw [if_pos rfl]
   exact K2 h
  | false =>
   have tk : ((x.ins.take (j + 1)).map (mapI a)).flatMap VI.cells = ((x.ins.take j).map (mapI a)).flatMap VI.cells ++ (mapI a y).cells := by rw [List.take_add_one, hy]; simp
   obtain ⟨s', h1, g1, g2, g3, g4, g5, g6⟩ := gs_push (bytes := 64) G (mapI a y).cells (by omega) rfl rfl (flat_app (vi_flatM _) rfl) (by omega)
   rw [← tk] at g3
   have g1' : ldSl (h ++ [.cells [.int .i64 y.op, .int .i64 (plc a y.d), .int .i64 (plc a y.a), .int .i64 (plc a y.b), .int .i64 y.n, .sl y.s y.args.length] (.grow 6) 0]) (.pos ⟨h.length, 0, 0⟩) (1 * 6) = some (mapI a y).cells := g1
   have g2' : apnd (h ++ [.cells [.int .i64 y.op, .int .i64 (plc a y.d), .int .i64 (plc a y.a), .int .i64 (plc a y.b), .int .i64 y.n, .sl y.s y.args.length] (.grow 6) 0]) (.sl s13 j) 6 64 (mapI a y).cells 1 = some (.sl s' (j + 1), h1) := g2
   rw [if_neg (by simp), pd, Option.bind_some, gI_of, pa, Option.bind_some, gI_of, pb, Option.bind_some, gI_of, newK_eq, g1', Option.bind_some, g2', Option.bind_some, gL_of, letK_eq, wrap64 (by omega) (by omega), show ((j : Int) + 1) = ((j + 1 : Nat) : Int) by omega]
   refine ih (j + 1) (by omega) h1 s' (g4.old o fun q hq hi => by have := nw q hi; omega) g3 (fun b hb => ?_) (fun z hz => ?_)
   · rcases g5 b hb with h | h
     · exact nw b h
     · have := o.le; omega
   · rw [List.take_add_one, hy, List.mem_append] at hz
     rcases hz with hz | hz
     · exact nc z hz
     · simp at hz; rw [hz]; exact hc
structure Built (h0 h : Heap) (s8 : SA) (y : VB) : Prop where
 i : VS VI.cells 6 h y.s y.ins.length y.ins
 n : ∀ b, inS y.s b → h0.length ≤ b ∧ b < h.length ∧ ¬ inS s8 b
 r : ∀ z ∈ y.ins, z.R h0
 e : y.e.R h0
theorem VS.kp {α : Type} {f : α → List AV} {es n : Nat} {h h' : Heap} {s : SA} {l : List α} {S : Nat → Prop} (H : VS f es h s n l) (k : Kp S h h') (hs : ∀ b, inS s b → ¬ S b) : VS f es h' s n l := by
 obtain ⟨hl, H | ⟨b, v, o, c, m, rfl, hb, hc⟩⟩ := H
 · exact ⟨hl, .inl H⟩
 · exact ⟨hl, .inr ⟨b, v, o, c, m, rfl, k _ _ hb (hs b ⟨_, rfl, rfl⟩), hc⟩⟩
theorem VS.low {α : Type} {f : α → List AV} {es n : Nat} {h : Heap} {s : SA} {l : List α} (H : VS f es h s n l) (hn : 0 < n) : ∀ b, inS s b → b < h.length := by
 obtain ⟨hl, H | ⟨b, v, o, c, m, rfl, hb, hc⟩⟩ := H
 · omega
 · rintro b' ⟨x, hx, rfl⟩
   cases hx
   exact (List.getElem?_eq_some_iff.1 hb).1
theorem mblk_loop {h0 : Heap} {f : VF} (R : f.R h0) (hN : f.blocks.length ≤ 4096) (hlen : ∀ x ∈ f.blocks, x.ins.length ≤ 4096) {a : VA} (A : a.R h0) (hr : 0 ≤ f.regs) (ok : a.ok f.regs) (okx : ∀ x ∈ f.blocks, (∀ y ∈ x.ins, y.okR f.regs.toNat) ∧ (0 ≤ x.e.a ∧ x.e.a < f.regs) ∧ (0 ≤ x.e.b ∧ x.e.b < f.regs)) {H : Nat} (hH : h0[H]? = some (.cells a.cells .fix 0)) (s2 : SA) (n2 : Nat) (i8x0 : Int) (s8x1 : SA) (n8x1 : Nat) (i8x2 : Int)
 (K : ∀ (h : Heap) (s8 : SA) (gb : List VB), Old h0 h → GS h s8 f.blocks.length 7 (gb.flatMap VB.cells) → gb.length = f.blocks.length → (∀ (i : Nat) (x : VB), f.blocks[i]? = some x → ∃ y, gb[i]? = some y ∧ MapB a x y) → (∀ y ∈ gb, Built h0 h s8 y) → (∀ x ∈ f.blocks, ∀ y ∈ x.ins, isCall y.op = false) →
   ∃ h', Q7x32 mk0 E (.exit 2) (S7xe2 s2 n2 f.nm f.sp f.params.length f.regs f.sb f.blocks.length i8x0 s8x1 n8x1 i8x2 s8 f.blocks.length h) = some (.bool true, h')) :
 ∀ (k j : Nat), j + k = f.blocks.length → ∀ (h : Heap) (s8 : SA) (gb : List VB), Old h0 h → GS h s8 j 7 (gb.flatMap VB.cells) → gb.length = j → (∀ b, inS s8 b → h0.length ≤ b) → (∀ (i : Nat) (x : VB), i < j → f.blocks[i]? = some x → ∃ y, gb[i]? = some y ∧ MapB a x y) → (∀ y ∈ gb, Built h0 h s8 y) → (∀ (i : Nat) (x : VB), i < j → f.blocks[i]? = some x → ∀ y ∈ x.ins, isCall y.op = false) →
  ∃ h', L7x32 mk0 E s2 n2 f.nm f.sp f.params.length f.regs f.sb f.blocks.length (some ⟨H, 0, 0⟩) i8x0 s8x1 n8x1 i8x2 s8 j f.sb f.blocks.length ((f.blocks.length : Nat) : Int) ((j : Nat) : Int) h (Q7x32 mk0 E) = some (.bool true, h') := by
 intro k
 induction k with
 | zero =>
  intro j hj h s8 gb o G hg nw hm hB nc
  have : j = f.blocks.length := by omega
  subst this
  rw [L7x32xeq, letK_eq, if_neg (by simp)]
  refine K h s8 gb o G hg (fun i x hx => hm i x (List.getElem?_eq_some_iff.1 hx).1 hx) hB fun x hx => ?_
  obtain ⟨i, hi, e⟩ := List.getElem_of_mem hx
  exact nc i x hi (by rw [List.getElem?_eq_getElem hi, e])
 | succ k ih =>
  intro j hj h s8 gb o G hg nw hm hB nc
  obtain ⟨x, hx⟩ := at_lt (l := f.blocks) (i := j) (by omega)
  have hxm := List.mem_of_getElem? hx
  obtain ⟨b, hb, lb⟩ := vs_ld (vs_old R.b o) vb_flat j x hx
  obtain ⟨ok1, ok2, ok3⟩ := okx x hxm
  unfold VB.cells VE.cells at lb
  rw [L7x32xeq, letK_eq, if_pos (by simp; omega), chk_of (by intro _; omega), hb, atP_of, Int.toNat_natCast, lb, gCells_of]
  simp only [List.getElem?_cons_zero, List.getElem?_cons_succ]
  rw [gL_of, gI_of, gI_of, gI_of, gI_of, gI_of, gL_of]
  have M := mins_loop (R.r x hxm) o (hlen x hxm) A hr ok ok1 hH s2 n2 f.nm f.sp f.params.length f.regs f.sb f.blocks.length i8x0 s8x1 n8x1 i8x2 s8 j f.sb f.blocks.length ((f.blocks.length : Nat) : Int) ((j : Nat) : Int) (Q7x44 mk0 E (Q7x32 mk0 E)) ?_ (fun h => ⟨h, by rw [X7x44xr, X7x32xr]⟩) x.ins.length 0 (by omega) h .nil (Old.refl _) ⟨rfl, rfl, .inl ⟨rfl, rfl⟩⟩ (fun b ⟨_, h, _⟩ => by cases h) (by simp)
  · rw [show (((0 : Nat) : Int)) = 0 from rfl] at M
    exact M
  intro h1 s13 o1 G1 nw1 nc1
  have o01 := o.trans o1
  have pa := plc_ok (o01 _ _ hH) (A.old o01) ok ok2.1 ok2.2
  have pb := plc_ok (o01 _ _ hH) (A.old o01) ok ok3.1 ok3.2
  have G8 : GS h1 s8 j 7 (gb.flatMap VB.cells) := gs_keep (s := .nil) G (fun b x hx _ => o1 b x hx) (fun b _ ⟨_, h, _⟩ => by cases h)
  have lt8 : ∀ b, inS s8 b → b < h.length := fun b hb => gs_lt G hb
  generalize hY : (⟨s13, x.ins.map (mapI a), mapE a x.e⟩ : VB) = Y
  have eY : Y.cells = [.sl s13 x.ins.length, .int .i64 x.e.kind, .int .i64 x.e.op, .int .i64 (plc a x.e.a), .int .i64 (plc a x.e.b), .int .i64 x.e.n, .sl x.e.s x.e.to.length] := by
   rw [← hY]; simp [VB.cells, VE.cells, mapE]
  obtain ⟨s', h2, g1, g2, g3, g4, g5, g6⟩ := gs_push (bytes := 88) G8 Y.cells (by omega) rfl rfl (flat_app (vb_flatM _) rfl) (by omega)
  rw [eY] at g1 g2
  rw [X7x44xe4, pa, Option.bind_some, gI_of, pb, Option.bind_some, gI_of, newK_eq, g1, Option.bind_some, g2, Option.bind_some, gL_of, letK_eq, wrap64 (by omega) (by omega), show ((j : Int) + 1) = ((j + 1 : Nat) : Int) by omega]
  have o2 : Old h0 h2 := g4.old o01 fun q hq hi => by have := nw q hi; omega
  have le1 := o1.le
  have le0 := o.le
  have e8 : ∀ b, inS s' b → inS s8 b ∨ h1.length ≤ b := g5
  have cat : (gb ++ [Y]).flatMap VB.cells = gb.flatMap VB.cells ++ Y.cells := by simp
  refine ih (j + 1) (by omega) h2 s' (gb ++ [Y]) o2 (by rw [cat]; exact g3) (by simp [hg]) (fun b hb => ?_) (fun i z hi hz => ?_) (fun y hy => ?_) (fun i z hi hz => ?_)
  · rcases e8 b hb with h | h
    · exact nw b h
    · omega
  · by_cases hij : i = j
    · subst hij
      rw [hx] at hz; cases hz
      refine ⟨Y, by rw [List.getElem?_append_right (by omega), hg, Nat.sub_self]; rfl, ?_⟩
      rw [← hY]; exact ⟨rfl, rfl⟩
    · obtain ⟨y, hy, hm'⟩ := hm i z (by omega) hz
      exact ⟨y, by rw [List.getElem?_append_left (by omega)]; exact hy, hm'⟩
  · rcases List.mem_append.1 hy with hy | hy
    · have B := hB y hy
      refine ⟨(vs_old B.i o1).kp g4 fun b hb => (B.n b hb).2.2, fun b hb => ⟨(B.n b hb).1, by have := (B.n b hb).2.1; omega, fun hs => ?_⟩, B.r, B.e⟩
      rcases e8 b hs with h | h
      · exact (B.n b hb).2.2 h
      · have := (B.n b hb).2.1
        omega
    · rw [List.mem_singleton] at hy
      subst hy
      have VY : VS VI.cells 6 h1 s13 (x.ins.map (mapI a)).length (x.ins.map (mapI a)) := vs_GS (f := VI.cells) (fun _ => rfl) rfl (by rw [List.length_map]; exact G1)
      rw [← hY]
      refine ⟨VY.kp g4 fun b hb hi => by have := nw1 b hb; have := lt8 b hi; omega, fun b hb => ⟨by have := nw1 b hb; omega, by have := gs_lt G1 hb; omega, fun hs => ?_⟩, fun z hz => ?_, (R.r x hxm).e⟩
      · rcases e8 b hs with h | h
        · have := nw1 b hb; have := lt8 b h; omega
        · have := gs_lt G1 hb
          omega
      · obtain ⟨w, hw, rfl⟩ := List.mem_map.1 hz
        exact (R.r x hxm).r w hw
  · by_cases hij : i = j
    · subst hij
      rw [hx] at hz; cases hz
      exact nc1
    · exact nc i z (by omega) hz
end Go.Proofs.Ytnmdadadjneaiaa.D
/- AlloccheckMeans: the arguments, the two runs, the answer. -/
set_option linter.unusedVariables false
set_option linter.unusedSimpArgs false
namespace Go.Proofs.Ytnmdadadjneaiaa.D
open Go Go.Proofs.Ytnmdadadjneaiaa.Abs Go.Proofs
theorem margs_loop {h0 : Heap} {N : Nat} (hN : N ≤ 6) {s2 : SA} {l2 : List Int} (hL : VS intC 1 h0 s2 l2.length l2) (hl2 : l2.length ≤ 140737488355328) (i3x0 : Int) (s3x1 : SA) (i3x2 : Int) (s3x3 : SA) (n3x3 : Nat) (i8x0 : Int) (s8x1 : SA) (n8x1 : Nat) (i8x2 : Int) (s8x3 : SA) (n8x3 : Nat)
 (K : ∀ (h : Heap) (s : SA) (l : List Int), Old h0 h → l.length = N → VS intC 1 h s l.length l → ∃ h', Q7x64 mk0 E (.exit 6) (S7xe6 i3x0 s3x1 N i3x2 s3x3 n3x3 i8x0 s8x1 n8x1 i8x2 s8x3 n8x3 s N h) = some (.bool true, h')) :
 ∀ (k j : Nat), j + k = N → ∀ (h : Heap) (s16 : SA) (l : List Int), Old h0 h → l.length = j → GS h s16 j 1 (l.map (.int .i64)) → (∀ b, inS s16 b → h0.length ≤ b) →
  ∃ h', L7x64 mk0 E s2 l2.length i3x0 s3x1 N i3x2 s3x3 n3x3 i8x0 s8x1 n8x1 i8x2 s8x3 n8x3 s16 j ((N : Nat) : Int) ((j : Nat) : Int) h (Q7x64 mk0 E) = some (.bool true, h') := by
 intro k
 induction k with
 | zero =>
  intro j hj h s16 l o hl G nw
  have : j = N := by omega
  subst this
  rw [L7x64xeq, letK_eq, if_neg (by simp)]
  exact K h s16 l o hl (vs_GS (f := intC) (fun _ => rfl) rfl (by rw [show l.flatMap intC = l.map (.int .i64) from rows_one _ _, hl]; exact G))
 | succ k ih =>
  intro j hj h s16 l o hl G nw
  have tl : ∀ v : Int, ∃ h', J7x76 mk0 E s2 l2.length i3x0 s3x1 N i3x2 s3x3 n3x3 i8x0 s8x1 n8x1 i8x2 s8x3 n8x3 s16 j v ((N : Nat) : Int) ((j : Nat) : Int) h (Q7x64 mk0 E) = some (.bool true, h') := by
   intro v
   obtain ⟨s', h1, g1, g2, g3, g4, g5, g6⟩ := gs_push (bytes := 8) G [.int .i64 v] (by omega) rfl rfl (flat_app (flat_ints _) rfl) (by omega)
   rw [J7x76xeq, newK_eq, g1, Option.bind_some, g2, Option.bind_some, gL_of, letK_eq, wrap64 (by omega) (by omega), show ((j : Int) + 1) = ((j + 1 : Nat) : Int) by omega]
   refine ih (j + 1) (by omega) h1 s' (l ++ [v]) (g4.old o fun q hq hi => by have := nw q hi; omega) (by simp [hl]) (by rw [List.map_append]; exact g3) fun b hb => ?_
   rcases g5 b hb with h | h
   · exact nw b h
   · have := o.le; omega
  rw [L7x64xeq, letK_eq, if_pos (by simp; omega), letK_eq]
  by_cases hc : j < l2.length
  · obtain ⟨y, hy⟩ := at_lt hc
    obtain ⟨b, hb, lb⟩ := vs_ld1 (g := AV.int .i64) (vs_old hL o) (fun _ => rfl) _ y hy
    rw [if_pos (by simp; omega), chk_of (by intro _; omega), hb, atP_of, Int.toNat_natCast, lb, gI_of, smi_ok, Option.bind_some, gI_of]
    exact tl _
  · rw [if_neg (by simp; omega)]
    exact tl 3
theorem zeros (n : Nat) : repl n [AV.int .i64 0] = (List.replicate n (0 : Int)).map (.int .i64) := by simp [repl]
theorem getR_zero (n : Nat) : getR (List.replicate n 0) 0 = 0 := by
 unfold getR
 show (List.replicate n (0 : Int)).getD 0 0 = 0
 cases n <;> rfl
def s0V : VSt := ⟨List.replicate 64 0, [], 400, 500, 0, false, false⟩
theorem bok_of {f : VF} (fo : f.ok) (nc : ∀ x ∈ f.blocks, ∀ y ∈ x.ins, isCall y.op = false) : ∀ x ∈ f.blocks, BOK x f.regs.toNat f.blocks.length := by
 intro x hx
 have fr := fo.regs
 have okB := okB_of fr.1 fo.blk fo.sum x hx
 obtain ⟨b1, b2⟩ := fo.blk x hx
 obtain ⟨e1, e2, e3, e4, e5, e6⟩ := end_of (by omega) b2
 exact ⟨fun y hy => ⟨okB.ins y hy, (nOK_of (b1 y hy)).1, nc x hx y hy⟩, okB.len, e1, e3, by omega, by omega, fun t ht => by have := e6 t ht; omega⟩
theorem bok_map {f : VF} (fo : f.ok) {a : VA} (ok : a.ok f.regs) (nc : ∀ x ∈ f.blocks, ∀ y ∈ x.ins, isCall y.op = false) {gb : List VB} (hl : gb.length = f.blocks.length) (hm : ∀ (i : Nat) (x : VB), f.blocks[i]? = some x → ∃ y, gb[i]? = some y ∧ MapB a x y) : ∀ y ∈ gb, BOK y (12 + a.slots).toNat gb.length := by
 intro y hy
 obtain ⟨i, hi, e⟩ := List.getElem_of_mem hy
 obtain ⟨x, hx⟩ := at_lt (l := f.blocks) (i := i) (by omega)
 obtain ⟨y', hy', m1, m2⟩ := hm i x hx
 rw [List.getElem?_eq_getElem hi, e] at hy'
 cases hy'
 have hxm := List.mem_of_getElem? hx
 have fr := fo.regs
 have sl := ok.sl
 have B := bok_of fo nc x hxm
 have ok' : a.ok ((f.regs.toNat : Nat) : Int) := by rw [show ((f.regs.toNat : Nat) : Int) = f.regs by omega]; exact ok
 have rg : ∀ r : Int, 0 ≤ r → r < ((f.regs.toNat : Nat) : Int) → 0 ≤ plc a r ∧ plc a r < (((12 + a.slots).toNat : Nat) : Int) := fun r h0 h1 => by
  obtain ⟨p1, p2, _⟩ := plc_rng ok' h0 h1
  omega
 refine ⟨fun z hz => ?_, by rw [m1, List.length_map]; exact B.len, by rw [m2]; exact B.kind, by rw [m2]; exact B.many, by rw [m2]; exact rg _ B.a.1 B.a.2, by rw [m2]; exact rg _ B.b.1 B.b.2, by rw [m2, hl]; exact B.to⟩
 rw [m1] at hz
 obtain ⟨w, hw, rfl⟩ := List.mem_map.1 hz
 obtain ⟨w1, w2, w3⟩ := B.ins w hw
 have wa := (nOK_of ((fo.blk x hxm).1 w hw)).2 w3
 refine ⟨⟨w1.1, fun r hr => ?_⟩, w2, w3⟩
 have q := fun r (h : r ∈ insL w) => rg r (w1.2 r h).1 (w1.2 r h).2
 unfold insL mapI at hr
 simp only [wa] at hr
 rcases List.mem_cons.1 hr with rfl | hr
 · exact q w.d (by unfold insL; simp)
 rcases List.mem_cons.1 hr with rfl | hr
 · exact q w.a (by unfold insL; simp)
 rcases List.mem_cons.1 hr with rfl | hr
 · exact q w.b (by unfold insL; simp)
 · cases hr
theorem Built.R {h0 h : Heap} {s8 : SA} {y : VB} (B : Built h0 h s8 y) (o : Old h0 h) : y.R h := ⟨B.i, fun z hz => (B.r z hz).old o, B.e.old o⟩
set_option maxRecDepth 10000 in
theorem fin_runs {h : Heap} {f g : VF} (Rf : f.R h) (Rg : g.R h) (bf : 0 < f.blocks.length ∧ f.blocks.length ≤ 1000000) (bg : 0 < g.blocks.length ∧ g.blocks.length ≤ 1000000) {n m : Nat} (hn : ((n : Nat) : Int) = f.regs) (hm : ((m : Nat) : Int) = g.regs) (hn8 : n ≤ 100000) (hm8 : m ≤ 100000)
 (pf : ∀ r ∈ f.params, 1 ≤ r ∧ r < (n : Int)) (pg : ∀ r ∈ g.params, 1 ≤ r ∧ r < (m : Int)) (lf : f.params.length ≤ 6) (lg : g.params.length = f.params.length) (okf : ∀ x ∈ f.blocks, BOK x n f.blocks.length) (okg : ∀ x ∈ g.blocks, BOK x m g.blocks.length) {s : SA} {l : List Int} (hl : l.length = f.params.length) (hL : VS intC 1 h s l.length l)
 (same : runP f.blocks 600 0 (parP f.params l (List.replicate n 0)) s0V = runP g.blocks 600 0 (parP g.params l (List.replicate m 0)) s0V) :
 ∃ h', Q7x64 mk0 E (.exit 6) (S7xe6 f.nm f.sp f.params.length f.regs f.sb f.blocks.length g.nm g.sp g.params.length g.regs g.sb g.blocks.length s l.length h) = some (.bool true, h') := by
 rw [X7x64xe6, newK_eq, chk_of (by omega), newK_eq, newK_eq, newK_eq, chk_of (by omega), newK_eq, newK_eq]
 rw [show Int.toNat 64 = 64 from rfl, zeros]
 generalize hh1 : h ++ [Blk.cells [.int .i64 f.nm, .sl f.sp f.params.length, .int .i64 f.regs, .sl f.sb f.blocks.length] (.grow 4) 0] = h1
 generalize hh2 : h1 ++ [Blk.cells ((List.replicate 64 (0 : Int)).map (.int .i64)) (.grow 1) 0] = h2
 generalize hh3 : h2 ++ [Blk.cells [.sl (.pos ⟨h.length, 0, 0⟩) 1, .sl (.pos ⟨h1.length, 0, 0⟩) 64, .int .i64 400, .int .i64 500, .sl .nil 0, .int .i64 0, .bool false, .bool false, .int .i64 0] .fix 0] = h3
 generalize hh4 : h3 ++ [Blk.cells [.int .i64 g.nm, .sl g.sp g.params.length, .int .i64 g.regs, .sl g.sb g.blocks.length] (.grow 4) 0] = h4
 generalize hh5 : h4 ++ [Blk.cells ((List.replicate 64 (0 : Int)).map (.int .i64)) (.grow 1) 0] = h5
 generalize hh6 : h5 ++ [Blk.cells [.sl (.pos ⟨h3.length, 0, 0⟩) 1, .sl (.pos ⟨h4.length, 0, 0⟩) 64, .int .i64 400, .int .i64 500, .sl .nil 0, .int .i64 0, .bool false, .bool false, .int .i64 0] .fix 0] = h6
 have e1 : h1.length = h.length + 1 := by rw [← hh1]; simp
 have e2 : h2.length = h.length + 2 := by rw [← hh2]; simp [e1]
 have e3 : h3.length = h.length + 3 := by rw [← hh3]; simp [e2]
 have e4 : h4.length = h.length + 4 := by rw [← hh4]; simp [e3]
 have e5 : h5.length = h.length + 5 := by rw [← hh5]; simp [e4]
 have e6 : h6.length = h.length + 6 := by rw [← hh6]; simp [e5]
 have o1 : Old h h1 := by rw [← hh1]; exact old_app _ _
 have o2 : Old h1 h2 := by rw [← hh2]; exact old_app _ _
 have o3 : Old h2 h3 := by rw [← hh3]; exact old_app _ _
 have o4 : Old h3 h4 := by rw [← hh4]; exact old_app _ _
 have o5 : Old h4 h5 := by rw [← hh5]; exact old_app _ _
 have o6 : Old h5 h6 := by rw [← hh6]; exact old_app _ _
 have o36 := o4.trans (o5.trans o6)
 have c0 : h6[h.length]? = some (.cells f.cells (.grow 4) 0) := (o2.trans (o3.trans o36)) _ _ (by rw [← hh1]; exact last_get _ _)
 have c1 : h6[h1.length]? = some (.cells ((List.replicate 64 (0 : Int)).map (.int .i64)) (.grow 1) 0) := (o3.trans o36) _ _ (by rw [← hh2]; exact last_get _ _)
 have c2 : h6[h2.length]? = some (.cells (rmC (.sl (.pos ⟨h.length, 0, 0⟩) 1) h1.length 0 .nil s0V 0) .fix 0) := o36 _ _ (by rw [← hh3]; exact last_get _ _)
 have c3 : h6[h3.length]? = some (.cells g.cells (.grow 4) 0) := (o5.trans o6) _ _ (by rw [← hh4]; exact last_get _ _)
 have c4 : h6[h4.length]? = some (.cells ((List.replicate 64 (0 : Int)).map (.int .i64)) (.grow 1) 0) := o6 _ _ (by rw [← hh5]; exact last_get _ _)
 have c5 : h6[h5.length]? = some (.cells (rmC (.sl (.pos ⟨h3.length, 0, 0⟩) 1) h4.length 0 .nil s0V 0) .fix 0) := by rw [← hh6]; exact last_get _ _
 have nn : ∀ q, ¬ inS .nil q := fun q ⟨_, h, _⟩ => by cases h
 have M1 : RM h6 h2.length (.sl (.pos ⟨h.length, 0, 0⟩) 1) s0V 0 h1.length 0 .nil := ⟨c2, c1, ⟨rfl, rfl, .inl ⟨rfl, rfl⟩⟩, by omega, nn _, nn _⟩
 have M2 : RM h6 h5.length (.sl (.pos ⟨h3.length, 0, 0⟩) 1) s0V 0 h4.length 0 .nil := ⟨c5, c4, ⟨rfl, rfl, .inl ⟨rfl, rfl⟩⟩, by omega, nn _, nn _⟩
 have o06 : Old h h6 := o1.trans (o2.trans (o3.trans o36))
 have I0 : s0V.inv := ⟨by simp [s0V], by simp [s0V], by simp [s0V], by simp [s0V]⟩
 have ow1 : ∀ b, ownR h2.length h1.length .nil b → b = h2.length ∨ b = h1.length := by
  rintro b (h | h | h)
  · exact .inl h
  · exact .inr h
  · exact absurd h (nn b)
 have ow2 : ∀ b, ownR h5.length h4.length .nil b → b = h5.length ∨ b = h4.length := by
  rintro b (h | h | h)
  · exact .inl h
  · exact .inr h
  · exact absurd h (nn b)
 obtain ⟨h7, v1, so1, r1, r2, r3, r4, r5, rI⟩ := call_ok Rf o06 bf.1 bf.2 M1 c0 (fun hh => by rcases ow1 _ hh with hh | hh <;> omega) hn hn8 pf lf okf hL hl (fun b hh => by rcases ow1 b hh with hh | hh <;> omega) I0 rfl rfl
 have o07 : Old h h7 := r3.old o06 fun q hq hh => by rcases ow1 q hh with hh | hh <;> omega
 have M2' := M2.kp r3 fun b hb hh => by
  rcases ow1 b hh with hh | hh <;> rcases ow2 b hb with hb | hb <;> omega
 have c3' : h7[h3.length]? = some (.cells g.cells (.grow 4) 0) := r3 _ _ c3 fun hh => by rcases ow1 _ hh with hh | hh <;> omega
 obtain ⟨h8, v2, so2, t1, t2, t3, t4, t5, tI⟩ := call_ok Rg o07 bg.1 bg.2 M2' c3' (fun hh => by rcases ow2 _ hh with hh | hh <;> omega) hm hm8 pg (by omega) okg hL (by omega) (fun b hh => by rcases ow2 b hh with hh | hh <;> omega) I0 rfl rfl
 have M1' := r2.kp t3 fun b hb hh => by
  rcases ow2 b hh with hh | hh
  · rcases hb with hb | hb | hb
    · omega
    · omega
    · rcases r4 b hb with hi | hi
      · exact nn b hi
      · omega
  · rcases hb with hb | hb | hb
    · omega
    · omega
    · rcases r4 b hb with hi | hi
      · exact nn b hi
      · omega
 rw [r1, Option.bind_some, gI_of, t1, Option.bind_some, gI_of, ← same]
 rw [← same] at t2
 clear tI
 generalize runP f.blocks 600 0 (parP f.params l (List.replicate n 0)) s0V = z at *
 have a6 := M1'.ld 6 (.bool z.2.stop) rfl rfl
 have b6 := t2.ld 6 (.bool z.2.stop) rfl rfl
 have a7 := M1'.ld 7 (.bool z.2.bad) rfl rfl
 have b7 := t2.ld 7 (.bool z.2.bad) rfl rfl
 have a5 := M1'.ld 5 (.int .i64 z.2.en) rfl rfl
 have b5 := t2.ld 5 (.int .i64 z.2.en) rfl rfl
 have a4 := M1'.ld 4 (.sl so1 z.2.out.length) rfl rfl
 have b4 := t2.ld 4 (.sl so2 z.2.out.length) rfl rfl
 have a1 := M1'.ld 1 (.sl (.pos ⟨h1.length, v1, 0⟩) z.2.words.length) rfl rfl
 have b1 := t2.ld 1 (.sl (.pos ⟨h4.length, v2, 0⟩) z.2.words.length) rfl rfl
 have V1 : VS intC 1 h8 so1 z.2.out.length z.2.out := vs_GS (f := intC) (fun _ => rfl) rfl (by rw [show z.2.out.flatMap intC = z.2.out.map (.int .i64) from rows_one _ _]; exact M1'.ho)
 have V2 : VS intC 1 h8 so2 z.2.out.length z.2.out := vs_GS (f := intC) (fun _ => rfl) rfl (by rw [show z.2.out.flatMap intC = z.2.out.map (.int .i64) from rows_one _ _]; exact t2.ho)
 have U1 : VS intC 1 h8 (.pos ⟨h1.length, v1, 0⟩) z.2.words.length z.2.words := vs_blk1 (g := AV.int .i64) M1'.hw
 have U2 : VS intC 1 h8 (.pos ⟨h4.length, v2, 0⟩) z.2.words.length z.2.words := vs_blk1 (g := AV.int .i64) t2.hw
 have q1 := eqI_same V1 V2 (by have := rI.o; omega)
 have q2 := eqI_same U1 U2 (by have := rI.w1; omega)
 refine ⟨h8, ?_⟩
 simp only [letK_eq, atP_any, add_mk]
 rw [show (0 + 6) = 6 from rfl] at a6 b6
 rw [show (0 + 7) = 7 from rfl] at a7 b7
 rw [show (0 + 5) = 5 from rfl] at a5 b5
 rw [show (0 + 4) = 4 from rfl] at a4 b4
 rw [show (0 + 1) = 1 from rfl] at a1 b1
 simp only [a6, b6, a7, b7, a5, b5, a4, b4, gB_any, gI_any, gL_any]
 simp only [decide_true, beq_self_eq_true, if_true, callO_true]
 rw [q1, Option.bind_some]
 simp only [a1, b1, gB_any, gL_any, Nat.zero_add, if_true, callO_true, Nat.add_zero]
 rw [q2, Option.bind_some]
 simp only [gB_any, if_true]
theorem means_ok {h : Heap} {f : VF} {a : VA} (R : f.R h) (B : f.B) (A : a.R h) {s2 : SA} {l2 : List Int} (hL : VS intC 1 h s2 l2.length l2) (hl2 : l2.length ≤ 140737488355328) : ∃ h', E 7 [.agg f.cells, .agg a.cells, .sl s2 l2.length] h = some (.bool true, h') := by
 have oH : Old h (h ++ [.cells a.cells .fix 0]) := old_app _ _
 obtain ⟨h1, b, s1, s2', s3⟩ := small_ok (R.old oH) B
 have H1 : h1[h.length]? = some (.cells a.cells .fix 0) := s2' _ _ (last_get _ _)
 obtain ⟨h2, e, c1, c2, c3, c4⟩ := accept_ok ((R.old oH).old s2') B ((A.old oH).old s2')
 have H2 := c2 _ _ H1
 have rd : ldN h1 ⟨h.length, 0, 0⟩ 3 = some a.cells := by simp only [ldN, H1]; rfl
 unfold VF.cells VA.cells at s1 c1 rd ⊢
 rw [e7, newK_eq, fact8, Option.bind_some, gB_of, if_neg (by simp)]
 have s1' : E 10 [.agg [.int .i64 f.nm, .sl f.sp f.params.length, .int .i64 f.regs, .sl f.sb f.blocks.length]] (h ++ [.cells [.sl a.s0 a.reg.length, .sl a.s1 a.slot.length, .int .i64 a.slots] .fix 0]) = some (.bool b, h1) := s1
 rw [s1', Option.bind_some, gB_of]
 rw [chk_of (by intro _; omega), gI_any, gL_any, gI_any, gL_any, atP_any, rd]
 have gc : ∀ {R : Type} (l : List AV) (bc : Bool) (K : List AV → Option R), gCells (some l) bc K = K l := fun l bc K => by cases bc <;> rfl
 rw [gc]
 simp only [List.getElem?_cons_zero, List.getElem?_cons_succ]
 rw [gL_any, gL_any, gI_any, Bool.not_not]
 cases b with
 | false =>
  rw [callO_false, Option.bind_some, gI_any, letK_eq, letK_eq, if_pos (by simp)]
  exact ⟨h1, rfl⟩
 | true =>
  rw [callO_true, c1, Option.bind_some, gI_any, letK_eq, letK_eq]
  by_cases he : e = 0
  case neg =>
   rw [if_pos (by simp [he])]
   exact ⟨h2, rfl⟩
  obtain ⟨fo, ok, ⟨T, S, acc⟩⟩ := c3.1 he
  have fr := fo.regs
  have sl := ok.sl
  have o2 : Old h h2 := oH.trans (s2'.trans c2)
  have rs : ld1 h2 ⟨h.length, 0, 0 + 2⟩ = some (.int .i64 a.slots) := ld1_at H2 rfl rfl
  have hp : ∀ r ∈ f.params, 1 ≤ r ∧ r < f.regs := fun r hr => by
   obtain ⟨i, hi, e⟩ := List.getElem_of_mem hr
   have := (fo.par i r (by rw [List.getElem?_eq_getElem hi, e])).1
   omega
  have okB := okB_of fr.1 fo.blk fo.sum
  have fs := fo.sum
  have R2 := R.old o2
  have A2 := A.old o2
  rw [if_neg (by simp [he]), add_mk, rs, gI_of, letK_eq, wrap64 (by omega) (by omega)]
  have P := mpar_loop R2 A2 ok hp fo.np H2 s2 l2.length 0 (12 + a.slots) ?_ f.params.length 0 (by omega) h2 .nil (Old.refl _) ⟨rfl, rfl, .inl ⟨rfl, rfl⟩⟩ (fun b ⟨_, h, _⟩ => by cases h)
  · rw [show (((0 : Nat) : Int)) = 0 from rfl] at P
    exact P
  intro h3 s8 o3 G8 n8
  have o03 := o2.trans o3
  rw [X7x16xe0]
  have Q := mblk_loop (R2.old o3) (by have := fo.nb; omega) (fun x hx => by have := sumI_mem hx; omega) (A2.old o3) (by omega) ok (fun x hx => by
   obtain ⟨_, _, _, e4, e5, _⟩ := end_of (by omega) (fo.blk x hx).2
   exact ⟨(okB x hx).ins, e4, e5⟩) (o3 _ _ H2) s2 l2.length 0 s8 f.params.length (12 + a.slots) ?_ f.blocks.length 0 (by omega) h3 .nil [] (Old.refl _) ⟨rfl, rfl, .inl ⟨rfl, rfl⟩⟩ rfl (fun b ⟨_, h, _⟩ => by cases h) (fun i x hi => by omega) (fun y hy => by cases hy) (fun i x hi => by omega)
  · rw [show (((0 : Nat) : Int)) = 0 from rfl] at Q
    exact Q
  intro h4 sb gb o4 Gb lb mb bb nc
  rw [X7x32xe2]
  have o04 := o03.trans o4
  have M := margs_loop (N := f.params.length) fo.np (vs_old hL o04) hl2 f.nm f.sp f.regs f.sb f.blocks.length 0 s8 f.params.length (12 + a.slots) sb f.blocks.length ?_ f.params.length 0 (by omega) h4 .nil [] (Old.refl _) rfl ⟨rfl, rfl, .inl ⟨rfl, rfl⟩⟩ (fun b ⟨_, h, _⟩ => by cases h)
  · rw [show (((0 : Nat) : Int)) = 0 from rfl] at M
    exact M
  intro h5 s l o5 hl VL
  have o05 := o04.trans o5
  have nn : ((f.regs.toNat : Nat) : Int) = f.regs := by omega
  have ok' : a.ok ((f.regs.toNat : Nat) : Int) := by rw [nn]; exact ok
  have G8' : GS h5 s8 f.params.length 1 ((f.params.map (plc a)).map (.int .i64)) := gs_keep (s := .nil) G8 (fun b x hx _ => (o4.trans o5) b x hx) (fun b _ ⟨_, h, _⟩ => by cases h)
  have Gb' : GS h5 sb f.blocks.length 7 (gb.flatMap VB.cells) := gs_keep (s := .nil) Gb (fun b x hx _ => o5 b x hx) (fun b _ ⟨_, h, _⟩ => by cases h)
  have V8 : VS intC 1 h5 s8 (f.params.map (plc a)).length (f.params.map (plc a)) := vs_GS (f := intC) (fun _ => rfl) rfl (by rw [show (f.params.map (plc a)).flatMap intC = (f.params.map (plc a)).map (.int .i64) from rows_one _ _, List.length_map]; exact G8')
  have Vb : VS VB.cells 7 h5 sb gb.length gb := vs_GS (f := VB.cells) (fun _ => rfl) rfl (by rw [lb]; exact Gb')
  have Rg : VF.R h5 ⟨0, s8, f.params.map (plc a), 12 + a.slots, sb, gb⟩ := ⟨V8, Vb, fun y hy => ((bb y hy).R o4).old o5⟩
  have pg : ∀ r ∈ f.params.map (plc a), 1 ≤ r ∧ r < (((12 + a.slots).toNat : Nat) : Int) := fun r hr => by
   obtain ⟨w, hw, rfl⟩ := List.mem_map.1 hr
   have := hp w hw
   obtain ⟨p1, p2, p3⟩ := plc_rng ok' (r := w) (by omega) (by omega)
   omega
  have fin := fin_runs (R.old o05) Rg ⟨fo.b0, by have := fo.nb; omega⟩ ⟨by show 0 < gb.length; rw [lb]; exact fo.b0, by show gb.length ≤ 1000000; rw [lb]; have := fo.nb; omega⟩ (n := f.regs.toNat) (m := (12 + a.slots).toNat) nn (by show (((12 + a.slots).toNat : Nat) : Int) = 12 + a.slots; omega) (by omega) (by omega)
   (fun r hr => by have := hp r hr; omega) pg fo.np (by simp) (bok_of fo nc) (bok_map fo ok nc lb mb) (s := s) (l := l) hl VL ?_
  · simp only [List.length_map, lb, hl] at fin
    exact fin
  · refine run_sim ok' acc mb lb (bok_of fo nc) 600 0 _ _ s0V acc.t0 (Sm.le ?_ acc.i0)
    refine par_sim ok' f.params l ?_ (fun r hr => by have := hp r hr; omega) hl.symm
    refine ⟨by simp, by simp; omega, ?_, ?_, fun p s _ _ h => by cases h⟩
    · exact getR_zero _
    · exact getR_zero _
end Go.Proofs.Ytnmdadadjneaiaa.D
