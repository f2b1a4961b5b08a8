/- heap: headers of any tag, words of any value; index, Load, inYoung, put, object, Tag. -/
import Derived.Test.YtecgpcpgklholaaConK
import Derived.Test.YtecgpcpgklholaaKGen2
set_option linter.unusedVariables false
set_option linter.unusedSimpArgs false
namespace Go.Proofs.Ytecgpcpgklholaa.K
open Go Go.Proofs.Ytecgpcpgklholaa.Abs Go.Proofs

/-- The header of an object. -/
def hd (t z : Nat) : Int := 2 * (4096 * (t : Int) + z) + 1

theorem hd_ok (t z : Nat) (h : Heap) (ht : t ≤ 258) (hz : z ≤ 4095) : E 28 [.int .i64 ((t : Nat) : Int), .int .i64 ((z : Nat) : Int)] h = some (.int .i64 (hd t z), h) := by
  rw [e28, letK_eq, letK_eq, letK_eq, letK_eq, wrap64 (x := (t : Int) * 4096) (by omega) (by omega), wrap64 (x := (t : Int) * 4096 + z) (by omega) (by omega), wrap64 (x := ((t : Int) * 4096 + z) * 2) (by omega) (by omega), wrap64 (by omega) (by omega)]
  unfold hd
  congr 3
  omega

theorem hd_split (t z : Nat) (h : Heap) (ht : t ≤ 258) (hz : z ≤ 4095) : E 31 [.int .i64 (hd t z)] h = some (.tup [.int .i64 ((t : Nat) : Int), .int .i64 ((z : Nat) : Int), .bool true], h) := by
  have a1 : Int.fdiv (hd t z) (2 ^ 1) = 4096 * (t : Int) + z := by
    rw [Int.fdiv_eq_ediv_of_nonneg _ (by omega)]
    unfold hd; omega
  have a2 : Int.fdiv (4096 * (t : Int) + z) (2 ^ 12) = t := by
    rw [Int.fdiv_eq_ediv_of_nonneg _ (by omega)]
    omega
  have b1 : hd t z % 2 = 1 := by unfold hd; omega
  have b2 : (4096 * (t : Int) + z) % 4096 = z := by omega
  have i1 : inB (t : Int) 0 258 = true := by simp [inB]; omega
  rw [e31, letK_eq, a1, letK_eq, a2, letK_eq, and4095, letK_eq, and1, letK_eq, b1, b2]
  simp only [decide_true]
  rw [callO_true, in_ok, i1, Option.bind_some, gB_of, letK_eq]
  rfl

/-- A memory, with the words that it remembers. -/
structure MS where
  M : Nat
  st : Nat
  nu : Nat
  yo : Nat
  ha : Nat
  fr : Nat
  ol : Nat
  f : Nat → Int
  rs : SA
  rn : Nat

def mc (S : MS) (q : Nat) : List AV := [.sl (.pos ⟨q, 0, 0⟩) S.M, .int .i64 ((S.st : Nat) : Int), .int .i64 ((S.nu : Nat) : Int), .int .i64 ((S.yo : Nat) : Int), .int .i64 ((S.ha : Nat) : Int), .int .i64 ((S.fr : Nat) : Int), .int .i64 ((S.ol : Nat) : Int), .sl S.rs S.rn]

def cel (M : Nat) (f : Nat → Int) : List AV := (List.range M).map fun i => .int .i64 (f i)

structure MP (h : Heap) (b q : Nat) (S : MS) : Prop where
  c : h[b]? = some (.cells (mc S q) .fix 0)
  m : h[q]? = some (.cells (cel S.M S.f) (.grow 1) 0)
  ne : q ≠ b

structure MB (S : MS) : Prop where
  m : S.M ≤ 65536
  nu : 5 ≤ S.nu
  st : S.nu + 2 * S.ha ≤ S.M
  fr : S.fr = S.nu ∨ S.fr = S.nu + S.ha
  y0 : 1 ≤ S.yo
  y1 : S.yo ≤ S.nu
  o0 : S.fr ≤ S.ol
  o1 : S.ol ≤ S.fr + S.ha

section
variable {h : Heap} {b q : Nat} {S : MS}

theorem MP.r0 (H : MP h b q S) : ld1 h ⟨b, 0, 0 + 0⟩ = some (.sl (.pos ⟨q, 0, 0⟩) S.M) := ld1_at H.c rfl rfl
theorem MP.r2 (H : MP h b q S) : ld1 h ⟨b, 0, 0 + 2⟩ = some (.int .i64 S.nu) := ld1_at H.c rfl rfl
theorem MP.r3 (H : MP h b q S) : ld1 h ⟨b, 0, 0 + 3⟩ = some (.int .i64 S.yo) := ld1_at H.c rfl rfl
theorem MP.r4 (H : MP h b q S) : ld1 h ⟨b, 0, 0 + 4⟩ = some (.int .i64 S.ha) := ld1_at H.c rfl rfl
theorem MP.r5 (H : MP h b q S) : ld1 h ⟨b, 0, 0 + 5⟩ = some (.int .i64 S.fr) := ld1_at H.c rfl rfl
theorem MP.r6 (H : MP h b q S) : ld1 h ⟨b, 0, 0 + 6⟩ = some (.int .i64 S.ol) := ld1_at H.c rfl rfl
theorem MP.r7 (H : MP h b q S) : ld1 h ⟨b, 0, 0 + 7⟩ = some (.sl S.rs S.rn) := ld1_at H.c rfl rfl
theorem MP.w (H : MP h b q S) (i : Nat) (hi : i < S.M) : ld1 h ⟨q, 0, 0 + i * 1⟩ = some (.int .i64 (S.f i)) := ld1_at H.m (by unfold cel; rw [Nat.zero_add, Nat.mul_one, range_get hi]) rfl

theorem cel_set (M : Nat) (f : Nat → Int) (i : Nat) (v : Int) : (cel M f).set i (.int .i64 v) = cel M (upd f i v) := by
  unfold cel
  rw [range_set]
  apply List.map_congr_left
  intro j _
  unfold upd
  by_cases e : j = i
  · rw [if_pos e, if_pos e]
  · rw [if_neg e, if_neg e]

/-- A word of the memory is set. -/
theorem MP.wr (H : MP h b q S) (i : Nat) (v : Int) (hi : i < S.M) : st1 h ⟨q, 0, 0 + i * 1⟩ (.int .i64 v) = some (h.set q (.cells (cel S.M (upd S.f i v)) (.grow 1) 0)) ∧ MP (h.set q (.cells (cel S.M (upd S.f i v)) (.grow 1) 0)) b q { S with f := upd S.f i v } := by
  have hne := H.ne
  refine ⟨?_, ?_, set_same H.m, hne⟩
  · rw [st1_at H.m (by simp) (by unfold cel; simp; omega), show 0 + i * 1 = i by omega, cel_set]
  · rw [set_other (by omega)]; exact H.c

/-- All blocks but some stand. -/
def ButL (ks : List Nat) (h h' : Heap) : Prop := ∀ (k : Nat) (x : Blk), h[k]? = some x → k ∉ ks → h'[k]? = some x
theorem ButL.refl (ks : List Nat) (h : Heap) : ButL ks h h := fun _ _ h _ => h
theorem ButL.trans {ks : List Nat} {h1 h2 h3 : Heap} (x : ButL ks h1 h2) (y : ButL ks h2 h3) : ButL ks h1 h3 := fun k z hk a => y k z (x k z hk a) a
theorem ButL.mono {ks ls : List Nat} {h1 h2 : Heap} (x : ButL ks h1 h2) (hs : ∀ k, k ∈ ks → k ∈ ls) : ButL ls h1 h2 := fun k z hk a => x k z hk fun m => a (hs k m)
theorem ButL.set (h : Heap) (q : Nat) (B : Blk) (ks : List Nat) (hq : q ∈ ks) : ButL ks h (h.set q B) := fun k x hk a => by
  by_cases e : q = k
  · subst e; exact absurd hq a
  · rw [set_other e]; exact hk
theorem ButL.of_old {ks : List Nat} {h1 h2 : Heap} (x : Old h1 h2) : ButL ks h1 h2 := fun k z hk _ => x k z hk

theorem td2 (i : Nat) : Int.tdiv (2 * (i : Int)) 2 = (i : Int) := by
  rw [Int.tdiv_eq_ediv_of_nonneg (by omega)]; omega

theorem index_ok (H : MP h b q S) (B : MB S) {i : Nat} (h1 : 1 ≤ i) (h2 : i < S.M) : E 36 [.ptr (some ⟨b, 0, 0⟩), .int .i64 (2 * (i : Int))] h = some (.int .i64 ((i : Nat) : Int), h) := by
  have bm := B.m
  have hm : (2 * (i : Int)) % 2 = 0 := by omega
  have i1 : inB (i : Int) 1 ((S.M : Int) - 1) = true := by simp [inB]; omega
  rw [e36, letK_eq, and1, hm, letK_eq, chk_of (by intro _; omega), letK_eq, td2, wrap64 (by omega) (by omega)]
  simp only [decide_true, Bool.not_true, Bool.not_false]
  rw [atP_of, atP_of, add_mk, atP_of, H.r0, gL_of, letK_eq, wrap64 (by omega) (by omega), in_ok, i1, callO_true, Option.bind_some, gB_of, letK_eq, if_neg (by simp), letK_eq]

theorem load_ok (H : MP h b q S) (B : MB S) {i : Nat} (h1 : 1 ≤ i) (h2 : i < S.M) : E 22 [.ptr (some ⟨b, 0, 0⟩), .int .i64 (2 * (i : Int))] h = some (.tup [.int .i64 (S.f i), .int .i64 0], h) := by
  rw [e22, index_ok H B h1 h2, Option.bind_some, gI_of, letK_eq, if_neg (by simp <;> omega), atP_of, add_mk, H.r0, gL_of, chk_of (by intro _; omega), adP_pos, atP_of, add_mk, Int.toNat_natCast, H.w i h2, gI_of]

theorem td_bd {v : Int} (h1 : -4294967296 ≤ v) (h2 : v ≤ 4294967296) : -4294967296 ≤ Int.tdiv v 2 ∧ Int.tdiv v 2 ≤ 4294967296 := by
  by_cases h : 0 ≤ v
  · rw [Int.tdiv_eq_ediv_of_nonneg h]; omega
  · have e : Int.tdiv v 2 = -(Int.tdiv (-v) 2) := by rw [Int.neg_tdiv]; omega
    rw [e, Int.tdiv_eq_ediv_of_nonneg (by omega)]; omega

/-- Is a word a pointer to the nursery? -/
def yng (nu : Nat) (v : Int) : Bool := decide (0 < v) && (decide (v % 2 = 0) && decide (v / 2 < nu))

theorem yng_ok (H : MP h b q S) (B : MB S) {v : Int} (h1 : -4294967296 ≤ v) (h2 : v ≤ 4294967296) : E 41 [.ptr (some ⟨b, 0, 0⟩), .int .i64 v] h = some (.bool (yng S.nu v), h) := by
  have ga : ∀ (K : Ad → Option (AV × Heap)) (a : Ad) (c : Bool), atP (some a) c K = K a := fun _ _ c => by cases c <;> rfl
  have hb := td_bd h1 h2
  rw [e41, letK_eq, letK_eq, and1, letK_eq, letK_eq, chk_of (by intro _; omega), letK_eq, wrap64 (by omega) (by omega), ga, ga, ga, add_mk, H.r2, gI_any, letK_eq, letK_eq]
  unfold yng
  by_cases c1 : 0 < v
  · rw [Int.tdiv_eq_ediv_of_nonneg (by omega)]
    by_cases c2 : v % 2 = 0 <;> by_cases c3 : v / 2 < (S.nu : Int) <;> simp [c1, c2, c3]
  · simp [c1]

theorem yng_odd (nu : Nat) {v : Int} (h : v % 2 = 1) : yng nu v = false := by
  unfold yng
  have : ¬ v % 2 = 0 := by omega
  simp [this]

theorem yng_ptr (nu i : Nat) (h : 1 ≤ i) : yng nu (2 * (i : Int)) = decide (i < nu) := by
  unfold yng
  have a : (2 * (i : Int)) % 2 = 0 := by omega
  have c : (2 * (i : Int)) / 2 = i := by omega
  have d : 0 < 2 * (i : Int) := by omega
  rw [c]
  simp only [a, d, decide_true, Bool.true_and]
  by_cases e : i < nu <;> simp [e] <;> omega

theorem put_ok {i : Nat} (H : MP h b q S) (B : MB S) (hi : i < S.M) {v : Int} (v1 : -4294967296 ≤ v) (v2 : v ≤ 4294967296) (hn : i < S.fr ∨ S.fr + S.ha ≤ i ∨ yng S.nu v = false) :
    ∃ h', E 29 [.ptr (some ⟨b, 0, 0⟩), .int .i64 ((i : Nat) : Int), .int .i64 v] h = some (.tup [], h') ∧ MP h' b q { S with f := upd S.f i v } ∧ ButL [q] h h' := by
  obtain ⟨a1, a2, a3, a4, a5, a6, a7, a8⟩ := B
  have B : MB S := ⟨a1, a2, a3, a4, a5, a6, a7, a8⟩
  obtain ⟨w1, w2⟩ := H.wr i v hi
  have o1 : ButL [q] h (h.set q (.cells (cel S.M (upd S.f i v)) (.grow 1) 0)) := ButL.set _ _ _ _ (by simp)
  generalize h.set q (.cells (cel S.M (upd S.f i v)) (.grow 1) 0) = h2 at w1 w2 o1
  have B2 : MB { S with f := upd S.f i v } := ⟨a1, a2, a3, a4, a5, a6, a7, a8⟩
  rw [e29, atP_of, add_mk, H.r0, gL_of, chk_of (by intro _; omega), adP_pos, atP_of, add_mk, Int.toNat_natCast, w1, Option.bind_some, atP_of, add_mk, w2.r5, gI_of, atP_of, add_mk, w2.r5, gI_of, atP_of, add_mk, w2.r4, gI_of, letK_eq, letK_eq]
  dsimp only
  rw [wrap64 (x := (S.fr : Int) + (S.ha : Int)) (by omega) (by omega), wrap64 (by omega) (by omega), in_ok, Option.bind_some, gB_of, yng_ok w2 B2 v1 v2, callO_bool, Option.bind_some, gB_any, letK_eq]
  dsimp only
  have e0 : (if inB (i : Int) (S.fr : Int) ((S.fr : Int) + (S.ha : Int) - 1) = true then (inB (i : Int) (S.fr : Int) ((S.fr : Int) + (S.ha : Int) - 1) && yng S.nu v) else false) = false := by
    rcases hn with x | x | x
    · have : inB (i : Int) (S.fr : Int) ((S.fr : Int) + (S.ha : Int) - 1) = false := by simp [inB]; omega
      rw [this]; rfl
    · have : inB (i : Int) (S.fr : Int) ((S.fr : Int) + (S.ha : Int) - 1) = false := by simp [inB]; omega
      rw [this]; rfl
    · rw [x]; simp
  rw [e0]
  have ga : ∀ (K : Ad → Option (AV × Heap)) (a : Ad), atP (some a) false K = K a := fun _ _ => rfl
  have gl : ∀ (s : SA) (n : Nat) (K : SA → Nat → Option (AV × Heap)), gL (some (AV.sl s n)) false K = K s n := fun _ _ _ => rfl
  rw [ga, ga, ga, add_mk, w2.r7, gl, callO_false, Option.bind_some, gB_any, letK_eq, if_neg (by simp), J29x3xeq]
  exact ⟨h2, rfl, w2, o1⟩

/-- Where an object lies. -/
def Obj (S : MS) (p t n : Nat) : Prop := 1 ≤ p ∧ t ≤ 258 ∧ n ≤ 4000 ∧ S.f p = hd t n ∧ ((p < S.nu ∧ p + n < S.yo) ∨ (S.nu ≤ p ∧ S.fr ≤ p ∧ p + n < S.ol))

theorem object_ok (H : MP h b q S) (B : MB S) {p t n : Nat} (O : Obj S p t n) : E 30 [.ptr (some ⟨b, 0, 0⟩), .int .i64 (2 * (p : Int))] h = some (.int .i64 ((n : Nat) : Int), h) := by
  obtain ⟨a1, a2, a3, a4, a5, a6, a7, a8⟩ := B
  obtain ⟨o1, o2, o3, o4, o5⟩ := O
  have hmod : (2 * (p : Int)) % 2 = 0 := by omega
  have hM : p < S.M := by omega
  have hm := H.w p hM
  rw [o4] at hm
  have join : ∀ e : Int, (p : Int) + n < e → J30x15 mk0 E (some ⟨b, 0, 0⟩) ((p : Nat) : Int) e h = some (.int .i64 ((n : Nat) : Int), h) := by
    intro e he
    rw [J30x15xeq, letK_eq, if_neg (by simp <;> omega), atP_of, add_mk, H.r0, gL_of, chk_of (by intro _; omega), adP_pos, atP_of, add_mk, Int.toNat_natCast, hm, gI_of, hd_split _ _ _ o2 (by omega), Option.bind_some, gT3_of]
    simp only [List.getD_cons_zero, List.getD_cons_succ]
    rw [gI_of, gI_of, gB_of, letK_eq, wrap64 (by omega) (by omega), letK_eq, letK_eq, if_neg (by simp <;> omega)]
  rw [e30, letK_eq, letK_eq, and1, hmod, letK_eq, letK_eq, if_neg (by simp <;> omega), letK_eq, td2, wrap64 (by omega) (by omega), atP_of, add_mk, H.r3, gI_of, atP_of, add_mk, H.r2, gI_of, letK_eq]
  rcases o5 with ⟨c1, c2⟩ | ⟨c1, c2, c3⟩
  · rw [if_neg (by simp <;> omega)]
    exact join _ (by omega)
  · rw [if_pos (by simp <;> omega), atP_of, add_mk, H.r6, gI_of, atP_of, add_mk, H.r5, gI_of, letK_eq, if_neg (by simp <;> omega)]
    exact join _ (by omega)

theorem object_odd (H : MP h b q S) {v : Int} (hv : v % 2 = 1) : E 30 [.ptr (some ⟨b, 0, 0⟩), .int .i64 v] h = some (.int .i64 (-1), h) := by
  rw [e30, letK_eq, letK_eq, and1, hv, letK_eq, letK_eq, if_pos (by simp)]

theorem tag_of (H : MP h b q S) (B : MB S) {p t n : Nat} (O : Obj S p t n) : E 15 [.ptr (some ⟨b, 0, 0⟩), .int .i64 (2 * (p : Int))] h = some (.tup [.int .i64 ((t : Nat) : Int), .int .i64 ((n : Nat) : Int), .int .i64 0], h) := by
  have hob := object_ok H B O
  obtain ⟨a1, a2, a3, a4, a5, a6, a7, a8⟩ := B
  obtain ⟨o1, o2, o3, o4, o5⟩ := O
  have hM : p < S.M := by omega
  have hm := H.w p hM
  rw [o4] at hm
  rw [e15, hob, Option.bind_some, gI_of, letK_eq, if_neg (by simp <;> omega), atP_of, add_mk, H.r0, gL_of, letK_eq, td2, wrap64 (by omega) (by omega), chk_of (by intro _; omega), adP_pos, atP_of, add_mk, Int.toNat_natCast, hm, gI_of, hd_split _ _ _ o2 (by omega), Option.bind_some, gT3_of]
  simp only [List.getD_cons_zero, List.getD_cons_succ]
  rw [gI_of, gI_of, gB_of]

theorem used_of (H : MP h b q S) (B : MB S) : E 16 [.ptr (some ⟨b, 0, 0⟩)] h = some (.tup [.int .i64 ((S.yo - 1 : Nat) : Int), .int .i64 ((S.ol - S.fr : Nat) : Int)], h) := by
  obtain ⟨a1, a2, a3, a4, a5, a6, a7, a8⟩ := B
  rw [e16, atP_of, add_mk, H.r3, gI_of, letK_eq, wrap64 (by omega) (by omega), atP_of, add_mk, H.r6, gI_of, atP_of, add_mk, H.r5, gI_of, letK_eq, wrap64 (by omega) (by omega)]
  have e1 : (S.yo : Int) - 1 = ((S.yo - 1 : Nat) : Int) := by omega
  have e2 : (S.ol : Int) - S.fr = ((S.ol - S.fr : Nat) : Int) := by omega
  rw [e1, e2]

theorem room_of (H : MP h b q S) (B : MB S) {n : Nat} (hn : n + 2 ≤ S.nu) : E 13 [.ptr (some ⟨b, 0, 0⟩), .int .i64 ((n : Nat) : Int)] h = some (.bool (decide (S.yo + n + 1 ≤ S.nu)), h) := by
  obtain ⟨a1, a2, a3, a4, a5, a6, a7, a8⟩ := B
  rw [e13, letK_eq, wrap64 (by omega) (by omega), atP_of, add_mk, H.r2, gI_of, letK_eq, wrap64 (by omega) (by omega), letK_eq, if_neg (by simp <;> omega), atP_of, add_mk, H.r3, gI_of, letK_eq, letK_eq, wrap64 (x := (S.yo : Int) + n) (by omega) (by omega), wrap64 (x := (S.yo : Int) + n + 1) (by omega) (by omega), atP_of, add_mk, H.r2, gI_of, letK_eq]
  congr 3
  by_cases e : S.yo + n + 1 ≤ S.nu <;> simp [e] <;> omega

end
end Go.Proofs.Ytecgpcpgklholaa.K

/- heap: a collection's step, (*move).value. -/
set_option linter.unusedVariables false
set_option linter.unusedSimpArgs false
namespace Go.Proofs.Ytecgpcpgklholaa.K
open Go Go.Proofs.Ytecgpcpgklholaa.Abs Go.Proofs

def prs (l : List (Nat × Nat)) : List (AV × AV) := l.map fun x => (.int .i64 ((x.1 : Nat) : Int), .int .i64 ((x.2 : Nat) : Int))

theorem mf_not (k : Nat) : ∀ (l : List (Nat × Nat)), (∀ x ∈ l, x.1 ≠ k) → mapFind (.int .i64 ((k : Nat) : Int)) (prs l) = some none := by
  intro l
  induction l with
  | nil => intro _; rfl
  | cons a l ih =>
    intro h
    have h1 := h a (by simp)
    show (if IntKind.i64 = IntKind.i64 then (if (k : Int) = (a.1 : Int) then _ else mapFind _ (prs l)) else none) = _
    rw [if_pos rfl, if_neg (by omega)]
    exact ih fun x hx => h x (by simp [hx])

theorem mf_last (k t : Nat) : ∀ (l : List (Nat × Nat)), (∀ x ∈ l, x.1 ≠ k) → mapFind (.int .i64 ((k : Nat) : Int)) (prs (l ++ [(k, t)])) = some (some (.int .i64 ((t : Nat) : Int))) := by
  intro l
  induction l with
  | nil =>
    intro _
    show (if IntKind.i64 = IntKind.i64 then (if (k : Int) = (k : Int) then _ else _) else none) = _
    rw [if_pos rfl, if_pos rfl]
  | cons a l ih =>
    intro h
    have h1 := h a (by simp)
    show (if IntKind.i64 = IntKind.i64 then (if (k : Int) = (a.1 : Int) then _ else mapFind _ (prs (l ++ [(k, t)]))) else none) = _
    rw [if_pos rfl, if_neg (by omega)]
    exact ih fun x hx => h x (by simp [hx])

theorem mp_new (k t : Nat) : ∀ (l : List (Nat × Nat)), (∀ x ∈ l, x.1 ≠ k) → mapPut (.int .i64 ((k : Nat) : Int)) (.int .i64 ((t : Nat) : Int)) (prs l) = some (prs (l ++ [(k, t)])) := by
  intro l
  induction l with
  | nil => intro _; rfl
  | cons a l ih =>
    intro h
    have h1 := h a (by simp)
    show (if IntKind.i64 = IntKind.i64 then (if (k : Int) = (a.1 : Int) then _ else (match mapPut _ _ (prs l) with | some r => some ((AV.int .i64 ((a.1 : Nat) : Int), AV.int .i64 ((a.2 : Nat) : Int)) :: r) | none => none)) else none) = _
    rw [if_pos rfl, if_neg (by omega), ih fun x hx => h x (by simp [hx])]
    rfl

/-- A collection under way. -/
structure MV (h : Heap) (bm mm b q fre lim : Nat) (yg : Bool) (l : List (Nat × Nat)) : Prop where
  c : h[bm]? = some (.cells [.ptr (some ⟨b, 0, 0⟩), .int .i64 ((fre : Nat) : Int), .int .i64 ((lim : Nat) : Int), .map (some mm), .bool yg, .bool false] .fix 0)
  m : h[mm]? = some (.map (prs l))
  d1 : bm ≠ mm
  d2 : bm ≠ b
  d3 : bm ≠ q
  d4 : mm ≠ b
  d5 : mm ≠ q

section
variable {h : Heap} {bm mm b q fre lim : Nat} {yg : Bool} {l : List (Nat × Nat)} {S : MS}

theorem MV.r0 (V : MV h bm mm b q fre lim yg l) : ld1 h ⟨bm, 0, 0 + 0⟩ = some (.ptr (some ⟨b, 0, 0⟩)) := ld1_at V.c rfl rfl
theorem MV.r1 (V : MV h bm mm b q fre lim yg l) : ld1 h ⟨bm, 0, 0 + 1⟩ = some (.int .i64 fre) := ld1_at V.c rfl rfl
theorem MV.r2 (V : MV h bm mm b q fre lim yg l) : ld1 h ⟨bm, 0, 0 + 2⟩ = some (.int .i64 lim) := ld1_at V.c rfl rfl
theorem MV.r3 (V : MV h bm mm b q fre lim yg l) : ld1 h ⟨bm, 0, 0 + 3⟩ = some (.map (some mm)) := ld1_at V.c rfl rfl
theorem MV.r4 (V : MV h bm mm b q fre lim yg l) : ld1 h ⟨bm, 0, 0 + 4⟩ = some (.bool yg) := ld1_at V.c rfl rfl
theorem MV.r5 (V : MV h bm mm b q fre lim yg l) : ld1 h ⟨bm, 0, 0 + 5⟩ = some (.bool false) := ld1_at V.c rfl rfl

theorem val_stay (V : MV h bm mm b q fre lim yg l) (H : MP h b q S) (B : MB S) {v : Int} (v1 : -4294967296 ≤ v) (v2 : v ≤ 4294967296) (hv : v % 2 = 1 ∨ (yg = true ∧ yng S.nu v = false)) :
    E 34 [.ptr (some ⟨bm, 0, 0⟩), .int .i64 v] h = some (.int .i64 v, h) := by
  rw [e34, atP_of, add_mk, V.r5, gB_of]
  simp only [Bool.not_false]
  rw [atP_of, atP_of, add_mk, atP_of, V.r4, gB_of]
  rw [atP_of, atP_of, add_mk, atP_of, V.r0, gP_of, yng_ok H B v1 v2, callO_bool, Option.bind_some, gB_of, letK_eq, letK_eq]
  by_cases hy : yg = true ∧ yng S.nu v = false
  · obtain ⟨h1, h2⟩ := hy
    rw [h1, h2, if_pos (by decide)]
  · replace hv : v % 2 = 1 := by
      rcases hv with hv | hv
      · exact hv
      · exact absurd hv hy
    have hyg : yg = false := by
      cases yg with
      | false => rfl
      | true => exact absurd ⟨rfl, yng_odd S.nu hv⟩ hy
    rw [hyg, if_neg (by simp), atP_of, add_mk, V.r0, gP_of, object_odd H hv, Option.bind_some, gI_of, letK_eq, if_pos (by simp)]

theorem keyd (p : Nat) (hp : p ≤ 65536) : IntKind.wrap .i64 (Int.tdiv (2 * (p : Int)) 2) = (p : Int) := by
  rw [td2, wrap64 (by omega) (by omega)]

theorem val_seen (V : MV h bm mm b q fre lim yg l) (H : MP h b q S) (B : MB S) {p t n to : Nat} (O : Obj S p t n) (hy : yg = true → p < S.nu) (hl : mapFind (.int .i64 ((p : Nat) : Int)) (prs l) = some (some (.int .i64 ((to : Nat) : Int)))) (hto : to ≤ 65536) :
    E 34 [.ptr (some ⟨bm, 0, 0⟩), .int .i64 (2 * (p : Int))] h = some (.int .i64 (2 * (to : Int)), h) := by
  have hM : p ≤ 65536 := by
    obtain ⟨a1, a2, a3, a4, a5, a6, a7, a8⟩ := B
    obtain ⟨o1, o2, o3, o4, o5⟩ := O
    omega
  have hb : (if false = true then true else if yg = true then !(andB true yg && yng S.nu (2 * (p : Int))) else false) = false := by
    rw [yng_ptr _ _ O.1]
    cases yg with
    | false => rfl
    | true => rw [decide_eq_true (hy rfl)]; rfl
  rw [e34, atP_of, add_mk, V.r5, gB_of]
  simp only [Bool.not_false]
  rw [atP_of, atP_of, add_mk, atP_of, V.r4, gB_of]
  rw [atP_of, atP_of, add_mk, atP_of, V.r0, gP_of, yng_ok H B (by omega) (by omega), callO_bool, Option.bind_some, gB_of, letK_eq, letK_eq, hb, if_neg (by simp), atP_of, add_mk, V.r0, gP_of, object_ok H B O, Option.bind_some, gI_of, letK_eq, if_neg (by simp <;> omega), atP_of, add_mk, V.r3, gM_of, letK_eq, keyd p hM]
  have hlk : lookM h (some mm) (.int .i64 ((p : Nat) : Int)) = some (some (.int .i64 ((to : Nat) : Int))) := by
    show (match h[mm]? with | some (.map es) => mapFind _ es | _ => none) = _
    rw [V.m]
    exact hl
  rw [hlk, gb_some]
  dsimp only [Option.getD_some]
  rw [gI_of, if_pos (by rfl), letK_eq, wrap64 (by omega) (by omega)]

/-- The memory behind the copying of an object. -/
def cpF (f : Nat → Int) (p to n : Nat) : Nat → Int := fun j => if to ≤ j ∧ j < to + n + 1 then f (p + (j - to)) else f j

theorem cel_get (M : Nat) (f : Nat → Int) (i : Nat) : (cel M f)[i]? = if i < M then some (.int .i64 (f i)) else none := by
  unfold cel
  by_cases h : i < M
  · rw [if_pos h, range_get h]
  · rw [if_neg h]; simp; omega

theorem cel_len (M : Nat) (f : Nat → Int) : (cel M f).length = M := by unfold cel; simp

theorem cel_flat (M : Nat) (f : Nat → Int) (p k : Nat) : flatL (((cel M f).drop p).take k) = true := by
  have : ∀ l : List AV, (∀ x ∈ l, flatA x = true) → flatL l = true := by
    intro l
    induction l with
    | nil => intro _; rfl
    | cons a l ih =>
      intro h
      show (flatA a && flatL l) = true
      rw [h a (by simp), ih fun x hx => h x (by simp [hx])]
      rfl
  apply this
  intro x hx
  have := List.mem_of_mem_drop (List.mem_of_mem_take hx)
  unfold cel at this
  obtain ⟨i, _, rfl⟩ := List.mem_map.1 this
  rfl

theorem cel_copy (M : Nat) (f : Nat → Int) (p to n : Nat) (hp : p + n < M) (ht : to + n < M) : splice to (((cel M f).drop p).take (n + 1)) (cel M f) = cel M (cpF f p to n) := by
  have hlen : (((cel M f).drop p).take (n + 1)).length = n + 1 := by rw [List.length_take, List.length_drop, cel_len]; omega
  apply List.ext_getElem?
  intro i
  rw [splice_get _ _ _ (by rw [hlen, cel_len]; omega), hlen, cel_get, cel_get]
  unfold cpF
  by_cases h : to ≤ i ∧ i < to + (n + 1)
  · rw [if_pos h, List.getElem?_take, if_pos (by omega), List.getElem?_drop, cel_get, if_pos (by omega), if_pos (by omega), if_pos (by omega)]
  · rw [if_neg h]
    by_cases hi : i < M
    · rw [if_pos hi, if_pos hi, if_neg (by omega)]
    · rw [if_neg hi, if_neg hi]

theorem val_move (V : MV h bm mm b q fre lim yg l) (H : MP h b q S) (B : MB S) {p t n : Nat} (O : Obj S p t n) (hy : yg = true → p < S.nu) (hl : ∀ x ∈ l, x.1 ≠ p) (hf : fre + n + 1 ≤ lim) (hlM : lim ≤ S.M) :
    ∃ h', E 34 [.ptr (some ⟨bm, 0, 0⟩), .int .i64 (2 * (p : Int))] h = some (.int .i64 (2 * (fre : Int)), h') ∧ MP h' b q { S with f := cpF S.f p fre n } ∧ MV h' bm mm b q (fre + n + 1) lim yg (l ++ [(p, fre)]) ∧ ButL [q, bm, mm] h h' := by
  have hM : p ≤ 65536 ∧ p + n < S.M := by
    obtain ⟨a1, a2, a3, a4, a5, a6, a7, a8⟩ := B
    obtain ⟨o1, o2, o3, o4, o5⟩ := O
    omega
  have hMb := B.m
  have hn := O.2.2.1
  have hb : (if false = true then true else if yg = true then !(andB true yg && yng S.nu (2 * (p : Int))) else false) = false := by
    rw [yng_ptr _ _ O.1]
    cases yg with
    | false => rfl
    | true => rw [decide_eq_true (hy rfl)]; rfl
  rw [e34, atP_of, add_mk, V.r5, gB_of]
  simp only [Bool.not_false]
  rw [atP_of, atP_of, add_mk, atP_of, V.r4, gB_of]
  rw [atP_of, atP_of, add_mk, atP_of, V.r0, gP_of, yng_ok H B (by omega) (by omega), callO_bool, Option.bind_some, gB_of, letK_eq, letK_eq, hb, if_neg (by simp), atP_of, add_mk, V.r0, gP_of, object_ok H B O, Option.bind_some, gI_of, letK_eq, if_neg (by simp <;> omega), atP_of, add_mk, V.r3, gM_of, letK_eq, keyd p hM.1]
  have hlk : lookM h (some mm) (.int .i64 ((p : Nat) : Int)) = some none := by
    show (match h[mm]? with | some (.map es) => mapFind _ es | _ => none) = _
    rw [V.m]
    exact mf_not p l hl
  rw [hlk, gb_some]
  dsimp only [Option.getD_none]
  rw [gI_of, if_neg (by simp), atP_of, add_mk, V.r1, gI_of, letK_eq, wrap64 (x := (fre : Int) + n) (by omega) (by omega), letK_eq, wrap64 (by omega) (by omega), atP_of, add_mk, V.r2, gI_of, letK_eq, if_neg (by simp <;> omega), atP_of, add_mk, V.r1, gI_of, atP_of, add_mk, V.r0, gP_of, atP_of, add_mk, H.r0, gL_of, letK_eq, wrap64 (x := (fre : Int) + n) (by omega) (by omega), letK_eq, wrap64 (by omega) (by omega)]
  have es : esOk h (.pos ⟨q, 0, 0⟩) 1 := by
    intro a ha
    cases ha
    exact ⟨_, H.m, fun c e v he => by cases he; rfl⟩
  rw [chkC_of (by intro _; exact ⟨by omega, by omega, .inl (by omega), es⟩), letK_eq]
  have e1 : Int.toNat ((fre : Int) + n + 1) - Int.toNat (fre : Int) = n + 1 := by omega
  rw [e1, letK_eq, atP_of, add_mk, V.r0, gP_of, atP_of, add_mk, H.r0, gL_of, letK_eq, letK_eq, letK_eq, wrap64 (x := (p : Int) + n) (by omega) (by omega), letK_eq, wrap64 (by omega) (by omega), chkC_of (by intro _; exact ⟨by omega, by omega, .inl (by omega), es⟩), letK_eq]
  have e2 : Int.toNat ((p : Int) + n + 1) - Int.toNat (p : Int) = n + 1 := by omega
  rw [e2, letK_eq, Nat.min_self, Nat.mul_one (n + 1)]
  have ld : ldSl h (adS (.pos ⟨q, 0, 0⟩) (Int.toNat (p : Int) * 1) (n + 1)) (n + 1) = some (((cel S.M S.f).drop p).take (n + 1)) := by
    show ldN h (Ad.add ⟨q, 0, 0⟩ (Int.toNat (p : Int) * 1)) (n + 1) = _
    rw [add_mk, Int.toNat_natCast, show 0 + p * 1 = p by omega]
    unfold ldN
    rw [H.m]
    dsimp only
    rw [if_pos ⟨rfl, by rw [cel_len]; omega, cel_flat _ _ _ _⟩]
  rw [ld, Option.bind_some]
  have hlen : (((cel S.M S.f).drop p).take (n + 1)).length = n + 1 := by rw [List.length_take, List.length_drop, cel_len]; omega
  have st : cpyM h (adS (.pos ⟨q, 0, 0⟩) (Int.toNat (fre : Int) * 1) (n + 1)) (n + 1) (((cel S.M S.f).drop p).take (n + 1)) = some (h.set q (.cells (cel S.M (cpF S.f p fre n)) (.grow 1) 0)) := by
    show stN h (Ad.add ⟨q, 0, 0⟩ (Int.toNat (fre : Int) * 1)) _ = _
    rw [add_mk, Int.toNat_natCast, show 0 + fre * 1 = fre by omega]
    unfold stN
    rw [H.m]
    dsimp only
    rw [if_pos ⟨rfl, by simp, by rw [cel_len, hlen]; omega⟩, cel_copy _ _ _ _ _ hM.2 (by omega)]
  rw [st, Option.bind_some]
  obtain ⟨d1, d2, d3, d4, d5⟩ := (⟨V.d1, V.d2, V.d3, V.d4, V.d5⟩ : bm ≠ mm ∧ bm ≠ b ∧ bm ≠ q ∧ mm ≠ b ∧ mm ≠ q)
  have hqb := H.ne
  have o2 : ButL [q, bm, mm] h (h.set q (.cells (cel S.M (cpF S.f p fre n)) (.grow 1) 0)) := ButL.set _ _ _ _ (by simp)
  have H2 : MP (h.set q (.cells (cel S.M (cpF S.f p fre n)) (.grow 1) 0)) b q { S with f := cpF S.f p fre n } := ⟨by rw [set_other hqb]; exact H.c, set_same H.m, hqb⟩
  have V2 : MV (h.set q (.cells (cel S.M (cpF S.f p fre n)) (.grow 1) 0)) bm mm b q fre lim yg l := ⟨by rw [set_other (fun e => d3 e.symm)]; exact V.c, by rw [set_other (fun e => d5 e.symm)]; exact V.m, d1, d2, d3, d4, d5⟩
  generalize h.set q (.cells (cel S.M (cpF S.f p fre n)) (.grow 1) 0) = h2 at o2 H2 V2
  rw [atP_of, add_mk, V2.r1, gI_of, letK_eq, wrap64 (x := (n : Int) + 1) (by omega) (by omega), letK_eq, wrap64 (x := (fre : Int) + ((n : Int) + 1)) (by omega) (by omega), atP_of, add_mk, st1_at V2.c (by simp) (by simp), Option.bind_some]
  have c3 : (h2.set bm (.cells ([AV.ptr (some ⟨b, 0, 0⟩), .int .i64 ((fre : Nat) : Int), .int .i64 ((lim : Nat) : Int), .map (some mm), .bool yg, .bool false].set (0 + 1) (.int .i64 ((fre : Int) + ((n : Int) + 1)))) .fix 0)) = h2.set bm (.cells [.ptr (some ⟨b, 0, 0⟩), .int .i64 ((fre + n + 1 : Nat) : Int), .int .i64 ((lim : Nat) : Int), .map (some mm), .bool yg, .bool false] .fix 0) := by
    rw [show (fre : Int) + ((n : Int) + 1) = ((fre + n + 1 : Nat) : Int) by omega]
    rfl
  rw [c3]
  have o3 : ButL [q, bm, mm] h2 (h2.set bm (.cells [.ptr (some ⟨b, 0, 0⟩), .int .i64 ((fre + n + 1 : Nat) : Int), .int .i64 ((lim : Nat) : Int), .map (some mm), .bool yg, .bool false] .fix 0)) := ButL.set _ _ _ _ (by simp)
  have H3 : MP (h2.set bm (.cells [.ptr (some ⟨b, 0, 0⟩), .int .i64 ((fre + n + 1 : Nat) : Int), .int .i64 ((lim : Nat) : Int), .map (some mm), .bool yg, .bool false] .fix 0)) b q { S with f := cpF S.f p fre n } := ⟨by rw [set_other d2]; exact H2.c, by rw [set_other d3]; exact H2.m, hqb⟩
  have V3 : MV (h2.set bm (.cells [.ptr (some ⟨b, 0, 0⟩), .int .i64 ((fre + n + 1 : Nat) : Int), .int .i64 ((lim : Nat) : Int), .map (some mm), .bool yg, .bool false] .fix 0)) bm mm b q (fre + n + 1) lim yg l := ⟨set_same V2.c, by rw [set_other d1]; exact V2.m, d1, d2, d3, d4, d5⟩
  generalize h2.set bm (.cells [.ptr (some ⟨b, 0, 0⟩), .int .i64 ((fre + n + 1 : Nat) : Int), .int .i64 ((lim : Nat) : Int), .map (some mm), .bool yg, .bool false] .fix 0) = h3 at o3 H3 V3
  have pt : putM h3 mm (.int .i64 ((p : Nat) : Int)) (.int .i64 ((fre : Nat) : Int)) = some (h3.set mm (.map (prs (l ++ [(p, fre)])))) := by
    unfold putM
    rw [V3.m]
    dsimp only
    rw [mp_new p fre l hl]
  rw [atP_of, add_mk, V3.r3, gM_of, letK_eq]
  show ∃ h', (Option.bind (putM h3 mm (.int .i64 ((p : Nat) : Int)) (.int .i64 ((fre : Nat) : Int))) _) = _ ∧ _
  rw [pt, Option.bind_some, letK_eq, wrap64 (by omega) (by omega)]
  refine ⟨_, rfl, ⟨?_, ?_, hqb⟩, ⟨?_, set_same V3.m, d1, d2, d3, d4, d5⟩, (o2.trans o3).trans (ButL.set _ _ _ _ (by simp))⟩
  · rw [set_other d4]; exact H3.c
  · rw [set_other d5]; exact H3.m
  · rw [set_other (fun e => d1 e.symm)]; exact V3.c
end
end Go.Proofs.Ytecgpcpgklholaa.K

/- heap: (*move).scan over a chain of objects. -/
set_option linter.unusedVariables false
set_option linter.unusedSimpArgs false
namespace Go.Proofs.Ytecgpcpgklholaa.K
open Go Go.Proofs.Ytecgpcpgklholaa.Abs Go.Proofs

/-- What leads to a chain: its first object, or what stands at its end. -/
def hw (t : Int) : List Nat → Int
  | [] => t
  | p :: _ => 2 * (p : Int)

/-- A chain of objects with a tag and a size, all of whose fields are the next one. -/
def Lt (f : Nat → Int) (τ z : Nat) (t : Int) : List Nat → Prop
  | [] => True
  | p :: ps => f p = hd τ z ∧ (∀ k, 1 ≤ k → k ≤ z → f (p + k) = hw t ps) ∧ Lt f τ z t ps

/-- Objects one behind the other. -/
def img (i z : Nat) : Nat → List Nat
  | 0 => []
  | n + 1 => i :: img (i + z + 1) z n

theorem lt_congr {f g : Nat → Int} {τ z : Nat} {t : Int} : ∀ {ps : List Nat}, Lt f τ z t ps → (∀ p ∈ ps, ∀ k, k ≤ z → g (p + k) = f (p + k)) → Lt g τ z t ps := by
  intro ps
  induction ps with
  | nil => intro _ _; exact trivial
  | cons p ps ih =>
    intro H hg
    obtain ⟨a, c, d⟩ := H
    have h0 := hg p (by simp) 0 (by omega)
    refine ⟨by rw [Nat.add_zero] at h0; rw [h0]; exact a, fun k k1 k2 => ?_, ih d fun x hx => hg x (by simp [hx])⟩
    rw [hg p (by simp) k k2]
    exact c k k1 k2

theorem lt_app {f : Nat → Int} {τ z : Nat} {t : Int} {os : List Nat} : ∀ {ps : List Nat}, Lt f τ z t (ps ++ os) ↔ Lt f τ z (hw t os) ps ∧ Lt f τ z t os := by
  intro ps
  induction ps with
  | nil => exact ⟨fun h => ⟨trivial, h⟩, fun h => h.2⟩
  | cons p ps ih =>
    have e : hw t (ps ++ os) = hw (hw t os) ps := by cases ps <;> rfl
    constructor
    · intro ⟨a, c, d⟩
      have c' : ∀ k, 1 ≤ k → k ≤ z → f (p + k) = hw t (ps ++ os) := c
      rw [e] at c'
      exact ⟨⟨a, c', (ih.1 d).1⟩, (ih.1 d).2⟩
    · intro ⟨⟨a, c, d⟩, o⟩
      have c' : ∀ k, 1 ≤ k → k ≤ z → f (p + k) = hw t (ps ++ os) := by rw [e]; exact c
      exact ⟨a, c', ih.2 ⟨d, o⟩⟩

section
variable {h h2 : Heap} {bm mm b q fre fre2 lim : Nat} {yg : Bool} {l l2 : List (Nat × Nat)} {S S2 : MS}

theorem MV.n0 (V : MV h bm mm b q fre lim yg l) : ldN h ⟨bm, 0, 0 + 0⟩ 1 = some [.ptr (some ⟨b, 0, 0⟩)] := by
  unfold ldN
  rw [V.c]
  rfl
theorem MP.n0 (H : MP h b q S) : ldN h ⟨b, 0, 0 + 0⟩ 1 = some [.sl (.pos ⟨q, 0, 0⟩) S.M] := by
  unfold ldN
  rw [H.c]
  rfl

theorem inner_step (V : MV h bm mm b q fre lim yg l) (H : MP h b q S) {i z k : Nat} {v' : Int} (hv : E 34 [.ptr (some ⟨bm, 0, 0⟩), .int .i64 (S.f k)] h = some (.int .i64 v', h2)) (V2 : MV h2 bm mm b q fre2 lim yg l2) (H2 : MP h2 b q S2) (hM : S2.M = S.M) (hk : k < S.M) (hki : k ≤ i + z) (hb : i + z ≤ 200000) (Q : Kont (AV × Heap)) :
    ∃ h3, L35x11 mk0 E (some ⟨bm, 0, 0⟩) ((i : Nat) : Int) ((z : Nat) : Int) ((k : Nat) : Int) h Q = L35x11 mk0 E (some ⟨bm, 0, 0⟩) ((i : Nat) : Int) ((z : Nat) : Int) ((k + 1 : Nat) : Int) h3 Q ∧ MP h3 b q { S2 with f := upd S2.f k v' } ∧ MV h3 bm mm b q fre2 lim yg l2 ∧ ButL [q] h2 h3 := by
  obtain ⟨w1, w2⟩ := H2.wr k v' (by omega)
  have V3 : MV (h2.set q (.cells (cel S2.M (upd S2.f k v')) (.grow 1) 0)) bm mm b q fre2 lim yg l2 := by
    obtain ⟨c, m, d1, d2, d3, d4, d5⟩ := V2
    exact ⟨by rw [set_other (fun e => d3 e.symm)]; exact c, by rw [set_other (fun e => d5 e.symm)]; exact m, d1, d2, d3, d4, d5⟩
  refine ⟨_, ?_, w2, V3, ButL.set _ _ _ _ (by simp)⟩
  rw [L35x11xeq, letK_eq, wrap64 (by omega) (by omega), letK_eq, if_pos (by simp <;> omega), atP_of, add_mk, V.r0, gP_of, atP_of, add_mk, H.r0, gL_of, atP_of, add_mk, V.r0, gP_of, atP_of, add_mk, H.r0, gL_of, chk_of (by intro _; omega), adP_pos, atP_of, add_mk, Int.toNat_natCast, H.w k hk, gI_of, hv, Option.bind_some, gI_of, chkC_of (by intro _; exact V2.n0.trans V.n0.symm), chkC_of (by intro _; exact H2.n0.trans (by rw [hM]; exact H.n0.symm)), chk_of (by intro _; omega), atP_of, add_mk]
  dsimp only
  rw [w1, Option.bind_some, letK_eq, wrap64 (by omega) (by omega), show ((k : Int) + 1) = ((k + 1 : Nat) : Int) by omega]

theorem inner_end {i z : Nat} (hb : i + z ≤ 200000) (h : Heap) (Q : Kont (AV × Heap)) : L35x11 mk0 E (some ⟨bm, 0, 0⟩) ((i : Nat) : Int) ((z : Nat) : Int) ((i + z + 1 : Nat) : Int) h Q = Q (.exit 2) (S35xe2 (some ⟨bm, 0, 0⟩) ((i : Nat) : Int) ((z : Nat) : Int) h) := by
  rw [L35x11xeq, letK_eq, wrap64 (by omega) (by omega), letK_eq, if_neg (by simp <;> omega)]

theorem upd_same (f : Nat → Int) (k : Nat) (v : Int) (h : f k = v) : upd f k v = f := by
  funext j
  unfold upd
  by_cases e : j = k
  · rw [if_pos e, e, h]
  · rw [if_neg e]

theorem inner_stay (B : MB S) {i z : Nat} {v : Int} (v1 : -4294967296 ≤ v) (v2 : v ≤ 4294967296) (hv : v % 2 = 1 ∨ (yg = true ∧ yng S.nu v = false)) (hM : i + z < S.M) (hf : ∀ k, 1 ≤ k → k ≤ z → S.f (i + k) = v) (Q : Kont (AV × Heap)) :
    ∀ (j k : Nat), k + j = z + 1 → 1 ≤ k → ∀ (h : Heap), MP h b q S → MV h bm mm b q fre lim yg l →
    ∃ h', L35x11 mk0 E (some ⟨bm, 0, 0⟩) ((i : Nat) : Int) ((z : Nat) : Int) ((i + k : Nat) : Int) h Q = Q (.exit 2) (S35xe2 (some ⟨bm, 0, 0⟩) ((i : Nat) : Int) ((z : Nat) : Int) h') ∧ MP h' b q S ∧ MV h' bm mm b q fre lim yg l ∧ ButL [q, bm, mm] h h' := by
  have hb := B.m
  intro j
  induction j with
  | zero =>
    intro k hk h1 h H V
    obtain rfl : k = z + 1 := by omega
    exact ⟨h, inner_end (by omega) h Q, H, V, ButL.refl _ _⟩
  | succ j ih =>
    intro k hk h1 h H V
    have fv := hf k h1 (by omega)
    obtain ⟨h3, e1, e2, e3, e4⟩ := inner_step (i := i) (z := z) (k := i + k) V H (by rw [fv]; exact val_stay V H B v1 v2 hv) V H rfl (by omega) (by omega) (by omega) Q
    rw [upd_same _ _ _ fv] at e2
    obtain ⟨h', r1, r2, r3, r4⟩ := ih (k + 1) (by omega) (by omega) h3 e2 e3
    exact ⟨h', by rw [e1]; exact r1, r2, r3, (e4.mono (by simp)).trans r4⟩

/-- The fields of an object from k on, set. -/
def fld (g : Nat → Int) (i k z : Nat) (v : Int) : Nat → Int := fun j => if i + k ≤ j ∧ j ≤ i + z then v else g j

theorem inner_seen (B : MB S) {i z p t to : Nat} (hM : i + z < S.M) (O1 : 1 ≤ p ∧ t ≤ 258 ∧ z ≤ 4000) (O2 : (p < S.nu ∧ p + z < S.yo) ∨ (S.nu ≤ p ∧ S.fr ≤ p ∧ p + z < S.ol)) (hy : yg = true → p < S.nu) (hl : mapFind (.int .i64 ((p : Nat) : Int)) (prs l) = some (some (.int .i64 ((to : Nat) : Int)))) (hto : to ≤ 65536) (hp : p < i ∨ i + z < p) (Q : Kont (AV × Heap)) :
    ∀ (j k : Nat), k + j = z + 1 → 1 ≤ k → ∀ (h : Heap) (g : Nat → Int), g p = hd t z → (∀ k', k ≤ k' → k' ≤ z → g (i + k') = 2 * (p : Int)) → MP h b q { S with f := g } → MV h bm mm b q fre lim yg l →
    ∃ h', L35x11 mk0 E (some ⟨bm, 0, 0⟩) ((i : Nat) : Int) ((z : Nat) : Int) ((i + k : Nat) : Int) h Q = Q (.exit 2) (S35xe2 (some ⟨bm, 0, 0⟩) ((i : Nat) : Int) ((z : Nat) : Int) h') ∧ MP h' b q { S with f := fld g i k z (2 * (to : Int)) } ∧ MV h' bm mm b q fre lim yg l ∧ ButL [q, bm, mm] h h' := by
  have hb := B.m
  intro j
  induction j with
  | zero =>
    intro k hk h1 h g gp gf H V
    obtain rfl : k = z + 1 := by omega
    refine ⟨h, inner_end (by omega) h Q, ?_, V, ButL.refl _ _⟩
    have : fld g i (z + 1) z (2 * (to : Int)) = g := by
      funext j
      unfold fld
      rw [if_neg (by omega)]
    rw [this]
    exact H
  | succ j ih =>
    intro k hk h1 h g gp gf H V
    have fv := gf k (by omega) (by omega)
    have Bg : MB { S with f := g } := ⟨B.m, B.nu, B.st, B.fr, B.y0, B.y1, B.o0, B.o1⟩
    have O : Obj { S with f := g } p t z := ⟨O1.1, O1.2.1, O1.2.2, gp, O2⟩
    obtain ⟨h3, e1, e2, e3, e4⟩ := inner_step (i := i) (z := z) (k := i + k) V H (by show E 34 [_, .int .i64 (g (i + k))] h = _; rw [fv]; exact val_seen V H Bg O hy hl hto) V H rfl (by show i + k < S.M; omega) (by omega) (by omega) Q
    obtain ⟨h', r1, r2, r3, r4⟩ := ih (k + 1) (by omega) (by omega) h3 (upd g (i + k) (2 * (to : Int))) (by unfold upd; rw [if_neg (by omega)]; exact gp) (fun k' k1 k2 => by unfold upd; rw [if_neg (by omega)]; exact gf k' (by omega) k2) e2 e3
    have e5 : fld (upd g (i + k) (2 * (to : Int))) i (k + 1) z (2 * (to : Int)) = fld g i k z (2 * (to : Int)) := by
      funext j
      unfold fld upd
      by_cases a : i + (k + 1) ≤ j ∧ j ≤ i + z
      · rw [if_pos a, if_pos (by omega)]
      · rw [if_neg a]
        by_cases c : j = i + k
        · rw [if_pos c, if_pos (by omega)]
        · rw [if_neg c, if_neg (by omega)]
    rw [e5] at r2
    exact ⟨h', by rw [e1]; exact r1, r2, r3, (e4.mono (by simp)).trans r4⟩

/-- Where the objects that are to be moved lie. -/
def Rg (S : MS) (z : Nat) (yg : Bool) (x : Nat) : Prop := 1 ≤ x ∧ (yg = true → x < S.nu) ∧ ((x < S.nu ∧ x + z < S.yo) ∨ (S.nu ≤ x ∧ S.fr ≤ x ∧ x + z < S.ol))

theorem scan_head (V : MV h bm mm b q fre lim yg l) (H : MP h b q S) {i τ z : Nat} (hi : i < fre) (hM : i < S.M) (hb : S.M ≤ 65536) (ht : τ ≤ 258) (hz : z ≤ 4000) (hh : S.f i = hd τ z) (Q : Kont (AV × Heap)) :
    L35x1 mk0 E (some ⟨bm, 0, 0⟩) ((i : Nat) : Int) h Q = L35x11 mk0 E (some ⟨bm, 0, 0⟩) ((i : Nat) : Int) ((z : Nat) : Int) ((i + 1 : Nat) : Int) h (Q35x11 mk0 E Q) := by
  have w := H.w i hM
  rw [hh] at w
  rw [L35x1xeq, atP_of, add_mk, V.r1, gI_of, letK_eq, decide_eq_true (show (i : Int) < (fre : Int) by omega), atP_of, atP_of, add_mk, atP_of, V.r5, gB_of, letK_eq, if_pos (by rfl), atP_of, add_mk, V.r0, gP_of, atP_of, add_mk, H.r0, gL_of, chk_of (by intro _; omega), adP_pos, atP_of, add_mk, Int.toNat_natCast, w, gI_of, hd_split _ _ _ ht (by omega), Option.bind_some, gT3_of]
  simp only [List.getD_cons_zero, List.getD_cons_succ]
  rw [gI_of, gI_of, gB_of, letK_eq, wrap64 (by omega) (by omega), show ((i : Int) + 1) = ((i + 1 : Nat) : Int) by omega]

theorem scan_end (V : MV h bm mm b q fre lim yg l) : L35x1 mk0 E (some ⟨bm, 0, 0⟩) ((fre : Nat) : Int) h (Q35x1 mk0 E) = some (.tup [], h) := by
  have ga : ∀ (K : Ad → Option (AV × Heap)) (a : Ad) (c : Bool), atP (some a) c K = K a := fun _ _ c => by cases c <;> rfl
  rw [L35x1xeq, atP_of, add_mk, V.r1, gI_of, letK_eq, decide_eq_false (show ¬ (fre : Int) < (fre : Int) by omega), ga, ga, add_mk, ga, V.r5, gB_any, letK_eq, if_neg (by simp), X35x1xe0]

theorem scan_go {S : MS} (B : MB S) {τ z lim B0 : Nat} {t : Int} (hτ : τ ≤ 258) (hz : 1 ≤ z) (hz2 : z ≤ 4000) (hlM : lim ≤ S.M) (t1 : -4294967296 ≤ t) (t2 : t ≤ 4294967296) (hst : t % 2 = 1 ∨ (yg = true ∧ yng S.nu t = false)) :
    ∀ (todo : List Nat) (i : Nat) (g : Nat → Int) (l : List (Nat × Nat)) (h : Heap), MP h b q { S with f := g } → MV h bm mm b q (i + z + 1) lim yg l → Lt S.f τ z t todo → (∀ x ∈ todo, Rg S z yg x ∧ (x + z < B0 ∨ lim ≤ x)) → (∀ j, j < B0 ∨ lim ≤ j → g j = S.f j) → B0 ≤ i →
    g i = hd τ z → (∀ k, 1 ≤ k → k ≤ z → g (i + k) = hw t todo) → todo.Nodup → (∀ x ∈ todo, ∀ y ∈ l, y.1 ≠ x) → i + (todo.length + 1) * (z + 1) ≤ lim →
    ∃ h' g' l', L35x1 mk0 E (some ⟨bm, 0, 0⟩) ((i : Nat) : Int) h (Q35x1 mk0 E) = some (.tup [], h') ∧ MP h' b q { S with f := g' } ∧ MV h' bm mm b q (i + (todo.length + 1) * (z + 1)) lim yg l' ∧ ButL [q, bm, mm] h h' ∧ (∀ j, j < i ∨ i + (todo.length + 1) * (z + 1) ≤ j → g' j = g j) ∧ Lt g' τ z t (img i z (todo.length + 1)) := by
  have hb := B.m
  intro todo
  induction todo with
  | nil =>
    intro i g l h H V hL hR hg hB gi gf hN hK hlim
    simp only [List.length_nil, Nat.zero_add, Nat.one_mul] at hlim ⊢
    have Bg : MB { S with f := g } := ⟨B.m, B.nu, B.st, B.fr, B.y0, B.y1, B.o0, B.o1⟩
    rw [scan_head V H (i := i) (τ := τ) (z := z) (by omega) (by show i < S.M; omega) hb hτ hz2 gi]
    obtain ⟨h', r1, r2, r3, r4⟩ := inner_stay (b := b) (q := q) (bm := bm) (mm := mm) (fre := i + z + 1) (lim := lim) (yg := yg) (l := l) Bg (i := i) (z := z) t1 t2 hst (by show i + z < S.M; omega) gf (Q35x11 mk0 E (Q35x1 mk0 E)) z 1 (by omega) (by omega) h H V
    rw [r1, X35x11xe2, letK_eq, wrap64 (x := (z : Int) + 1) (by omega) (by omega), letK_eq, wrap64 (by omega) (by omega), show ((i : Int) + ((z : Int) + 1)) = ((i + z + 1 : Nat) : Int) by omega, scan_end r3]
    exact ⟨h', g, l, rfl, r2, r3, r4, fun _ _ => rfl, gi, gf, trivial⟩
  | cons p todo ih =>
    intro i g l h H V hL hR hg hB gi gf hN hK hlim
    have hlen : (p :: todo).length = todo.length + 1 := rfl
    rw [hlen] at hlim ⊢
    have hmul : (todo.length + 1 + 1) * (z + 1) = (todo.length + 1) * (z + 1) + (z + 1) := Nat.succ_mul _ _
    rw [hmul] at hlim ⊢
    have hmul2 : (todo.length + 1) * (z + 1) = todo.length * (z + 1) + (z + 1) := Nat.succ_mul _ _
    have Bg : MB { S with f := g } := ⟨B.m, B.nu, B.st, B.fr, B.y0, B.y1, B.o0, B.o1⟩
    obtain ⟨L1, L2, L3⟩ := hL
    obtain ⟨⟨R1, R2, R3⟩, R4⟩ := hR p (by simp)
    have gp : g p = hd τ z := by rw [hg p (by omega)]; exact L1
    have O : Obj { S with f := g } p τ z := ⟨R1, hτ, hz2, gp, R3⟩
    rw [scan_head V H (i := i) (τ := τ) (z := z) (by omega) (by show i < S.M; omega) hb hτ hz2 gi]
    obtain ⟨h1, v1, v2, v3, v4⟩ := val_move V H Bg O R2 (fun x hx => hK p (by simp) x hx) (by omega) hlM
    obtain ⟨h2, e1, e2, e3, e4⟩ := inner_step (i := i) (z := z) (k := i + 1) V H (by show E 34 [_, .int .i64 (g (i + 1))] h = _; rw [gf 1 (by omega) hz]; exact v1) v3 v2 rfl (by show i + 1 < S.M; omega) (by omega) (by omega) (Q35x11 mk0 E (Q35x1 mk0 E))
    have hl2 : mapFind (.int .i64 ((p : Nat) : Int)) (prs (l ++ [(p, i + z + 1)])) = some (some (.int .i64 ((i + z + 1 : Nat) : Int))) := mf_last p (i + z + 1) l fun x hx => hK p (by simp) x hx
    have e2' : MP h2 b q { S with f := upd (cpF g p (i + z + 1) z) (i + 1) (2 * ((i + z + 1 : Nat) : Int)) } := e2
    obtain ⟨h3, r1, r2, r3, r4⟩ := inner_seen (b := b) (q := q) (bm := bm) (mm := mm) (fre := i + z + 1 + z + 1) (lim := lim) (yg := yg) (l := l ++ [(p, i + z + 1)]) B (i := i) (z := z) (p := p) (t := τ) (to := i + z + 1) (by omega) ⟨R1, hτ, hz2⟩ R3 R2 hl2 (by omega) (by omega) (Q35x11 mk0 E (Q35x1 mk0 E)) (z - 1) 2 (by omega) (by omega) h2 (upd (cpF g p (i + z + 1) z) (i + 1) (2 * ((i + z + 1 : Nat) : Int))) (by unfold upd cpF; rw [if_neg (by omega), if_neg (by omega)]; exact gp) (fun k' k1 k2 => by unfold upd cpF; rw [if_neg (by omega), if_neg (by omega)]; exact gf k' (by omega) k2) e2' e3
    have g3 : fld (upd (cpF g p (i + z + 1) z) (i + 1) (2 * ((i + z + 1 : Nat) : Int))) i 2 z (2 * ((i + z + 1 : Nat) : Int)) = fun j => if i + 1 ≤ j ∧ j ≤ i + z then 2 * ((i + z + 1 : Nat) : Int) else if i + z + 1 ≤ j ∧ j < i + z + 1 + z + 1 then g (p + (j - (i + z + 1))) else g j := by
      funext j
      unfold fld upd cpF
      by_cases a : i + 2 ≤ j ∧ j ≤ i + z
      · rw [if_pos a, if_pos (by omega)]
      · rw [if_neg a]
        by_cases c : j = i + 1
        · rw [if_pos c, if_pos (by omega)]
        · rw [if_neg c, if_neg (show ¬ (i + 1 ≤ j ∧ j ≤ i + z) by omega)]
    rw [g3] at r2
    rw [e1, show i + 1 + 1 = i + 2 by omega, r1, X35x11xe2, letK_eq, wrap64 (x := (z : Int) + 1) (by omega) (by omega), letK_eq, wrap64 (by omega) (by omega), show ((i : Int) + ((z : Int) + 1)) = ((i + z + 1 : Nat) : Int) by omega]
    obtain ⟨h4, g4, l4, s1, s2, s3, s4, s5, s6⟩ := ih (i + z + 1) _ (l ++ [(p, i + z + 1)]) h3 r2 r3 L3 (fun x hx => hR x (by simp [hx])) (fun j hj => by
        rw [if_neg (by omega), if_neg (by omega)]
        exact hg j hj) (by omega) (by
        rw [if_neg (by omega), if_pos (by omega), Nat.sub_self, Nat.add_zero]
        exact gp) (fun k k1 k2 => by
        rw [if_neg (by omega), if_pos (by omega), show i + z + 1 + k - (i + z + 1) = k by omega, hg (p + k) (by omega)]
        exact L2 k k1 k2) (List.nodup_cons.1 hN).2 (fun x hx y hy => by
        rcases List.mem_append.1 hy with hy | hy
        · exact hK x (by simp [hx]) y hy
        · rw [List.mem_singleton.1 hy]
          intro e
          exact (List.nodup_cons.1 hN).1 (by rw [show p = x from e]; exact hx)) (by omega)
    have o12 : ButL [q, bm, mm] h h3 := ((v4.trans (e4.mono (by simp))).trans r4)
    rw [show i + z + 1 + (todo.length + 1) * (z + 1) = i + ((todo.length + 1) * (z + 1) + (z + 1)) by omega] at s3 s5
    refine ⟨h4, g4, l4, s1, s2, s3, o12.trans s4, fun j hj => ?_, ?_, ?_, s6⟩
    · rw [s5 j (by omega)]
      rw [if_neg (by omega), if_neg (by omega)]
    · rw [s5 i (by omega)]
      rw [if_neg (by omega), if_neg (by omega)]
      exact gi
    · intro k k1 k2
      rw [s5 (i + k) (by omega)]
      rw [if_pos (by omega)]
      rfl
end
end Go.Proofs.Ytecgpcpgklholaa.K

/- heap: Minor and Major, of a chain with one root. -/
set_option linter.unusedVariables false
set_option linter.unusedSimpArgs false
namespace Go.Proofs.Ytecgpcpgklholaa.K
open Go Go.Proofs.Ytecgpcpgklholaa.Abs Go.Proofs

section
variable {h : Heap} {bm mm b q : Nat} {yg : Bool} {S : MS}

theorem mc_len (S : MS) (q : Nat) : (mc S q).length = 8 := rfl

/-- A root's value, and the scan behind it. -/
theorem root_go (B : MB S) {τ z lim B0 : Nat} {t : Int} (hτ : τ ≤ 258) (hz : 1 ≤ z) (hz2 : z ≤ 4000) (hlM : lim ≤ S.M) (t1 : -4294967296 ≤ t) (t2 : t ≤ 4294967296) (hst : t % 2 = 1 ∨ (yg = true ∧ yng S.nu t = false))
    (ys : List Nat) (hL : Lt S.f τ z t ys) (hR : ∀ x ∈ ys, Rg S z yg x ∧ (x + z < B0 ∨ lim ≤ x)) (hN : ys.Nodup) (hlim : B0 + ys.length * (z + 1) ≤ lim) (H : MP h b q S) (V : MV h bm mm b q B0 lim yg []) :
    ∃ h1 g1 l1 f1, E 34 [.ptr (some ⟨bm, 0, 0⟩), .int .i64 (hw t ys)] h = some (.int .i64 (hw t (img B0 z ys.length)), h1) ∧ MP h1 b q { S with f := g1 } ∧ MV h1 bm mm b q f1 lim yg l1 ∧ ButL [q, bm, mm] h h1 ∧
      ∀ h2, MP h2 b q { S with f := g1 } → MV h2 bm mm b q f1 lim yg l1 → ∃ h' g' l', E 35 [.ptr (some ⟨bm, 0, 0⟩), .int .i64 ((B0 : Nat) : Int)] h2 = some (.tup [], h') ∧ MP h' b q { S with f := g' } ∧ MV h' bm mm b q (B0 + ys.length * (z + 1)) lim yg l' ∧ ButL [q, bm, mm] h2 h' ∧ (∀ j, j < B0 ∨ B0 + ys.length * (z + 1) ≤ j → g' j = S.f j) ∧ Lt g' τ z t (img B0 z ys.length) := by
  cases ys with
  | nil =>
    refine ⟨h, S.f, [], B0, val_stay V H B t1 t2 hst, H, V, ButL.refl _ _, fun h2 H2 V2 => ⟨h2, S.f, [], ?_, H2, ?_, ButL.refl _ _, fun _ _ => rfl, trivial⟩⟩
    · rw [e35]; exact scan_end V2
    · simpa using V2
  | cons p todo =>
    have hb := B.m
    have hlen : (p :: todo).length = todo.length + 1 := rfl
    rw [hlen] at hlim ⊢
    have hmul2 : (todo.length + 1) * (z + 1) = todo.length * (z + 1) + (z + 1) := Nat.succ_mul _ _
    obtain ⟨L1, L2, L3⟩ := hL
    obtain ⟨⟨R1, R2, R3⟩, R4⟩ := hR p (by simp)
    obtain ⟨h1, v1, v2, v3, v4⟩ := val_move V H B (p := p) (t := τ) (n := z) ⟨R1, hτ, hz2, L1, R3⟩ R2 (by simp) (by omega) hlM
    refine ⟨h1, cpF S.f p B0 z, [(p, B0)], B0 + z + 1, v1, v2, v3, v4, fun h2 H2 V2 => ?_⟩
    rw [e35]
    obtain ⟨h', g', l', s1, s2, s3, s4, s5, s6⟩ := scan_go (b := b) (q := q) (bm := bm) (mm := mm) (yg := yg) (S := S) B (τ := τ) (z := z) (lim := lim) (B0 := B0) (t := t) hτ hz hz2 hlM t1 t2 hst todo B0 (cpF S.f p B0 z) [(p, B0)] h2 H2 V2 L3 (fun x hx => hR x (by simp [hx])) (fun j hj => by unfold cpF; rw [if_neg (by omega)]) (by omega)
      (by unfold cpF; rw [if_pos (by omega), Nat.sub_self, Nat.add_zero]; exact L1) (fun k k1 k2 => by unfold cpF; rw [if_pos (by omega), show B0 + k - B0 = k by omega]; exact L2 k k1 k2) (List.nodup_cons.1 hN).2 (fun x hx y hy => by
        rw [List.mem_singleton.1 hy]
        intro e
        exact (List.nodup_cons.1 hN).1 (by rw [show p = x from e]; exact hx)) hlim
    refine ⟨h', g', l', s1, s2, s3, s4, fun j hj => ?_, s6⟩
    rw [s5 j hj]
    unfold cpF
    rw [if_neg (by omega)]

/-- A list of one root. -/
def Root (h : Heap) (rb : Nat) (v : Int) : Prop := ∃ m, h[rb]? = some (.cells [.int .i64 v] m 0)

theorem Root.of {h h' : Heap} {rb : Nat} {v : Int} {ks : List Nat} (R : Root h rb v) (hk : ButL ks h h') (hn : rb ∉ ks) : Root h' rb v := by
  obtain ⟨m, hm⟩ := R
  exact ⟨m, hk _ _ hm hn⟩

theorem lt_of_get {h : Heap} {b : Nat} {x : Blk} (hb : h[b]? = some x) : b < h.length := (List.getElem?_eq_some_iff.1 hb).1

/-- The heap when a collection begins: a map, its state, a list for the new roots. -/
theorem start_ok (H : MP h b q S) (B0 lim : Nat) (yg : Bool) (n : Nat) :
    ∃ h4, h ++ [.map []] ++ [.cells [.ptr (some ⟨b, 0, 0⟩), .int .i64 ((B0 : Nat) : Int), .int .i64 ((lim : Nat) : Int), .map (some h.length), .bool yg, .bool false] .fix 0] ++ [.cells (repl n [(.int .i64 0)]) (.grow 1) 0] = h4 ∧ MP h4 b q S ∧ MV h4 (h.length + 1) h.length b q B0 lim yg [] ∧ h4[h.length + 2]? = some (.cells (repl n [(.int .i64 0)]) (.grow 1) 0) ∧ Old h h4 := by
  have hb := lt_of_get H.c
  have hq := lt_of_get H.m
  have o1 : Old h (h ++ [.map []]) := old_app _ _
  have g1 : (h ++ [Blk.map []])[h.length]? = some (.map []) := last_get _ _
  have l1 : (h ++ [Blk.map []]).length = h.length + 1 := by simp
  generalize h ++ [Blk.map []] = h1 at o1 g1 l1
  have g2 := last_get h1 (Blk.cells [.ptr (some ⟨b, 0, 0⟩), .int .i64 ((B0 : Nat) : Int), .int .i64 ((lim : Nat) : Int), .map (some h.length), .bool yg, .bool false] .fix 0)
  rw [l1] at g2
  have o2 := old_app h1 [Blk.cells [.ptr (some ⟨b, 0, 0⟩), .int .i64 ((B0 : Nat) : Int), .int .i64 ((lim : Nat) : Int), .map (some h.length), .bool yg, .bool false] .fix 0]
  have l2 : (h1 ++ [Blk.cells [.ptr (some ⟨b, 0, 0⟩), .int .i64 ((B0 : Nat) : Int), .int .i64 ((lim : Nat) : Int), .map (some h.length), .bool yg, .bool false] .fix 0]).length = h.length + 2 := by simp [l1]
  generalize h1 ++ [Blk.cells [.ptr (some ⟨b, 0, 0⟩), .int .i64 ((B0 : Nat) : Int), .int .i64 ((lim : Nat) : Int), .map (some h.length), .bool yg, .bool false] .fix 0] = h2 at g2 o2 l2
  have g3 := last_get h2 (Blk.cells (repl n [(.int .i64 0)]) (.grow 1) 0)
  rw [l2] at g3
  have o3 := old_app h2 [Blk.cells (repl n [(.int .i64 0)]) (.grow 1) 0]
  refine ⟨_, rfl, ⟨o3 _ _ (o2 _ _ (o1 _ _ H.c)), o3 _ _ (o2 _ _ (o1 _ _ H.m)), H.ne⟩, ⟨o3 _ _ g2, o3 _ _ (o2 _ _ g1), by omega, by omega, by omega, by omega, by omega⟩, g3, (o1.trans o2).trans o3⟩

theorem minor_one (H : MP h b q S) (B : MB S) (hrn : S.rn = 0) {τ z : Nat} {t : Int} (hτ : τ ≤ 258) (hz : 1 ≤ z) (hz2 : z ≤ 4000) (t1 : -4294967296 ≤ t) (t2 : t ≤ 4294967296) (hst : t % 2 = 1 ∨ yng S.nu t = false)
    (ys : List Nat) (hL : Lt S.f τ z t ys) (hR : ∀ x ∈ ys, 1 ≤ x ∧ x + z < S.yo) (hN : ys.Nodup) (hfit : ys.length * (z + 1) + 1 ≤ S.yo) (hroom : S.ol + S.yo ≤ S.fr + S.ha + 1) {rb : Nat} (hrb : Root h rb (hw t ys)) (rn1 : rb ≠ b) (rn2 : rb ≠ q) :
    ∃ h' g' ob, E 20 [.ptr (some ⟨b, 0, 0⟩), .sl (.pos ⟨rb, 0, 0⟩) 1] h = some (.tup [.sl (.pos ⟨ob, 0, 0⟩) 1, .int .i64 0], h') ∧ MP h' b q { S with f := g', ol := S.ol + ys.length * (z + 1), yo := 1, rs := .nil, rn := 0 } ∧ Root h' ob (hw t (img S.ol z ys.length)) ∧ ob ≠ b ∧ ob ≠ q ∧ h.length ≤ ob ∧ ButL [q, b] h h' ∧
      (∀ j, j < S.ol ∨ S.ol + ys.length * (z + 1) ≤ j → g' j = S.f j) ∧ Lt g' τ z t (img S.ol z ys.length) := by
  obtain ⟨a1, a2, a3, a4, a5, a6, a7, a8⟩ := B
  have B : MB S := ⟨a1, a2, a3, a4, a5, a6, a7, a8⟩
  have hbl := lt_of_get H.c
  have hql := lt_of_get H.m
  obtain ⟨h4, k1, k2, k3, k4, k5⟩ := start_ok H S.ol (S.fr + S.ha) true 1
  obtain ⟨h5, g5, l5, f5, v1, v2, v3, v4, v5⟩ := root_go B (τ := τ) (z := z) (lim := S.fr + S.ha) (B0 := S.ol) (t := t) (yg := true) hτ hz hz2 (by omega) t1 t2 (by rcases hst with x | x; exact .inl x; exact .inr ⟨rfl, x⟩) ys hL (fun x hx => by
    obtain ⟨x1, x2⟩ := hR x hx
    exact ⟨⟨x1, fun _ => by omega, .inl ⟨by omega, x2⟩⟩, .inl (by omega)⟩) hN (by omega) k2 k3
  obtain ⟨m, hm⟩ := hrb
  have hrl := lt_of_get hm
  have k4' := v4 _ _ k4 (by simp; omega)
  have rr : ld1 h4 ⟨rb, 0, 0 + 0 * 1⟩ = some (.int .i64 (hw t ys)) := ld1_at (k5 _ _ hm) rfl rfl
  rw [e20, letK_eq, if_neg (by simp), atP_of, add_mk, H.r6, gI_of, atP_of, add_mk, H.r3, gI_of, letK_eq, wrap64 (x := (S.ol : Int) + S.yo) (by omega) (by omega), letK_eq, wrap64 (by omega) (by omega), atP_of, add_mk, H.r5, gI_of, atP_of, add_mk, H.r4, gI_of, letK_eq, wrap64 (by omega) (by omega), letK_eq, if_neg (by simp <;> omega), atP_of, add_mk, H.r6, gI_of, atP_of, add_mk, H.r5, gI_of, atP_of, add_mk, H.r4, gI_of, letK_eq, wrap64 (by omega) (by omega), newK_eq, newK_eq]
  have l2 : (h ++ [Blk.map []]).length = h.length + 1 := by simp
  have c0 : (h ++ [Blk.map []] ++ [Blk.cells [.ptr (some ⟨b, 0, 0⟩), .int .i64 ((S.ol : Nat) : Int), .int .i64 ((S.fr : Int) + (S.ha : Int)), .map (some h.length), .bool true, .bool false] .fix 0])[h.length + 1]? = some (.cells [.ptr (some ⟨b, 0, 0⟩), .int .i64 ((S.ol : Nat) : Int), .int .i64 ((S.fr : Int) + (S.ha : Int)), .map (some h.length), .bool true, .bool false] .fix 0) := by rw [← l2]; exact last_get _ _
  have l3 : (h ++ [Blk.map []] ++ [Blk.cells [.ptr (some ⟨b, 0, 0⟩), .int .i64 ((S.ol : Nat) : Int), .int .i64 ((S.fr : Int) + (S.ha : Int)), .map (some h.length), .bool true, .bool false] .fix 0]).length = h.length + 2 := by simp
  rw [l2, add_mk, ld1_at (x := .int .i64 ((S.ol : Nat) : Int)) c0 rfl rfl, gI_of, chk_of (by omega), newK_eq, letK_eq, l3, Int.toNat_natCast, show (S.fr : Int) + (S.ha : Int) = ((S.fr + S.ha : Nat) : Int) by omega, k1]
  rw [L20x17xeq, letK_eq, if_pos (by simp), chk_of (by intro _; omega), adP_pos, atP_of, add_mk, show Int.toNat 0 = 0 from rfl, rr, gI_of, v1, Option.bind_some, gI_of, chk_of (by intro _; omega), adP_pos, atP_of, add_mk]
  dsimp only
  rw [st1_at k4' (by simp) (by decide), Option.bind_some, letK_eq, wrap64 (by omega) (by omega)]
  have hset : (repl 1 [AV.int .i64 0]).set (0 + 0 * 1) (.int .i64 (hw t (img S.ol z ys.length))) = [.int .i64 (hw t (img S.ol z ys.length))] := rfl
  rw [hset]
  have o6 : ButL [h.length + 2] h5 (h5.set (h.length + 2) (.cells [.int .i64 (hw t (img S.ol z ys.length))] (.grow 1) 0)) := ButL.set _ _ _ _ (by simp)
  have k6 : (h5.set (h.length + 2) (.cells [.int .i64 (hw t (img S.ol z ys.length))] (.grow 1) 0))[h.length + 2]? = some (.cells [.int .i64 (hw t (img S.ol z ys.length))] (.grow 1) 0) := set_same k4'
  generalize h5.set (h.length + 2) (.cells [.int .i64 (hw t (img S.ol z ys.length))] (.grow 1) 0) = h6 at o6 k6
  have H6 : MP h6 b q { S with f := g5 } := ⟨o6 _ _ v2.c (by simp; omega), o6 _ _ v2.m (by simp; omega), H.ne⟩
  have V6 : MV h6 (h.length + 1) h.length b q f5 (S.fr + S.ha) true l5 := ⟨o6 _ _ v3.c (by simp), o6 _ _ v3.m (by simp), v3.d1, v3.d2, v3.d3, v3.d4, v3.d5⟩
  obtain ⟨h7, g7, l7, s1, s2, s3, s4, s5, s6⟩ := v5 h6 H6 V6
  rw [L20x17xeq, letK_eq, if_neg (by simp), X20x17xe0, atP_of, add_mk, H6.r7, gL_of]
  dsimp only
  rw [hrn, L20x28xeq, letK_eq, if_neg (by simp), X20x28xe2, s1, Option.bind_some, gT0_of, atP_of, add_mk, s3.r1, gI_of, atP_of, add_mk, st1_at s2.c (by simp) (by rw [mc_len]; omega), Option.bind_some]
  have k7 := s4 _ _ k6 (by simp; omega)
  have o7 : ButL [b] h7 (h7.set b (.cells ((mc { S with f := g7 } q).set (0 + 6) (.int .i64 ((S.ol + ys.length * (z + 1) : Nat) : Int))) .fix 0)) := ButL.set _ _ _ _ (by simp)
  have c7 := set_same (x := Blk.cells ((mc { S with f := g7 } q).set (0 + 6) (.int .i64 ((S.ol + ys.length * (z + 1) : Nat) : Int))) .fix 0) s2.c
  generalize h7.set b (.cells ((mc { S with f := g7 } q).set (0 + 6) (.int .i64 ((S.ol + ys.length * (z + 1) : Nat) : Int))) .fix 0) = h8 at o7 c7
  rw [atP_of, add_mk, st1_at c7 (by simp) (by simp only [List.length_set, mc_len]; omega), Option.bind_some]
  have o8 : ButL [b] h8 (h8.set b (.cells (((mc { S with f := g7 } q).set (0 + 6) (.int .i64 ((S.ol + ys.length * (z + 1) : Nat) : Int))).set (0 + 3) (.int .i64 1)) .fix 0)) := ButL.set _ _ _ _ (by simp)
  have c8 := set_same (x := Blk.cells (((mc { S with f := g7 } q).set (0 + 6) (.int .i64 ((S.ol + ys.length * (z + 1) : Nat) : Int))).set (0 + 3) (.int .i64 1)) .fix 0) c7
  generalize h8.set b (.cells (((mc { S with f := g7 } q).set (0 + 6) (.int .i64 ((S.ol + ys.length * (z + 1) : Nat) : Int))).set (0 + 3) (.int .i64 1)) .fix 0) = h9 at o8 c8
  rw [atP_of, add_mk, st1_at c8 (by simp) (by simp only [List.length_set, mc_len]; omega), Option.bind_some]
  have o9 : ButL [b] h9 (h9.set b (.cells ((((mc { S with f := g7 } q).set (0 + 6) (.int .i64 ((S.ol + ys.length * (z + 1) : Nat) : Int))).set (0 + 3) (.int .i64 1)).set (0 + 7) (.sl .nil 0)) .fix 0)) := ButL.set _ _ _ _ (by simp)
  have c9 := set_same (x := Blk.cells ((((mc { S with f := g7 } q).set (0 + 6) (.int .i64 ((S.ol + ys.length * (z + 1) : Nat) : Int))).set (0 + 3) (.int .i64 1)).set (0 + 7) (.sl .nil 0)) .fix 0) c8
  generalize h9.set b (.cells ((((mc { S with f := g7 } q).set (0 + 6) (.int .i64 ((S.ol + ys.length * (z + 1) : Nat) : Int))).set (0 + 3) (.int .i64 1)).set (0 + 7) (.sl .nil 0)) .fix 0) = h10 at o9 c9
  have o710 : ButL [b] h7 h10 := (o7.trans o8).trans o9
  refine ⟨h10, g7, h.length + 2, rfl, ⟨c9, o710 _ _ s2.m (by simp; exact H.ne), H.ne⟩, ⟨_, o710 _ _ k7 (by simp; omega)⟩, by omega, by omega, by omega, ?_, s5, s6⟩
  intro k x hk hn
  simp at hn
  have kl := lt_of_get hk
  exact o710 _ _ (s4 _ _ (o6 _ _ (v4 _ _ (k5 _ _ hk) (by simp; omega)) (by simp; omega)) (by simp; omega)) (by simp; omega)

theorem major_one (H : MP h b q S) (B : MB S) {τ z : Nat} {t : Int} (hτ : τ ≤ 258) (hz : 1 ≤ z) (hz2 : z ≤ 4000) (t1 : -4294967296 ≤ t) (t2 : t ≤ 4294967296) (hst : t % 2 = 1)
    (ys : List Nat) (hL : Lt S.f τ z t ys) (hR : ∀ x ∈ ys, (1 ≤ x ∧ x + z < S.yo) ∨ (S.fr ≤ x ∧ x + z < S.ol)) (hN : ys.Nodup) (hfit : ys.length * (z + 1) ≤ S.ha) {rb : Nat} (hrb : Root h rb (hw t ys)) (rn1 : rb ≠ b) (rn2 : rb ≠ q) :
    ∃ h' g' ob to, E 19 [.ptr (some ⟨b, 0, 0⟩), .sl (.pos ⟨rb, 0, 0⟩) 1] h = some (.tup [.sl (.pos ⟨ob, 0, 0⟩) 1, .int .i64 0], h') ∧ (to = S.nu ∨ to = S.nu + S.ha) ∧ MP h' b q { S with f := g', fr := to, ol := to + ys.length * (z + 1), yo := 1, rs := .nil, rn := 0 } ∧ Root h' ob (hw t (img to z ys.length)) ∧ ob ≠ b ∧ ob ≠ q ∧ h.length ≤ ob ∧ ButL [q, b] h h' ∧ Lt g' τ z t (img to z ys.length) := by
  obtain ⟨a1, a2, a3, a4, a5, a6, a7, a8⟩ := B
  have B : MB S := ⟨a1, a2, a3, a4, a5, a6, a7, a8⟩
  have hbl := lt_of_get H.c
  have hql := lt_of_get H.m
  have join : ∀ to : Nat, ((S.fr = S.nu ∧ to = S.nu + S.ha) ∨ (S.fr = S.nu + S.ha ∧ to = S.nu)) → ∃ h' g' ob, J19x10 mk0 E (some ⟨b, 0, 0⟩) (.pos ⟨rb, 0, 0⟩) 1 ((to : Nat) : Int) h = some (.tup [.sl (.pos ⟨ob, 0, 0⟩) 1, .int .i64 0], h') ∧ MP h' b q { S with f := g', fr := to, ol := to + ys.length * (z + 1), yo := 1, rs := .nil, rn := 0 } ∧ Root h' ob (hw t (img to z ys.length)) ∧ ob ≠ b ∧ ob ≠ q ∧ h.length ≤ ob ∧ ButL [q, b] h h' ∧ Lt g' τ z t (img to z ys.length) := by
    intro to hto
    obtain ⟨h4, k1, k2, k3, k4, k5⟩ := start_ok H to (to + S.ha) false 1
    obtain ⟨h5, g5, l5, f5, v1, v2, v3, v4, v5⟩ := root_go B (τ := τ) (z := z) (lim := to + S.ha) (B0 := to) (t := t) (yg := false) hτ hz hz2 (by omega) t1 t2 (.inl hst) ys hL (fun x hx => by
      rcases hR x hx with ⟨x1, x2⟩ | ⟨x1, x2⟩
      · exact ⟨⟨x1, fun e => by simp at e, .inl ⟨by omega, x2⟩⟩, .inl (by omega)⟩
      · refine ⟨⟨by omega, fun e => by simp at e, .inr ⟨by omega, x1, x2⟩⟩, by omega⟩) hN (by omega) k2 k3
    obtain ⟨m, hm⟩ := hrb
    have hrl := lt_of_get hm
    have k4' := v4 _ _ k4 (by simp; omega)
    have rr : ld1 h4 ⟨rb, 0, 0 + 0 * 1⟩ = some (.int .i64 (hw t ys)) := ld1_at (k5 _ _ hm) rfl rfl
    rw [J19x10xeq, atP_of, add_mk, H.r4, gI_of, letK_eq, wrap64 (by omega) (by omega), newK_eq, newK_eq]
    have l2 : (h ++ [Blk.map []]).length = h.length + 1 := by simp
    have l3 : (h ++ [Blk.map []] ++ [Blk.cells [.ptr (some ⟨b, 0, 0⟩), .int .i64 ((to : Nat) : Int), .int .i64 ((to : Int) + (S.ha : Int)), .map (some h.length), .bool false, .bool false] .fix 0]).length = h.length + 2 := by simp
    rw [l2, chk_of (by omega), newK_eq, letK_eq, l3, Int.toNat_natCast, show (to : Int) + (S.ha : Int) = ((to + S.ha : Nat) : Int) by omega, k1]
    rw [L19x16xeq, letK_eq, if_pos (by simp), chk_of (by intro _; omega), adP_pos, atP_of, add_mk, show Int.toNat 0 = 0 from rfl, rr, gI_of, v1, Option.bind_some, gI_of, chk_of (by intro _; omega), adP_pos, atP_of, add_mk]
    dsimp only
    rw [st1_at k4' (by simp) (by decide), Option.bind_some, letK_eq, wrap64 (by omega) (by omega)]
    have hset : (repl 1 [AV.int .i64 0]).set (0 + 0 * 1) (.int .i64 (hw t (img to z ys.length))) = [.int .i64 (hw t (img to z ys.length))] := rfl
    rw [hset]
    have o6 : ButL [h.length + 2] h5 (h5.set (h.length + 2) (.cells [.int .i64 (hw t (img to z ys.length))] (.grow 1) 0)) := ButL.set _ _ _ _ (by simp)
    have k6 : (h5.set (h.length + 2) (.cells [.int .i64 (hw t (img to z ys.length))] (.grow 1) 0))[h.length + 2]? = some (.cells [.int .i64 (hw t (img to z ys.length))] (.grow 1) 0) := set_same k4'
    generalize h5.set (h.length + 2) (.cells [.int .i64 (hw t (img to z ys.length))] (.grow 1) 0) = h6 at o6 k6
    have H6 : MP h6 b q { S with f := g5 } := ⟨o6 _ _ v2.c (by simp; omega), o6 _ _ v2.m (by simp; omega), H.ne⟩
    have V6 : MV h6 (h.length + 1) h.length b q f5 (to + S.ha) false l5 := ⟨o6 _ _ v3.c (by simp), o6 _ _ v3.m (by simp), v3.d1, v3.d2, v3.d3, v3.d4, v3.d5⟩
    obtain ⟨h7, g7, l7, s1, s2, s3, s4, s5, s6⟩ := v5 h6 H6 V6
    rw [L19x16xeq, letK_eq, if_neg (by simp), X19x16xe0, s1, Option.bind_some, gT0_of, atP_of, add_mk, s3.r5, gB_of, if_neg (by simp), atP_of, add_mk, s3.r1, gI_of, atP_of, add_mk, st1_at s2.c (by simp) (by rw [mc_len]; omega), Option.bind_some]
    have k7 := s4 _ _ k6 (by simp; omega)
    have o6' : ButL [b] h7 (h7.set b (.cells ((mc { S with f := g7 } q).set (0 + 5) (.int .i64 ((to : Nat) : Int))) .fix 0)) := ButL.set _ _ _ _ (by simp)
    have c6 := set_same (x := Blk.cells ((mc { S with f := g7 } q).set (0 + 5) (.int .i64 ((to : Nat) : Int))) .fix 0) s2.c
    generalize h7.set b (.cells ((mc { S with f := g7 } q).set (0 + 5) (.int .i64 ((to : Nat) : Int))) .fix 0) = ha at o6' c6
    rw [atP_of, add_mk, st1_at c6 (by simp) (by simp only [List.length_set, mc_len]; omega), Option.bind_some]
    have o7 : ButL [b] ha (ha.set b (.cells (((mc { S with f := g7 } q).set (0 + 5) (.int .i64 ((to : Nat) : Int))).set (0 + 6) (.int .i64 ((to + ys.length * (z + 1) : Nat) : Int))) .fix 0)) := ButL.set _ _ _ _ (by simp)
    have c7 := set_same (x := Blk.cells (((mc { S with f := g7 } q).set (0 + 5) (.int .i64 ((to : Nat) : Int))).set (0 + 6) (.int .i64 ((to + ys.length * (z + 1) : Nat) : Int))) .fix 0) c6
    generalize ha.set b (.cells (((mc { S with f := g7 } q).set (0 + 5) (.int .i64 ((to : Nat) : Int))).set (0 + 6) (.int .i64 ((to + ys.length * (z + 1) : Nat) : Int))) .fix 0) = h8 at o7 c7
    rw [atP_of, add_mk, st1_at c7 (by simp) (by simp only [List.length_set, mc_len]; omega), Option.bind_some]
    have o8 : ButL [b] h8 (h8.set b (.cells ((((mc { S with f := g7 } q).set (0 + 5) (.int .i64 ((to : Nat) : Int))).set (0 + 6) (.int .i64 ((to + ys.length * (z + 1) : Nat) : Int))).set (0 + 3) (.int .i64 1)) .fix 0)) := ButL.set _ _ _ _ (by simp)
    have c8 := set_same (x := Blk.cells ((((mc { S with f := g7 } q).set (0 + 5) (.int .i64 ((to : Nat) : Int))).set (0 + 6) (.int .i64 ((to + ys.length * (z + 1) : Nat) : Int))).set (0 + 3) (.int .i64 1)) .fix 0) c7
    generalize h8.set b (.cells ((((mc { S with f := g7 } q).set (0 + 5) (.int .i64 ((to : Nat) : Int))).set (0 + 6) (.int .i64 ((to + ys.length * (z + 1) : Nat) : Int))).set (0 + 3) (.int .i64 1)) .fix 0) = h9 at o8 c8
    rw [atP_of, add_mk, st1_at c8 (by simp) (by simp only [List.length_set, mc_len]; omega), Option.bind_some]
    have o9 : ButL [b] h9 (h9.set b (.cells (((((mc { S with f := g7 } q).set (0 + 5) (.int .i64 ((to : Nat) : Int))).set (0 + 6) (.int .i64 ((to + ys.length * (z + 1) : Nat) : Int))).set (0 + 3) (.int .i64 1)).set (0 + 7) (.sl .nil 0)) .fix 0)) := ButL.set _ _ _ _ (by simp)
    have c9 := set_same (x := Blk.cells (((((mc { S with f := g7 } q).set (0 + 5) (.int .i64 ((to : Nat) : Int))).set (0 + 6) (.int .i64 ((to + ys.length * (z + 1) : Nat) : Int))).set (0 + 3) (.int .i64 1)).set (0 + 7) (.sl .nil 0)) .fix 0) c8
    generalize h9.set b (.cells (((((mc { S with f := g7 } q).set (0 + 5) (.int .i64 ((to : Nat) : Int))).set (0 + 6) (.int .i64 ((to + ys.length * (z + 1) : Nat) : Int))).set (0 + 3) (.int .i64 1)).set (0 + 7) (.sl .nil 0)) .fix 0) = h10 at o9 c9
    have o710 : ButL [b] h7 h10 := ((o6'.trans o7).trans o8).trans o9
    refine ⟨h10, g7, h.length + 2, rfl, ⟨c9, o710 _ _ s2.m (by simp; exact H.ne), H.ne⟩, ⟨_, o710 _ _ k7 (by simp; omega)⟩, by omega, by omega, by omega, ?_, s6⟩
    intro k x hk hn
    simp at hn
    have kl := lt_of_get hk
    exact o710 _ _ (s4 _ _ (o6 _ _ (v4 _ _ (k5 _ _ hk) (by simp; omega)) (by simp; omega)) (by simp; omega)) (by simp; omega)
  rw [e19, letK_eq, if_neg (by simp), atP_of, add_mk, H.r2, gI_of, atP_of, add_mk, H.r5, gI_of, atP_of, add_mk, H.r2, gI_of, letK_eq]
  rcases a4 with a4 | a4
  · rw [if_pos (by simp; omega), atP_of, add_mk, H.r2, gI_of, atP_of, add_mk, H.r4, gI_of, letK_eq, wrap64 (by omega) (by omega), show (S.nu : Int) + (S.ha : Int) = ((S.nu + S.ha : Nat) : Int) by omega]
    obtain ⟨h', g', ob, r⟩ := join (S.nu + S.ha) (.inl ⟨a4, rfl⟩)
    exact ⟨h', g', ob, _, r.1, .inr rfl, r.2⟩
  · by_cases h0 : S.ha = 0
    · rw [if_pos (by simp; omega), atP_of, add_mk, H.r2, gI_of, atP_of, add_mk, H.r4, gI_of, letK_eq, wrap64 (by omega) (by omega), show (S.nu : Int) + (S.ha : Int) = ((S.nu + S.ha : Nat) : Int) by omega]
      obtain ⟨h', g', ob, r⟩ := join (S.nu + S.ha) (.inl ⟨by omega, rfl⟩)
      exact ⟨h', g', ob, _, r.1, .inr rfl, r.2⟩
    · rw [if_neg (by simp; omega)]
      obtain ⟨h', g', ob, r⟩ := join S.nu (.inr ⟨a4, rfl⟩)
      exact ⟨h', g', ob, _, r.1, .inl rfl, r.2⟩
end
end Go.Proofs.Ytecgpcpgklholaa.K

/- heap: Alloc of any object in the nursery, New; what a chain is, and what keeps it. -/
set_option linter.unusedVariables false
set_option linter.unusedSimpArgs false
namespace Go.Proofs.Ytecgpcpgklholaa.K
open Go Go.Proofs.Ytecgpcpgklholaa.Abs Go.Proofs

/-- Cells from i on, an object as far as its k-th cell. -/
def fillO (f : Nat → Int) (i t n : Nat) (v : Int) (k : Nat) : Nat → Int := fun j => if j = i then hd t n else if i < j ∧ j < i + k then v else f j

theorem fillO_step (f : Nat → Int) (i t n : Nat) (v : Int) (k : Nat) (hk : 1 ≤ k) : upd (fillO f i t n v k) (i + k) v = fillO f i t n v (k + 1) := by
  funext j
  unfold upd fillO
  by_cases e : j = i + k
  · rw [if_pos e, if_neg (by omega), if_pos (by omega)]
  · rw [if_neg e]
    by_cases e1 : j = i
    · rw [if_pos e1, if_pos e1]
    · rw [if_neg e1, if_neg e1]
      by_cases e2 : i < j ∧ j < i + k
      · rw [if_pos e2, if_pos (by omega)]
      · rw [if_neg e2, if_neg (by omega)]

theorem fillO_loop {b q i t n : Nat} {S : MS} {v : Int} (B : MB S) (v1 : -4294967296 ≤ v) (v2 : v ≤ 4294967296) (hin : i + n < S.fr) (hn : n ≤ 4000) : ∀ (j k : Nat), k + j = n + 1 → 1 ≤ k → ∀ (h : Heap), MP h b q { S with f := fillO S.f i t n v k } →
    ∃ h', L14x26 mk0 E (some ⟨b, 0, 0⟩) ((n : Nat) : Int) v ((i : Nat) : Int) ((k : Nat) : Int) h (Q14x26 mk0 E) = some (.tup [.int .i64 (2 * (i : Int)), .int .i64 0], h') ∧ MP h' b q { S with f := fillO S.f i t n v (n + 1) } ∧ ButL [q] h h' := by
  have bm := B.m
  have bf : S.fr ≤ S.M := by
    obtain ⟨a1, a2, a3, a4, a5, a6, a7, a8⟩ := B
    omega
  intro j
  induction j with
  | zero =>
    intro k hk h1 h H
    obtain rfl : k = n + 1 := by omega
    refine ⟨h, ?_, H, ButL.refl _ _⟩
    rw [L14x26xeq, letK_eq, if_neg (by simp <;> omega), X14x26xe1, letK_eq, wrap64 (by omega) (by omega)]
  | succ j ih =>
    intro k hk h1 h H
    have B' : MB { S with f := fillO S.f i t n v k } := ⟨B.m, B.nu, B.st, B.fr, B.y0, B.y1, B.o0, B.o1⟩
    obtain ⟨h2, e2, H2, o2⟩ := put_ok (i := i + k) H B' (by show i + k < S.M; omega) v1 v2 (.inl (by show i + k < S.fr; omega))
    have H3 : MP h2 b q { S with f := fillO S.f i t n v (k + 1) } := by rw [← fillO_step S.f i t n v k h1]; exact H2
    rw [L14x26xeq, letK_eq, if_pos (by simp <;> omega), letK_eq, wrap64 (by omega) (by omega), show ((i : Int) + (k : Int)) = ((i + k : Nat) : Int) by omega, e2, Option.bind_some, gT0_of, letK_eq, wrap64 (by omega) (by omega), show ((k : Int) + 1) = ((k + 1 : Nat) : Int) by omega]
    obtain ⟨h', r1, r2, r3⟩ := ih (k + 1) (by omega) (by omega) h2 H3
    exact ⟨h', r1, r2, o2.trans r3⟩

theorem alloc_of {h : Heap} {b q t n : Nat} {S : MS} {v : Int} (H : MP h b q S) (B : MB S) (ht : t ≤ 258) (hn : n ≤ 4000) (hn2 : n + 2 ≤ S.nu) (hr : S.yo + n + 1 ≤ S.nu) (v1 : -2147483648 ≤ v) (v2 : v ≤ 2147483647) :
    ∃ h', E 14 [.ptr (some ⟨b, 0, 0⟩), .int .i64 ((t : Nat) : Int), .int .i64 ((n : Nat) : Int), .int .i64 v] h = some (.tup [.int .i64 (2 * (S.yo : Int)), .int .i64 0], h') ∧ MP h' b q { S with yo := S.yo + n + 1, f := fillO S.f S.yo t n v (n + 1) } ∧ ButL [q, b] h h' := by
  have i1 : inB ((t : Nat) : Int) 0 258 = true := by simp [inB]; omega
  have i2 : inB ((n : Nat) : Int) 0 4095 = true := by simp [inB]; omega
  have i3 : inB v (-2147483648) 2147483647 = true := by simp [inB]; omega
  obtain ⟨a1, a2, a3, a4, a5, a6, a7, a8⟩ := B
  have B : MB S := ⟨a1, a2, a3, a4, a5, a6, a7, a8⟩
  have hne := H.ne
  rw [e14, in_ok, i1, Option.bind_some, gB_of]
  simp only [Bool.not_true, Bool.not_false]
  rw [callO_true, in_ok, i2, Option.bind_some, gB_of, letK_eq, if_neg (by simp), in_ok, i3, Option.bind_some, gB_of, if_neg (by simp), room_of H B hn2, decide_eq_true hr, Option.bind_some, gB_of, if_neg (by simp), atP_of, letK_eq, wrap64 (x := ((n : Nat) : Int) + 1) (by omega) (by omega), atP_of, add_mk, H.r2, gI_of, letK_eq, wrap64 (by omega) (by omega), letK_eq, if_neg (by simp; omega)]
  have S1 : (mc S q).set 3 (.int .i64 ((S.yo : Int) + ((n : Int) + 1))) = mc { S with yo := S.yo + n + 1 } q := by
    rw [show (S.yo : Int) + ((n : Int) + 1) = ((S.yo + n + 1 : Nat) : Int) by omega]
    rfl
  have o2 : ButL [q, b] h (h.set b (.cells (mc { S with yo := S.yo + n + 1 } q) .fix 0)) := ButL.set _ _ _ _ (by simp)
  have H2 : MP (h.set b (.cells (mc { S with yo := S.yo + n + 1 } q) .fix 0)) b q { S with yo := S.yo + n + 1 } := ⟨set_same H.c, by rw [set_other (fun e => hne e.symm)]; exact H.m, hne⟩
  rw [J14x19xeq, add_mk, atP_of, H.r3, gI_of, atP_of, H.r3, gI_of, letK_eq, wrap64 (x := (n : Int) + 1) (by omega) (by omega), letK_eq, wrap64 (by omega) (by omega), atP_of, st1_at H.c (by simp) (by rw [mc_len]; omega), Option.bind_some, Nat.zero_add, S1]
  generalize h.set b (.cells (mc { S with yo := S.yo + n + 1 } q) .fix 0) = h2 at o2 H2
  rw [atP_of, add_mk, H2.r0, gL_of, hd_ok _ _ _ ht (by omega), Option.bind_some, gI_of, chkC_of (by intro _; rfl), chk_of (by intro _; dsimp only; omega), adP_pos, atP_of, add_mk, Int.toNat_natCast]
  dsimp only
  obtain ⟨w1, w2⟩ := H2.wr S.yo (hd t n) (by show S.yo < S.M; omega)
  have o3 : ButL [q, b] h2 (h2.set q (.cells (cel S.M (upd S.f S.yo (hd t n))) (.grow 1) 0)) := ButL.set _ _ _ _ (by simp)
  dsimp only at w1 w2
  rw [w1, Option.bind_some]
  generalize h2.set q (.cells (cel S.M (upd S.f S.yo (hd t n))) (.grow 1) 0) = h3 at w2 o3
  have H3 : MP h3 b q { ({ S with yo := S.yo + n + 1 } : MS) with f := fillO S.f S.yo t n v 1 } := by
    have : fillO S.f S.yo t n v 1 = upd S.f S.yo (hd t n) := by
      funext j
      unfold fillO upd
      by_cases e : j = S.yo
      · rw [if_pos e, if_pos e]
      · rw [if_neg e, if_neg e, if_neg (by omega)]
    rw [this]; exact w2
  obtain ⟨h', e1, e2, e3⟩ := fillO_loop (S := { S with yo := S.yo + n + 1 }) (b := b) (q := q) (i := S.yo) (t := t) (n := n) (v := v) ⟨a1, a2, a3, a4, by dsimp only; omega, by dsimp only; omega, a7, a8⟩ (by omega) (by omega) (by dsimp only; omega) hn n 1 (by omega) (by omega) h3 H3
  exact ⟨h', e1, e2, (o2.trans o3).trans (e3.mono (by simp))⟩

/-- A new memory. -/
def fresh (m s y : Nat) : MS := { M := m, st := m - s, nu := 1 + y, yo := 1, ha := (m - s - 1 - y) / 2, fr := 1 + y, ol := 1 + y, f := fun _ => 0, rs := .nil, rn := 0 }

theorem fresh_ok {m s y : Nat} (h : Heap) (hm : m ≤ 65536) (h32 : 32 ≤ m) (hs : 4 ≤ s) (hs2 : s ≤ m / 2) (hy : 4 ≤ y) (hy2 : y ≤ (m - s) / 2) :
    ∃ h', E 10 [.int .i64 ((m : Nat) : Int), .int .i64 ((s : Nat) : Int), .int .i64 ((y : Nat) : Int)] h = some (.tup [.ptr (some ⟨h.length + 1, 0, 0⟩), .int .i64 0], h') ∧ MP h' (h.length + 1) h.length (fresh m s y) ∧ Old h h' := by
  have i1 : inB (m : Int) 32 65536 = true := by simp [inB]; omega
  have t1 : Int.tdiv (m : Int) 2 = ((m / 2 : Nat) : Int) := by rw [Int.tdiv_eq_ediv_of_nonneg (by omega)]; omega
  have i2 : inB (s : Int) 4 ((m / 2 : Nat) : Int) = true := by simp [inB]; omega
  have t2 : Int.tdiv ((m : Int) - s) 2 = (((m - s) / 2 : Nat) : Int) := by rw [Int.tdiv_eq_ediv_of_nonneg (by omega)]; omega
  have i3 : inB (y : Int) 4 (((m - s) / 2 : Nat) : Int) = true := by simp [inB]; omega
  have t3 : Int.tdiv ((m : Int) - s - (1 + y)) 2 = (((m - s - 1 - y) / 2 : Nat) : Int) := by rw [Int.tdiv_eq_ediv_of_nonneg (by omega)]; omega
  rw [e10, in_ok, i1, Option.bind_some, gB_of, chk_of (by intro _; omega), letK_eq, t1, wrap64 (by omega) (by omega)]
  simp only [Bool.not_true, Bool.not_false]
  rw [callO_true, in_ok, i2, Option.bind_some, gB_of, letK_eq]
  simp only [Bool.not_true, Bool.false_eq_true, if_false, Bool.not_false]
  rw [letK_eq, wrap64 (x := (m : Int) - s) (by omega) (by omega), chk_of (by intro _; omega), letK_eq, t2, wrap64 (by omega) (by omega), callO_true, in_ok, i3, Option.bind_some, gB_of, letK_eq, if_neg (by simp), chk_of (by omega), newK_eq, letK_eq, letK_eq, wrap64 (by omega) (by omega), letK_eq, newK_eq]
  dsimp only
  have L1 : (h ++ [Blk.cells (repl (Int.toNat (m : Int)) [AV.int .i64 0]) (.grow 1) 0]).length = h.length + 1 := by simp
  have r0 : repl m [AV.int .i64 0] = cel m (fun _ => 0) := by
    show List.replicate m (AV.int .i64 0) = _
    unfold cel
    apply List.ext_getElem
    · simp
    · intro i a b; simp
  rw [L1, Int.toNat_natCast]
  generalize hh : h ++ [Blk.cells (repl m [AV.int .i64 0]) (.grow 1) 0] ++ [Blk.cells [AV.sl (.pos ⟨h.length, 0, 0⟩) m, .int .i64 ((m : Int) - s), .int .i64 (1 + (y : Int)), .int .i64 1, .int .i64 0, .int .i64 (1 + (y : Int)), .int .i64 0, .sl .nil 0] .fix 0] = h3
  have kb : h3[h.length + 1]? = some (.cells [AV.sl (.pos ⟨h.length, 0, 0⟩) m, .int .i64 ((m : Int) - s), .int .i64 (1 + (y : Int)), .int .i64 1, .int .i64 0, .int .i64 (1 + (y : Int)), .int .i64 0, .sl .nil 0] .fix 0) := by
    rw [← hh]
    have : (h ++ [Blk.cells (repl m [AV.int .i64 0]) (.grow 1) 0]).length = h.length + 1 := by simp
    rw [← this]
    exact last_get _ _
  have kq : h3[h.length]? = some (.cells (cel m fun _ => 0) (.grow 1) 0) := by
    rw [← hh]
    refine app_old ?_
    rw [last_get, ← r0]
  have o3 : Old h h3 := by rw [← hh]; exact (old_app _ _).app _
  rw [add_mk, ld1_at (x := .int .i64 ((m : Int) - s)) kb rfl rfl, gI_of, add_mk, ld1_at (x := .int .i64 (1 + (y : Int))) kb rfl rfl, gI_of, letK_eq, wrap64 (x := (m : Int) - s - (1 + y)) (by omega) (by omega), letK_eq, t3, wrap64 (by omega) (by omega), add_mk, st1_at kb (by simp) (by simp), Option.bind_some]
  have kb2 := set_same (x := Blk.cells ([AV.sl (.pos ⟨h.length, 0, 0⟩) m, .int .i64 ((m : Int) - s), .int .i64 (1 + (y : Int)), .int .i64 1, .int .i64 0, .int .i64 (1 + (y : Int)), .int .i64 0, .sl .nil 0].set (0 + 4) (.int .i64 (((m - s - 1 - y) / 2 : Nat) : Int))) .fix 0) kb
  rw [add_mk, ld1_at (x := .int .i64 (1 + (y : Int))) kb2 rfl rfl, gI_of, add_mk, st1_at kb2 (by simp) (by simp), Option.bind_some]
  refine ⟨_, rfl, ⟨?_, ?_, by omega⟩, ?_⟩
  · rw [set_same kb2]
    have q1 : ((m : Int) - s) = ((m - s : Nat) : Int) := by omega
    have q2 : (1 + (y : Int)) = ((1 + y : Nat) : Int) := by omega
    rw [q1, q2]
    rfl
  · rw [set_other (by omega), set_other (by omega)]
    exact kq
  · intro k x hk
    have := (List.getElem?_eq_some_iff.1 hk).1
    rw [set_other (by omega), set_other (by omega)]
    exact o3 k x hk

theorem fresh_B {m s y : Nat} (hm : m ≤ 65536) (hs2 : s ≤ m / 2) (hy : 4 ≤ y) (hy2 : y ≤ (m - s) / 2) (h32 : 32 ≤ m) : MB (fresh m s y) := by
  unfold fresh
  refine ⟨?_, ?_, ?_, ?_, ?_, ?_, ?_, ?_⟩ <;> dsimp only <;> omega

end Go.Proofs.Ytecgpcpgklholaa.K

/- heap: a chain of objects, and what keeps it: allocation, Minor, Major; the function chain. -/
set_option linter.unusedVariables false
set_option linter.unusedSimpArgs false
namespace Go.Proofs.Ytecgpcpgklholaa.K
open Go Go.Proofs.Ytecgpcpgklholaa.Abs Go.Proofs

/-- Objects of one size below e, each below the one before. -/
def Dn (z : Nat) : Nat → List Nat → Prop
  | _, [] => True
  | e, p :: ps => 1 ≤ p ∧ p + z + 1 ≤ e ∧ Dn z p ps

theorem dn_mem {z : Nat} : ∀ {ps : List Nat} {e x : Nat}, Dn z e ps → x ∈ ps → 1 ≤ x ∧ x + z + 1 ≤ e
  | [], _, _, _, hx => by cases hx
  | p :: ps, e, x, h, hx => by
    rcases List.mem_cons.1 hx with rfl | hx
    · exact ⟨h.1, h.2.1⟩
    · have := dn_mem h.2.2 hx
      have := h.2.1
      omega

theorem dn_fit {z : Nat} : ∀ {ps : List Nat} {e : Nat}, Dn z e ps → 1 ≤ e → ps.length * (z + 1) + 1 ≤ e
  | [], e, _, he => by simpa using he
  | p :: ps, e, h, he => by
    have := dn_fit h.2.2 h.1
    have h2 := h.2.1
    have : (p :: ps).length * (z + 1) = ps.length * (z + 1) + (z + 1) := Nat.succ_mul _ _
    omega

theorem dn_nodup {z : Nat} : ∀ {ps : List Nat} {e : Nat}, Dn z e ps → ps.Nodup
  | [], _, _ => List.nodup_nil
  | p :: ps, e, h => by
    refine List.nodup_cons.2 ⟨fun hp => ?_, dn_nodup h.2.2⟩
    have := dn_mem h.2.2 hp
    omega

theorem dn_mono {z : Nat} {ps : List Nat} {e e' : Nat} (h : Dn z e ps) (he : e ≤ e') : Dn z e' ps := by
  cases ps with
  | nil => exact trivial
  | cons p ps => exact ⟨h.1, by have := h.2.1; omega, h.2.2⟩

theorem img_len (i z : Nat) : ∀ n, (img i z n).length = n := by
  intro n
  induction n generalizing i with
  | zero => rfl
  | succ n ih => show (img (i + z + 1) z n).length + 1 = _; rw [ih]

theorem img_mem {z x : Nat} : ∀ {n i : Nat}, x ∈ img i z n → i ≤ x ∧ x + z + 1 ≤ i + n * (z + 1)
  | 0, _, h => by cases h
  | n + 1, i, h => by
    have e : (n + 1) * (z + 1) = n * (z + 1) + (z + 1) := Nat.succ_mul _ _
    rcases List.mem_cons.1 h with rfl | h
    · omega
    · have := img_mem h
      omega

theorem img_nodup (z : Nat) : ∀ (n i : Nat), (img i z n).Nodup
  | 0, _ => List.nodup_nil
  | n + 1, i => List.nodup_cons.2 ⟨fun h => by have := img_mem h; omega, img_nodup z n _⟩

theorem img_app (z : Nat) : ∀ (m n i : Nat), img i z (m + n) = img i z m ++ img (i + m * (z + 1)) z n
  | 0, n, i => by simp [img]
  | m + 1, n, i => by
    have e : (m + 1) * (z + 1) = m * (z + 1) + (z + 1) := Nat.succ_mul _ _
    rw [show m + 1 + n = (m + n) + 1 by omega]
    show i :: img (i + z + 1) z (m + n) = i :: (img (i + z + 1) z m ++ _)
    rw [img_app z m n (i + z + 1), show i + z + 1 + m * (z + 1) = i + (m + 1) * (z + 1) by omega]

/-- A word that is 1 or leads to a link of the chain. -/
def Pv (ps : List Nat) (v : Int) : Prop := v = 1 ∨ ∃ p ∈ ps, v = 2 * ((p : Nat) : Int)

/-- A stretch of memory that consists of objects with such words. -/
def LayP (f : Nat → Int) (P : Int → Prop) : Nat → List Nat → Nat → Prop
  | a, [], e => a = e
  | a, z :: zs, e => z ≤ 4000 ∧ (∃ τ : Nat, τ ≤ 258 ∧ f a = hd τ z) ∧ (∀ k, 1 ≤ k → k ≤ z → P (f (a + k))) ∧ LayP f P (a + z + 1) zs e

theorem layp_le {f : Nat → Int} {P : Int → Prop} : ∀ {zs : List Nat} {a e : Nat}, LayP f P a zs e → a ≤ e
  | [], a, e, h => by have : a = e := h; omega
  | z :: zs, a, e, h => by have := layp_le h.2.2.2; omega

theorem layp_app {f : Nat → Int} {P : Int → Prop} {z : Nat} (hz : z ≤ 4000) : ∀ {zs : List Nat} {a e : Nat}, LayP f P a zs e → (∃ τ : Nat, τ ≤ 258 ∧ f e = hd τ z) → (∀ k, 1 ≤ k → k ≤ z → P (f (e + k))) → LayP f P a (zs ++ [z]) (e + z + 1)
  | [], a, e, h, h1, h2 => by
    have : a = e := h
    subst this
    exact ⟨hz, h1, h2, rfl⟩
  | y :: zs, a, e, h, h1, h2 => ⟨h.1, h.2.1, h.2.2.1, layp_app hz h.2.2.2 h1 h2⟩

theorem layp_congr {f g : Nat → Int} {P P' : Int → Prop} (hP : ∀ v, P v → P' v) : ∀ {zs : List Nat} {a e : Nat}, LayP f P a zs e → (∀ i, a ≤ i → i < e → g i = f i) → LayP g P' a zs e
  | [], a, e, h, _ => h
  | z :: zs, a, e, h, hg => by
    have hle := layp_le h.2.2.2
    refine ⟨h.1, by rw [hg a (by omega) (by omega)]; exact h.2.1, fun k k1 k2 => by rw [hg (a + k) (by omega) (by omega)]; exact hP _ (h.2.2.1 k k1 k2), ?_⟩
    exact layp_congr hP h.2.2.2 fun i i1 i2 => hg i (by omega) i2

theorem starts_app {f : Nat → Int} {P : Int → Prop} (z : Nat) : ∀ {zs : List Nat} {a e : Nat}, LayP f P a zs e → starts a (zs ++ [z]) = starts a zs ++ [e]
  | [], a, e, h => by
    have : a = e := h
    subst this
    rfl
  | y :: zs, a, e, h => by
    show a :: starts (a + y + 1) (zs ++ [z]) = a :: (starts (a + y + 1) zs ++ [e])
    rw [starts_app z h.2.2.2]

/-- A memory whose live objects are a chain: ys in the nursery, then os in the old part, which has no others. -/
structure CH (S : MS) (z : Nat) (ys os : List Nat) : Prop where
  B : MB S
  rn : S.rn = 0
  lk : Lt S.f 1 z 1 (ys ++ os)
  dn : Dn z S.yo ys
  op : os.Perm (img S.fr z os.length)
  ol : S.ol = S.fr + os.length * (z + 1)
  nl : ∃ zs, LayP S.f (Pv (ys ++ os)) 1 zs S.yo ∧ ∀ x ∈ ys, x ∈ starts 1 zs

theorem CH.om {S : MS} {z : Nat} {ys os : List Nat} (C : CH S z ys os) {x : Nat} (hx : x ∈ os) : S.fr ≤ x ∧ x + z < S.ol := by
  have := img_mem (C.op.mem_iff.1 hx)
  have := C.ol
  omega

theorem CH.nodup {S : MS} {z : Nat} {ys os : List Nat} (C : CH S z ys os) : (ys ++ os).Nodup := by
  refine List.nodup_append.2 ⟨dn_nodup C.dn, C.op.nodup_iff.2 (img_nodup _ _ _), fun a ha b hb => ?_⟩
  have h1 := dn_mem C.dn ha
  have h2 := C.om hb
  obtain ⟨a1, a2, a3, a4, a5, a6, a7, a8⟩ := C.B
  omega

theorem hw_bd {S : MS} {z : Nat} {ys os : List Nat} (C : CH S z ys os) : 1 ≤ hw 1 (ys ++ os) ∧ hw 1 (ys ++ os) ≤ 140000 := by
  have : ∀ x ∈ ys ++ os, x ≤ 65536 := by
    intro x hx
    obtain ⟨a1, a2, a3, a4, a5, a6, a7, a8⟩ := C.B
    rcases List.mem_append.1 hx with hx | hx
    · have := dn_mem C.dn hx; omega
    · have := C.om hx; omega
  have h1 : ∀ x ∈ ys ++ os, 1 ≤ x := by
    intro x hx
    obtain ⟨a1, a2, a3, a4, a5, a6, a7, a8⟩ := C.B
    rcases List.mem_append.1 hx with hx | hx
    · have := dn_mem C.dn hx; omega
    · have := C.om hx; omega
  revert this h1
  cases ys ++ os with
  | nil => intro _ _; exact ⟨by show (1 : Int) ≤ 1; omega, by show (1 : Int) ≤ 140000; omega⟩
  | cons p ps =>
    intro h1 h2
    have := h1 p (by simp)
    have := h2 p (by simp)
    constructor
    · show (1 : Int) ≤ 2 * (p : Int); omega
    · show 2 * (p : Int) ≤ 140000; omega

theorem fillO_out (f : Nat → Int) (i t n : Nat) (v : Int) (j : Nat) (h : j < i ∨ i + n < j) : fillO f i t n v (n + 1) j = f j := by
  unfold fillO
  rw [if_neg (by omega), if_neg (by omega)]

theorem ch_alloc {S : MS} {z : Nat} {ys os : List Nat} (C : CH S z ys os) (hz : z ≤ 4000) (hr : S.yo + z + 1 ≤ S.nu) : CH { S with yo := S.yo + z + 1, f := fillO S.f S.yo 1 z (hw 1 (ys ++ os)) (z + 1) } z (S.yo :: ys) os := by
  obtain ⟨⟨a1, a2, a3, a4, a5, a6, a7, a8⟩, c2, c3, c4, c5, c6, zs, c7, c8⟩ := C
  have C : CH S z ys os := ⟨⟨a1, a2, a3, a4, a5, a6, a7, a8⟩, c2, c3, c4, c5, c6, zs, c7, c8⟩
  refine ⟨⟨a1, a2, a3, a4, by dsimp only; omega, hr, a7, a8⟩, c2, ⟨?_, ?_, lt_congr c3 fun p hp k hk => ?_⟩, ⟨a5, Nat.le_refl _, c4⟩, c5, c6, zs ++ [z], ?_, ?_⟩
  · show fillO S.f S.yo 1 z (hw 1 (ys ++ os)) (z + 1) S.yo = _
    unfold fillO
    rw [if_pos rfl]
  · intro k k1 k2
    show fillO S.f S.yo 1 z (hw 1 (ys ++ os)) (z + 1) (S.yo + k) = _
    unfold fillO
    rw [if_neg (by omega), if_pos (by omega)]
    rfl
  · refine fillO_out _ _ _ _ _ _ ?_
    rcases List.mem_append.1 hp with hp | hp
    · have := dn_mem c4 hp
      omega
    · have := C.om hp
      omega
  · refine layp_app hz (layp_congr (fun v hv => ?_) c7 fun i i1 i2 => fillO_out _ _ _ _ _ _ (.inl i2)) ⟨1, by omega, ?_⟩ fun k k1 k2 => ?_
    · rcases hv with hv | ⟨p, hp, hv⟩
      · exact .inl hv
      · exact .inr ⟨p, List.mem_cons_of_mem _ hp, hv⟩
    · show fillO S.f S.yo 1 z (hw 1 (ys ++ os)) (z + 1) S.yo = _
      unfold fillO
      rw [if_pos rfl]
    · show Pv (S.yo :: (ys ++ os)) (fillO S.f S.yo 1 z (hw 1 (ys ++ os)) (z + 1) (S.yo + k))
      unfold fillO
      rw [if_neg (by omega), if_pos (by omega)]
      cases e : ys ++ os with
      | nil => exact .inl rfl
      | cons p ps => exact .inr ⟨p, by simp, rfl⟩
  · intro x hx
    rw [starts_app z c7]
    rcases List.mem_cons.1 hx with rfl | hx
    · simp
    · exact List.mem_append_left _ (c8 x hx)

theorem ch_garb {S : MS} {z t n : Nat} {v : Int} {ys os : List Nat} (C : CH S z ys os) (ht : t ≤ 258) (hn : n ≤ 4000) (hr : S.yo + n + 1 ≤ S.nu) (hv : v = 1 ∨ v = hw 1 (ys ++ os)) : CH { S with yo := S.yo + n + 1, f := fillO S.f S.yo t n v (n + 1) } z ys os := by
  obtain ⟨⟨a1, a2, a3, a4, a5, a6, a7, a8⟩, c2, c3, c4, c5, c6, zs, c7, c8⟩ := C
  have C : CH S z ys os := ⟨⟨a1, a2, a3, a4, a5, a6, a7, a8⟩, c2, c3, c4, c5, c6, zs, c7, c8⟩
  refine ⟨⟨a1, a2, a3, a4, by dsimp only; omega, hr, a7, a8⟩, c2, lt_congr c3 fun p hp k hk => ?_, dn_mono c4 (by dsimp only; omega), c5, c6, zs ++ [n], ?_, ?_⟩
  · refine fillO_out _ _ _ _ _ _ ?_
    rcases List.mem_append.1 hp with hp | hp
    · have := dn_mem c4 hp
      omega
    · have := C.om hp
      omega
  · refine layp_app hn (layp_congr (fun v hv => hv) c7 fun i i1 i2 => fillO_out _ _ _ _ _ _ (.inl i2)) ⟨t, ht, ?_⟩ fun k k1 k2 => ?_
    · show fillO S.f S.yo t n v (n + 1) S.yo = _
      unfold fillO
      rw [if_pos rfl]
    · show Pv (ys ++ os) (fillO S.f S.yo t n v (n + 1) (S.yo + k))
      unfold fillO
      rw [if_neg (by omega), if_pos (by omega)]
      rcases hv with rfl | rfl
      · exact .inl rfl
      · cases e : ys ++ os with
        | nil => exact .inl rfl
        | cons p ps => exact .inr ⟨p, by simp, rfl⟩
  · intro x hx
    rw [starts_app n c7]
    exact List.mem_append_left _ (c8 x hx)

/-- The numbers that never change. -/
def SameK (S S' : MS) : Prop := S'.M = S.M ∧ S'.nu = S.nu ∧ S'.ha = S.ha

theorem SameK.refl (S : MS) : SameK S S := ⟨rfl, rfl, rfl⟩
theorem SameK.trans {S1 S2 S3 : MS} (a : SameK S1 S2) (c : SameK S2 S3) : SameK S1 S3 := ⟨c.1.trans a.1, c.2.1.trans a.2.1, c.2.2.trans a.2.2⟩

theorem hw_hw (t : Int) (ys os : List Nat) : hw t (ys ++ os) = hw (hw t os) ys := by cases ys <;> rfl

section
variable {h : Heap} {b q : Nat} {S : MS}

theorem minor_full (H : MP h b q S) (B : MB S) (hroom : S.fr + S.ha + 1 < S.ol + S.yo) (rb : Nat) : E 20 [.ptr (some ⟨b, 0, 0⟩), .sl (.pos ⟨rb, 0, 0⟩) 1] h = some (.tup [.sl .nil 0, .int .i64 16], h) := by
  obtain ⟨a1, a2, a3, a4, a5, a6, a7, a8⟩ := B
  rw [e20, letK_eq, if_neg (by simp), atP_of, add_mk, H.r6, gI_of, atP_of, add_mk, H.r3, gI_of, letK_eq, wrap64 (x := (S.ol : Int) + S.yo) (by omega) (by omega), letK_eq, wrap64 (by omega) (by omega), atP_of, add_mk, H.r5, gI_of, atP_of, add_mk, H.r4, gI_of, letK_eq, wrap64 (by omega) (by omega), letK_eq, if_pos (by simp <;> omega)]

/-- Minor keeps the chain: either it refuses, or it moves the chain out of the nursery. -/
theorem ch_minor {z : Nat} {ys os : List Nat} (H : MP h b q S) (C : CH S z ys os) (hz : 1 ≤ z) (hz2 : z ≤ 4000) {rb : Nat} (hrb : Root h rb (hw 1 (ys ++ os))) (rn1 : rb ≠ b) (rn2 : rb ≠ q) :
    (E 20 [.ptr (some ⟨b, 0, 0⟩), .sl (.pos ⟨rb, 0, 0⟩) 1] h = some (.tup [.sl .nil 0, .int .i64 16], h)) ∨
    ∃ h' S' os' ob, E 20 [.ptr (some ⟨b, 0, 0⟩), .sl (.pos ⟨rb, 0, 0⟩) 1] h = some (.tup [.sl (.pos ⟨ob, 0, 0⟩) 1, .int .i64 0], h') ∧ MP h' b q S' ∧ CH S' z [] os' ∧ os'.length = (ys ++ os).length ∧ SameK S S' ∧ Root h' ob (hw 1 os') ∧ ob ≠ b ∧ ob ≠ q ∧ ButL [q, b] h h' := by
  by_cases hroom : S.ol + S.yo ≤ S.fr + S.ha + 1
  · refine .inr ?_
    have hob := fun x hx => CH.om (x := x) C hx
    have hbd := hw_bd C
    obtain ⟨⟨a1, a2, a3, a4, a5, a6, a7, a8⟩, c2, c3, c4, c5, c6, zs, c7, c8⟩ := C
    have B : MB S := ⟨a1, a2, a3, a4, a5, a6, a7, a8⟩
    obtain ⟨L1, L2⟩ := lt_app.1 c3
    have hfit := dn_fit c4 a5
    have ht : -4294967296 ≤ hw 1 os ∧ hw 1 os ≤ 4294967296 ∧ (hw 1 os % 2 = 1 ∨ yng S.nu (hw 1 os) = false) := by
      cases os with
      | nil => exact ⟨by show (-4294967296 : Int) ≤ 1; omega, by show (1 : Int) ≤ 4294967296; omega, .inl rfl⟩
      | cons p ps =>
        have := hob p (by simp)
        refine ⟨by show (-4294967296 : Int) ≤ 2 * (p : Int); omega, by show 2 * (p : Int) ≤ 4294967296; omega, .inr ?_⟩
        show yng S.nu (2 * (p : Int)) = false
        rw [yng_ptr _ _ (by omega)]
        simp; omega
    rw [hw_hw] at hrb
    obtain ⟨h', g', ob, r1, r2, r3, r4, r5, r6, r7, r8, r9⟩ := minor_one H B c2 (τ := 1) (z := z) (t := hw 1 os) (by omega) hz hz2 ht.1 ht.2.1 ht.2.2 ys L1 (fun x hx => by
      have := dn_mem c4 hx
      omega) (dn_nodup c4) hfit hroom hrb rn1 rn2
    refine ⟨h', _, img S.ol z ys.length ++ os, ob, r1, r2, ⟨⟨a1, a2, a3, a4, Nat.le_refl _, by dsimp only; omega, by dsimp only; omega, by dsimp only; omega⟩, rfl, ?_, trivial, ?_, ?_, [], rfl, by simp⟩, ?_, ⟨rfl, rfl, rfl⟩, by rw [hw_hw]; exact r3, r4, r5, r7⟩
    · show Lt g' 1 z 1 (img S.ol z ys.length ++ os)
      refine lt_app.2 ⟨r9, lt_congr L2 fun p hp k hk => r8 _ (.inl ?_)⟩
      have := hob _ hp
      omega
    · show (img S.ol z ys.length ++ os).Perm (img S.fr z (img S.ol z ys.length ++ os).length)
      rw [List.length_append, img_len, Nat.add_comm, img_app, ← c6]
      exact List.perm_append_comm.trans (c5.append_right _)
    · show S.ol + ys.length * (z + 1) = S.fr + (img S.ol z ys.length ++ os).length * (z + 1)
      rw [List.length_append, img_len, Nat.add_mul, c6]
      omega
    · rw [List.length_append, List.length_append, img_len]
  · exact .inl (minor_full H C.B (by omega) rb)

theorem ch_major {z : Nat} {ys os : List Nat} (H : MP h b q S) (C : CH S z ys os) (hz : 1 ≤ z) (hz2 : z ≤ 4000) (hcap : (ys ++ os).length * (z + 1) ≤ S.ha) {rb : Nat} (hrb : Root h rb (hw 1 (ys ++ os))) (rn1 : rb ≠ b) (rn2 : rb ≠ q) :
    ∃ h' S' os' ob, E 19 [.ptr (some ⟨b, 0, 0⟩), .sl (.pos ⟨rb, 0, 0⟩) 1] h = some (.tup [.sl (.pos ⟨ob, 0, 0⟩) 1, .int .i64 0], h') ∧ MP h' b q S' ∧ CH S' z [] os' ∧ os'.length = (ys ++ os).length ∧ SameK S S' ∧ S'.yo = 1 ∧ Root h' ob (hw 1 os') ∧ ob ≠ b ∧ ob ≠ q ∧ ButL [q, b] h h' := by
  have hob := fun x hx => CH.om (x := x) C hx
  have hnd := C.nodup
  obtain ⟨⟨a1, a2, a3, a4, a5, a6, a7, a8⟩, c2, c3, c4, c5, c6, zs, c7, c8⟩ := C
  have B : MB S := ⟨a1, a2, a3, a4, a5, a6, a7, a8⟩
  obtain ⟨h', g', ob, to, r1, r0, r2, r3, r4, r5, r6, r7, r9⟩ := major_one H B (τ := 1) (z := z) (t := 1) (by omega) hz hz2 (by omega) (by omega) (by omega) (ys ++ os) c3 (fun x hx => by
      rcases List.mem_append.1 hx with hx | hx
      · have := dn_mem c4 hx
        exact .inl (by omega)
      · have := hob _ hx
        exact .inr (by omega)) hnd hcap hrb rn1 rn2
  refine ⟨h', _, img to z (ys ++ os).length, ob, r1, r2, ⟨⟨a1, a2, a3, r0, Nat.le_refl _, by dsimp only; omega, by dsimp only; omega, by dsimp only; omega⟩, rfl, r9, trivial, ?_, ?_, [], rfl, by simp⟩, img_len _ _ _, ⟨rfl, rfl, rfl⟩, rfl, r3, r4, r5, r7⟩
  · show (img to z (ys ++ os).length).Perm (img to z (img to z (ys ++ os).length).length)
    rw [img_len]
  · show to + (ys ++ os).length * (z + 1) = to + (img to z (ys ++ os).length).length * (z + 1)
    rw [img_len]
end

theorem ch_new {S : MS} {z : Nat} (B : MB S) (h1 : S.yo = 1) (h2 : S.ol = S.fr) (h3 : S.rn = 0) : CH S z [] [] := by
  refine ⟨B, h3, trivial, trivial, List.Perm.refl _, by simp [h2], [], h1.symm, by simp⟩

end Go.Proofs.Ytecgpcpgklholaa.K

/- heap: the function chain of the laws. -/
set_option linter.unusedVariables false
set_option linter.unusedSimpArgs false
namespace Go.Proofs.Ytecgpcpgklholaa.K
open Go Go.Proofs.Ytecgpcpgklholaa.Abs Go.Proofs

theorem fnK_of {R : Type} (f : FuncId) (a c : List AV) (K : FuncId → List AV → List AV → Option R) : fnK (.fn f a c) K = K f a c := rfl

theorem root_new (h : Heap) (v : Int) : Root (h ++ [.cells [.int .i64 v] (.grow 1) 0]) h.length v := ⟨_, last_get _ _⟩

theorem Root.ld {h : Heap} {ob : Nat} {v : Int} (R : Root h ob v) : ld1 h ⟨ob, 0, 0 + 0 * 1⟩ = some (.int .i64 v) := by
  obtain ⟨m, hm⟩ := R
  exact ld1_at hm rfl rfl

theorem MP.app {h : Heap} {b q : Nat} {S : MS} (H : MP h b q S) (l : Heap) : MP (h ++ l) b q S := ⟨app_old H.c, app_old H.m, H.ne⟩

/-- Minor and Major, one after the other. -/
theorem both_ok {b q z : Nat} (hz : 1 ≤ z) (hz2 : z ≤ 3) {h : Heap} {S : MS} {ys os : List Nat} (H : MP h b q S) (C : CH S z ys os) (hcap : (ys ++ os).length * (z + 1) ≤ S.ha) {fb : Nat} (hf : h[fb]? = some (.cells [.fn 20 [.ptr (some ⟨b, 0, 0⟩)] [], .fn 19 [.ptr (some ⟨b, 0, 0⟩)] []] (.grow 1) 0)) (f1 : fb ≠ b) (f2 : fb ≠ q) (i15 i16 : Int) (Q : Kont (AV × Heap)) :
    ∃ h' S' os', L18x17 mk0 E (some ⟨b, 0, 0⟩) ((z : Nat) : Int) (hw 1 (ys ++ os)) i15 i16 (.pos ⟨fb, 0, 0⟩) 2 2 0 h (Q18x17 mk0 E Q) = J18x29 mk0 E (some ⟨b, 0, 0⟩) ((z : Nat) : Int) (hw 1 os') i15 i16 h' Q ∧ MP h' b q S' ∧ CH S' z [] os' ∧ os'.length = (ys ++ os).length ∧ SameK S S' ∧ S'.yo = 1 ∧ ButL [q, b] h h' := by
  -- the second round
  have second : ∀ (h : Heap) (S : MS) (ys os : List Nat), MP h b q S → CH S z ys os → (ys ++ os).length * (z + 1) ≤ S.ha → h[fb]? = some (.cells [.fn 20 [.ptr (some ⟨b, 0, 0⟩)] [], .fn 19 [.ptr (some ⟨b, 0, 0⟩)] []] (.grow 1) 0) →
      ∃ h' S' os', L18x17 mk0 E (some ⟨b, 0, 0⟩) ((z : Nat) : Int) (hw 1 (ys ++ os)) i15 i16 (.pos ⟨fb, 0, 0⟩) 2 2 1 h (Q18x17 mk0 E Q) = J18x29 mk0 E (some ⟨b, 0, 0⟩) ((z : Nat) : Int) (hw 1 os') i15 i16 h' Q ∧ MP h' b q S' ∧ CH S' z [] os' ∧ os'.length = (ys ++ os).length ∧ SameK S S' ∧ S'.yo = 1 ∧ ButL [q, b] h h' := by
    intro h S ys os H C hcap hf
    have r1 : ld1 h ⟨fb, 0, 0 + 1 * 1⟩ = some (.fn 19 [.ptr (some ⟨b, 0, 0⟩)] []) := ld1_at hf rfl rfl
    have hbl := lt_of_get H.c
    have hql := lt_of_get H.m
    obtain ⟨h', S', os', ob, m1, m2, m3, m4, m5, m6, m7, m8, m9, m10⟩ := ch_major (H.app [.cells [.int .i64 (hw 1 (ys ++ os))] (.grow 1) 0]) C hz (by omega) hcap (root_new h _) (by omega) (by omega)
    rw [L18x17xeq, letK_eq, if_pos (by simp), chk_of (by intro _; omega), adP_pos, atP_of, add_mk, show Int.toNat 1 = 1 from rfl, r1, gF_of, newK_eq, fnK_of]
    simp only [List.cons_append, List.nil_append, List.append_nil]
    rw [m1, Option.bind_some, gT2_of]
    simp only [List.getD_cons_zero, List.getD_cons_succ]
    rw [gL_of, gI_of, letK_eq, letK_eq, letK_eq, if_pos (by simp), chk_of (by intro _; omega), adP_pos, atP_of, add_mk, show Int.toNat 0 = 0 from rfl, m7.ld, gI_of, J18x28xeq, letK_eq, wrap64 (by omega) (by omega), L18x17xeq, letK_eq, if_neg (by simp), X18x17xe2]
    exact ⟨h', S', os', rfl, m2, m3, m4, m5, m6, (ButL.of_old (old_app _ _)).trans m10⟩
  have r0 : ld1 h ⟨fb, 0, 0 + 0 * 1⟩ = some (.fn 20 [.ptr (some ⟨b, 0, 0⟩)] []) := ld1_at hf rfl rfl
  have hbl := lt_of_get H.c
  have hql := lt_of_get H.m
  rw [L18x17xeq, letK_eq, if_pos (by simp), chk_of (by intro _; omega), adP_pos, atP_of, add_mk, show Int.toNat 0 = 0 from rfl, r0, gF_of, newK_eq, fnK_of]
  simp only [List.cons_append, List.nil_append, List.append_nil]
  rcases ch_minor (H.app [.cells [.int .i64 (hw 1 (ys ++ os))] (.grow 1) 0]) C hz (by omega) (root_new h _) (by omega) (by omega) with m | ⟨h1, S1, os1, ob, m1, m2, m3, m4, m5, m7, m8, m9, m10⟩
  · rw [m, Option.bind_some, gT2_of]
    simp only [List.getD_cons_zero, List.getD_cons_succ]
    rw [gL_of, gI_of, letK_eq, letK_eq, letK_eq, if_neg (by simp), J18x28xeq, letK_eq, wrap64 (by omega) (by omega)]
    obtain ⟨h', S', os', s1, s2, s3, s4, s5, s6, s7⟩ := second _ S ys os (H.app _) C hcap (app_old hf)
    exact ⟨h', S', os', s1, s2, s3, s4, s5, s6, (ButL.of_old (old_app _ _)).trans s7⟩
  · rw [m1, Option.bind_some, gT2_of]
    simp only [List.getD_cons_zero, List.getD_cons_succ]
    rw [gL_of, gI_of, letK_eq, letK_eq, letK_eq, if_pos (by simp), chk_of (by intro _; omega), adP_pos, atP_of, add_mk, m7.ld, gI_of, J18x28xeq, letK_eq, wrap64 (by omega) (by omega)]
    obtain ⟨h', S', os', s1, s2, s3, s4, s5, s6, s7⟩ := second h1 S1 [] os1 m2 m3 (by
      rw [List.nil_append, m4, m5.2.2]; exact hcap) (m10 _ _ (app_old hf) (by simp; omega))
    exact ⟨h', S', os', s1, s2, s3, s4.trans m4, m5.trans s5, s6, ((ButL.of_old (old_app _ _)).trans m10).trans s7⟩

theorem chain_loop {b q z many : Nat} (hz : 1 ≤ z) (hz2 : z ≤ 3) (hm : many ≤ 1000) : ∀ (j k : Nat), k + j = many → ∀ (h : Heap) (S : MS) (ys os : List Nat), MP h b q S → CH S z ys os → (ys ++ os).length = k → many * (z + 1) ≤ S.ha →
    ∃ h' S' ys' os', L18x5 mk0 E (some ⟨b, 0, 0⟩) ((z : Nat) : Int) (hw 1 (ys ++ os)) ((many : Nat) : Int) ((k : Nat) : Int) h (Q18x5 mk0 E) = some (.tup [.int .i64 (hw 1 (ys' ++ os')), .bool true], h') ∧ MP h' b q S' ∧ CH S' z ys' os' ∧ (ys' ++ os').length = many ∧ SameK S S' ∧ ButL [q, b] h h' := by
  intro j
  induction j with
  | zero =>
    intro k hk h S ys os H C hl hcap
    obtain rfl : k = many := by omega
    rw [L18x5xeq, letK_eq, if_neg (by simp), X18x5xe0]
    exact ⟨h, S, ys, os, rfl, H, C, hl, SameK.refl _, ButL.refl _ _⟩
  | succ j ih =>
    intro k hk h S ys os H C hl hcap
    have hnu := C.B.nu
    have hkm : k * (z + 1) ≤ S.ha := Nat.le_trans (Nat.mul_le_mul_right _ (by omega)) hcap
    -- behind the collections
    have next : ∀ (h : Heap) (S : MS) (ys os : List Nat), MP h b q S → CH S z ys os → (ys ++ os).length = k → many * (z + 1) ≤ S.ha → S.yo + z + 1 ≤ S.nu →
        ∃ h' S' ys' os', J18x29 mk0 E (some ⟨b, 0, 0⟩) ((z : Nat) : Int) (hw 1 (ys ++ os)) ((many : Nat) : Int) ((k : Nat) : Int) h (Q18x5 mk0 E) = some (.tup [.int .i64 (hw 1 (ys' ++ os')), .bool true], h') ∧ MP h' b q S' ∧ CH S' z ys' os' ∧ (ys' ++ os').length = many ∧ SameK S S' ∧ ButL [q, b] h h' := by
      intro h S ys os H C hl hcap hr
      have hnu := C.B.nu
      have hbd := hw_bd C
      obtain ⟨h2, a1, a2, a3⟩ := alloc_of (t := 1) (n := z) H C.B (by omega) (by omega) (by omega) hr (v := hw 1 (ys ++ os)) (by omega) (by omega)
      have a1' : E 14 [.ptr (some ⟨b, 0, 0⟩), .int .i64 1, .int .i64 ((z : Nat) : Int), .int .i64 (hw 1 (ys ++ os))] h = some (.tup [.int .i64 (2 * (S.yo : Int)), .int .i64 0], h2) := a1
      rw [J18x29xeq, a1', Option.bind_some, gT2_of]
      simp only [List.getD_cons_zero, List.getD_cons_succ]
      rw [gI_of, gI_of, letK_eq, if_neg (by simp), letK_eq, wrap64 (by omega) (by omega), show ((k : Int) + 1) = ((k + 1 : Nat) : Int) by omega]
      obtain ⟨h', S', ys', os', r1, r2, r3, r4, r5, r6⟩ := ih (k + 1) (by omega) h2 _ (S.yo :: ys) os a2 (ch_alloc C (by omega) hr) (by simp only [List.cons_append, List.length_cons, hl]) hcap
      exact ⟨h', S', ys', os', r1, r2, r3, r4, SameK.trans ⟨rfl, rfl, rfl⟩ r5, a3.trans r6⟩
    rw [L18x5xeq, letK_eq, if_pos (by simp; omega), room_of H C.B (by omega), Option.bind_some, gB_of]
    by_cases hr : S.yo + z + 1 ≤ S.nu
    · rw [decide_eq_true hr, if_neg (by simp)]
      exact next h S ys os H C hl hcap hr
    · rw [decide_eq_false hr, if_pos (by simp), newK_eq]
      have hbl := lt_of_get H.c
      have hql := lt_of_get H.m
      obtain ⟨h2, S2, os2, c1, c2, c3, c4, c5, c6, c7⟩ := both_ok hz hz2 (H.app [.cells [.fn 20 [.ptr (some ⟨b, 0, 0⟩)] [], .fn 19 [.ptr (some ⟨b, 0, 0⟩)] []] (.grow 1) 0]) C (by rw [hl]; exact hkm) (fb := h.length) (last_get _ _) (by omega) (by omega) ((many : Nat) : Int) ((k : Nat) : Int) (Q18x5 mk0 E)
      have c1' : L18x17 mk0 E (some ⟨b, 0, 0⟩) ((z : Nat) : Int) (hw 1 (ys ++ os)) ((many : Nat) : Int) ((k : Nat) : Int) (.pos ⟨h.length, 0, 0⟩) 2 ((2 : Nat) : Int) 0 (h ++ [.cells [.fn 20 [.ptr (some ⟨b, 0, 0⟩)] [], .fn 19 [.ptr (some ⟨b, 0, 0⟩)] []] (.grow 1) 0]) (Q18x17 mk0 E (Q18x5 mk0 E)) = _ := c1
      have e2 := c5.2.1
      have e3 := c5.2.2
      rw [c1']
      obtain ⟨h', S', ys', os', r1, r2, r3, r4, r5, r6⟩ := next h2 S2 [] os2 c2 c3 (by rw [List.nil_append, c4, hl]) (by rw [e3]; exact hcap) (by omega)
      exact ⟨h', S', ys', os', r1, r2, r3, r4, c5.trans r5, ((ButL.of_old (old_app _ _)).trans c7).trans r6⟩

theorem chain_ok {b q z many : Nat} (hz : 1 ≤ z) (hz2 : z ≤ 3) (hm : many ≤ 1000) {h : Heap} {S : MS} (H : MP h b q S) (C : CH S z [] []) (hcap : many * (z + 1) ≤ S.ha) :
    ∃ h' S' ys' os', E 18 [.ptr (some ⟨b, 0, 0⟩), .int .i64 ((many : Nat) : Int), .int .i64 ((z : Nat) : Int)] h = some (.tup [.int .i64 (hw 1 (ys' ++ os')), .bool true], h') ∧ MP h' b q S' ∧ CH S' z ys' os' ∧ (ys' ++ os').length = many ∧ SameK S S' ∧ ButL [q, b] h h' := by
  rw [e18]
  exact chain_loop hz hz2 hm many 0 (by omega) h S [] [] H C rfl hcap
end Go.Proofs.Ytecgpcpgklholaa.K
