/- color: count, degree. -/
import Derived.Test.YtnmdadadjneaiaaConDg
set_option linter.unusedVariables false
set_option linter.unusedSimpArgs false
namespace Go.Proofs.Ytnmdadadjneaiaa.D
open Go Go.Proofs.Ytnmdadadjneaiaa.Abs Go.Proofs
def cntB : List Bool → Nat
 | [] => 0
 | b :: l => (if b = true then 1 else 0) + cntB l
theorem cntB_le : ∀ l : List Bool, cntB l ≤ l.length := by
 intro l
 induction l with
 | nil => exact Nat.le_refl _
 | cons b l ih =>
  show (if b = true then 1 else 0) + cntB l ≤ l.length + 1
  split <;> omega
theorem cnt_loop {h : Heap} {q n : Nat} {l : List Bool} (hq : h[q]? = some (bits l)) (hl : l.length = n) (hn : n ≤ 1000000) (Q : Kont (AV × Heap)) :
 ∀ (k j : Nat), j + k = n → ∀ c : Nat, c ≤ j → L96x5 mk0 E ((c : Nat) : Int) (.pos ⟨q, 0, 0⟩) n ((n : Nat) : Int) ((j : Nat) : Int) h Q = Q (.exit 0) (S96xe0 ((c + cntB (l.drop j) : Nat) : Int) h) := by
 intro k
 induction k with
 | zero =>
  intro j hj c hc
  rw [L96x5xeq, letK_eq, if_neg (by simp; omega), List.drop_eq_nil_of_le (by omega)]
  rfl
 | succ k ih =>
  intro j hj c hc
  obtain ⟨b, hb⟩ := at_lt (l := l) (i := j) (by omega)
  rw [L96x5xeq, letK_eq, if_pos (by simp; omega), chk_of (by intro _; omega), adP_pos, atP_of, Int.toNat_natCast, add_mk, bits_get hq hb, gB_of, drop_at hb]
  cases b with
  | true =>
   rw [if_pos rfl, letK_eq, wrap64 (by omega) (by omega), J96x15xeq, letK_eq, wrap64 (by omega) (by omega), show ((j : Int) + 1) = ((j + 1 : Nat) : Int) by omega, show ((c : Int) + 1) = ((c + 1 : Nat) : Int) by omega, ih (j + 1) (by omega) (c + 1) (by omega), show c + 1 + cntB (l.drop (j + 1)) = c + cntB (true :: l.drop (j + 1)) by show _ = c + (1 + _); omega]
  | false =>
   rw [if_neg (show ¬ (false = true) from fun h => by cases h), J96x15xeq, letK_eq, wrap64 (by omega) (by omega), show ((j : Int) + 1) = ((j + 1 : Nat) : Int) by omega, ih (j + 1) (by omega) c (by omega), show c + cntB (l.drop (j + 1)) = c + cntB (false :: l.drop (j + 1)) by show _ = c + (0 + _); omega]
theorem cnt_ok {h : Heap} {q n : Nat} {l : List Bool} (hq : h[q]? = some (bits l)) (hl : l.length = n) (hn : n ≤ 1000000) : E 96 [.sl (.pos ⟨q, 0, 0⟩) n] h = some (.int .i64 ((cntB l : Nat) : Int), h) := by
 have e := cnt_loop hq hl hn (Q96x5 mk0 E) n 0 (by omega) 0 (by omega)
 rw [show (((0 : Nat) : Int)) = 0 from rfl, List.drop_zero, Nat.zero_add] at e
 rw [e96, e, X96x5xe0]
def sigF (L : List (List Bool)) (k : Int) : Nat → List Bool → Nat
 | _, [] => 0
 | j, b :: l => (if b = true ∧ k ≤ ((cntB (L.getD j []) : Nat) : Int) then 1 else 0) + sigF L k (j + 1) l
theorem deg_loop {h : Heap} {g : Gr} {n r q : Nat} {M : List Bool} (H : GM h g n) (hn : n ≤ 1000000) (hq : h[q]? = some (bits M)) (hM : M.length = n) (kk : Int) (Q : Kont (AV × Heap)) :
 ∀ (k j : Nat), j + k = n → ∀ c s : Nat, c ≤ j → s ≤ j → L81x4 mk0 E (some ⟨g.G, 0, 0⟩) kk ((c : Nat) : Int) ((s : Nat) : Int) (.pos ⟨q, 0, 0⟩) n ((n : Nat) : Int) ((j : Nat) : Int) h Q = Q (.exit 0) (S81xe0 ((c + cntB (M.drop j) : Nat) : Int) ((s + sigF g.L kk j (M.drop j) : Nat) : Int) h) := by
 have rd := H.ld 0 (.sl (.pos ⟨g.B, g.v, 0⟩) n) rfl rfl
 intro k
 induction k with
 | zero =>
  intro j hj c s hc hs
  rw [L81x4xeq, letK_eq, if_neg (by simp; omega), List.drop_eq_nil_of_le (by omega)]
  rfl
 | succ k ih =>
  intro j hj c s hc hs
  obtain ⟨b, hb⟩ := at_lt (l := M) (i := j) (by omega)
  rw [L81x4xeq, letK_eq, if_pos (by simp; omega), chk_of (by intro _; omega), adP_pos, atP_of, Int.toNat_natCast, add_mk, bits_get hq hb, gB_of, drop_at hb]
  cases b with
  | false =>
   rw [if_pos (show (!false) = true from rfl), J81x20xeq, letK_eq, wrap64 (by omega) (by omega), show ((j : Int) + 1) = ((j + 1 : Nat) : Int) by omega, ih (j + 1) (by omega) c s (by omega) (by omega), show c + cntB (false :: M.drop (j + 1)) = c + cntB (M.drop (j + 1)) by show c + (0 + _) = _; omega, show s + sigF g.L kk j (false :: M.drop (j + 1)) = s + sigF g.L kk (j + 1) (M.drop (j + 1)) by
    show s + ((if false = true ∧ _ then 1 else 0) + _) = _
    rw [if_neg (fun h => by cases h.1)]; omega]
  | true =>
   obtain ⟨q2, M2, s1, s2, s3, s4, s5, s6⟩ := H.row (j := j) (by omega)
   have gL : g.L.getD j [] = M2 := by simp [List.getD, s2]
   rw [if_neg (show ¬ ((!true) = true) from fun h => by cases h), letK_eq, wrap64 (x := (c : Int) + 1) (by omega) (by omega), atP_of, add_mk, rd, gL_of, chk_of (by intro _; omega), adP_pos, atP_of, add_mk, s5, gL_of, cnt_ok s3 s4 hn, Option.bind_some, gI_of, letK_eq, show ((c : Int) + 1) = ((c + 1 : Nat) : Int) by omega]
   dsimp only
   have ec : c + cntB (true :: M.drop (j + 1)) = c + 1 + cntB (M.drop (j + 1)) := by show c + (1 + _) = _; omega
   by_cases hk : kk ≤ ((cntB M2 : Nat) : Int)
   · rw [if_pos (decide_eq_true hk), letK_eq, wrap64 (x := (s : Int) + 1) (by omega) (by omega), J81x19xeq, J81x20xeq, letK_eq, wrap64 (x := (j : Int) + 1) (by omega) (by omega), show ((j : Int) + 1) = ((j + 1 : Nat) : Int) by omega, show ((s : Int) + 1) = ((s + 1 : Nat) : Int) by omega, ih (j + 1) (by omega) (c + 1) (s + 1) (by omega) (by omega), ec, show s + sigF g.L kk j (true :: M.drop (j + 1)) = s + 1 + sigF g.L kk (j + 1) (M.drop (j + 1)) by
      show s + ((if true = true ∧ _ then 1 else 0) + _) = _
      rw [gL, if_pos ⟨rfl, hk⟩]; omega]
   · rw [if_neg (by simpa using hk), J81x19xeq, J81x20xeq, letK_eq, wrap64 (x := (j : Int) + 1) (by omega) (by omega), show ((j : Int) + 1) = ((j + 1 : Nat) : Int) by omega, ih (j + 1) (by omega) (c + 1) s (by omega) (by omega), ec, show s + sigF g.L kk j (true :: M.drop (j + 1)) = s + sigF g.L kk (j + 1) (M.drop (j + 1)) by
      show s + ((if true = true ∧ _ then 1 else 0) + _) = _
      rw [gL, if_neg (fun h => hk h.2)]; omega]
theorem deg_ok {h : Heap} {g : Gr} {n r : Nat} (H : GM h g n) (hn : n ≤ 1000000) (hr : r < n) (kk : Int) :
 E 81 [.ptr (some ⟨g.G, 0, 0⟩), .int .i64 r, .int .i64 kk] h = some (.tup [.int .i64 ((cntB (g.L.getD r []) : Nat) : Int), .int .i64 ((sigF g.L kk 0 (g.L.getD r []) : Nat) : Int)], h) := by
 have rd := H.ld 0 (.sl (.pos ⟨g.B, g.v, 0⟩) n) rfl rfl
 obtain ⟨q, M, s1, s2, s3, s4, s5, s6⟩ := H.row hr
 have gL : g.L.getD r [] = M := by simp [List.getD, s2]
 have e := deg_loop (r := r) H hn s3 s4 kk (Q81x4 mk0 E) n 0 (by omega) 0 0 (by omega) (by omega)
 rw [show (((0 : Nat) : Int)) = 0 from rfl, List.drop_zero, Nat.zero_add, Nat.zero_add] at e
 rw [gL, e81, atP_of, add_mk, rd, gL_of, chk_of (by intro _; omega), adP_pos, atP_of, Int.toNat_natCast, add_mk, s5, gL_of, e, X81x4xe0]
end Go.Proofs.Ytnmdadadjneaiaa.D
/- color: least. -/
set_option linter.unusedVariables false
set_option linter.unusedSimpArgs false
namespace Go.Proofs.Ytnmdadadjneaiaa.D
open Go Go.Proofs.Ytnmdadadjneaiaa.Abs Go.Proofs
theorem pig {α : Type} [DecidableEq α] : ∀ (l m : List α), l.Nodup → (∀ x ∈ l, x ∈ m) → l.length ≤ m.length := by
 intro l
 induction l with
 | nil => intro m _ _; exact Nat.zero_le _
 | cons x l ih =>
  intro m nd sub
  obtain ⟨n1, n2⟩ := List.nodup_cons.1 nd
  have hx := sub x (by simp)
  have := ih (m.erase x) n2 fun y hy => (List.mem_erase_of_ne (fun e => n1 (by rw [← e]; exact hy))).2 (sub y (by simp [hy]))
  rw [List.length_erase_of_mem hx] at this
  have := List.length_pos_of_mem hx
  rw [List.length_cons]
  omega
def took (M : List Bool) (out : List Int) (d : Int) : Prop := ∃ q : Nat, M[q]? = some true ∧ out[q]? = some d
theorem least_in {h : Heap} {q n : Nat} {M : List Bool} {out : List Int} {s3 : SA} (hq : h[q]? = some (bits M)) (hM : M.length = n) (V : VS intC 1 h s3 n out) (hn : n ≤ 1000000) (p0 : Option Ad) (r : Int) (Q : Kont (AV × Heap)) :
 ∀ (k j : Nat), j + k = n → ∀ (c : Int) (b : Bool), 0 ≤ c ∧ c ≤ 3000000 + j →
  ∃ c' b', L43x14 mk0 E p0 r s3 n c b (.pos ⟨q, 0, 0⟩) n ((n : Nat) : Int) ((j : Nat) : Int) h Q = Q (.exit 2) (S43xe2 p0 r s3 n c' b' h) ∧ c ≤ c' ∧ c' ≤ 3000000 + n ∧ (∀ d, c ≤ d → d < c' → took M out d) ∧ (b' = false → b = false ∧ c' = c ∧ ∀ i, j ≤ i → M[i]? = some true → out[i]? ≠ some c) ∧ (b' = true → b = true ∨ c < c') := by
 have ol := V.1
 intro k
 induction k with
 | zero =>
  intro j hj c b hc
  rw [L43x14xeq, letK_eq, if_neg (by simp; omega)]
  exact ⟨c, b, rfl, by omega, by omega, fun d h1 h2 => by omega, fun hb => ⟨hb, rfl, fun i h1 h2 => by have := (List.getElem?_eq_some_iff.1 h2).1; omega⟩, fun hb => .inl hb⟩
 | succ k ih =>
  intro j hj c b hc
  obtain ⟨x, hx⟩ := at_lt (l := M) (i := j) (by omega)
  obtain ⟨y, hy⟩ := at_lt (l := out) (i := j) (by omega)
  obtain ⟨a, ha, la⟩ := vs_ld1 (g := AV.int .i64) V (fun _ => rfl) j y hy
  rw [L43x14xeq, letK_eq, if_pos (by simp; omega), chk_of (by intro _; omega), adP_pos, atP_of, Int.toNat_natCast, add_mk, bits_get hq hx, gB_of, chk_of (by intro _; omega), ha, atP_of, atP_of, la, gI_any, letK_eq, letK_eq]
  by_cases hc2 : x = true ∧ y = c
  · obtain ⟨rfl, rfl⟩ := hc2
    rw [if_pos (by simp), letK_eq, wrap64 (x := y + 1) (by omega) (by omega), J43x25xeq, letK_eq, wrap64 (x := (j : Int) + 1) (by omega) (by omega), show ((j : Int) + 1) = ((j + 1 : Nat) : Int) by omega]
    obtain ⟨c', b', r1, r2, r3, r4, r5, r6⟩ := ih (j + 1) (by omega) (y + 1) true (by omega)
    rw [r1]
    refine ⟨c', b', rfl, by omega, r3, fun d h1 h2 => ?_, fun hb => ?_, fun _ => .inr (by omega)⟩
    · by_cases e : d = y
      · rw [e]; exact ⟨j, hx, hy⟩
      · exact r4 d (by omega) h2
    · cases (r5 hb).1
  · rw [if_neg (by
     intro hh
     apply hc2
     cases x with
     | true => exact ⟨rfl, by simpa using hh⟩
     | false => simp at hh), J43x25xeq, letK_eq, wrap64 (x := (j : Int) + 1) (by omega) (by omega), show ((j : Int) + 1) = ((j + 1 : Nat) : Int) by omega]
    obtain ⟨c', b', r1, r2, r3, r4, r5, r6⟩ := ih (j + 1) (by omega) c b (by omega)
    rw [r1]
    refine ⟨c', b', rfl, r2, r3, r4, fun hb => ⟨(r5 hb).1, (r5 hb).2.1, fun i h1 h2 => ?_⟩, r6⟩
    by_cases e : i = j
    · rw [e] at h2 ⊢
      rw [hx] at h2; rw [hy]
      intro hh
      cases hh
      cases h2
      exact hc2 ⟨rfl, rfl⟩
    · exact (r5 hb).2.2 i (by omega) h2
theorem least_out {h : Heap} {g : Gr} {r q n : Nat} {M : List Bool} {out : List Int} {s3 : SA} (H : GM h g n) (hr : r < n) (hL : g.L[r]? = some M) (V : VS intC 1 h s3 n out) (hn : n ≤ 1000000) (st : Int) (hs : 0 ≤ st ∧ st ≤ 1000000) (Q : Kont (AV × Heap)) :
 ∀ (m : Nat) (c : Int), st ≤ c → c ≤ 2000000 → (∀ d, st ≤ d → d < c → took M out d) → n + 1 ≤ m + (c - st).toNat →
  ∃ c', L43x5 mk0 E (some ⟨g.G, 0, 0⟩) r s3 n c true h Q = Q (.exit 0) (S43xe0 c' h) ∧ c ≤ c' ∧ (∀ d, st ≤ d → d < c' → took M out d) ∧ ∀ i : Nat, M[i]? = some true → out[i]? ≠ some c' := by
 have rd := H.ld 0 (.sl (.pos ⟨g.B, g.v, 0⟩) n) rfl rfl
 obtain ⟨q, M', s1, s2, s3', s4, s5, s6⟩ := H.row hr
 rw [hL] at s2
 cases s2
 have ol := V.1
 have bound : ∀ c, (∀ d, st ≤ d → d < c → took M out d) → (c - st).toNat ≤ n := fun c hc => by
  have := pig ((List.range (c - st).toNat).map fun (i : Nat) => st + (i : Int)) out (List.pairwise_map.2 (List.nodup_range.imp fun hne e => hne (by omega))) (fun x hx => by
   obtain ⟨i, hi, rfl⟩ := List.mem_map.1 hx
   have := List.mem_range.1 hi
   obtain ⟨_, _, h2⟩ := hc (st + (i : Int)) (by omega) (by omega)
   exact List.mem_of_getElem? h2)
  rw [List.length_map, List.length_range] at this
  omega
 intro m
 induction m with
 | zero =>
  intro c h1 h1' h2 h3
  have := bound c h2
  omega
 | succ m ih =>
  intro c h1 h1' h2 h3
  obtain ⟨c', b', r1, r2, r3, r4, r5, r6⟩ := least_in s3' s4 V hn (some ⟨g.G, 0, 0⟩) r (Q43x14 mk0 E Q) n 0 (by omega) c false (by omega)
  rw [show (((0 : Nat) : Int)) = 0 from rfl] at r1
  rw [L43x5xeq, if_pos rfl, atP_of, add_mk, rd, gL_of, chk_of (by intro _; omega), adP_pos, atP_of, Int.toNat_natCast, add_mk, s5, gL_of, r1, X43x14xe2]
  have t : ∀ d, st ≤ d → d < c' → took M out d := fun d hd1 hd2 => by
   by_cases hdc : d < c
   · exact h2 d hd1 hdc
   · exact r4 d (by omega) hd2
  have bc := bound c' t
  cases b' with
  | false =>
   obtain ⟨_, e2, e3⟩ := r5 rfl
   subst e2
   rw [L43x5xeq, if_neg (show ¬ (false = true) from fun h => by cases h)]
   exact ⟨c', rfl, Int.le_refl _, h2, fun i hi => e3 i (Nat.zero_le _) hi⟩
  | true =>
   have lt : c < c' := by
    rcases r6 rfl with h | h
    · cases h
    · exact h
   obtain ⟨c'', u1, u2, u3, u4⟩ := ih c' (by omega) (by omega) t (by omega)
   exact ⟨c'', u1, by omega, u3, u4⟩
theorem least_ok {h : Heap} {g : Gr} {r n : Nat} {M : List Bool} {out : List Int} {s3 : SA} (H : GM h g n) (hr : r < n) (hL : g.L[r]? = some M) (V : VS intC 1 h s3 n out) (hn : n ≤ 1000000) (st : Int) (hs : 0 ≤ st ∧ st ≤ 1000000) :
 ∃ c, E 43 [.ptr (some ⟨g.G, 0, 0⟩), .int .i64 r, .int .i64 st, .sl s3 n] h = some (.int .i64 c, h) ∧ st ≤ c ∧ (∀ d, st ≤ d → d < c → took M out d) ∧ ∀ i : Nat, M[i]? = some true → out[i]? ≠ some c := by
 obtain ⟨c, r1, r2, r3, r4⟩ := least_out (q := 0) H hr hL V hn st hs (Q43x5 mk0 E) (n + 1) st (Int.le_refl _) (by omega) (fun d h1 h2 => by omega) (by omega)
 exact ⟨c, by rw [e43, r1, X43x5xe0], r2, r3, r4⟩
end Go.Proofs.Ytnmdadadjneaiaa.D
/- color: classes of registers (of). -/
set_option linter.unusedVariables false
set_option linter.unusedSimpArgs false
namespace Go.Proofs.Ytnmdadadjneaiaa.D
open Go Go.Proofs.Ytnmdadadjneaiaa.Abs Go.Proofs
inductive Root (l : List Int) : Int → Int → Prop where
 | here {i : Int} : l[i.toNat]? = some i → Root l i i
 | go {i j r : Int} : l[i.toNat]? = some j → j ≠ i → Root l j r → Root l i r
theorem Root.det {l : List Int} {i r : Int} (h : Root l i r) : ∀ {r' : Int}, Root l i r' → r = r' := by
 induction h with
 | here e =>
  intro r' h'
  cases h' with
  | here => rfl
  | go e2 ne _ => rw [e] at e2; cases e2; exact absurd rfl ne
 | go e ne _ ih =>
  intro r' h'
  cases h' with
  | here e2 => rw [e] at e2; cases e2; exact absurd rfl ne
  | go e2 ne2 h2 => rw [e] at e2; cases e2; exact ih h2
theorem Root.self {l : List Int} {i r : Int} (h : Root l i r) : l[r.toNat]? = some r := by
 induction h with
 | here e => exact e
 | go _ _ _ ih => exact ih
theorem Root.bd {l : List Int} {n : Nat} (hl : ∀ x ∈ l, 0 ≤ x ∧ x < (n : Int)) {i r : Int} (h : Root l i r) : 0 ≤ r ∧ r < (n : Int) := hl r (List.mem_of_getElem? h.self)
theorem Root.merge {l : List Int} {n : Nat} (hl : ∀ x ∈ l, 0 ≤ x ∧ x < (n : Int)) {a b : Int} (ha : l[a.toNat]? = some a) (hb : l[b.toNat]? = some b) (ne : a ≠ b) {i r : Int} (h : Root l i r) : 0 ≤ i → Root (l.set b.toNat a) i (if r = b then a else r) := by
 have a0 := hl a (List.mem_of_getElem? ha)
 have b0 := hl b (List.mem_of_getElem? hb)
 have bl := (List.getElem?_eq_some_iff.1 hb).1
 have ra : Root (l.set b.toNat a) a a := .here (by rw [List.getElem?_set_ne (by omega)]; exact ha)
 induction h with
 | here e =>
  intro h0
  rename_i i
  by_cases hi : i = b
  · subst hi
    rw [if_pos rfl]
    exact .go (by rw [List.getElem?_set_self bl]) ne ra
  · rw [if_neg hi]
    exact .here (by rw [List.getElem?_set_ne (by omega)]; exact e)
 | go e nej h2 ih =>
  intro h0
  rename_i i j r
  have hib : i ≠ b := fun hh => by
   rw [hh, hb] at e
   cases e
   exact nej hh.symm
  exact .go (by rw [List.getElem?_set_ne (by omega)]; exact e) nej (ih (hl j (List.mem_of_getElem? e)).1)
theorem of_loop {h : Heap} {s : SA} {n : Nat} {l : List Int} (V : VS intC 1 h s n l) (hl : ∀ x ∈ l, 0 ≤ x ∧ x < (n : Int)) (Q : Kont (AV × Heap)) {i r : Int} (R : Root l i r) : 0 ≤ i ∧ i < (n : Int) → L44x3 mk0 E s n i h Q = Q (.exit 0) (S44xe0 r h) := by
 induction R with
 | here e =>
  rename_i i
  intro hi
  obtain ⟨a, ha, la⟩ := vs_ld1 (g := AV.int .i64) V (fun _ => rfl) i.toNat i e
  rw [L44x3xeq, chk_of (by intro _; omega), ha, atP_of, la, gI_of, letK_eq, if_neg (by simp)]
 | go e ne h2 ih =>
  rename_i i j r
  intro hi
  obtain ⟨a, ha, la⟩ := vs_ld1 (g := AV.int .i64) V (fun _ => rfl) i.toNat j e
  rw [L44x3xeq, chk_of (by intro _; omega), ha, atP_of, la, gI_of, letK_eq, if_pos (by simp [ne]), chk_of (by intro _; omega), atP_of, la, gI_of]
  exact ih (hl j (List.mem_of_getElem? e))
theorem of_ok {h : Heap} {s : SA} {n : Nat} {l : List Int} (V : VS intC 1 h s n l) (hl : ∀ x ∈ l, 0 ≤ x ∧ x < (n : Int)) {i r : Int} (R : Root l i r) (hi : 0 ≤ i ∧ i < (n : Int)) : E 44 [.sl s n, .int .i64 i] h = some (.int .i64 r, h) := by
 rw [e44, of_loop V hl (Q44x3 mk0 E) R hi, X44x3xe0]
def ofs0 (n : Nat) : List Int := (List.range n).map fun (i : Nat) => (i : Int)
theorem ofs0_get {n i : Nat} (h : i < n) : (ofs0 n)[i]? = some (i : Int) := by
 unfold ofs0
 rw [List.getElem?_map, List.getElem?_range h]; rfl
end Go.Proofs.Ytnmdadadjneaiaa.D
/- color.coalesce: edges taken away, edges joined. -/
set_option linter.unusedVariables false
set_option linter.unusedSimpArgs false
namespace Go.Proofs.Ytnmdadadjneaiaa.D
open Go Go.Proofs.Ytnmdadadjneaiaa.Abs Go.Proofs
theorem GM.edge2 {h : Heap} {g : Gr} {n : Nat} (H : GM h g n) {a b : Nat} (ha : a < n) (hb : b < n) (v : Bool) {q1 q2 : Nat} (h1 : g.qs[a]? = some q1) (h2 : g.qs[b]? = some q2) :
 ∃ h' h'' L', st1 h ⟨q1, 0, 0 + b * 1⟩ (.bool v) = some h' ∧ st1 h' ⟨q2, 0, 0 + a * 1⟩ (.bool v) = some h'' ∧ h''.length = h.length ∧ Kp (· ∈ g.own) h h'' ∧ GM h'' { g with L := L' } n ∧ gg L' = Go.Proofs.Ytnmdadadjneaiaa.D.edge (gg g.L) a b v := by
 by_cases hne : a = b
 · subst hne
   rw [h1] at h2
   cases h2
   have hll := H.ll
   obtain ⟨M1, hM1⟩ := at_lt (l := g.L) (i := a) (by omega)
   have m1 := (H.cell a q1 M1 h1 hM1).2
   obtain ⟨h', s1, s2, s3, s4⟩ := H.setbit h1 hM1 (r := a) ha v
   have hM2 : (g.L.set a (M1.set a v))[a]? = some (M1.set a v) := List.getElem?_set_self (by omega)
   obtain ⟨h'', t1, t2, t3, t4⟩ := s4.setbit h1 hM2 (r := a) ha v
   have ow : q1 ∈ g.own := by unfold Gr.own; simp [List.mem_of_getElem? h1]
   refine ⟨h', h'', _, s1, t1, by omega, (s3.mono fun z hz => by rw [hz]; exact ow).trans (t3.mono fun z hz => by rw [hz]; exact ow), t4, ?_⟩
   funext p q
   unfold Go.Proofs.Ytnmdadadjneaiaa.D.edge
   rw [gg_set hM2 (by rw [List.length_set]; omega), gg_set hM1 (by omega)]
   by_cases e1 : p = a ∧ q = a
   · rw [if_pos e1, if_pos (.inl e1)]
   · rw [if_neg e1, if_neg e1, if_neg (by rintro (e | e); exact e1 e; exact e1 e)]
 · exact H.edge ha hb hne v h1 h2
theorem edge_off (g : Nat → Nat → Bool) (a b p q : Nat) : Go.Proofs.Ytnmdadadjneaiaa.D.edge g a b false p q = true ↔ g p q = true ∧ ¬ (p = a ∧ q = b) ∧ ¬ (p = b ∧ q = a) := by
 unfold Go.Proofs.Ytnmdadadjneaiaa.D.edge
 by_cases hc : (p = a ∧ q = b) ∨ (p = b ∧ q = a)
 · rw [if_pos hc]
   exact ⟨fun h => (Bool.noConfusion h), fun h => hc.elim (fun e => absurd e h.2.1) fun e => absurd e h.2.2⟩
 · rw [if_neg hc]
   exact ⟨fun h => ⟨h, fun e => hc (.inl e), fun e => hc (.inr e)⟩, fun h => h.1⟩
theorem clear_loop {n b : Nat} (hb : b < n) (hn : n ≤ 1000000) (i1 : Int) (s5 : SA) (n5 : Nat) (i9 : Int) (s38 : SA) (n38 : Nat) (i39 i40 : Int) (Q : Kont (AV × Heap)) :
 ∀ (k j : Nat), j + k = n → ∀ (h : Heap) (g : Gr), GM h g n →
  ∃ h' L', L41x66 mk0 E (some ⟨g.G, 0, 0⟩) i1 s5 n5 i9 ((b : Nat) : Int) s38 n38 i39 i40 ((n : Nat) : Int) ((j : Nat) : Int) h Q = Q (.exit 8) (S41xe8 (some ⟨g.G, 0, 0⟩) i1 s5 n5 i9 ((b : Nat) : Int) s38 n38 i39 i40 h') ∧
   GM h' { g with L := L' } n ∧ Kp (· ∈ g.own) h h' ∧ h'.length = h.length ∧ ∀ p q, p < n → q < n → (gg L' p q = true ↔ gg g.L p q = true ∧ ¬ (p = b ∧ j ≤ q) ∧ ¬ (q = b ∧ j ≤ p)) := by
 intro k
 induction k with
 | zero =>
  intro j hj h g H
  rw [L41x66xeq, letK_eq, if_neg (by simp; omega)]
  exact ⟨h, g.L, rfl, H, Kp.refl _ _, rfl, fun p q hp hq => ⟨fun hh => ⟨hh, by omega, by omega⟩, fun hh => hh.1⟩⟩
 | succ k ih =>
  intro j hj h g H
  obtain ⟨q1, M1, r1, r2, r3, r4, r5, r6⟩ := H.row hb
  obtain ⟨q2, M2, s1, s2, s3, s4, s5', s6⟩ := H.row (j := j) (by omega)
  obtain ⟨h', h'', L1, t1, t2, t3, t4, t5, t6⟩ := H.edge2 hb (b := j) (by omega) false r1 s1
  have rd := H.ld 0 (.sl (.pos ⟨g.B, g.v, 0⟩) n) rfl rfl
  obtain ⟨h3, L3, u1, u2, u3, u4, u5⟩ := ih (j + 1) (by omega) h'' _ t5
  rw [L41x66xeq, letK_eq, if_pos (by simp; omega), atP_of, add_mk, rd, gL_of, chk_of (by intro _; omega), adP_pos, atP_of, Int.toNat_natCast, add_mk, r5, gL_of, atP_of, add_mk, rd, gL_of, chk_of (by intro _; omega), adP_pos, atP_of, Int.toNat_natCast, add_mk, s5', gL_of, chk_of (by intro _; omega), adP_pos, atP_of, add_mk, t1, Option.bind_some, chk_of (by intro _; omega), adP_pos, atP_of, add_mk, t2, Option.bind_some, letK_eq, wrap64 (x := (j : Int) + 1) (by omega) (by omega), show ((j : Int) + 1) = ((j + 1 : Nat) : Int) by omega, u1]
  refine ⟨h3, L3, rfl, u2, t4.trans u3, by omega, fun p q hp hq => ?_⟩
  rw [u5 p q hp hq]
  show gg L1 p q = true ∧ _ ↔ _
  rw [t6, edge_off]
  constructor
  · rintro ⟨⟨x1, x2, x3⟩, x4, x5⟩
    refine ⟨x1, fun hh => ?_, fun hh => ?_⟩
    · by_cases e : q = j
      · exact x2 ⟨hh.1, e⟩
      · exact x4 ⟨hh.1, by omega⟩
    · by_cases e : p = j
      · exact x3 ⟨e, hh.1⟩
      · exact x5 ⟨hh.1, by omega⟩
  · rintro ⟨x1, x2, x3⟩
    exact ⟨⟨x1, fun hh => x2 ⟨hh.1, by omega⟩, fun hh => x3 ⟨hh.2, by omega⟩⟩, fun hh => x2 ⟨hh.1, by omega⟩, fun hh => x3 ⟨hh.1, by omega⟩⟩
end Go.Proofs.Ytnmdadadjneaiaa.D
/- color.coalesce: edges joined. -/
set_option linter.unusedVariables false
set_option linter.unusedSimpArgs false
namespace Go.Proofs.Ytnmdadadjneaiaa.D
open Go Go.Proofs.Ytnmdadadjneaiaa.Abs Go.Proofs
def joinE (a b j : Nat) (E : Nat → Nat → Bool) (p q : Nat) : Prop := ∃ r, j ≤ r ∧ E b r = true ∧ a ≠ r ∧ a ≠ 0 ∧ r ≠ 0 ∧ ((p = a ∧ q = r) ∨ (p = r ∧ q = a))
theorem gg_cell {L : List (List Bool)} {i j : Nat} {M : List Bool} {x : Bool} (hM : L[i]? = some M) (hx : M[j]? = some x) : gg L i j = x := by
 simp [gg, List.getD, hM, hx]
theorem gg_lt {h : Heap} {g : Gr} {n : Nat} (H : GM h g n) {p q : Nat} (e : gg g.L p q = true) : p < n ∧ q < n := by
 have h1 := H.ll
 have h2 := H.lq
 by_cases hp : p < n
 · obtain ⟨M, hM⟩ := at_lt (l := g.L) (i := p) (by omega)
   obtain ⟨z, hz⟩ := at_lt (l := g.qs) (i := p) (by omega)
   have := (H.cell p z M hz hM).2
   refine ⟨hp, ?_⟩
   by_cases hq : q < n
   · exact hq
   · simp [gg, List.getD, hM, List.getElem?_eq_none (show M.length ≤ q by omega)] at e
 · simp [gg, List.getD, List.getElem?_eq_none (show g.L.length ≤ p by omega)] at e
theorem join_loop {n a b : Nat} (ha : a < n) (hb : b < n) (hab : a ≠ b) (hn : n ≤ 1000000) (i1 : Int) (s5 : SA) (n5 : Nat) (s11 : SA) (n11 : Nat) (s38 : SA) (n38 : Nat) (i39 i40 : Int) (Q : Kont (AV × Heap)) :
 ∀ (k j : Nat), j + k = n → ∀ (h : Heap) (g : Gr) (qb : Nat), GM h g n → g.qs[b]? = some qb → gg g.L b b = false →
  ∃ h' L', L41x33 mk0 E (some ⟨g.G, 0, 0⟩) i1 s5 n5 ((a : Nat) : Int) ((b : Nat) : Int) s11 n11 s38 n38 i39 i40 (.pos ⟨qb, 0, 0⟩) n ((n : Nat) : Int) ((j : Nat) : Int) h Q = Q (.exit 4) (S41xe4 (some ⟨g.G, 0, 0⟩) i1 s5 n5 ((a : Nat) : Int) ((b : Nat) : Int) s11 n11 s38 n38 i39 i40 h') ∧
   GM h' { g with L := L' } n ∧ Kp (· ∈ g.own) h h' ∧ h'.length = h.length ∧ ∀ p q, gg L' p q = true ↔ gg g.L p q = true ∨ joinE a b j (gg g.L) p q := by
 intro k
 induction k with
 | zero =>
  intro j hj h g qb H hqb hbb
  rw [L41x33xeq, letK_eq, if_neg (by simp; omega)]
  refine ⟨h, g.L, rfl, H, Kp.refl _ _, rfl, fun p q => ⟨.inl, fun hh => hh.elim id fun ⟨r, x1, x2, _⟩ => ?_⟩⟩
  have := (gg_lt H x2).2
  omega
 | succ k ih =>
  intro j hj h g qb H hqb hbb
  obtain ⟨q1, M1, r1, r2, r3, r4, r5, r6⟩ := H.row hb
  rw [hqb] at r1
  cases r1
  obtain ⟨x, hx⟩ := at_lt (l := M1) (i := j) (by omega)
  have ex := gg_cell r2 hx
  rw [L41x33xeq, letK_eq, if_pos (by simp; omega), chk_of (by intro _; omega), adP_pos, atP_of, Int.toNat_natCast, add_mk, bits_get r3 hx, gB_of]
  cases x with
  | false =>
   obtain ⟨h3, L3, u1, u2, u3, u4, u5⟩ := ih (j + 1) (by omega) h g qb H hqb hbb
   rw [if_neg (show ¬ (false = true) from fun h => by cases h), J41x43xeq, letK_eq, wrap64 (x := (j : Int) + 1) (by omega) (by omega), show ((j : Int) + 1) = ((j + 1 : Nat) : Int) by omega, u1]
   refine ⟨h3, L3, rfl, u2, u3, u4, fun p q => ?_⟩
   rw [u5]
   constructor
   · rintro (hh | ⟨r, x1, x2⟩)
     · exact .inl hh
     · exact .inr ⟨r, by omega, x2⟩
   · rintro (hh | ⟨r, x1, x2, x3⟩)
     · exact .inl hh
     · have : r ≠ j := fun e => by rw [e, ex] at x2; cases x2
       exact .inr ⟨r, by omega, x2, x3⟩
  | true =>
   have hbj : b ≠ j := fun e => by rw [← e, hbb] at ex; cases ex
   obtain ⟨h1, L1, a1, a2, a3, a4, a5⟩ := add_ok H ha (b := j) (by omega)
   have row : ∀ r, gg L1 b r = gg g.L b r := fun r => by
    apply Bool.eq_iff_iff.2
    rw [a5, addE_iff]
    refine ⟨fun hh => hh.elim id fun ⟨_, _, _, x⟩ => ?_, .inl⟩
    rcases x with x | x
    · exact absurd x.1.symm hab
    · exact absurd x.1 hbj
   obtain ⟨h3, L3, u1, u2, u3, u4, u5⟩ := ih (j + 1) (by omega) h1 { g with L := L1 } qb a4 hqb (by show gg L1 b b = false; rw [row]; exact hbb)
   rw [if_pos rfl, a1, Option.bind_some, gT0_of, J41x43xeq, letK_eq, wrap64 (x := (j : Int) + 1) (by omega) (by omega), show ((j : Int) + 1) = ((j + 1 : Nat) : Int) by omega, u1]
   refine ⟨h3, L3, rfl, u2, a3.trans u3, by omega, fun p q => ?_⟩
   rw [u5]
   show gg L1 p q = true ∨ joinE a b (j + 1) (gg L1) p q ↔ _
   have jj : joinE a b (j + 1) (gg L1) p q ↔ joinE a b (j + 1) (gg g.L) p q := by
    unfold joinE
    simp only [row]
   rw [jj, a5, addE_iff]
   constructor
   · rintro ((hh | hh) | ⟨r, x1, x2⟩)
     · exact .inl hh
     · exact .inr ⟨j, Nat.le_refl _, ex, hh⟩
     · exact .inr ⟨r, by omega, x2⟩
   · rintro (hh | ⟨r, x1, x2, x3⟩)
     · exact .inl (.inl hh)
     · by_cases e : r = j
       · rw [e] at x3; exact .inl (.inr x3)
       · exact .inr ⟨r, by omega, x2, x3⟩
end Go.Proofs.Ytnmdadadjneaiaa.D
/- color.coalesce: what was joined is taken back. -/
set_option linter.unusedVariables false
set_option linter.unusedSimpArgs false
namespace Go.Proofs.Ytnmdadadjneaiaa.D
open Go Go.Proofs.Ytnmdadadjneaiaa.Abs Go.Proofs
def undoE (a j : Nat) (W : List Bool) (E : Nat → Nat → Bool) (p q : Nat) : Prop := ∃ r : Nat, j ≤ r ∧ E a r = true ∧ W[r]? = some false ∧ ((p = a ∧ q = r) ∨ (p = r ∧ q = a))
theorem undo_loop {n a hw : Nat} {W : List Bool} (ha : a < n) (hn : n ≤ 1000000) (hW : W.length = n) (i1 : Int) (s5 : SA) (n5 : Nat) (s38 : SA) (n38 : Nat) (i39 i40 : Int) (Q : Kont (AV × Heap)) :
 ∀ (k j : Nat), j + k = n → ∀ (h : Heap) (g : Gr) (qa : Nat), GM h g n → g.qs[a]? = some qa → gg g.L a a = false → h[hw]? = some (bitsV 1 W) → ¬ g.owns hw →
  ∃ h' L', L41x51 mk0 E (some ⟨g.G, 0, 0⟩) i1 s5 n5 ((a : Nat) : Int) (.pos ⟨hw, 1, 0⟩) n s38 n38 i39 i40 (.pos ⟨qa, 0, 0⟩) n ((n : Nat) : Int) ((j : Nat) : Int) h Q = Q (.exit 6) (S41xe6 (some ⟨g.G, 0, 0⟩) i1 s5 n5 s38 n38 i39 i40 h') ∧
   GM h' { g with L := L' } n ∧ Kp (· ∈ g.own) h h' ∧ h'.length = h.length ∧ ∀ p q, gg L' p q = true ↔ gg g.L p q = true ∧ ¬ undoE a j W (gg g.L) p q := by
 intro k
 induction k with
 | zero =>
  intro j hj h g qa H hqa haa hhw hno
  rw [L41x51xeq, letK_eq, if_neg (by simp; omega)]
  refine ⟨h, g.L, rfl, H, Kp.refl _ _, rfl, fun p q => ⟨fun hh => ⟨hh, fun ⟨r, x1, x2, _⟩ => ?_⟩, fun hh => hh.1⟩⟩
  have := (gg_lt H x2).2
  omega
 | succ k ih =>
  intro j hj h g qa H hqa haa hhw hno
  obtain ⟨q1, M1, r1, r2, r3, r4, r5, r6⟩ := H.row ha
  rw [hqa] at r1
  cases r1
  obtain ⟨x, hx⟩ := at_lt (l := M1) (i := j) (by omega)
  obtain ⟨w, hw'⟩ := at_lt (l := W) (i := j) (by omega)
  have ex := gg_cell r2 hx
  rw [L41x51xeq, letK_eq, if_pos (by simp; omega), chk_of (by intro _; omega), adP_pos, atP_of, Int.toNat_natCast, add_mk, bits_get r3 hx, gB_of, chk_of (by intro _; omega), adP_pos, atP_of, add_mk, atP_of, bitsV_get hhw hw', gB_any, letK_eq]
  by_cases hc : x = true ∧ w = false
  · obtain ⟨rfl, rfl⟩ := hc
    have haj : a ≠ j := fun e => by rw [← e, haa] at ex; cases ex
    obtain ⟨q2, M2, s1, s2, s3, s4, s5', s6⟩ := H.row (j := j) (by omega)
    obtain ⟨h1, h2, L1, t1, t2, t3, t4, t5, t6⟩ := H.edge2 ha (b := j) (by omega) false hqa s1
    have rd := H.ld 0 (.sl (.pos ⟨g.B, g.v, 0⟩) n) rfl rfl
    have row : ∀ r, j + 1 ≤ r → gg L1 a r = gg g.L a r := fun r hr => by
     apply Bool.eq_iff_iff.2
     rw [t6, edge_off]
     exact ⟨fun hh => hh.1, fun hh => ⟨hh, by omega, by omega⟩⟩
    have aa1 : gg L1 a a = false := by
     cases hz : gg L1 a a with
     | false => rfl
     | true =>
      rw [t6, edge_off, haa] at hz
      cases hz.1
    obtain ⟨h3, L3, u1, u2, u3, u4, u5⟩ := ih (j + 1) (by omega) h2 { g with L := L1 } qa t5 hqa aa1 (t4 _ _ hhw fun hm => hno (.inl hm)) hno
    rw [if_pos (by simp), atP_of, add_mk, rd, gL_of, chk_of (by intro _; omega), adP_pos, atP_of, Int.toNat_natCast, add_mk, r5, gL_of, atP_of, add_mk, rd, gL_of, chk_of (by intro _; omega), adP_pos, atP_of, add_mk, s5', gL_of, chk_of (by intro _; omega), adP_pos, atP_of, add_mk, t1, Option.bind_some, chk_of (by intro _; omega), adP_pos, atP_of, add_mk, t2, Option.bind_some, J41x61xeq, letK_eq, wrap64 (x := (j : Int) + 1) (by omega) (by omega), show ((j : Int) + 1) = ((j + 1 : Nat) : Int) by omega, u1]
    refine ⟨h3, L3, rfl, u2, t4.trans u3, by omega, fun p q => ?_⟩
    rw [u5]
    show gg L1 p q = true ∧ ¬ undoE a (j + 1) W (gg L1) p q ↔ _
    have jj : undoE a (j + 1) W (gg L1) p q ↔ undoE a (j + 1) W (gg g.L) p q := by
     unfold undoE
     constructor
     · rintro ⟨r, x1, x2, x3⟩
       exact ⟨r, x1, by rw [← row r x1]; exact x2, x3⟩
     · rintro ⟨r, x1, x2, x3⟩
       exact ⟨r, x1, by rw [row r x1]; exact x2, x3⟩
    rw [jj, t6, edge_off]
    constructor
    · rintro ⟨⟨y1, y2, y3⟩, y4⟩
      refine ⟨y1, fun ⟨r, x1, x2, x3, x4⟩ => ?_⟩
      by_cases e : r = j
      · rw [e] at x4
        rcases x4 with x4 | x4
        · exact y2 x4
        · exact y3 x4
      · exact y4 ⟨r, by omega, x2, x3, x4⟩
    · rintro ⟨y1, y2⟩
      exact ⟨⟨y1, fun e => y2 ⟨j, Nat.le_refl _, ex, hw', .inl e⟩, fun e => y2 ⟨j, Nat.le_refl _, ex, hw', .inr e⟩⟩, fun ⟨r, x1, x2⟩ => y2 ⟨r, by omega, x2⟩⟩
  · obtain ⟨h3, L3, u1, u2, u3, u4, u5⟩ := ih (j + 1) (by omega) h g qa H hqa haa hhw hno
    rw [if_neg (by
     intro hh
     apply hc
     cases x <;> cases w <;> simp at hh ⊢), J41x61xeq, letK_eq, wrap64 (x := (j : Int) + 1) (by omega) (by omega), show ((j : Int) + 1) = ((j + 1 : Nat) : Int) by omega, u1]
    refine ⟨h3, L3, rfl, u2, u3, u4, fun p q => ?_⟩
    rw [u5]
    constructor
    · rintro ⟨y1, y2⟩
      refine ⟨y1, fun ⟨r, x1, x2, x3, x4⟩ => ?_⟩
      by_cases e : r = j
      · rw [e, ex] at x2
        rw [e, hw'] at x3
        cases x3
        exact hc ⟨x2, rfl⟩
      · exact y2 ⟨r, by omega, x2, x3, x4⟩
    · rintro ⟨y1, y2⟩
      exact ⟨y1, fun ⟨r, x1, x2⟩ => y2 ⟨r, by omega, x2⟩⟩
end Go.Proofs.Ytnmdadadjneaiaa.D
/- color.coalesce: the first classes. -/
set_option linter.unusedVariables false
set_option linter.unusedSimpArgs false
namespace Go.Proofs.Ytnmdadadjneaiaa.D
open Go Go.Proofs.Ytnmdadadjneaiaa.Abs Go.Proofs
def intB (l : List Int) : Blk := .cells (l.map (.int .i64)) (.grow 1) 0
theorem intB_set {h : Heap} {q : Nat} {l : List Int} (hq : h[q]? = some (intB l)) {i : Nat} (hi : i < l.length) (x : Int) :
 st1 h ⟨q, 0, 0 + i * 1⟩ (.int .i64 x) = some (h.set q (intB (l.set i x))) := by
 rw [st1_at hq (by simp) (by rw [List.length_map]; omega)]
 unfold intB
 rw [List.map_set, Nat.zero_add, Nat.mul_one]
theorem intB_vs {h : Heap} {q n : Nat} {l : List Int} (hq : h[q]? = some (intB l)) (hl : l.length = n) : VS intC 1 h (.pos ⟨q, 0, 0⟩) n l :=
 vs_GS (f := intC) (es := 1) (fun _ => rfl) hl (by
  rw [show l.flatMap intC = l.map (.int .i64) from rows_one _ _]
  exact ⟨by rw [List.length_map]; omega, flat_ints _, .inr ⟨_, _, rfl, hq⟩⟩)
theorem ofs_loop {n q : Nat} (hn : n ≤ 1000000) (p0 : Option Ad) (i1 : Int) (Q : Kont (AV × Heap)) :
 ∀ (k j : Nat), j + k = n → ∀ (h : Heap) (l : List Int), h[q]? = some (intB l) → l.length = n → (∀ i : Nat, i < j → l[i]? = some (i : Int)) →
  ∃ h', L41x5 mk0 E p0 i1 (.pos ⟨q, 0, 0⟩) n ((n : Nat) : Int) ((j : Nat) : Int) h Q = Q (.exit 0) (S41xe0 p0 i1 (.pos ⟨q, 0, 0⟩) n h') ∧ Kp (· = q) h h' ∧ h'.length = h.length ∧ h'[q]? = some (intB (ofs0 n)) := by
 intro k
 induction k with
 | zero =>
  intro j hj h l hq hl hi
  have e : l = ofs0 n := by
   apply List.ext_getElem?
   intro i
   by_cases h1 : i < n
   · rw [hi i (by omega), ofs0_get h1]
   · rw [List.getElem?_eq_none (by omega), List.getElem?_eq_none (by unfold ofs0; rw [List.length_map, List.length_range]; omega)]
  rw [L41x5xeq, letK_eq, if_neg (by simp; omega)]
  exact ⟨h, rfl, Kp.refl _ _, rfl, by rw [← e]; exact hq⟩
 | succ k ih =>
  intro j hj h l hq hl hi
  have t := intB_set hq (i := j) (by omega) ((j : Nat) : Int)
  obtain ⟨h', r1, r2, r3, r4⟩ := ih (j + 1) (by omega) (h.set q (intB (l.set j ((j : Nat) : Int)))) _ (set_same hq) (by rw [List.length_set]; exact hl) (fun i h1 => by
   by_cases e : i = j
   · rw [e, List.getElem?_set_self (by omega)]
   · rw [List.getElem?_set_ne (by omega)]; exact hi i (by omega))
  rw [L41x5xeq, letK_eq, if_pos (by simp; omega), chk_of (by intro _; omega), adP_pos, atP_of, Int.toNat_natCast, add_mk, t, Option.bind_some, letK_eq, wrap64 (x := (j : Int) + 1) (by omega) (by omega), show ((j : Int) + 1) = ((j + 1 : Nat) : Int) by omega, r1]
  exact ⟨h', rfl, (kp_set (· = q) q h _ rfl).trans r2, by rw [r3, List.length_set], r4⟩
end Go.Proofs.Ytnmdadadjneaiaa.D
/- color.coalesce, plain: what is taken back leaves the old edges; what is joined keeps the edges sound. -/
set_option linter.unusedVariables false
set_option linter.unusedSimpArgs false
namespace Go.Proofs.Ytnmdadadjneaiaa.D
open Go Go.Proofs.Ytnmdadadjneaiaa.Abs Go.Proofs
theorem undo_join {E0 E1 E2 : Nat → Nat → Bool} {n a b : Nat} {W : List Bool} (hW : ∀ r : Nat, r < n → W[r]? = some (E0 a r)) (hl : W.length = n) (sym : ∀ p q, E0 p q = E0 q p) (bd : ∀ p q, E0 p q = true → q < n)
 (h1 : ∀ p q, E1 p q = true ↔ E0 p q = true ∨ joinE a b 0 E0 p q) (h2 : ∀ p q, E2 p q = true ↔ E1 p q = true ∧ ¬ undoE a 0 W E1 p q) : ∀ p q, E2 p q = E0 p q := by
 intro p q
 apply Bool.eq_iff_iff.2
 rw [h2, h1]
 constructor
 · rintro ⟨hh | ⟨r, x1, x2, x3, x4, x5, x6⟩, hu⟩
   · exact hh
   · have rn := bd b r x2
     cases e : E0 a r with
     | true =>
      rcases x6 with ⟨rfl, rfl⟩ | ⟨rfl, rfl⟩
      · exact e
      · rw [sym]; exact e
     | false =>
      exact absurd ⟨r, Nat.zero_le _, (h1 a r).2 (.inr ⟨r, x1, x2, x3, x4, x5, .inl ⟨rfl, rfl⟩⟩), by rw [hW r rn, e], x6⟩ hu
 · intro hh
   refine ⟨.inl hh, fun ⟨r, _, x2, x3, x4⟩ => ?_⟩
   have rn : r < n := by
    have := (List.getElem?_eq_some_iff.1 x3).1
    omega
   rw [hW r rn] at x3
   have e : E0 a r = false := by injection x3
   rcases x4 with ⟨rfl, rfl⟩ | ⟨rfl, rfl⟩
   · rw [e] at hh; cases hh
   · rw [sym, e] at hh; cases hh
structure Sy (E : Nat → Nat → Prop) : Prop where
 s : ∀ p q, E p q → E q p
 i : ∀ p, ¬ E p p
 z : ∀ p, ¬ E 0 p
def coE (x y : Nat) (E : Nat → Nat → Prop) (p q : Nat) : Prop := (E p q ∨ ∃ r, E y r ∧ x ≠ r ∧ x ≠ 0 ∧ r ≠ 0 ∧ ((p = x ∧ q = r) ∨ (p = r ∧ q = x))) ∧ p ≠ y ∧ q ≠ y
theorem Sy.co {E : Nat → Nat → Prop} (H : Sy E) (x y : Nat) : Sy (coE x y E) := by
 refine ⟨?_, ?_, ?_⟩
 · rintro p q ⟨h | ⟨r, h1, h2, h3, h4, h5⟩, n1, n2⟩
   · exact ⟨.inl (H.s _ _ h), n2, n1⟩
   · exact ⟨.inr ⟨r, h1, h2, h3, h4, h5.symm.imp (fun e => ⟨e.2, e.1⟩) (fun e => ⟨e.2, e.1⟩)⟩, n2, n1⟩
 · rintro p ⟨h | ⟨r, h1, h2, h3, h4, h5⟩, n1, n2⟩
   · exact H.i _ h
   · rcases h5 with h5 | h5
     · exact h2 (h5.1.symm.trans h5.2)
     · exact h2 (h5.2.symm.trans h5.1)
 · rintro p ⟨h | ⟨r, h1, h2, h3, h4, h5⟩, n1, n2⟩
   · exact H.z _ h
   · rcases h5 with h5 | h5
     · exact h3 h5.1.symm
     · exact h4 h5.1.symm
theorem Sy.new {E : Nat → Nat → Prop} (H : Sy E) (l : List Bool) (d : Nat) (ex : Int) : Sy fun p q => E p q ∨ newE l d ex 0 p q := by
 refine ⟨?_, ?_, ?_⟩
 · rintro p q (h | ⟨r, h1, h2, h3, h4, h5, h6, h7⟩)
   · exact .inl (H.s _ _ h)
   · exact .inr ⟨r, h1, h2, h3, h4, h5, h6, h7.symm.imp (fun e => ⟨e.2, e.1⟩) (fun e => ⟨e.2, e.1⟩)⟩
 · rintro p (h | ⟨r, h1, h2, h3, h4, h5, h6, h7⟩)
   · exact H.i _ h
   · rcases h7 with h7 | h7
     · exact h4 (h7.1.symm.trans h7.2)
     · exact h4 (h7.2.symm.trans h7.1)
 · rintro p (h | ⟨r, h1, h2, h3, h4, h5, h6, h7⟩)
   · exact H.z _ h
   · rcases h7 with h7 | h7
     · exact h5 h7.1.symm
     · exact h6 h7.1.symm
end Go.Proofs.Ytnmdadadjneaiaa.D
/- color.build, plain: its edges go both ways. -/
set_option linter.unusedVariables false
set_option linter.unusedSimpArgs false
namespace Go.Proofs.Ytnmdadadjneaiaa.D
open Go Go.Proofs.Ytnmdadadjneaiaa.Abs Go.Proofs
theorem sy_fold {l : List VI} : ∀ {s : Pbs}, Sy s.E → Sy (l.foldl pI s).E := by
 induction l with
 | nil => intro s h; exact h
 | cons x l ih => intro s h; exact ih (h.new s.l (defR x.op x.d).toNat (exR x))
theorem sy_blk {L : List (List Bool)} {n : Nat} {l : List VB} : ∀ {s : Pbs}, Sy s.E → Sy (l.foldl (pBlk L n) s).E := by
 induction l with
 | nil => intro s h; exact h
 | cons x l ih => intro s h; exact ih (sy_fold (s := pStart L n s x) h)
theorem Sy.pars {E : Nat → Nat → Prop} (H : Sy E) (ps : List Int) (b0 : List Bool) (j : Nat) : Sy fun p q => E p q ∨ parsE ps b0 j p q := by
 refine ⟨?_, ?_, ?_⟩
 · rintro p q (h | ⟨i, r, h1, h2, ⟨t, h3, h4, h5, h6, h7⟩ | ⟨u, h3, h4, h5, h6, h7, h8, h9⟩⟩)
   · exact .inl (H.s _ _ h)
   · exact .inr ⟨i, r, h1, h2, .inl ⟨t, h3, h4, h5, h6, h7.symm.imp (fun e => ⟨e.2, e.1⟩) (fun e => ⟨e.2, e.1⟩)⟩⟩
   · exact .inr ⟨i, r, h1, h2, .inr ⟨u, h3, h4, h5, h6, h7, h8, h9.symm.imp (fun e => ⟨e.2, e.1⟩) (fun e => ⟨e.2, e.1⟩)⟩⟩
 · rintro p (h | ⟨i, r, h1, h2, ⟨t, h3, h4, h5, h6, h7⟩ | ⟨u, h3, h4, h5, h6, h7, h8, h9⟩⟩)
   · exact H.i _ h
   · rcases h7 with h7 | h7
     · exact h4 (h7.1.symm.trans h7.2)
     · exact h4 (h7.2.symm.trans h7.1)
   · rcases h9 with h9 | h9
     · exact h6 (h9.1.symm.trans h9.2)
     · exact h6 (h9.2.symm.trans h9.1)
 · rintro p (h | ⟨i, r, h1, h2, ⟨t, h3, h4, h5, h6, h7⟩ | ⟨u, h3, h4, h5, h6, h7, h8, h9⟩⟩)
   · exact H.z _ h
   · rcases h7 with h7 | h7
     · exact h5 h7.1.symm
     · exact h6 h7.1.symm
   · rcases h9 with h9 | h9
     · exact h7 h9.1.symm
     · exact h8 h9.1.symm
theorem sy_build (f : VF) (L : List (List Bool)) : Sy (pBuild f L).E :=
 Sy.pars (sy_blk (s := pZero f.regs.toNat) ⟨fun _ _ h => h, fun _ h => h, fun _ h => h⟩) f.params (L.getD 0 []) 0
end Go.Proofs.Ytnmdadadjneaiaa.D
/- slices.Reverse of ints. -/
set_option linter.unusedVariables false
set_option linter.unusedSimpArgs false
namespace Go.Proofs.Ytnmdadadjneaiaa.D
open Go Go.Proofs.Ytnmdadadjneaiaa.Abs Go.Proofs
def intV (v : Nat) (l : List Int) : Blk := .cells (l.map (.int .i64)) (.grow 1) v
theorem intV_set {h : Heap} {q v : Nat} {l : List Int} (hq : h[q]? = some (intV v l)) {i : Nat} (hi : i < l.length) (x : Int) :
 st1 h ⟨q, v, 0 + i * 1⟩ (.int .i64 x) = some (h.set q (intV v (l.set i x))) := by
 rw [st1_at hq (by simp) (by rw [List.length_map]; omega)]
 unfold intV
 rw [List.map_set, Nat.zero_add, Nat.mul_one]
theorem intV_get {h : Heap} {q v : Nat} {l : List Int} (hq : h[q]? = some (intV v l)) {i : Nat} {x : Int} (hi : l[i]? = some x) : ld1 h ⟨q, v, 0 + i * 1⟩ = some (.int .i64 x) :=
 ld1_at hq (by rw [Nat.zero_add, Nat.mul_one, List.getElem?_map, hi]; rfl) rfl
theorem rev_loop {b v n : Nat} (hn : n ≤ 1000000) (Q : Kont (AV × Heap)) :
 ∀ (k i : Nat), n ≤ 2 * i + k → i ≤ n → ∀ (h : Heap) (c : List Int), h[b]? = some (intV v c) → c.length = n →
  ∃ h' r, L82x2 mk0 E (.pos ⟨b, v, 0⟩) n ((i : Nat) : Int) ((n : Int) - 1 - (i : Int)) h Q = Q (.exit 0) (S82xe0 h') ∧ Kp (· = b) h h' ∧ h'.length = h.length ∧ h'[b]? = some (intV v r) ∧ r.length = n ∧ ∀ p : Nat, p < n → r[p]? = if i ≤ p ∧ p < n - i then c[n - 1 - p]? else c[p]? := by
 intro k
 have out : ∀ (i : Nat), n ≤ 2 * i + 1 → ∀ (h : Heap) (c : List Int), h[b]? = some (intV v c) → c.length = n →
  ∃ h' r, L82x2 mk0 E (.pos ⟨b, v, 0⟩) n ((i : Nat) : Int) ((n : Int) - 1 - (i : Int)) h Q = Q (.exit 0) (S82xe0 h') ∧ Kp (· = b) h h' ∧ h'.length = h.length ∧ h'[b]? = some (intV v r) ∧ r.length = n ∧ ∀ p : Nat, p < n → r[p]? = if i ≤ p ∧ p < n - i then c[n - 1 - p]? else c[p]? := by
  intro i hi h c hb hc
  rw [L82x2xeq, letK_eq, if_neg (by simp; omega)]
  refine ⟨h, c, rfl, Kp.refl _ _, rfl, hb, hc, fun p hp => ?_⟩
  split
  · rw [show n - 1 - p = p by omega]
  · rfl
 induction k with
 | zero => intro i hi _ h c hb hc; exact out i (by omega) h c hb hc
 | succ k ih =>
  intro i hi hin h c hb hc
  by_cases he : n ≤ 2 * i + 1
  · exact out i he h c hb hc
  · obtain ⟨x, hx⟩ := at_lt (l := c) (i := n - 1 - i) (by omega)
    obtain ⟨y, hy⟩ := at_lt (l := c) (i := i) (by omega)
    have t1 := intV_set hb (i := i) (by omega) x
    have hb1 : (h.set b (intV v (c.set i x)))[b]? = some (intV v (c.set i x)) := set_same hb
    have t2 := intV_set hb1 (i := n - 1 - i) (by rw [List.length_set]; omega) y
    obtain ⟨h', r, r1, r2, r3, r4, r5, r6⟩ := ih (i + 1) (by omega) (by omega) _ _ (set_same hb1) (show ((c.set i x).set (n - 1 - i) y).length = n by rw [List.length_set, List.length_set]; exact hc)
    rw [show ((n : Int) - 1 - (i : Int)) = ((n - 1 - i : Nat) : Int) by omega, L82x2xeq, letK_eq, if_pos (by simp; omega), chk_of (by intro _; omega), adP_pos, atP_of, Int.toNat_natCast, add_mk, intV_get hb hx, gI_of, chk_of (by intro _; omega), atP_of, Int.toNat_natCast, add_mk, intV_get hb hy, gI_of, chk_of (by intro _; omega), atP_of, add_mk, t1, Option.bind_some, chk_of (by intro _; omega), atP_of, add_mk, t2, Option.bind_some, letK_eq, wrap64 (x := (i : Int) + 1) (by omega) (by omega), letK_eq, wrap64 (x := ((n - 1 - i : Nat) : Int) - 1) (by omega) (by omega), show ((i : Int) + 1) = ((i + 1 : Nat) : Int) by omega, show (((n - 1 - i : Nat) : Int) - 1) = (n : Int) - 1 - ((i + 1 : Nat) : Int) by omega, r1]
    refine ⟨h', r, rfl, (kp_set (· = b) b h _ rfl).trans ((kp_set (· = b) b _ _ rfl).trans r2), by rw [r3, List.length_set, List.length_set], r4, r5, fun p hp => ?_⟩
    rw [r6 p hp]
    by_cases e1 : p = i
    · subst e1
      rw [if_neg (by omega), if_pos (by omega), List.getElem?_set_ne (by omega), List.getElem?_set_self (by omega), hx]
    by_cases e2 : p = n - 1 - i
    · rw [if_neg (by omega), if_pos (by omega), e2, List.getElem?_set_self (by rw [List.length_set]; omega), show n - 1 - (n - 1 - i) = i by omega, hy]
    by_cases e3 : i ≤ p ∧ p < n - i
    · rw [if_pos (by omega), if_pos e3, List.getElem?_set_ne (by omega), List.getElem?_set_ne (by omega)]
    · rw [if_neg (by omega), if_neg e3, List.getElem?_set_ne (by omega), List.getElem?_set_ne (by omega)]
theorem rev_ok {h : Heap} {b v n : Nat} {l : List Int} (hb : h[b]? = some (intV v l)) (hl : l.length = n) (hn : n ≤ 1000000) :
 ∃ h', E 82 [.sl (.pos ⟨b, v, 0⟩) n] h = some (.tup [], h') ∧ Kp (· = b) h h' ∧ h'.length = h.length ∧ h'[b]? = some (intV v l.reverse) := by
 obtain ⟨h', r, r1, r2, r3, r4, r5, r6⟩ := rev_loop hn (Q82x2 mk0 E) n 0 (by omega) (by omega) h l hb hl
 have e : r = l.reverse := by
  apply List.ext_getElem?
  intro p
  by_cases hp : p < n
  · rw [r6 p hp, if_pos (by omega), List.getElem?_reverse (by omega), hl]
  · rw [List.getElem?_eq_none (by omega), List.getElem?_eq_none (by rw [List.length_reverse]; omega)]
 rw [show (((0 : Nat) : Int)) = 0 from rfl, Int.sub_zero] at r1
 exact ⟨h', by rw [e82, letK_eq, wrap64 (by omega) (by omega), r1, X82x2xe0], r2, r3, by rw [← e]; exact r4⟩
end Go.Proofs.Ytnmdadadjneaiaa.D
