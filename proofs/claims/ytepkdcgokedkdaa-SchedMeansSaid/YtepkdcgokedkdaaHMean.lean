/- sched: scheduled code does the same (plain), and what one instruction does. -/
import Derived.Test.YtepkdcgokedkdaaConHd
import Derived.Test.YtepkdcgokedkdaaHGen4
set_option linter.unusedVariables false
set_option linter.unusedSimpArgs false
namespace Go.Proofs.Ytepkdcgokedkdaa.H
open Go Go.Proofs.Ytepkdcgokedkdaa.Abs Go.Proofs

/-! ### Small, Math -/

theorem small_ex (x : Int) : ∃ v, ∀ h, E 25 [.int .i64 x] h = some (.int .i64 v, h) := ⟨_, fun h => by rw [e25, letK_eq, letK_eq, letK_eq, letK_eq]⟩
noncomputable def small (x : Int) : Int := (small_ex x).choose
theorem small_ok (x : Int) (h : Heap) : E 25 [.int .i64 x] h = some (.int .i64 (small x), h) := (small_ex x).choose_spec h

theorem shl_loop (n : Int) (hn : n ≤ 2147483647) : ∀ (k : Nat) (i a : Int), 0 ≤ i → (n - i).toNat = k → ∃ v, ∀ h, L39x60 mk0 E a n i h (Q39x60 mk0 E) = some (.tup [.int .i64 v, .bool true], h) := by
  intro k
  induction k with
  | zero =>
    intro i a h0 hk
    refine ⟨a, fun h => ?_⟩
    rw [L39x60xeq, letK_eq, if_neg (by simp; omega), X39x60xe1]
  | succ k ih =>
    intro i a h0 hk
    obtain ⟨v, hv⟩ := ih (i + 1) (small (IntKind.wrap .i64 (a + a))) (by omega) (by omega)
    refine ⟨v, fun h => ?_⟩
    rw [L39x60xeq, letK_eq, if_pos (by simp; omega), letK_eq, small_ok, Option.bind_some, gI_of, letK_eq, wrap64 (x := i + 1) (by omega) (by omega)]
    exact hv h

theorem sar_loop (n : Int) (hn : n ≤ 2147483647) : ∀ (k : Nat) (i a : Int), 0 ≤ i → (n - i).toNat = k → ∃ v, ∀ h, L39x74 mk0 E a n i h (Q39x74 mk0 E) = some (.tup [.int .i64 v, .bool true], h) := by
  intro k
  induction k with
  | zero =>
    intro i a h0 hk
    refine ⟨a, fun h => ?_⟩
    rw [L39x74xeq, letK_eq, if_neg (by simp; omega), X39x74xe3]
  | succ k ih =>
    intro i a h0 hk
    obtain ⟨v, hv⟩ := ih (i + 1) (IntKind.wrap .i64 (Int.tdiv (IntKind.wrap .i64 (a - a % 2)) 2)) (by omega) (by omega)
    refine ⟨v, fun h => ?_⟩
    rw [L39x74xeq, letK_eq, if_pos (by simp; omega), modulo_ok _ _ _ (by omega) (by omega), Option.bind_some, gI_of, letK_eq, letK_eq, letK_eq, wrap64 (x := i + 1) (by omega) (by omega)]
    exact hv h

theorem math_ex (op a b n : Int) (hn : n ≤ 2147483647) : ∃ (v : Int) (ok : Bool), (op ≠ 4 → op ≠ 5 → ok = true) ∧ ∀ h, E 39 [.int .i64 op, .int .i64 a, .int .i64 b, .int .i64 n] h = some (.tup [.int .i64 v, .bool ok], h) := by
  by_cases h1 : op = 1
  · refine ⟨small (IntKind.wrap .i64 (a + b)), true, fun _ _ => rfl, fun h => ?_⟩
    rw [e39, letK_eq, if_pos (by simp [h1]), letK_eq, small_ok, Option.bind_some, gI_of]
  by_cases h2 : op = 2
  · refine ⟨small (IntKind.wrap .i64 (a - b)), true, fun _ _ => rfl, fun h => ?_⟩
    rw [e39, letK_eq, if_neg (by simp [h1]), letK_eq, if_pos (by simp [h2]), letK_eq, small_ok, Option.bind_some, gI_of]
  by_cases h3 : op = 3
  · refine ⟨small (IntKind.wrap .i64 (a * b)), true, fun _ _ => rfl, fun h => ?_⟩
    rw [e39, letK_eq, if_neg (by simp [h1]), letK_eq, if_neg (by simp [h2]), letK_eq, if_pos (by simp [h3]), letK_eq, small_ok, Option.bind_some, gI_of]
  by_cases h45 : op = 4 ∨ op = 5
  · have pre : ∀ h, E 39 [.int .i64 op, .int .i64 a, .int .i64 b, .int .i64 n] h = J39x19 mk0 E op a b n op true h := by
      intro h
      rw [e39, letK_eq, if_neg (by simp [h1]), letK_eq, if_neg (by simp [h2]), letK_eq, if_neg (by simp [h3]), letK_eq]
      rcases h45 with h4 | h5
      · rw [if_pos (by simp [h4]), decide_eq_true h4]
      · rw [if_neg (by simp [h5]), letK_eq, decide_eq_true h5]
    by_cases hb : b = 0
    · refine ⟨0, false, fun h4 h5 => by rcases h45 with h | h; exact absurd h h4; exact absurd h h5, fun h => ?_⟩
      rw [pre, J39x19xeq, if_pos rfl, letK_eq, if_pos (by simp [hb])]
    · by_cases h4 : op = 4
      · refine ⟨small (IntKind.wrap .i64 (Int.tdiv a b)), true, fun _ _ => rfl, fun h => ?_⟩
        rw [pre, J39x19xeq, if_pos rfl, letK_eq, if_neg (by simp [hb]), letK_eq, if_pos (by simp [h4]), chk_of (fun _ => hb), letK_eq, small_ok, Option.bind_some, gI_of]
      · refine ⟨small (IntKind.wrap .i64 (a - IntKind.wrap .i64 (IntKind.wrap .i64 (Int.tdiv a b) * b))), true, fun _ _ => rfl, fun h => ?_⟩
        rw [pre, J39x19xeq, if_pos rfl, letK_eq, if_neg (by simp [hb]), letK_eq, if_neg (by simp [h4]), chk_of (fun _ => hb), letK_eq, letK_eq, letK_eq, small_ok, Option.bind_some, gI_of]
  · have pre : ∀ h, E 39 [.int .i64 op, .int .i64 a, .int .i64 b, .int .i64 n] h = J39x19 mk0 E op a b n op false h := by
      intro h
      rw [e39, letK_eq, if_neg (by simp [h1]), letK_eq, if_neg (by simp [h2]), letK_eq, if_neg (by simp [h3]), letK_eq, if_neg (by simp; omega), letK_eq, decide_eq_false (by omega)]
    by_cases h6 : op = 6
    · by_cases c : a < b
      · refine ⟨1, true, fun _ _ => rfl, fun h => ?_⟩
        rw [pre, J39x19xeq, if_neg (by simp), letK_eq, if_pos (by simp [h6]), letK_eq, if_pos (by simp [c])]
      · refine ⟨0, true, fun _ _ => rfl, fun h => ?_⟩
        rw [pre, J39x19xeq, if_neg (by simp), letK_eq, if_pos (by simp [h6]), letK_eq, if_neg (by simp [c])]
    by_cases h7 : op = 7
    · by_cases c : a = b
      · refine ⟨1, true, fun _ _ => rfl, fun h => ?_⟩
        rw [pre, J39x19xeq, if_neg (by simp), letK_eq, if_neg (by simp [h6]), letK_eq, if_pos (by simp [h7]), letK_eq, if_pos (by simp [c])]
      · refine ⟨0, true, fun _ _ => rfl, fun h => ?_⟩
        rw [pre, J39x19xeq, if_neg (by simp), letK_eq, if_neg (by simp [h6]), letK_eq, if_pos (by simp [h7]), letK_eq, if_neg (by simp [c])]
    by_cases h8 : op = 8
    · refine ⟨small (IntKind.wrap .i64 (a + n)), true, fun _ _ => rfl, fun h => ?_⟩
      rw [pre, J39x19xeq, if_neg (by simp), letK_eq, if_neg (by simp [h6]), letK_eq, if_neg (by simp [h7]), letK_eq, if_pos (by simp [h8]), letK_eq, small_ok, Option.bind_some, gI_of]
    by_cases h9 : op = 9
    · obtain ⟨v, hv⟩ := shl_loop n hn _ 0 a (by omega) rfl
      refine ⟨v, true, fun _ _ => rfl, fun h => ?_⟩
      rw [pre, J39x19xeq, if_neg (by simp), letK_eq, if_neg (by simp [h6]), letK_eq, if_neg (by simp [h7]), letK_eq, if_neg (by simp [h8]), letK_eq, if_pos (by simp [h9])]
      exact hv h
    by_cases h10 : op = 10
    · obtain ⟨v, hv⟩ := sar_loop n hn _ 0 a (by omega) rfl
      refine ⟨v, true, fun _ _ => rfl, fun h => ?_⟩
      rw [pre, J39x19xeq, if_neg (by simp), letK_eq, if_neg (by simp [h6]), letK_eq, if_neg (by simp [h7]), letK_eq, if_neg (by simp [h8]), letK_eq, if_neg (by simp [h9]), letK_eq, if_pos (by simp [h10])]
      exact hv h
    · refine ⟨n, true, fun _ _ => rfl, fun h => ?_⟩
      rw [pre, J39x19xeq, if_neg (by simp), letK_eq, if_neg (by simp [h6]), letK_eq, if_neg (by simp [h7]), letK_eq, if_neg (by simp [h8]), letK_eq, if_neg (by simp [h9]), letK_eq, if_neg (by simp [h10])]

open Classical in
noncomputable def mv (op a b n : Int) : Int := if h : n ≤ 2147483647 then (math_ex op a b n h).choose else 0
open Classical in
noncomputable def mok (op a b n : Int) : Bool := if h : n ≤ 2147483647 then (math_ex op a b n h).choose_spec.choose else true
theorem math_ok {op a b n : Int} (hn : n ≤ 2147483647) (h : Heap) : E 39 [.int .i64 op, .int .i64 a, .int .i64 b, .int .i64 n] h = some (.tup [.int .i64 (mv op a b n), .bool (mok op a b n)], h) := by
  unfold mv mok
  rw [dif_pos hn, dif_pos hn]
  exact (math_ex op a b n hn).choose_spec.choose_spec.2 h
theorem mok_true {op a b n : Int} (h4 : op ≠ 4) (h5 : op ≠ 5) : mok op a b n = true := by
  unfold mok
  by_cases hn : n ≤ 2147483647
  · rw [dif_pos hn]; exact (math_ex op a b n hn).choose_spec.choose_spec.1 h4 h5
  · rw [dif_neg hn]

/-! ### One instruction -/

/-- Registers, what is printed, memory. -/
structure ST where
  rs : List Int
  pr : List Int
  ws : List Int

def gR (rs : List Int) (i : Int) : Int := rs.getD i.toNat 0
def pR (rs : List Int) (i v : Int) : List Int := if i = 0 then rs else rs.set i.toNat v
def adr (a n : Int) : Int := IntKind.wrap .i64 (a + n)
def okA (x : Int) (m : Nat) : Bool := decide (Int.tmod x 2 = 0) && !decide (x < 2) && !decide ((m : Int) ≤ IntKind.wrap .i64 (Int.tdiv x 2))
def ixA (x : Int) : Nat := (IntKind.wrap .i64 (Int.tdiv x 2)).toNat

/-- What an instruction makes: its value and the memory. -/
noncomputable def eff (e : Ins) (a b : Int) (ws : List Int) : Option (Int × List Int) :=
  if e.op = 12 then (if okA (adr a e.n) ws.length = true then some (ws.getD (ixA (adr a e.n)) 0, ws) else none)
  else if e.op = 13 then (if okA (adr a e.n) ws.length = true then some (0, ws.set (ixA (adr a e.n)) b) else none)
  else if e.op = 23 then (if a % 2 = 1 then some (0, ws) else none)
  else if mok e.op a b e.n = true then some (mv e.op a b e.n, ws) else none

noncomputable def exec1 (e : Ins) (s : ST) : Option ST :=
  (eff e (gR s.rs e.a) (gR s.rs e.b) s.ws).map fun x => ⟨pR s.rs (wr e.op e.d) x.1, if e.op = 23 then s.pr ++ [IntKind.wrap .i64 (Int.tdiv (IntKind.wrap .i64 (gR s.rs e.a - 1)) 2)] else s.pr, x.2⟩

noncomputable def execI (l : List Ins) : List Nat → ST → Option ST
  | [], s => some s
  | i :: r, s => match l[i]? with
    | some e => (exec1 e s).bind (execI l r)
    | none => none

theorem execI_app (l : List Ins) : ∀ (u w : List Nat) (s : ST), execI l (u ++ w) s = (execI l u s).bind (execI l w)
  | [], w, s => rfl
  | i :: u, w, s => by
    rw [List.cons_append, execI, execI]
    cases l[i]? with
    | none => rfl
    | some e =>
      dsimp only
      cases h : exec1 e s with
      | none => rfl
      | some t => rw [Option.bind_some, Option.bind_some]; exact execI_app l u w t

theorem mem_nz {l : List Int} {x : Int} (h : x ∈ l) (h0 : x ≠ 0) : x ∈ nz l := by
  unfold nz
  exact List.mem_filter.2 ⟨h, by simp [h0]⟩

/-- The registers that are used are read, or the one that is never written. -/
theorem reads_of {e : Ins} (he : e.ok) : (e.a = 0 ∨ e.a ∈ rd e.op e.a e.b) ∧ (e.b = 0 ∨ e.b ∈ rd e.op e.a e.b) := by
  obtain ⟨h1, h2⟩ := he
  have hb := chk_bd h1
  have hs : (1 ≤ e.op ∧ e.op ≤ 15) ∨ e.op = 23 := of_decide_eq_true h2
  have hz : (usA e.op = false → e.a = 0) ∧ (usB e.op = false → e.b = 0) := by
    unfold chkV at h1
    split at h1
    · omega
    · split at h1
      · omega
      · split at h1
        · omega
        · rename_i hq
          constructor
          · intro hu
            by_cases ha : e.a = 0
            · exact ha
            · exfalso; apply hq; simp [hu, ha]
          · intro hu
            by_cases ha : e.b = 0
            · exact ha
            · exfalso; apply hq; simp [hu, ha]
  constructor
  · by_cases ha : e.a = 0
    · exact .inl ha
    · refine .inr (mem_nz ?_ ha)
      have hu : usA e.op = true := by
        cases hq : usA e.op with
        | true => rfl
        | false => exact absurd (hz.1 hq) ha
      unfold usA at hu
      have hm := of_decide_eq_true hu
      unfold rdR
      simp only [List.mem_cons, List.not_mem_nil, or_false] at hm
      rcases hm with h | h | h | h | h | h | h | h | h | h | h | h | h | h | h | h | h | h <;> rw [h] at hs ⊢ <;> simp at hs ⊢
  · by_cases ha : e.b = 0
    · exact .inl ha
    · refine .inr (mem_nz ?_ ha)
      have hu : usB e.op = true := by
        cases hq : usB e.op with
        | true => rfl
        | false => exact absurd (hz.2 hq) ha
      unfold usB at hu
      have hm := of_decide_eq_true hu
      unfold rdR
      simp only [List.mem_cons, List.not_mem_nil, or_false] at hm
      rcases hm with h | h | h | h | h | h | h | h | h | h | h | h | h <;> rw [h] at hs ⊢ <;> simp at hs ⊢

theorem gR_pR {rs : List Int} {i j v : Int} (hi : 0 ≤ i) (hj : 0 ≤ j) (h : i = 0 ∨ i ≠ j) : gR (pR rs i v) j = gR rs j := by
  unfold gR pR
  by_cases h0 : i = 0
  · rw [if_pos h0]
  · rw [if_neg h0]
    have : i.toNat ≠ j.toNat := by rcases h with h | h; exact absurd h h0; omega
    simp only [List.getD_eq_getElem?_getD, List.getElem?_set]
    rw [if_neg this]

theorem pR_pR {rs : List Int} {i j v w : Int} (hi : 0 ≤ i) (hj : 0 ≤ j) (h : i = 0 ∨ i ≠ j) : pR (pR rs i v) j w = pR (pR rs j w) i v := by
  unfold pR
  by_cases h0 : i = 0
  · rw [if_pos h0, if_pos h0]
  · by_cases h1 : j = 0
    · rw [if_pos h1, if_pos h1]
    · have : i.toNat ≠ j.toNat := by rcases h with h | h; exact absurd h h0; omega
      rw [if_neg h0, if_neg h0, if_neg h1, if_neg h1, List.set_comm _ _ this]

theorem wr_nn {e : Ins} (he : e.ok) : 0 ≤ wr e.op e.d := by
  have := chk_bd he.1
  unfold wr
  split
  · omega
  · split <;> omega

theorem eff_c {e : Ins} (hb : bar e.op = false) (hm : mem e.op = false) (a b : Int) (ws : List Int) : eff e a b ws = some (mv e.op a b e.n, ws) := by
  have hb' : ¬ (e.op = 14 ∨ e.op = 15 ∨ e.op = 23 ∨ e.op = 4 ∨ e.op = 5) := of_decide_eq_false hb
  have hm' : ¬ (e.op = 12 ∨ e.op = 13) := of_decide_eq_false hm
  unfold eff
  rw [if_neg (by omega), if_neg (by omega), if_neg (by omega), if_pos (mok_true (by omega) (by omega))]

/-- Two instructions that do not depend on each other, in the other order. -/
theorem swap2 {x y : Ins} (hx : x.ok) (hy : y.ok) (hd : depB x y = false) {s s2 : ST} (h : (exec1 x s).bind (exec1 y) = some s2) : (exec1 y s).bind (exec1 x) = some s2 := by
  unfold depB at hd
  split at hd
  · cases hd
  · rename_i c1
    split at hd
    · cases hd
    · rename_i c2
      split at hd
      · cases hd
      · rename_i c3
        split at hd
        · cases hd
        · rename_i c4
          have hbx : bar x.op = false := by cases hq : bar x.op; rfl; exact absurd (by simp [hq]) c1
          have hby : bar y.op = false := by cases hq : bar y.op; rfl; exact absurd (by simp [hq]) c1
          have n23x : ¬ x.op = 23 := fun hq => by unfold bar at hbx; have := of_decide_eq_false hbx; omega
          have n23y : ¬ y.op = 23 := fun hq => by unfold bar at hby; have := of_decide_eq_false hby; omega
          have c2' : wr x.op x.d = 0 ∨ wr x.op x.d ≠ wr y.op y.d := by
            by_cases h0 : wr x.op x.d = 0
            · exact .inl h0
            · right; intro he; apply c2; rw [← he]; simp [h0]
          have c2s : wr y.op y.d = 0 ∨ wr y.op y.d ≠ wr x.op x.d := by
            by_cases h0 : wr y.op y.d = 0
            · exact .inl h0
            · rcases c2' with h1 | h1
              · right; intro he; rw [he] at h0; exact h0 h1
              · exact .inr fun he => h1 he.symm
          have c3' : wr x.op x.d ∉ rd y.op y.a y.b := fun hq => c3 (by simp [hq])
          have c4' : wr y.op y.d ∉ rd x.op x.a x.b := fun hq => c4 (by simp [hq])
          have bx := chk_bd hx.1
          have bY := chk_bd hy.1
          have ry := reads_of hy
          have rx := reads_of hx
          have wx := wr_nn hx
          have wy := wr_nn hy
          have nr : ∀ {w : Int} {L : List Int} {r : Int}, w ∉ L → (r = 0 ∨ r ∈ L) → w = 0 ∨ w ≠ r := by
            intro w L r h1 h2
            by_cases h0 : w = 0
            · exact .inl h0
            · right; intro he
              rcases h2 with h2 | h2
              · exact h0 (he.trans h2)
              · exact h1 (he ▸ h2)
          have g1 : ∀ v, gR (pR s.rs (wr x.op x.d) v) y.a = gR s.rs y.a := fun v => gR_pR wx (by omega) (nr c3' ry.1)
          have g2 : ∀ v, gR (pR s.rs (wr x.op x.d) v) y.b = gR s.rs y.b := fun v => gR_pR wx (by omega) (nr c3' ry.2)
          have g3 : ∀ v, gR (pR s.rs (wr y.op y.d) v) x.a = gR s.rs x.a := fun v => gR_pR wy (by omega) (nr c4' rx.1)
          have g4 : ∀ v, gR (pR s.rs (wr y.op y.d) v) x.b = gR s.rs x.b := fun v => gR_pR wy (by omega) (nr c4' rx.2)
          have one : ∀ (e : Ins), ¬ e.op = 23 → ∀ t : ST, exec1 e t = (eff e (gR t.rs e.a) (gR t.rs e.b) t.ws).map fun z => ⟨pR t.rs (wr e.op e.d) z.1, t.pr, z.2⟩ := by
            intro e he t
            unfold exec1
            rw [if_neg he]
          rw [one x n23x] at h
          rw [one y n23y]
          cases hmx : mem x.op with
          | false =>
            rw [eff_c hbx hmx, Option.map_some, Option.bind_some, one y n23y] at h
            dsimp only at h
            rw [g1, g2] at h
            cases hey : eff y (gR s.rs y.a) (gR s.rs y.b) s.ws with
            | none => rw [hey] at h; cases h
            | some z =>
              rw [hey, Option.map_some] at h
              rw [Option.map_some, Option.bind_some, one x n23x]
              dsimp only
              rw [g3, g4, eff_c hbx hmx, Option.map_some]
              injection h with h
              rw [← h, pR_pR wx wy c2']
          | true =>
            have hmy : mem y.op = false := by cases hq : mem y.op; rfl; rw [hmx, hq] at hd; cases hd
            rw [eff_c hby hmy, Option.map_some, Option.bind_some, one x n23x]
            dsimp only
            rw [g3, g4]
            cases hex : eff x (gR s.rs x.a) (gR s.rs x.b) s.ws with
            | none => rw [hex] at h; cases h
            | some z =>
              rw [hex, Option.map_some, Option.bind_some, one y n23y] at h
              dsimp only at h
              rw [g1, g2, eff_c hby hmy, Option.map_some] at h
              rw [Option.map_some]
              injection h with h
              rw [← h, pR_pR wx wy c2']

theorem move_front {l : List Ins} (hv : ∀ e ∈ l, e.ok) {b : Nat} : ∀ (P : List Nat), (∀ q ∈ P, D l q b = false) → ∀ (s s2 : ST), execI l (P ++ [b]) s = some s2 → execI l (b :: P) s = some s2
  | [], _, s, s2, h => h
  | q :: P, hP, s, s2, h => by
    rw [List.cons_append, execI] at h
    cases hq : l[q]? with
    | none => rw [hq] at h; cases h
    | some x =>
      rw [hq] at h
      dsimp only at h
      cases h1 : exec1 x s with
      | none => rw [h1] at h; cases h
      | some t =>
        rw [h1, Option.bind_some] at h
        have h2 := move_front hv P (fun r hr => hP r (.tail _ hr)) t s2 h
        rw [execI] at h2
        cases hb : l[b]? with
        | none => rw [hb] at h2; cases h2
        | some y =>
          rw [hb] at h2
          dsimp only at h2
          cases h3 : exec1 y t with
          | none => rw [h3] at h2; cases h2
          | some u =>
            rw [h3, Option.bind_some] at h2
            have hdep : depB x y = false := by
              have := hP q (.head _)
              unfold D at this
              rw [hq, hb] at this
              exact this
            have hsw := swap2 (hv x (List.mem_of_getElem? hq)) (hv y (List.mem_of_getElem? hb)) hdep (s := s) (s2 := u) (by rw [h1, Option.bind_some, h3])
            rw [execI, hb]
            dsimp only
            cases h4 : exec1 y s with
            | none => rw [h4] at hsw; cases hsw
            | some w =>
              rw [h4, Option.bind_some] at hsw
              rw [Option.bind_some, execI, hq]
              dsimp only
              rw [hsw, Option.bind_some]
              exact h2

theorem perm_exec {l : List Ins} (hv : ∀ e ∈ l, e.ok) : ∀ (out A : List Nat), A.Pairwise (· < ·) → out.Nodup → (∀ x, x ∈ out ↔ x ∈ A) → (∀ (idx b : Nat), out[idx]? = some b → ∀ q ∈ A, q < b → D l q b = true → q ∈ out.take idx) →
    ∀ s s2, execI l A s = some s2 → execI l out s = some s2
  | [], A, hA, _, hm, _, s, s2, h => by
    have : A = [] := by
      cases A with
      | nil => rfl
      | cons a A => exact absurd ((hm a).2 (.head _)) (by simp)
    rw [this] at h
    exact h
  | b :: w, A, hA, hnd, hm, ho, s, s2, h => by
    have hbA : b ∈ A := (hm b).1 (.head _)
    obtain ⟨P, Q, rfl⟩ := List.append_of_mem hbA
    rw [List.pairwise_append] at hA
    obtain ⟨pP, pQ, pPQ⟩ := hA
    rw [List.pairwise_cons] at pQ
    rw [List.nodup_cons] at hnd
    have hP : ∀ q ∈ P, D l q b = false := by
      intro q hq
      cases hD : D l q b with
      | false => rfl
      | true =>
        have := ho 0 b rfl q (List.mem_append_left _ hq) (pPQ q hq b (.head _)) hD
        cases this
    have e1 : P ++ b :: Q = (P ++ [b]) ++ Q := by simp
    rw [e1, execI_app] at h
    cases h1 : execI l (P ++ [b]) s with
    | none => rw [h1] at h; cases h
    | some t =>
      rw [h1, Option.bind_some] at h
      have h2 := move_front hv P hP s t h1
      have h3 : execI l (b :: (P ++ Q)) s = some s2 := by
        have : b :: (P ++ Q) = (b :: P) ++ Q := rfl
        rw [this, execI_app, h2, Option.bind_some]
        exact h
      rw [execI] at h3 ⊢
      cases hb : l[b]? with
      | none => rw [hb] at h3; cases h3
      | some y =>
        rw [hb] at h3
        dsimp only at h3 ⊢
        cases h4 : exec1 y s with
        | none => rw [h4] at h3; cases h3
        | some u =>
          rw [h4, Option.bind_some] at h3
          rw [Option.bind_some]
          have nbA : ∀ x, x ∈ P ++ Q → x ≠ b := by
            intro x hx he
            subst he
            rcases List.mem_append.1 hx with hx | hx
            · have := pPQ x hx x (.head _); omega
            · have := pQ.1 x hx; omega
          refine perm_exec hv w (P ++ Q) ?_ hnd.2 (fun x => ⟨fun hx => ?_, fun hx => ?_⟩) (fun idx b' hb' q hq hlt hD => ?_) u s2 h3
          · rw [List.pairwise_append]
            exact ⟨pP, pQ.2, fun a ha c hc => pPQ a ha c (.tail _ hc)⟩
          · have := (hm x).1 (.tail _ hx)
            rcases List.mem_append.1 this with h5 | h5
            · exact List.mem_append_left _ h5
            · rcases List.mem_cons.1 h5 with h5 | h5
              · subst h5; exact absurd hx hnd.1
              · exact List.mem_append_right _ h5
          · have : x ∈ P ++ b :: Q := by
              rcases List.mem_append.1 hx with h5 | h5
              · exact List.mem_append_left _ h5
              · exact List.mem_append_right _ (.tail _ h5)
            rcases List.mem_cons.1 ((hm x).2 this) with h6 | h6
            · exact absurd h6 (nbA x hx)
            · exact h6
          · have hq' : q ∈ P ++ b :: Q := by
              rcases List.mem_append.1 hq with h5 | h5
              · exact List.mem_append_left _ h5
              · exact List.mem_append_right _ (.tail _ h5)
            have := ho (idx + 1) b' (by simpa using hb') q hq' hlt hD
            rw [List.take_succ_cons] at this
            rcases List.mem_cons.1 this with h6 | h6
            · exact absurd h6 (nbA q hq)
            · exact h6

/-- A list, executed. -/
noncomputable def execL : List Ins → ST → Option ST
  | [], s => some s
  | e :: r, s => (exec1 e s).bind (execL r)

theorem execL_perm (l : List Ins) : ∀ (out : List Nat), (∀ e ∈ out, e < l.length) → ∀ s, execL (perm l out) s = execI l out s
  | [], _, s => rfl
  | i :: out, h, s => by
    obtain ⟨x, hi⟩ : ∃ x, l[i]? = some x := ⟨_, List.getElem?_eq_getElem (h i (.head _))⟩
    have : perm l (i :: out) = x :: perm l out := by unfold perm; rw [List.filterMap_cons, hi]
    rw [this, execL, execI, hi]
    dsimp only
    cases exec1 x s with
    | none => rfl
    | some t => rw [Option.bind_some, Option.bind_some]; exact execL_perm l out (fun e he => h e (.tail _ he)) t

theorem sched_same {l : List Ins} {n : Nat} {out : List Nat} (hl : l.length = n) (hv : ∀ e ∈ l, e.ok) (O : OutOK l n out) {s s2 : ST} (h : execL l s = some s2) : execL (perm l out) s = some s2 := by
  rw [execL_perm l out (by rw [hl]; exact O.lt)]
  have h' : execI l (List.range n) s = some s2 := by
    rw [← execL_perm l _ (by intro e he; rw [hl]; exact List.mem_range.1 he), ← hl, perm_range]
    exact h
  refine perm_exec hv out (List.range n) List.pairwise_lt_range O.nd (fun x => ⟨fun hx => List.mem_range.2 (O.lt x hx), fun hx => O.all x (List.mem_range.1 hx)⟩) (fun idx b hb q _ hlt hD => O.ord idx b hb q hlt hD) s s2 h'

end Go.Proofs.Ytepkdcgokedkdaa.H
