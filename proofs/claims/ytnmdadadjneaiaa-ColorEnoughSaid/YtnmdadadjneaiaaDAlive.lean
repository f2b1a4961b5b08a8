/- The reference's search for a use: Alive. -/
import Derived.Test.YtnmdadadjneaiaaDRs
set_option linter.unusedVariables false
set_option linter.unusedSimpArgs false
namespace Go.Proofs.Ytnmdadadjneaiaa.D
open Go Go.Proofs.Ytnmdadadjneaiaa.Abs Go.Proofs
theorem among_loop {h : Heap} {s : SA} {n : Nat} {l : List Int} (H : VS intC 1 h s n l) (hn : n < 9223372036854775807) (x : Int) : ∀ (k j : Nat), j + k = n →
 L83x4 mk0 E x s n ((n : Nat) : Int) ((j : Nat) : Int) h (Q83x4 mk0 E) = some (.bool (decide (x ∈ l.drop j)), h) := by
 have hl := H.1
 intro k
 induction k with
 | zero =>
  intro j hj
  rw [L83x4xeq, letK_eq, if_neg (by simp; omega), X83x4xe0, List.drop_eq_nil_of_le (by omega)]
  rfl
 | succ k ih =>
  intro j hj
  obtain ⟨y, hy⟩ := at_lt (l := l) (i := j) (by omega)
  obtain ⟨a, ha, la⟩ := vs_ld1 (g := AV.int .i64) H (fun _ => rfl) j y hy
  rw [L83x4xeq, letK_eq, if_pos (by simp; omega), chk_of (by intro _; omega), ha, atP_of, Int.toNat_natCast, la, gI_of, letK_eq, drop_at hy]
  by_cases he : y = x
  · rw [if_pos (decide_eq_true he), X83x4xr, he, decide_eq_true (List.mem_cons_self ..)]
  · rw [if_neg (by simp [he]), letK_eq, wrap64 (by omega) (by omega), show ((j : Int) + 1) = ((j + 1 : Nat) : Int) by omega, ih (j + 1) (by omega)]
    have : (x ∈ l.drop (j + 1)) ↔ x ∈ y :: l.drop (j + 1) := ⟨fun h => .tail _ h, fun h => (List.mem_cons.1 h).elim (fun e => absurd e.symm he) id⟩
    simp only [this]
theorem among_ok {h : Heap} {s : SA} {n : Nat} {l : List Int} (H : VS intC 1 h s n l) (hn : n < 9223372036854775807) (x : Int) : E 83 [.sl s n, .int .i64 x] h = some (.bool (decide (x ∈ l)), h) := by
 rw [e83]
 have := among_loop H hn x n 0 (by omega)
 rw [show (((0 : Nat) : Int)) = 0 from rfl, List.drop_zero] at this
 exact this
theorem idef_ok (x : VI) (h : Heap) : E 45 [.agg x.cells] h = some (.int .i64 (defR x.op x.d), h) := by
 unfold VI.cells
 rw [e45, letK_eq, gI_any, letK_eq, letK_eq]
 unfold defR
 by_cases h1 : x.op = 13 <;> by_cases h2 : x.op = 23 <;> simp [h1, h2]
theorem filt_loop {h0 : Heap} {s13 : SA} {n13 : Nat} {l : List Int} (V : VS intC 1 h0 s13 n13 l) (hn : n13 ≤ 1000000) (Q : Kont (AV × Heap)) :
 ∀ (k j : Nat), j + k = n13 → ∀ (h : Heap) (s3 : SA) (o : List Int), Old h0 h → GS h s3 o.length 1 (o.map (.int .i64)) → (∀ b, inS s3 b → h0.length ≤ b) → o.length ≤ j →
  ∃ h' s', L84x5 mk0 E s3 o.length s13 n13 ((n13 : Nat) : Int) ((j : Nat) : Int) h Q = Q (.exit 0) (S84xe0 s' (o ++ (l.drop j).filter nz).length h') ∧ Old h0 h' ∧ GS h' s' (o ++ (l.drop j).filter nz).length 1 ((o ++ (l.drop j).filter nz).map (.int .i64)) := by
 have hl := V.1
 intro k
 induction k with
 | zero =>
  intro j hj h s3 o ho g so ol
  rw [L84x5xeq, letK_eq, if_neg (by simp; omega), List.drop_eq_nil_of_le (by omega), List.filter_nil, List.append_nil]
  exact ⟨h, s3, rfl, ho, g⟩
 | succ k ih =>
  intro j hj h s3 o ho g so ol
  obtain ⟨y, hy⟩ := at_lt (l := l) (i := j) (by omega)
  obtain ⟨a, ha, la⟩ := vs_ld1 (g := AV.int .i64) (vs_old V ho) (fun _ => rfl) j y hy
  rw [L84x5xeq, letK_eq, if_pos (by simp; omega), chk_of (by intro _; omega), ha, atP_of, Int.toNat_natCast, la, gI_of, letK_eq, drop_at hy]
  by_cases he : y = 0
  · rw [if_neg (by simp [he]), J84x15xeq, letK_eq, wrap64 (by omega) (by omega), show ((j : Int) + 1) = ((j + 1 : Nat) : Int) by omega]
    rw [List.filter_cons_of_neg (by unfold nz; simp [he])]
    exact ih (j + 1) (by omega) h s3 o ho g so (by omega)
  · obtain ⟨s', h', a1, a2, a3, a4, a5, a6⟩ := gs_add (bytes := 8) g [.int .i64 y] (by omega) rfl rfl (by have := flat_ints (o ++ [y]); rw [List.map_append] at this; exact this) (by omega)
    have e : o ++ (y :: l.drop (j + 1)).filter nz = (o ++ [y]) ++ (l.drop (j + 1)).filter nz := by
     rw [List.filter_cons_of_pos (by unfold nz; simp [he])]; simp
    rw [if_pos (by simp [he]), newK_eq, a1, Option.bind_some, a2, Option.bind_some, gL_of, J84x15xeq, letK_eq, wrap64 (by omega) (by omega), show ((j : Int) + 1) = ((j + 1 : Nat) : Int) by omega, e, show o.length + 1 = (o ++ [y]).length by simp]
    have le := ho.le
    refine ih (j + 1) (by omega) h' s' (o ++ [y]) (fun z x hz => a4 z x (ho z x hz) fun hi => by have := so z hi; have := (List.getElem?_eq_some_iff.1 hz).1; omega) (by rw [List.length_append, List.map_append]; exact a3) (fun b hb => ?_) (by simp; omega)
    rcases a5 b hb with h5 | h5
    · exact so b h5
    · omega
theorem iuses_ok {x : VI} {h : Heap} (H : x.R h) (hn : x.args.length ≤ 900) : ∃ h' s, E 84 [.agg x.cells] h = some (.sl s (usesL x).length, h') ∧ Old h h' ∧ VS intC 1 h' s (usesL x).length (usesL x) := by
 obtain ⟨a1, s2, h2, a2, a3, a4, a5⟩ := app_new (hd := [x.a, x.b]) H (by simp; omega)
 have V2 : VS intC 1 h2 s2 ([x.a, x.b] ++ x.args).length ([x.a, x.b] ++ x.args) := vs_GS (f := intC) (es := 1) (fun _ => rfl) rfl (by
  rw [show ([x.a, x.b] ++ x.args).flatMap intC = ([x.a, x.b] ++ x.args).map (.int .i64) from rows_one _ _]; exact a4)
 obtain ⟨h3, s3, b1, b2, b3⟩ := filt_loop V2 (by simp; omega) (Q84x5 mk0 E) ([x.a, x.b] ++ x.args).length 0 (by omega) h2 .nil [] (Old.refl _) ⟨rfl, rfl, .inl ⟨rfl, rfl⟩⟩ (fun b ⟨_, hh, _⟩ => by cases hh) (Nat.le_refl _)
 rw [show (((0 : Nat) : Int)) = 0 from rfl] at b1
 rw [List.drop_zero, List.nil_append] at b1 b3
 have e : ([x.a, x.b] ++ x.args).filter nz = usesL x := rfl
 rw [e] at b1 b3
 unfold VI.cells
 have a1' : ldSl (h ++ [.cells [.int .i64 x.a, .int .i64 x.b] (.grow 1) 0]) x.s (x.args.length * 1) = some (x.args.map (.int .i64)) := a1
 have a2' : apnd (h ++ [.cells [.int .i64 x.a, .int .i64 x.b] (.grow 1) 0]) (.sl (.pos ⟨h.length, 0, 0⟩) 2) 1 8 (x.args.map (.int .i64)) x.args.length = some (.sl s2 ([x.a, x.b] ++ x.args).length, h2) := a2
 have b1' : L84x5 mk0 E .nil 0 s2 ([x.a, x.b] ++ x.args).length ((([x.a, x.b] ++ x.args).length : Nat) : Int) 0 h2 (Q84x5 mk0 E) = Q84x5 mk0 E (.exit 0) (S84xe0 s3 (usesL x).length h3) := b1
 rw [e84, newK_eq, a1', Option.bind_some, a2', Option.bind_some, gL_of, b1', X84x5xe0]
 refine ⟨h3, s3, rfl, a3.trans b2, vs_GS (f := intC) (es := 1) (fun _ => rfl) rfl ?_⟩
 rw [show (usesL x).flatMap intC = (usesL x).map (.int .i64) from rows_one _ _]; exact b3
inductive Dead (f : VF) (r : Int) (T : Nat → Prop) : Nat → Nat → Prop where
 | kill {i k : Nat} {x : VB} {y : VI} : f.blocks[i]? = some x → x.ins[k]? = some y → r ∉ usesL y → defR y.op y.d = r → Dead f r T i k
 | pass {i k : Nat} {x : VB} {y : VI} : f.blocks[i]? = some x → x.ins[k]? = some y → r ∉ usesL y → Dead f r T i (k + 1) → Dead f r T i k
 | stop {i k : Nat} {x : VB} : f.blocks[i]? = some x → x.ins.length ≤ k → r ∉ endL x.e → (∀ t ∈ x.e.to, T t.toNat) → Dead f r T i k
theorem Dead.mono {f : VF} {r : Int} {T T' : Nat → Prop} (h : ∀ t, T t → T' t) {i k : Nat} (D : Dead f r T i k) : Dead f r T' i k := by
 induction D with
 | kill a b c d => exact .kill a b c d
 | pass a b c _ ih => exact .pass a b c ih
 | stop a b c d => exact .stop a b c fun t ht => h _ (d t ht)
theorem Dead.not {f : VF} {r : Int} {T : Nat → Prop} (hT : ∀ t, T t → Dead f r T t 0) {i k : Nat} (L : LiveAt f r i k) : ¬ Dead f r T i k := by
 induction L with
 | use hx hy hu =>
  rintro (⟨a, b, c, d⟩ | ⟨a, b, c, d⟩ | ⟨a, b, c, d⟩)
  · rw [hx] at a; cases a; rw [hy] at b; cases b; exact c hu
  · rw [hx] at a; cases a; rw [hy] at b; cases b; exact c hu
  · rw [hx] at a; cases a
    have := (List.getElem?_eq_some_iff.1 hy).1; omega
 | skip hx hy hd _ ih =>
  rintro (⟨a, b, c, d⟩ | ⟨a, b, c, d⟩ | ⟨a, b, c, d⟩)
  · rw [hx] at a; cases a; rw [hy] at b; cases b; exact hd d
  · exact ih d
  · rw [hx] at a; cases a
    have := (List.getElem?_eq_some_iff.1 hy).1; omega
 | fin hx hk hr =>
  rintro (⟨a, b, c, d⟩ | ⟨a, b, c, d⟩ | ⟨a, b, c, d⟩)
  · rw [hx] at a; cases a
    have := (List.getElem?_eq_some_iff.1 b).1; omega
  · rw [hx] at a; cases a
    have := (List.getElem?_eq_some_iff.1 b).1; omega
  · rw [hx] at a; cases a; exact c hr
 | jump hx hk ht _ ih =>
  rintro (⟨a, b, c, d⟩ | ⟨a, b, c, d⟩ | ⟨a, b, c, d⟩)
  · rw [hx] at a; cases a
    have := (List.getElem?_eq_some_iff.1 b).1; omega
  · rw [hx] at a; cases a
    have := (List.getElem?_eq_some_iff.1 b).1; omega
  · rw [hx] at a; cases a
    exact ih (hT _ (d _ ht))
def Scan (f : VF) (r : Int) (i k : Nat) (x : VB) (d : Bool) : Prop :=
 if d = true then ∀ T, Dead f r T i k else ∀ T, r ∉ endL x.e → (∀ t ∈ x.e.to, T t.toNat) → Dead f r T i k
theorem scan_loop {h0 : Heap} {f : VF} {i n : Nat} {x : VB} (hx : f.blocks[i]? = some x) (R : x.R h0) (ok : x.okB n f.blocks.length) {r : Int} (s4x1 : SA) (n4x1 : Nat) (i4x0 i4x2 : Int) (s4x3 : SA) (n4x3 : Nat) (s9 : SA) (n9 : Nat) (s10 : SA) (n10 : Nat) (Q : Kont (AV × Heap)) :
 ∀ (m k : Nat), x.ins.length ≤ k + m → k ≤ 1000000000 → ∀ (h : Heap), Old h0 h →
  ∃ h', Old h h' ∧ (L46x18 mk0 E r i4x0 s4x1 n4x1 i4x2 s4x3 n4x3 s9 n9 s10 n10 x.s x.ins.length x.e.kind x.e.op x.e.a x.e.b x.e.n x.e.s x.e.to.length false ((k : Nat) : Int) h Q = Q .ret (S46xr true h') ∨
   ∃ d, Scan f r i k x d ∧ L46x18 mk0 E r i4x0 s4x1 n4x1 i4x2 s4x3 n4x3 s9 n9 s10 n10 x.s x.ins.length x.e.kind x.e.op x.e.a x.e.b x.e.n x.e.s x.e.to.length false ((k : Nat) : Int) h Q = Q (.exit 2) (S46xe2 r i4x0 s4x1 n4x1 i4x2 s4x3 n4x3 s9 n9 s10 n10 x.s x.ins.length x.e.kind x.e.op x.e.a x.e.b x.e.n x.e.s x.e.to.length d h')) := by
 have out : ∀ (k : Nat), x.ins.length ≤ k → ∀ (h : Heap), ∃ h', Old h h' ∧ (L46x18 mk0 E r i4x0 s4x1 n4x1 i4x2 s4x3 n4x3 s9 n9 s10 n10 x.s x.ins.length x.e.kind x.e.op x.e.a x.e.b x.e.n x.e.s x.e.to.length false ((k : Nat) : Int) h Q = Q .ret (S46xr true h') ∨
       ∃ d, Scan f r i k x d ∧ L46x18 mk0 E r i4x0 s4x1 n4x1 i4x2 s4x3 n4x3 s9 n9 s10 n10 x.s x.ins.length x.e.kind x.e.op x.e.a x.e.b x.e.n x.e.s x.e.to.length false ((k : Nat) : Int) h Q = Q (.exit 2) (S46xe2 r i4x0 s4x1 n4x1 i4x2 s4x3 n4x3 s9 n9 s10 n10 x.s x.ins.length x.e.kind x.e.op x.e.a x.e.b x.e.n x.e.s x.e.to.length d h')) := fun k hk h => by
  refine ⟨h, Old.refl _, .inr ⟨false, ?_, ?_⟩⟩
  · unfold Scan
    rw [if_neg (by simp)]
    exact fun T h1 h2 => .stop hx hk h1 h2
  · rw [L46x18xeq, letK_eq, letK_eq, if_neg (by
     rw [decide_eq_false (show ¬ ((k : Nat) : Int) < ((x.ins.length : Nat) : Int) by omega)]; simp)]
 intro m
 induction m with
 | zero => intro k hk _ h ho; exact out k (by omega) h
 | succ m ih =>
  intro k hk hk2 h ho
  by_cases hl : x.ins.length ≤ k
  · exact out k hl h
  · obtain ⟨y, hy⟩ := at_lt (l := x.ins) (i := k) (by omega)
    have oy := ok.ins y (List.mem_of_getElem? hy)
    obtain ⟨a, ha, la⟩ := vs_ld (vs_old R.i ho) vi_flat k y hy
    obtain ⟨h1, s1, u1, u2, u3⟩ := iuses_ok (R.r y (List.mem_of_getElem? hy) |>.old ho) (by have := oy.1; omega)
    have ul : (usesL y).length < 9223372036854775807 := by
     have : (usesL y).length ≤ (y.a :: y.b :: y.args).length := List.length_filter_le _ _
     have := oy.1
     simp at *
     omega
    have am := among_ok u3 ul r
    obtain ⟨a2, ha2, la2⟩ := vs_ld (vs_old (vs_old R.i ho) u2) vi_flat k y hy
    rw [ha] at ha2
    cases ha2
    have df := idef_ok y h1
    simp only [VI.cells] at la la2 u1 df
    rw [L46x18xeq, letK_eq, letK_eq, if_pos (by
     rw [decide_eq_true (show ((k : Nat) : Int) < ((x.ins.length : Nat) : Int) by omega)]; rfl), chk_of (by intro _; omega), ha, atP_of, Int.toNat_natCast, la, gCells_of]
    simp only [List.getElem?_cons_zero, List.getElem?_cons_succ]
    rw [gI_of, gI_of, gI_of, gI_of, gI_of, gL_of, u1, Option.bind_some, gL_of, am, Option.bind_some, gB_of]
    by_cases hu : r ∈ usesL y
    · rw [if_pos (decide_eq_true hu)]
      exact ⟨h1, u2, .inl rfl⟩
    · rw [if_neg (by simp [hu]), chk_of (by intro _; omega), atP_of, la2, gCells_of]
      simp only [List.getElem?_cons_zero, List.getElem?_cons_succ]
      rw [gI_of, gI_of, gI_of, gI_of, gI_of, gL_of, df, Option.bind_some, gI_of, letK_eq, letK_eq, wrap64 (x := (k : Int) + 1) (by omega) (by omega), show ((k : Int) + 1) = ((k + 1 : Nat) : Int) by omega]
      by_cases hd : defR y.op y.d = r
      · rw [decide_eq_true hd, L46x18xeq, letK_eq, letK_eq, if_neg (by split <;> simp)]
        refine ⟨h1, u2, .inr ⟨true, ?_, rfl⟩⟩
        unfold Scan
        rw [if_pos rfl]
        exact fun T => .kill hx hy hu hd
      · rw [decide_eq_false hd]
        obtain ⟨h', o', rr⟩ := ih (k + 1) (by omega) (by have := ok.len; omega) h1 (ho.trans u2)
        refine ⟨h', u2.trans o', rr.imp id fun ⟨d, sc, e⟩ => ⟨d, ?_, e⟩⟩
        unfold Scan at sc ⊢
        split
        · rename_i hd; rw [if_pos hd] at sc
          exact fun T => .pass hx hy hu (sc T)
        · rename_i hd; rw [if_neg hd] at sc
          exact fun T h1 h2 => .pass hx hy hu (sc T h1 h2)
structure AS (h0 h : Heap) (hs n : Nat) (s : SA) (sn : List Bool) (td : List (Int × Int)) : Prop where
 old : Old h0 h
 sb : h[hs]? = some (bits sn)
 sl : sn.length = n
 rs : RS h s td.length 2 (td.flatMap mvC)
 lo : h0.length ≤ hs
 ns : ¬ inS s hs
 so : ∀ b, inS s b → h0.length ≤ b
theorem AS.next {h0 h h' : Heap} {hs n : Nat} {s : SA} {sn : List Bool} {td : List (Int × Int)} (A : AS h0 h hs n s sn td) (o : Old h h') : AS h0 h' hs n s sn td :=
 ⟨A.old.trans o, o _ _ A.sb, A.sl, rs_kp A.rs (o.kp fun _ => False) fun _ _ h => h, A.lo, A.ns, A.so⟩
theorem to46_loop {h0 : Heap} {n hs : Nat} {sT : SA} {to : List Int} (V : VS intC 1 h0 sT to.length to) (hto : ∀ t ∈ to, 0 ≤ t ∧ t < (n : Int)) (hl : to.length < 9223372036854775807) (hn : n ≤ 1000000) (r i4x0 : Int) (s4x1 : SA) (n4x1 : Nat) (i4x2 : Int) (s4x3 : SA) (n4x3 : Nat) (Q : Kont (AV × Heap)) :
 ∀ (k j : Nat), j + k = to.length → ∀ (h : Heap) (s : SA) (sn : List Bool) (td : List (Int × Int)), AS h0 h hs n s sn td → td.length + (n - cntB sn) ≤ 10000000 →
  ∃ h' s' sn' td', L46x41 mk0 E r i4x0 s4x1 n4x1 i4x2 s4x3 n4x3 (.pos ⟨hs, 0, 0⟩) n s td.length sT to.length ((to.length : Nat) : Int) ((j : Nat) : Int) h Q = Q (.exit 4) (S46xe4 r i4x0 s4x1 n4x1 i4x2 s4x3 n4x3 (.pos ⟨hs, 0, 0⟩) n s' td'.length h') ∧
   AS h0 h' hs n s' sn' td' ∧ (∀ t : Nat, sn[t]? = some true → sn'[t]? = some true) ∧ (∀ t ∈ to.drop j, sn'[t.toNat]? = some true) ∧ (∀ p ∈ td, p ∈ td') ∧ (∀ t : Nat, sn'[t]? = some true → sn[t]? = some true ∨ ((t : Int), (0 : Int)) ∈ td') ∧ (∀ p ∈ td', p ∈ td ∨ (p.2 = 0 ∧ 0 ≤ p.1 ∧ p.1 < (n : Int))) ∧ td'.length + 2 * (n - cntB sn') ≤ td.length + 2 * (n - cntB sn) ∧ td'.length + (n - cntB sn') ≤ td.length + (n - cntB sn) := by
 intro k
 induction k with
 | zero =>
  intro j hj h s sn td A hb
  rw [L46x41xeq, letK_eq, if_neg (by simp; omega), List.drop_eq_nil_of_le (by omega)]
  exact ⟨h, s, sn, td, rfl, A, fun _ h => h, fun t ht => by (cases ht), fun _ h => h, fun _ h => .inl h, fun _ h => .inl h, Nat.le_refl _, Nat.le_refl _⟩
 | succ k ih =>
  intro j hj h s sn td A hb
  obtain ⟨t, ht⟩ := at_lt (l := to) (i := j) (by omega)
  have tb := hto t (List.mem_of_getElem? ht)
  obtain ⟨a, ha, la⟩ := vs_ld1 (g := AV.int .i64) (vs_old V A.old) (fun _ => rfl) j t ht
  obtain ⟨z, hz⟩ := at_lt (l := sn) (i := t.toNat) (by rw [A.sl]; omega)
  rw [L46x41xeq, letK_eq, if_pos (by simp; omega), chk_of (by intro _; omega), ha, atP_of, Int.toNat_natCast, la, gI_of, chk_of (by intro _; omega), adP_pos, atP_of, add_mk, bits_get A.sb hz, gB_of, drop_at ht]
  cases z with
  | true =>
   obtain ⟨h', s', sn', td', r1, r2, r3, r4, r5⟩ := ih (j + 1) (by omega) h s sn td A hb
   rw [if_neg (show ¬ (!true) = true from fun h => by cases h), J46x52xeq, letK_eq, wrap64 (x := (j : Int) + 1) (by omega) (by omega), show ((j : Int) + 1) = ((j + 1 : Nat) : Int) by omega, r1]
   refine ⟨h', s', sn', td', rfl, r2, r3, fun u hu => ?_, r5⟩
   rcases List.mem_cons.1 hu with rfl | hu
   · exact r3 _ hz
   · exact r4 u hu
  | false =>
   have t1 := bits_set A.sb t.toNat (by rw [A.sl]; omega) true
   have k1 := kp_set (· = hs) hs h (bits (sn.set t.toNat true)) rfl
   have R1 : RS (h.set hs (bits (sn.set t.toNat true))) s td.length 2 (td.flatMap mvC) := rs_kp A.rs k1 fun b hb e => A.ns (by rw [← e]; exact hb)
   have R2 : RS (h.set hs (bits (sn.set t.toNat true)) ++ [.cells [.int .i64 t, .int .i64 0] (.grow 2) 0]) s td.length 2 (td.flatMap mvC) := rs_kp R1 ((old_app _ _).kp fun _ => False) fun _ _ h => h
   have cat : td.flatMap mvC ++ [AV.int .i64 t, .int .i64 0] = (td ++ [(t, 0)]).flatMap mvC := by simp [mvC]
   obtain ⟨s', h', a1, a2, a3, a4, a5⟩ := rs_push (bytes := 16) (y := [.int .i64 t, .int .i64 0]) R2 (by omega) rfl rfl (by rw [cat]; exact rows_flat (fun _ => rfl) _) (by omega)
   rw [cat] at a2
   have ld := ldSl_at (n := 2) (last_get (h.set hs (bits (sn.set t.toNat true))) (.cells [.int .i64 t, .int .i64 0] (.grow 2) 0)) rfl rfl
   rw [List.length_append, List.length_set] at a4 a5
   have cs : cntB (sn.set t.toNat true) = cntB sn + 1 := by
    have h1 := cntB_off (l := sn.set t.toNat true) (b := t.toNat) (List.getElem?_set_self (by rw [A.sl]; omega))
    rw [List.set_set] at h1
    have : sn.set t.toNat false = sn := by
     apply List.ext_getElem?
     intro i
     by_cases e : i = t.toNat
     · rw [e, List.getElem?_set_self (by rw [A.sl]; omega), hz]
     · rw [List.getElem?_set_ne (Ne.symm e)]
    rw [this] at h1
    omega
   have cl := cntB_le (sn.set t.toNat true)
   rw [List.length_set, A.sl] at cl
   have A2 : AS h0 h' hs n s' (sn.set t.toNat true) (td ++ [(t, 0)]) := by
    have hsl := (List.getElem?_eq_some_iff.1 A.sb).1
    refine ⟨fun b x hb => a3 b x (app_old (k1 b x (A.old b x hb) fun e => ?_)) fun hi => ?_, a3 _ _ (app_old (set_same A.sb)) A.ns, by rw [List.length_set]; exact A.sl, by rw [List.length_append]; exact a2, A.lo, fun hi => ?_, fun b hb => ?_⟩
    · have := A.lo; have := (List.getElem?_eq_some_iff.1 hb).1; omega
    · have := A.so b hi; have := (List.getElem?_eq_some_iff.1 hb).1; omega
    · rcases a4 _ hi with h5 | h5
      · exact A.ns h5
      · simp at h5; omega
    · rcases a4 b hb with h5 | h5
      · exact A.so b h5
      · have := A.old.le; simp at h5; omega
   obtain ⟨h2, s2, sn2, td2, r1, r2, r3, r4, r5, r6, r7, r8, r9⟩ := ih (j + 1) (by omega) h' s' _ _ A2 (by simp; omega)
   rw [show (td ++ [(t, (0 : Int))]).length = td.length + 1 by simp] at r1 r8 r9
   rw [if_pos (show (!false) = true from rfl), chk_of (by intro _; omega), atP_of, add_mk, t1, Option.bind_some, newK_eq, show 1 * 2 = 2 from rfl, ld, Option.bind_some, a1, Option.bind_some, gL_of, J46x52xeq, letK_eq, wrap64 (x := (j : Int) + 1) (by omega) (by omega), show ((j : Int) + 1) = ((j + 1 : Nat) : Int) by omega, r1]
   have mem : ((t : Int), (0 : Int)) ∈ td2 := r5 _ (by simp)
   have st : sn2[t.toNat]? = some true := r3 _ (List.getElem?_set_self (by rw [A.sl]; omega))
   refine ⟨h2, s2, sn2, td2, rfl, r2, fun u hu => r3 u (set_true_keep hu), fun u hu => ?_, fun p hp => r5 p (by simp [hp]), fun u hu => ?_, fun p hp => ?_, by omega, by omega⟩
   · rcases List.mem_cons.1 hu with rfl | hu
     · exact st
     · exact r4 u hu
   · rcases r6 u hu with h | h
     · by_cases e : u = t.toNat
       · right
         rw [e, show ((t.toNat : Nat) : Int) = t by omega]; exact mem
       · rw [List.getElem?_set_ne (Ne.symm e)] at h
         exact .inl h
     · exact .inr h
   · rcases r7 p hp with h | h
     · rcases List.mem_append.1 h with h | h
       · exact .inl h
       · rw [List.mem_singleton] at h
         rw [h]
         exact .inr ⟨rfl, tb⟩
     · exact .inr h
theorem alive_loop {h0 : Heap} {f : VF} (R : f.R h0) (okB : ∀ x ∈ f.blocks, x.okB f.regs.toNat f.blocks.length) (nb : f.blocks.length ≤ 4096) {hs i0 k0 : Nat} {r : Int} (r0 : r ≠ 0) :
 ∀ (m : Nat) (h : Heap) (s : SA) (sn : List Bool) (td : List (Int × Int)), td.length + 2 * (f.blocks.length - cntB sn) ≤ m → AS h0 h hs f.blocks.length s sn td → td.length + (f.blocks.length - cntB sn) ≤ 10000 → (∀ p ∈ td, (0 ≤ p.1 ∧ p.1 < (f.blocks.length : Int)) ∧ 0 ≤ p.2 ∧ p.2 ≤ 10000000) →
  (Dead f r (fun t => sn[t]? = some true) i0 k0 ∨ (((i0 : Nat) : Int), ((k0 : Nat) : Int)) ∈ td) → (∀ t : Nat, sn[t]? = some true → Dead f r (fun t => sn[t]? = some true) t 0 ∨ (((t : Nat) : Int), (0 : Int)) ∈ td) →
  ∃ h', ∃ b : Bool, L46x5 mk0 E r f.nm f.sp f.params.length f.regs f.sb f.blocks.length (.pos ⟨hs, 0, 0⟩) f.blocks.length s td.length h (Q46x5 mk0 E) = some (.bool b, h') ∧ Old h0 h' ∧ (LiveAt f r i0 k0 → b = true) := by
 intro m
 induction m with
 | zero =>
  intro h s sn td hm A hb hp h1 h2
  have : td = [] := List.length_eq_zero_iff.1 (by omega)
  subst this
  have hT : ∀ t, sn[t]? = some true → Dead f r (fun t => sn[t]? = some true) t 0 := fun t ht => (h2 t ht).elim id fun h => by cases h
  rw [L46x5xeq, letK_eq, if_neg (by simp), X46x5xe0]
  exact ⟨h, false, rfl, A.old, fun hL => absurd (h1.elim id fun h => by cases h) (Dead.not hT hL)⟩
 | succ m ih =>
  intro h s sn td hm A hb hp h1 h2
  rcases List.eq_nil_or_concat td with rfl | ⟨td', p, rfl⟩
  · have hT : ∀ t, sn[t]? = some true → Dead f r (fun t => sn[t]? = some true) t 0 := fun t ht => (h2 t ht).elim id fun h => by cases h
    rw [L46x5xeq, letK_eq, if_neg (by simp), X46x5xe0]
    exact ⟨h, false, rfl, A.old, fun hL => absurd (h1.elim id fun h => by cases h) (Dead.not hT hL)⟩
  · rw [List.concat_eq_append] at *
    have len : (td' ++ [p]).length = td'.length + 1 := by simp
    obtain ⟨pb, pk⟩ := hp p (by simp)
    have V := rs_vs (f := mvC) (es := 2) (fun _ => rfl) rfl A.rs
    obtain ⟨a, ha, la⟩ := vs_ld V (fun _ => rfl) td'.length p (by simp)
    have rc := rs_cut A.rs (m := td'.length) (by omega)
    have tk : ((td' ++ [p]).flatMap mvC).take (td'.length * 2) = td'.flatMap mvC := by
     rw [List.flatMap_append]
     refine List.take_left' ?_
     have : ∀ l : List (Int × Int), (l.flatMap mvC).length = l.length * 2 := fun l => by
      induction l with
      | nil => rfl
      | cons x l ih => rw [List.flatMap_cons, List.length_append, ih, List.length_cons]; show 2 + _ = _; omega
     exact this _
    rw [tk] at rc
    have A' : AS h0 h hs f.blocks.length s sn td' := ⟨A.old, A.sb, A.sl, rc, A.lo, A.ns, A.so⟩
    obtain ⟨x, hx⟩ := at_lt (l := f.blocks) (i := p.1.toNat) (by omega)
    have xm := List.mem_of_getElem? hx
    have ok := okB x xm
    obtain ⟨a2, ha2, la2⟩ := vs_ld (vs_old R.b A.old) vb_flat p.1.toNat x hx
    simp only [VB.cells, VE.cells] at la2
    unfold mvC at la
    have g0 : ([AV.int .i64 p.1, AV.int .i64 p.2])[(0 + Int.toNat 0 * 1)]? = some (.int .i64 p.1) := rfl
    have g1 : ([AV.int .i64 p.1, AV.int .i64 p.2])[(0 + Int.toNat 1 * 1)]? = some (.int .i64 p.2) := rfl
    obtain ⟨h1', o1, sc⟩ := scan_loop hx (R.r x xm) ok (r := r) f.sp f.params.length f.nm f.regs f.sb f.blocks.length (.pos ⟨hs, 0, 0⟩) f.blocks.length s td'.length (Q46x18 mk0 E (Q46x5 mk0 E)) x.ins.length p.2.toNat (by omega) (by omega) h A.old
    rw [show ((p.2.toNat : Nat) : Int) = p.2 by omega] at sc
    have hd : L46x5 mk0 E r f.nm f.sp f.params.length f.regs f.sb f.blocks.length (.pos ⟨hs, 0, 0⟩) f.blocks.length s (td' ++ [p]).length h (Q46x5 mk0 E) = L46x18 mk0 E r f.nm f.sp f.params.length f.regs f.sb f.blocks.length (.pos ⟨hs, 0, 0⟩) f.blocks.length s td'.length x.s x.ins.length x.e.kind x.e.op x.e.a x.e.b x.e.n x.e.s x.e.to.length false p.2 h (Q46x18 mk0 E (Q46x5 mk0 E)) := by
     rw [len, L46x5xeq, letK_eq, if_pos (by simp), letK_eq, wrap64 (x := ((td'.length + 1 : Nat) : Int) - 1) (by omega) (by omega), show (((td'.length + 1 : Nat) : Int) - 1) = ((td'.length : Nat) : Int) by omega, chk_of (by intro _; omega), ha, atP_of, Int.toNat_natCast, la, gCells_of]
     simp only [List.getElem?_cons_zero, List.getElem?_cons_succ]
     rw [gI_of, gI_of, letK_eq, chkC_of (fun _ => ⟨Int.natCast_nonneg _, .inl (by omega)⟩), letK_eq, chk_of (by intro _; omega), g0, gI_of, chk_of (by intro _; omega), ha2, atP_of, la2, gCells_of]
     simp only [List.getElem?_cons_zero, List.getElem?_cons_succ]
     rw [gL_of, gI_of, gI_of, gI_of, gI_of, gI_of, gL_of, chk_of (by intro _; omega), g1, gI_of, Int.toNat_natCast]
    rw [hd]
    rcases sc with sc | ⟨d, sc1, sc2⟩
    · rw [sc, X46x18xr, X46x5xr]
      exact ⟨h1', true, rfl, A.old.trans o1, fun _ => rfl⟩
    · rw [sc2, X46x18xe2]
      have A1 := A'.next o1
      cases d with
      | true =>
       unfold Scan at sc1
       rw [if_pos rfl] at sc1
       rw [if_pos rfl, J46x53xeq]
       have me : ∀ (i k : Nat), (((i : Nat) : Int), ((k : Nat) : Int)) ∈ td' ++ [p] → (((i : Nat) : Int), ((k : Nat) : Int)) ∈ td' ∨ (i = p.1.toNat ∧ k = p.2.toNat) := fun i k h => by
        rcases List.mem_append.1 h with h | h
        · exact .inl h
        · rw [List.mem_singleton] at h
          right
          rw [← h]
          exact ⟨rfl, rfl⟩
       refine ih h1' s sn td' (by rw [len] at hm; omega) A1 (by rw [len] at hb; omega) (fun q hq => hp q (by simp [hq])) ?_ fun t ht => ?_
       · rcases h1 with h | h
         · exact .inl h
         · rcases me _ _ h with h | ⟨e1, e2⟩
           · exact .inr h
           · rw [e1, e2]; exact .inl (sc1 _)
       · rcases h2 t ht with h | h
         · exact .inl h
         · rcases me t 0 h with h | ⟨e1, e2⟩
           · exact .inr h
           · left
             have := sc1 (fun t => sn[t]? = some true)
             rw [← e1, ← e2] at this
             exact this
      | false =>
       unfold Scan at sc1
       rw [if_neg (by simp)] at sc1
       rw [if_neg (by simp), letK_eq, gI_any, letK_eq, letK_eq]
       by_cases hr : r ∈ endL x.e
       · have : x.e.a = r ∨ x.e.b = r := by
          unfold endL at hr
          have := (List.mem_filter.1 hr).1
          simp at this
          exact this.imp Eq.symm Eq.symm
         rw [if_pos (by rcases this with e | e <;> simp [e]), X46x5xr]
         exact ⟨h1', true, rfl, A.old.trans o1, fun _ => rfl⟩
       · have ne : ¬ (x.e.a = r ∨ x.e.b = r) := fun h => hr (by
          unfold endL
          refine List.mem_filter.2 ⟨?_, by unfold nz; simpa using r0⟩
          rcases h with h | h <;> simp [h])
         rw [not_or] at ne
         have cl := cntB_le sn
         have asl := A.sl
         obtain ⟨h2', s2, sn2, td2, q1, q2, q3, q4, q5, q6, q7, q8, q9⟩ := to46_loop (h0 := h0) (hs := hs) (n := f.blocks.length) (R.r x xm).e ok.to ok.tol (by omega) r f.nm f.sp f.params.length f.regs f.sb f.blocks.length (Q46x41 mk0 E (Q46x5 mk0 E)) x.e.to.length 0 (by omega) h1' s sn td' A1 (by rw [len] at hb; omega)
         rw [show (((0 : Nat) : Int)) = 0 from rfl] at q1
         rw [List.drop_zero] at q4
         rw [if_neg (by simp [ne.1, ne.2]), q1, X46x41xe4, J46x53xeq]
         have D := sc1 (fun t => sn2[t]? = some true) hr q4
         have up : ∀ (i k : Nat), (Dead f r (fun t => sn[t]? = some true) i k ∨ (((i : Nat) : Int), ((k : Nat) : Int)) ∈ td' ++ [p]) → (Dead f r (fun t => sn2[t]? = some true) i k ∨ (((i : Nat) : Int), ((k : Nat) : Int)) ∈ td2) := fun i k h => by
          rcases h with h | h
          · exact .inl (h.mono q3)
          · rcases List.mem_append.1 h with h | h
            · exact .inr (q5 _ h)
            · rw [List.mem_singleton] at h
              left
              have e1 : i = p.1.toNat := by rw [← h]; rfl
              have e2 : k = p.2.toNat := by rw [← h]; rfl
              rw [e1, e2]; exact D
         refine ih h2' s2 sn2 td2 (by rw [len] at hm; omega) q2 (by rw [len] at hb; omega) (fun q hq => ?_) (up _ _ h1) fun t ht => ?_
         · rcases q7 q hq with h | h
           · exact hp q (by simp [h])
           · exact ⟨h.2, by omega, by omega⟩
         · rcases q6 t ht with h | h
           · exact up t 0 (h2 t h)
           · exact .inr h
theorem alive_ok {h : Heap} {f : VF} (R : f.R h) (fo : f.ok) {i k : Nat} {r : Int} (r0 : r ≠ 0) (hi : i < f.blocks.length) (hk : k ≤ 10000000) :
 ∃ h', ∃ b : Bool, E 46 [.agg f.cells, .int .i64 i, .int .i64 k, .int .i64 r] h = some (.bool b, h') ∧ Old h h' ∧ (LiveAt f r i k → b = true) := by
 have fr := fo.regs
 have okB := okB_of fr.1 fo.blk fo.sum
 have nb := fo.nb
 obtain ⟨h1, e1⟩ : ∃ h1, h1 = h ++ [bits (List.replicate f.blocks.length false)] := ⟨_, rfl⟩
 have l1 : h1.length = h.length + 1 := by rw [e1]; simp
 have rp : Blk.cells (repl (Int.toNat ((f.blocks.length : Nat) : Int)) [AV.bool false]) (.grow 1) 0 = bits (List.replicate f.blocks.length false) := by simp [repl, bits]
 have c0 : cntB (List.replicate f.blocks.length false) = 0 := by
  generalize f.blocks.length = n
  induction n with
  | zero => rfl
  | succ n ih => rw [List.replicate_succ]; show (if false = true then 1 else 0) + cntB (List.replicate n false) = 0; rw [ih]; rfl
 have A : AS h (h1 ++ [.cells [.int .i64 i, .int .i64 k] (.grow 2) 0]) h.length f.blocks.length (.pos ⟨h1.length, 0, 0⟩) (List.replicate f.blocks.length false) [((i : Int), (k : Int))] := by
  refine ⟨by rw [e1]; exact (old_app _ _).trans (old_app _ _), app_old (by rw [e1]; exact last_get _ _), List.length_replicate .., ⟨rfl, rfl, .inr ⟨_, _, _, rfl, last_get _ _, Nat.le_refl _, rfl⟩⟩, Nat.le_refl _, ?_, ?_⟩
  · rintro ⟨a, ha, hb⟩; cases ha; simp only at hb; omega
  · rintro b ⟨a, ha, hb⟩; cases ha; simp only at hb; omega
 obtain ⟨h', b, a1, a2, a3⟩ := alive_loop (i0 := i) (k0 := k) R okB nb r0 (1 + 2 * f.blocks.length) _ _ _ _ (by rw [c0]; simp) A (by rw [c0]; simp; omega) (fun p hp => by
  rw [List.mem_singleton] at hp; rw [hp]; exact ⟨⟨by simp, by simp; omega⟩, by simp, by simp; omega⟩) (.inr (by simp)) (fun t ht => by
  rw [List.getElem?_replicate] at ht
  split at ht <;> cases ht)
 refine ⟨h', b, ?_, a2, a3⟩
 unfold VF.cells
 rw [e46, chk_of (by omega), newK_eq, letK_eq, rp, ← e1, newK_eq, Int.toNat_natCast]
 exact a1
theorem kept_in {h0 : Heap} {f : VF} (R : f.R h0) (fo : f.ok) {i : Nat} {x : VB} (hx : f.blocks[i]? = some x) {r : Nat} (r0 : 1 ≤ r) (i11 i12 : Int) (s10 : SA) (n10 : Nat) (Q : Kont (AV × Heap)) :
 ∀ (m j : Nat), j + m = x.ins.length → ∀ (h : Heap), Old h0 h →
  ∃ h', Old h h' ∧ (L15x14 mk0 E ((r : Nat) : Int) f.nm f.sp f.params.length f.regs f.sb f.blocks.length ((i : Nat) : Int) s10 n10 i11 i12 x.s x.ins.length ((x.ins.length : Nat) : Int) ((j : Nat) : Int) h Q = Q .ret (S15xr true h') ∨
   ((∀ k y, j ≤ k → x.ins[k]? = some y → isCall y.op = true → (defR y.op y.d).toNat ≠ r → ¬ LiveAt f r i (k + 1)) ∧ L15x14 mk0 E ((r : Nat) : Int) f.nm f.sp f.params.length f.regs f.sb f.blocks.length ((i : Nat) : Int) s10 n10 i11 i12 x.s x.ins.length ((x.ins.length : Nat) : Int) ((j : Nat) : Int) h Q = Q (.exit 2) (S15xe2 ((r : Nat) : Int) f.nm f.sp f.params.length f.regs f.sb f.blocks.length s10 n10 i11 i12 h'))) := by
 have fr := fo.regs
 have ok := okB_of fr.1 fo.blk fo.sum x (List.mem_of_getElem? hx)
 have xR := R.r x (List.mem_of_getElem? hx)
 have xl := ok.len
 have ilt := (List.getElem?_eq_some_iff.1 hx).1
 intro m
 induction m with
 | zero =>
  intro j hj h ho
  rw [L15x14xeq, letK_eq, if_neg (by simp; omega)]
  exact ⟨h, Old.refl _, .inr ⟨fun k y hk hy => by have := (List.getElem?_eq_some_iff.1 hy).1; omega, rfl⟩⟩
 | succ m ih =>
  intro j hj h ho
  obtain ⟨y, hy⟩ := at_lt (l := x.ins) (i := j) (by omega)
  have oy := ok.ins y (List.mem_of_getElem? hy)
  have dy := oy.def
  obtain ⟨a, ha, la⟩ := vs_ld (vs_old xR.i ho) vi_flat j y hy
  obtain ⟨h1, b, a1, a2, a3⟩ := alive_ok (i := i) (k := j + 1) (r := ((r : Nat) : Int)) (R.old ho) fo (by omega) ilt (by omega)
  have df := idef_ok y h
  have ei : isCall y.op = (if decide (y.op = 101) = true then true else decide (y.op = 102)) := by
   unfold isCall
   by_cases h1 : y.op = 101 <;> by_cases h2 : y.op = 102 <;> simp [h1, h2]
  simp only [VI.cells] at la df
  unfold VF.cells at a1
  rw [L15x14xeq, letK_eq, if_pos (by simp; omega), chk_of (by intro _; omega), ha, atP_of, Int.toNat_natCast, la, gCells_of]
  simp only [List.getElem?_cons_zero, List.getElem?_cons_succ]
  rw [gI_of, gI_of, gI_of, gI_of, gI_of, gL_of, letK_eq, gI_any, letK_eq, letK_eq, ← ei, chk_of (by intro _; omega), gI_any, gI_any, gI_any, gI_any, gI_any, gL_any]
  cases hc : isCall y.op with
  | false =>
   obtain ⟨h', o', rr⟩ := ih (j + 1) (by omega) h ho
   rw [callO_false, Option.bind_some, gI_any, letK_eq, letK_eq, if_neg (by simp), chk_of (by intro _; omega), gI_any, gL_any, gI_any, gL_any, letK_eq, callO_false, Option.bind_some, gB_any, letK_eq, if_neg (by simp), letK_eq, wrap64 (x := (j : Int) + 1) (by omega) (by omega), show ((j : Int) + 1) = ((j + 1 : Nat) : Int) by omega]
   refine ⟨h', o', rr.imp id fun ⟨q1, q2⟩ => ⟨fun k z hk hz hcz => ?_, q2⟩⟩
   by_cases e : k = j
   · rw [e, hy] at hz; cases hz; rw [hc] at hcz; cases hcz
   · exact q1 k z (by omega) hz hcz
  | true =>
   rw [callO_true, df, Option.bind_some, gI_any, letK_eq, letK_eq, if_pos rfl]
   by_cases hd : defR y.op y.d = ((r : Nat) : Int)
   · obtain ⟨h', o', rr⟩ := ih (j + 1) (by omega) h ho
     rw [decide_eq_true hd, chk_of (by intro _; omega), gI_any, gL_any, gI_any, gL_any, letK_eq, Bool.not_true, callO_false, Option.bind_some, gB_any, letK_eq, if_neg (by simp), letK_eq, wrap64 (x := (j : Int) + 1) (by omega) (by omega), show ((j : Int) + 1) = ((j + 1 : Nat) : Int) by omega]
     refine ⟨h', o', rr.imp id fun ⟨q1, q2⟩ => ⟨fun k z hk hz hcz hdz => ?_, q2⟩⟩
     by_cases e : k = j
     · rw [e, hy] at hz; cases hz; omega
     · exact q1 k z (by omega) hz hcz hdz
   · rw [decide_eq_false hd, chk_of (by intro _; omega), gI_any, gL_any, gI_any, gL_any, letK_eq, wrap64 (x := (j : Int) + 1) (by omega) (by omega), show ((j : Int) + 1) = ((j + 1 : Nat) : Int) by omega, Bool.not_false, callO_true, a1, Option.bind_some, gB_any, letK_eq, if_pos rfl]
     cases b with
     | true =>
      rw [if_pos rfl]
      exact ⟨h1, a2, .inl rfl⟩
     | false =>
      obtain ⟨h', o', rr⟩ := ih (j + 1) (by omega) h1 (ho.trans a2)
      rw [if_neg (by simp), letK_eq]
      refine ⟨h', a2.trans o', rr.imp id fun ⟨q1, q2⟩ => ⟨fun k z hk hz hcz hdz => ?_, q2⟩⟩
      by_cases e : k = j
      · rw [e]
        intro hl
        cases a3 hl
      · exact q1 k z (by omega) hz hcz hdz
theorem kept_loop {h0 : Heap} {f : VF} (R : f.R h0) (fo : f.ok) {r : Nat} (r0 : 1 ≤ r) {i0 k0 : Nat} {x0 : VB} {y0 : VI} (hx0 : f.blocks[i0]? = some x0) (hy0 : x0.ins[k0]? = some y0) (hc : isCall y0.op = true) (hd : (defR y0.op y0.d).toNat ≠ r) (hL : LiveAt f r i0 (k0 + 1)) :
 ∀ (m j : Nat), j + m = f.blocks.length → j ≤ i0 → ∀ (h : Heap), Old h0 h →
  ∃ h', L15x4 mk0 E ((r : Nat) : Int) f.nm f.sp f.params.length f.regs f.sb f.blocks.length f.sb f.blocks.length ((f.blocks.length : Nat) : Int) ((j : Nat) : Int) h (Q15x4 mk0 E) = some (.bool true, h') ∧ Old h0 h' := by
 have i0l := (List.getElem?_eq_some_iff.1 hx0).1
 have nb := fo.nb
 intro m
 induction m with
 | zero => intro j hj hji; omega
 | succ m ih =>
  intro j hj hji h ho
  obtain ⟨x, hx⟩ := at_lt (l := f.blocks) (i := j) (by omega)
  obtain ⟨a, ha, la⟩ := vs_ld (vs_old R.b ho) vb_flat j x hx
  simp only [VB.cells, VE.cells] at la
  obtain ⟨h1, o1, rr⟩ := kept_in R fo hx r0 ((f.blocks.length : Nat) : Int) ((j : Nat) : Int) f.sb f.blocks.length (Q15x14 mk0 E (Q15x4 mk0 E)) x.ins.length 0 (by omega) h ho
  rw [show (((0 : Nat) : Int)) = 0 from rfl] at rr
  rw [L15x4xeq, letK_eq, if_pos (by simp; omega), chk_of (by intro _; omega), ha, atP_of, Int.toNat_natCast, la, gCells_of]
  simp only [List.getElem?_cons_zero, List.getElem?_cons_succ]
  rw [gL_of, gI_of, gI_of, gI_of, gI_of, gI_of, gL_of]
  rcases rr with rr | ⟨q1, q2⟩
  · rw [rr, X15x14xr, X15x4xr]
    exact ⟨h1, rfl, ho.trans o1⟩
  · have ne : j ≠ i0 := fun e => by
     subst e
     rw [hx] at hx0; cases hx0
     exact q1 k0 y0 (Nat.zero_le _) hy0 hc hd hL
    rw [q2, X15x14xe2, letK_eq, wrap64 (x := (j : Int) + 1) (by omega) (by omega), show ((j : Int) + 1) = ((j + 1 : Nat) : Int) by omega]
    exact ih (j + 1) (by omega) (by omega) h1 (ho.trans o1)
theorem kept_ok {h : Heap} {f : VF} (R : f.R h) (fo : f.ok) {L : List (List Bool)} (H : f.lfp L) {r : Nat} (r0 : 1 ≤ r) (K : KeptP f L r) :
 ∃ h', E 15 [.agg f.cells, .int .i64 r] h = some (.bool true, h') ∧ Old h h' := by
 obtain ⟨i, x, k, y, h1, h2, h3, h4, h5⟩ := kept_live fo H K
 obtain ⟨h', a1, a2⟩ := kept_loop R fo r0 h1 h2 h3 h4 h5 f.blocks.length 0 (by omega) (Nat.zero_le _) h (Old.refl _)
 rw [show (((0 : Nat) : Int)) = 0 from rfl] at a1
 unfold VF.cells
 exact ⟨h', by rw [e15, a1], a2⟩
end Go.Proofs.Ytnmdadadjneaiaa.D
