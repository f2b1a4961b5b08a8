/- link: linkFact. -/
import Derived.Test.YtmfmnbldngfelaaConL2
set_option linter.unusedVariables false
set_option linter.unusedSimpArgs false
namespace Go.Proofs.Ytmfmnbldngfelaa.I
open Go Go.Proofs.Ytmfmnbldngfelaa.Abs Go.Proofs

theorem linkFact_ok (h : Heap) : ∃ h', E 32 [] h = some (.bool true, h') ∧ Old h h' := by
  rw [e32, newK_eq, newK_eq, newK_eq]
  have hl1 : (h ++ [Blk.cells [.int .i64 22, .int .i64 0, .int .i64 0, .int .i64 0, .int .i64 0, .int .i64 (-1)] (.grow 6) 0]).length = h.length + 1 := by simp
  have hl2 : (h ++ [Blk.cells [.int .i64 22, .int .i64 0, .int .i64 0, .int .i64 0, .int .i64 0, .int .i64 (-1)] (.grow 6) 0] ++ [Blk.cells [.int .i64 0, .sl (.pos ⟨h.length, 0, 0⟩) 1, .sl .nil 0, .sl .nil 0, .int .i64 1] (.grow 5) 0]).length = h.length + 2 := by simp
  rw [hl2, hl1]
  generalize hh2 : h ++ [Blk.cells [.int .i64 22, .int .i64 0, .int .i64 0, .int .i64 0, .int .i64 0, .int .i64 (-1)] (.grow 6) 0] ++ [Blk.cells [.int .i64 0, .sl (.pos ⟨h.length, 0, 0⟩) 1, .sl .nil 0, .sl .nil 0, .int .i64 1] (.grow 5) 0] ++ [Blk.cells [.int .i64 0] (.grow 1) 0] = h2
  have o2 : Old h h2 := by rw [← hh2]; exact ((old_app _ _).app _).app _
  have k0 : h2[h.length]? = some (.cells ([⟨22, 0, 0, 0, 0, -1⟩].flatMap It.cells) (.grow 6) 0) := by rw [← hh2]; exact app_old (app_old (last_get _ _))
  have k1 : h2[h.length + 1]? = some (.cells [.int .i64 0, .sl (.pos ⟨h.length, 0, 0⟩) 1, .sl .nil 0, .sl .nil 0, .int .i64 1] (.grow 5) 0) := by rw [← hh2, ← hl1]; exact app_old (last_get _ _)
  have k2 : h2[h.length + 2]? = some (.cells ([(0 : Int)].map (.int .i64)) (.grow 1) 0) := by rw [← hh2, ← hl2]; exact last_get _ _
  let f0 : Fn := ⟨0, 1, .pos ⟨h.length, 0, 0⟩, .nil, .nil, [⟨22, 0, 0, 0, 0, -1⟩], [], []⟩
  have hb : big = 17592186044416 := rfl
  have HL : VS Fn.cells 5 h2 (.pos ⟨h.length + 1, 0, 0⟩) 1 [f0] := vs_blk (l := [f0]) (m := .grow 5) fn_len k1
  have R : ∀ f ∈ [f0], f.R h2 := by
    intro f hf
    rw [List.mem_singleton.1 hf]
    exact ⟨vs_blk (l := [⟨22, 0, 0, 0, 0, -1⟩]) it_len k0, ⟨rfl, .inl rfl⟩, ⟨rfl, .inl rfl⟩, (fun m hm => by cases hm), (show 1 < big by omega), (show 0 < big by omega), (show 0 < big by omega)⟩
  have HC : VS intC 1 h2 (.pos ⟨h.length + 2, 0, 0⟩) 1 [0] := vs_blk1 (g := AV.int .i64) (l := [0]) k2
  have L : Lay [f0] 1 [0] := by
    refine ⟨rfl, by omega, fun f hf => ?_, ⟨rfl, ?_, ?_, ?_⟩⟩
    · rw [List.mem_singleton.1 hf]
      refine ⟨⟨show (1 : Nat) ≤ 16384 by omega, fun x hx => ?_⟩, show (1 : Nat) ≠ 0 by omega, show (1 : Int) ≤ 1 by omega, show (1 : Int) ≤ 4096 by omega, fun x hx => ?_, trivial, trivial⟩
      · rw [List.mem_singleton.1 hx]; exact ⟨by decide, show (-1 : Int) ≤ -1 by omega, show (-1 : Int) ≤ ((1 : Nat) : Int) by omega, fun h => absurd h (by decide)⟩
      · rw [List.mem_singleton.1 hx]; exact show (-1 : Int) ≠ ((1 : Nat) : Int) by omega
    · intro i hi; obtain rfl : i = 0 := by omega
      decide
    · intro i hi; obtain rfl : i = 0 := by omega
      decide
    · intro i hi; obtain rfl : i = 0 := by omega
      decide
  obtain ⟨h3, O, o3⟩ := link_ok (mi := 0) false HL R HC L (by omega)
  have hF : (finS [f0] [0] 0).1 = [⟨20, 0, 0, 0, 0, 2⟩, ⟨0, 0, 0, 0, 0, -1⟩, ⟨22, 0, 0, 0, 0, -1⟩] := rfl
  have hA : (finS [f0] [0] 0).2 = [] := rfl
  have hB : bgsOf [f0] [0] = [2] := rfl
  rw [hF, hA, hB] at O
  have fin : ∀ bs, Final [⟨20, 0, 0, 0, 0, 2⟩, ⟨0, 0, 0, 0, 0, -1⟩, ⟨22, 0, 0, 0, 0, -1⟩] bs → bs = [false, false, false] := by
    intro bs Fi
    have hl : bs.length = 3 := Fi.len
    have g1 : gt bs 1 = false := Fi.f1 1 ⟨0, 0, 0, 0, 0, -1⟩ rfl (by decide)
    have g2 : gt bs 2 = false := Fi.f1 2 ⟨22, 0, 0, 0, 0, -1⟩ rfl (by decide)
    have g0 : gt bs 0 = false := by
      cases hg : gt bs 0 with
      | false => rfl
      | true =>
        have hfar := Fi.f3 0 ⟨20, 0, 0, 0, 0, 2⟩ rfl (by decide) hg
        have p0 := pos_lo bs 2
        have p1 := pos_hi bs 2
        have : far [⟨20, 0, 0, 0, 0, 2⟩, ⟨0, 0, 0, 0, 0, -1⟩, ⟨22, 0, 0, 0, 0, -1⟩] bs 0 = !inB (pos bs 2 - pos bs 0 - 1) (-128) 127 := rfl
        rw [this] at hfar
        have hz : pos bs 0 = 0 := rfl
        have : inB (pos bs 2 - pos bs 0 - 1) (-128) 127 = true := by simp [inB]; omega
        rw [this] at hfar
        cases hfar
    match bs, hl with
    | [x, y, z], _ =>
      have a0 : x = false := g0
      have a1 : y = false := g1
      have a2 : z = false := g2
      rw [a0, a1, a2]
  rcases O with ⟨_, hbig | ⟨bs, Fi, hbig⟩⟩ | ⟨w1, bs, Fi, w3, sc, sS, sM, kM, sO, W, O, w4, w5, w6, w7, w8⟩
  · exact absurd hbig (by decide)
  · rw [fin bs Fi] at hbig
    exact absurd hbig (by decide)
  · have hbs := fin bs Fi
    have hwt := words_total (lg := false) Fi
    have hWl : W.length = 3 := by
      rw [w4]
      have : ∀ (P : Nat → Int) (X : List Int), patch P [] X = X := fun _ _ => rfl
      rw [this]
      rw [hbs] at hwt ⊢
      have : pos (lng [⟨20, 0, 0, 0, 0, 2⟩, ⟨0, 0, 0, 0, 0, -1⟩, ⟨22, 0, 0, 0, 0, -1⟩] [false, false, false] false) 3 = 3 := by decide
      have hwt' := hwt.trans this
      omega
    rw [hbs] at w7
    have w7' : VS intC 1 h3 sO 1 [2] := w7
    obtain ⟨a, ha, la⟩ := vs_ld1 (g := AV.int .i64) w7' (fun _ => rfl) 0 2 rfl
    have O' : E 35 [.sl (.pos ⟨h.length + 1, 0, 0⟩) 1, .sl (.pos ⟨h.length + 2, 0, 0⟩) 1, .int .i64 0, .bool false] h2 = _ := O
    rw [O', Option.bind_some, gT3_of]
    simp only [List.getD_cons_zero, List.getD_cons_succ]
    rw [gA_of, chk_of (by intro _; rfl)]
    simp only [List.getElem?_cons_zero, List.getElem?_cons_succ]
    rw [gL_of, gI_of, gL_of, gL_of, gL_of, gL_of, gI_of, letK_eq, letK_eq, letK_eq, chk_of (by intro _; decide), ha, atP_any, atP_any]
    rw [show Int.toNat 0 * 1 = 0 * 1 from rfl, la, gI_any, letK_eq, letK_eq, gL_any, letK_eq, letK_eq, hWl]
    exact ⟨h3, rfl, o2.trans o3⟩

end Go.Proofs.Ytmfmnbldngfelaa.I
