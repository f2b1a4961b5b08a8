/- heap: BinarySearch, and Check of a memory with a chain. -/
import Derived.Test.YtecgpcpgklholaaConK2
import Derived.Test.YtecgpcpgklholaaKRoom2
set_option linter.unusedVariables false
set_option linter.unusedSimpArgs false
namespace Go.Proofs.Ytecgpcpgklholaa.K
open Go Go.Proofs.Ytecgpcpgklholaa.Abs Go.Proofs

theorem nan48 (i : Int) (h : Heap) : E 48 [.int .i64 i] h = some (.bool false, h) := by
  rw [e48, letK_eq]; simp
theorem nan44 (i : Int) (h : Heap) : E 44 [.int .i64 i] h = some (.bool false, h) := by
  rw [e44, letK_eq]; simp
theorem less_ok (i j : Int) (h : Heap) : E 43 [.int .i64 i, .int .i64 j] h = some (.bool (decide (i < j)), h) := by
  rw [e43, nan48, Option.bind_some, gB_of, callO_false, Option.bind_some, gB_any, letK_eq, letK_eq, letK_eq]
  simp

theorem search_loop {h : Heap} {s : SA} {n : Nat} {ps : List Nat} (HV : VS intC 1 h s n (castN ps)) (hn : n ≤ 100000) (hs : ∀ i j a c : Nat, ps[i]? = some a → ps[j]? = some c → i < j → a < c) {p t : Nat} (ht : ps[t]? = some p) : ∀ (d lo hi : Nat), lo + d = hi → lo ≤ t → t ≤ hi → hi ≤ n →
    L33x5 mk0 E s n ((p : Nat) : Int) ((n : Nat) : Int) ((lo : Nat) : Int) ((hi : Nat) : Int) h (Q33x5 mk0 E) = some (.tup [.int .i64 ((t : Nat) : Int), .bool true], h) := by
  have hl : ps.length = n := by have := HV.1; simpa [castN] using this
  have htl : t < n := by have := (List.getElem?_eq_some_iff.1 ht).1; omega
  intro d
  induction d using Nat.strongRecOn with
  | ind d ih =>
    intro lo hi hd h1 h2 h3
    by_cases h0 : d = 0
    · obtain rfl : lo = hi := by omega
      obtain rfl : lo = t := by omega
      have hc : (castN ps)[lo]? = some ((p : Nat) : Int) := by simp [castN, ht]
      obtain ⟨a, ha, la⟩ := vs_ld1 (g := AV.int .i64) HV (fun _ => rfl) lo _ hc
      rw [L33x5xeq, letK_eq, if_neg (by simp), X33x5xe0, letK_eq, decide_eq_true (show (lo : Int) < (n : Int) by omega), chk_of (by intro _; omega), ha, atP_of, Int.toNat_natCast, atP_of, la, gI_of, letK_eq, decide_eq_true (rfl : (p : Int) = (p : Int))]
      simp only [Bool.not_true, andB_true]
      rw [chk_of (by intro hh; simp at hh), atP_of, atP_of, la, gI_any, callO_false, Option.bind_some, gB_any]
      simp only [andB_false, callO_false, Option.bind_some]
      rw [gB_any, letK_eq, letK_eq, letK_eq]
      simp
    · obtain ⟨c, hc0⟩ : ∃ c, ps[(lo + hi) / 2]? = some c := ⟨ps[(lo + hi) / 2]'(by omega), List.getElem?_eq_getElem (by omega)⟩
      have hc : (castN ps)[(lo + hi) / 2]? = some ((c : Nat) : Int) := by simp [castN, hc0]
      obtain ⟨a, ha, la⟩ := vs_ld1 (g := AV.int .i64) HV (fun _ => rfl) _ _ hc
      have m1 : IntKind.wrap .u64 ((lo : Int) + (hi : Int)) = (lo : Int) + (hi : Int) := by
        unfold IntKind.wrap
        simp only [IntKind.bits, IntKind.signed]
        simp
        omega
      have m2 : Int.fdiv ((lo : Int) + (hi : Int)) (2 ^ 1) = (((lo + hi) / 2 : Nat) : Int) := by
        rw [Int.fdiv_eq_ediv_of_nonneg _ (by omega)]; omega
      rw [L33x5xeq, letK_eq, if_pos (by simp; omega), letK_eq, wrap64 (by omega) (by omega), letK_eq, m1, letK_eq, m2, letK_eq, wrap64 (by omega) (by omega), chk_of (by intro _; omega), ha, atP_of, Int.toNat_natCast, la, gI_of, less_ok, Option.bind_some, gB_of]
      by_cases hcp : c < p
      · rw [decide_eq_true (show (c : Int) < (p : Int) by omega), if_pos (by rfl), letK_eq, wrap64 (by omega) (by omega), J33x14xeq, show ((((lo + hi) / 2 : Nat) : Int) + 1) = (((lo + hi) / 2 + 1 : Nat) : Int) by omega]
        have : (lo + hi) / 2 < t := by
          by_cases hh : (lo + hi) / 2 = t
          · rw [hh, ht] at hc0; cases hc0; omega
          · by_cases h4 : (lo + hi) / 2 < t
            · exact h4
            · have := hs t _ p c ht hc0 (by omega); omega
        exact ih (hi - ((lo + hi) / 2 + 1)) (by omega) _ _ (by omega) (by omega) h2 h3
      · rw [decide_eq_false (show ¬ (c : Int) < (p : Int) by omega), if_neg (by simp), J33x14xeq]
        have : t ≤ (lo + hi) / 2 := by
          by_cases h4 : t ≤ (lo + hi) / 2
          · exact h4
          · have := hs _ t c p hc0 ht (by omega); omega
        exact ih ((lo + hi) / 2 - lo) (by omega) _ _ (by omega) h1 this (by omega)

theorem search_ok {h : Heap} {s : SA} {n : Nat} {ps : List Nat} (HV : VS intC 1 h s n (castN ps)) (hn : n ≤ 100000) (hs : ∀ i j a c : Nat, ps[i]? = some a → ps[j]? = some c → i < j → a < c) {p : Nat} (hp : p ∈ ps) : ∃ t, E 33 [.sl s n, .int .i64 ((p : Nat) : Int)] h = some (.tup [.int .i64 t, .bool true], h) := by
  have hl : ps.length = n := by have := HV.1; simpa [castN] using this
  obtain ⟨t, ht⟩ := List.mem_iff_getElem?.1 hp
  have htl := (List.getElem?_eq_some_iff.1 ht).1
  refine ⟨((t : Nat) : Int), ?_⟩
  rw [e33]
  exact search_loop HV hn hs ht n 0 n (by omega) (by omega) (by omega) (by omega)

theorem objects_loop2 {h0 : Heap} {b q : Nat} {S : MS} {P : Int → Prop} (H : MP h0 b q S) (B : MB S) {e : Nat} (he : e ≤ S.M) : ∀ (zs : List Nat) (a : Nat), LayP S.f P a zs e → ∀ (h : Heap) (s8 : SA) (done : List Nat), Old h0 h → GS h s8 done.length 1 ((castN done).map (.int .i64)) → (∀ k, inS s8 k → h0.length ≤ k) → done.length ≤ a →
    ∃ h' s' , L32x5 mk0 E (some ⟨b, 0, 0⟩) ((e : Nat) : Int) s8 done.length ((a : Nat) : Int) h (Q32x5 mk0 E) = some (.tup [.sl s' (done ++ starts a zs).length, .bool true], h') ∧ Old h0 h' ∧ GS h' s' (done ++ starts a zs).length 1 ((castN (done ++ starts a zs)).map (.int .i64)) ∧ (∀ k, inS s' k → h0.length ≤ k) := by
  have bm := B.m
  intro zs
  induction zs with
  | nil =>
    intro a L h s8 done ho hg hi hda
    have : a = e := L
    subst this
    refine ⟨h, s8, ?_, ho, by simpa [starts] using hg, hi⟩
    rw [L32x5xeq, letK_eq, if_neg (by simp), X32x5xe0]
    simp [starts]
  | cons z zs ih =>
    intro a L h s8 done ho hg hi hda
    have hle := layp_le L.2.2.2
    have hz := L.1
    obtain ⟨τ, ht, hf⟩ := L.2.1
    have Hh : MP h b q S := ⟨ho _ _ H.c, ho _ _ H.m, H.ne⟩
    have hm := Hh.w a (by omega)
    rw [hf] at hm
    rw [L32x5xeq, letK_eq, if_pos (by simp; omega), atP_of, add_mk, Hh.r0, gL_of, chk_of (by intro _; omega), adP_pos, atP_of, add_mk, Int.toNat_natCast, hm, gI_of, hd_split _ _ _ ht (by omega), Option.bind_some, gT3_of]
    simp only [List.getD_cons_zero, List.getD_cons_succ]
    rw [gI_of, gI_of, gB_of, if_neg (by simp), newK_eq, show ldSl (h ++ [Blk.cells [AV.int .i64 ((a : Nat) : Int)] (.grow 1) 0]) (.pos ⟨h.length, 0, 0⟩) (1 * 1) = some [.int .i64 ((a : Nat) : Int)] from ldSl_at (last_get _ _) rfl rfl, Option.bind_some]
    obtain ⟨t, h4, e5, w5, le5, kp5, nw5⟩ := apnd_GS (m := 1) (bytes := 8) (ys := [AV.int .i64 ((a : Nat) : Int)]) (gs_app (l := [Blk.cells [AV.int .i64 ((a : Nat) : Int)] (.grow 1) 0]) hg) (by omega) (by omega) rfl rfl (by have := flat_ints (castN done ++ [(a : Int)]); simpa using this) (by omega)
    rw [e5, Option.bind_some, gL_of, letK_eq, wrap64 (x := (z : Int) + 1) (by omega) (by omega), letK_eq, wrap64 (by omega) (by omega), letK_eq, if_neg (by simp; omega), show ((a : Int) + ((z : Int) + 1)) = ((a + z + 1 : Nat) : Int) by omega]
    dsimp only
    obtain ⟨h', s', r1, r2, r3, r4⟩ := ih (a + z + 1) L.2.2.2 h4 t (done ++ [a]) (by
      intro k y hk
      have hb := (List.getElem?_eq_some_iff.1 hk).1
      exact kp5 _ _ (app_old (ho _ _ hk)) fun hh => by have := hi k hh; omega) (by
      have e1 : castN (done ++ [a]) = castN done ++ [(a : Int)] := by simp [castN]
      rw [e1, List.map_append, List.length_append]
      exact w5) (by
      intro k hk
      have := ho.le
      rcases nw5 k hk with hh | hh
      · exact hi k hh
      · rw [List.length_append] at hh; omega) (by rw [List.length_append, List.length_singleton]; omega)
    have e2 : done ++ [a] ++ starts (a + z + 1) zs = done ++ starts a (z :: zs) := by simp [starts]
    rw [e2] at r1 r3
    rw [List.length_append, List.length_singleton] at r1
    exact ⟨h', s', r1, r2, r3, r4⟩

theorem objects_ok2 {h : Heap} {b q : Nat} {S : MS} {P : Int → Prop} (H : MP h b q S) (B : MB S) {e a : Nat} (he : e ≤ S.M) {zs : List Nat} (L : LayP S.f P a zs e) : ∃ h' s', E 32 [.ptr (some ⟨b, 0, 0⟩), .int .i64 ((a : Nat) : Int), .int .i64 ((e : Nat) : Int)] h = some (.tup [.sl s' (starts a zs).length, .bool true], h') ∧ Old h h' ∧ GS h' s' (starts a zs).length 1 ((castN (starts a zs)).map (.int .i64)) ∧ (∀ k, inS s' k → h.length ≤ k) := by
  obtain ⟨h', s', r1, r2, r3, r4⟩ := objects_loop2 H B he zs a L h .nil [] (Old.refl _) ⟨rfl, rfl, .inl ⟨rfl, rfl⟩⟩ (by rintro k ⟨x, hx, _⟩; cases hx) (by simp)
  rw [List.nil_append] at r1 r3
  exact ⟨h', s', by rw [e32]; exact r1, r2, r3, r4⟩

theorem starts_lt2 {f : Nat → Int} {P : Int → Prop} : ∀ {zs : List Nat} {a e : Nat}, LayP f P a zs e → (starts a zs).length ≤ e - a
  | [], a, e, _ => by simp [starts]
  | z :: zs, a, e, h => by
    have := starts_lt2 h.2.2.2
    have := layp_le h.2.2.2
    simp only [starts, List.length_cons]
    omega

theorem starts_ge {f : Nat → Int} {P : Int → Prop} : ∀ {zs : List Nat} {a e x : Nat}, LayP f P a zs e → x ∈ starts a zs → a ≤ x ∧ x < e ∧ ∃ z τ : Nat, z ≤ 4000 ∧ τ ≤ 258 ∧ f x = hd τ z ∧ (∀ k, 1 ≤ k → k ≤ z → P (f (x + k))) ∧ x + z < e
  | [], a, e, x, _, hx => by cases hx
  | z :: zs, a, e, x, h, hx => by
    have hle := layp_le h.2.2.2
    rcases List.mem_cons.1 hx with rfl | hx
    · obtain ⟨τ, t1, t2⟩ := h.2.1
      exact ⟨Nat.le_refl _, by omega, z, τ, h.1, t1, t2, h.2.2.1, by omega⟩
    · obtain ⟨r1, r2, r3⟩ := starts_ge h.2.2.2 hx
      exact ⟨by omega, r2, r3⟩

theorem starts_sorted {f : Nat → Int} {P : Int → Prop} : ∀ {zs : List Nat} {a e : Nat}, LayP f P a zs e → (starts a zs).Pairwise (· < ·)
  | [], a, e, _ => List.Pairwise.nil
  | z :: zs, a, e, h => by
    refine List.pairwise_cons.2 ⟨fun x hx => ?_, starts_sorted h.2.2.2⟩
    have := (starts_ge h.2.2.2 hx).1
    omega

theorem img_starts (z : Nat) : ∀ (m i : Nat), starts i (List.replicate m z) = img i z m
  | 0, _ => rfl
  | m + 1, i => by
    rw [List.replicate_succ]
    show i :: starts (i + z + 1) (List.replicate m z) = i :: img (i + z + 1) z m
    rw [img_starts z m]

theorem layp_img {f : Nat → Int} {P : Int → Prop} {z : Nat} (hz : z ≤ 4000) : ∀ (m i : Nat), (∀ p ∈ img i z m, f p = hd 1 z ∧ ∀ k, 1 ≤ k → k ≤ z → P (f (p + k))) → LayP f P i (List.replicate m z) (i + m * (z + 1))
  | 0, i, _ => by simp [LayP]
  | m + 1, i, h => by
    have e : (m + 1) * (z + 1) = m * (z + 1) + (z + 1) := Nat.succ_mul _ _
    rw [List.replicate_succ, e, show i + (m * (z + 1) + (z + 1)) = i + z + 1 + m * (z + 1) by omega]
    obtain ⟨h1, h2⟩ := h i (by simp [img])
    exact ⟨hz, ⟨1, by omega, h1⟩, h2, layp_img hz m (i + z + 1) fun p hp => h p (by simp [img, hp])⟩

theorem lt_mem {f : Nat → Int} {τ z : Nat} : ∀ {ps : List Nat} {p : Nat}, Lt f τ z 1 ps → p ∈ ps → f p = hd τ z ∧ ∀ k, 1 ≤ k → k ≤ z → Pv ps (f (p + k))
  | [], _, _, hp => by cases hp
  | x :: ps, p, h, hp => by
    rcases List.mem_cons.1 hp with rfl | hp
    · refine ⟨h.1, fun k k1 k2 => ?_⟩
      rw [h.2.1 k k1 k2]
      cases ps with
      | nil => exact .inl rfl
      | cons y ps => exact .inr ⟨y, by simp, rfl⟩
    · obtain ⟨r1, r2⟩ := lt_mem h.2.2 hp
      refine ⟨r1, fun k k1 k2 => ?_⟩
      rcases r2 k k1 k2 with hv | ⟨y, hy, hv⟩
      · exact .inl hv
      · exact .inr ⟨y, List.mem_cons_of_mem _ hy, hv⟩

theorem field_loop2 {h : Heap} {b q p z n : Nat} {S : MS} {s : SA} {ps : List Nat} (H : MP h b q S) (hM : p + z < S.M) (hm : S.M ≤ 65536) (HV : VS intC 1 h s n (castN ps)) (hn : n ≤ 100000) (hs : ∀ i j a c : Nat, ps[i]? = some a → ps[j]? = some c → i < j → a < c) (hps : ∀ x ∈ ps, 1 ≤ x ∧ x ≤ 65536) (hf : ∀ k, 1 ≤ k → k ≤ z → Pv ps (S.f (p + k))) (i49 i50 : Int) (Q : Kont (AV × Heap)) : ∀ (j k : Nat), k + j = z + 1 → 1 ≤ k →
    L17x23 mk0 E (some ⟨b, 0, 0⟩) s n ((p : Nat) : Int) ((z : Nat) : Int) ((p + k : Nat) : Int) s n i49 i50 h Q = Q (.exit 2) (S17xe2 (some ⟨b, 0, 0⟩) s n s n i49 i50 h) := by
  intro j
  induction j with
  | zero =>
    intro k hk h1
    rw [L17x23xeq, letK_eq, wrap64 (by omega) (by omega), letK_eq, if_neg (by simp; omega)]
  | succ j ih =>
    intro k hk h1
    have hmm := H.w (p + k) (by omega)
    rw [L17x23xeq, letK_eq, wrap64 (by omega) (by omega), letK_eq, if_pos (by simp; omega), atP_of, add_mk, H.r0, gL_of, chk_of (by intro _; omega), adP_pos, atP_of, add_mk, Int.toNat_natCast, hmm, gI_of, letK_eq, and1, letK_eq, letK_eq, letK_eq]
    have fin : J17x40 mk0 E (some ⟨b, 0, 0⟩) s n ((p : Nat) : Int) ((z : Nat) : Int) ((p + k : Nat) : Int) s n i49 i50 h Q = Q (.exit 2) (S17xe2 (some ⟨b, 0, 0⟩) s n s n i49 i50 h) := by
      rw [J17x40xeq, letK_eq, wrap64 (by omega) (by omega), show (((p + k : Nat) : Int) + 1) = ((p + (k + 1) : Nat) : Int) by omega]
      exact ih (k + 1) (by omega) (by omega)
    rcases hf k h1 (by omega) with hv | ⟨x, hx, hv⟩
    · rw [hv, if_pos (by decide)]
      exact fin
    · obtain ⟨x1, x2⟩ := hps x hx
      have xm : (2 * (x : Int)) % 2 = 0 := by omega
      obtain ⟨t, he⟩ := search_ok HV hn hs hx
      rw [hv, xm, if_neg (by simp; omega), letK_eq, td2, wrap64 (by omega) (by omega), he, Option.bind_some, gT2_of]
      simp only [List.getD_cons_zero, List.getD_cons_succ]
      rw [gI_of, gB_of, if_neg (by simp)]
      exact fin

theorem all_loop2 {h : Heap} {b q n : Nat} {S : MS} {s : SA} {ps : List Nat} (H : MP h b q S) (hm : S.M ≤ 65536) (HV : VS intC 1 h s n (castN ps)) (hs : ∀ i j a c : Nat, ps[i]? = some a → ps[j]? = some c → i < j → a < c) (hp : ∀ p ∈ ps, 1 ≤ p ∧ ∃ z τ : Nat, z ≤ 4000 ∧ τ ≤ 258 ∧ S.f p = hd τ z ∧ (∀ k, 1 ≤ k → k ≤ z → Pv ps (S.f (p + k))) ∧ p + z < S.M) (hn : n ≤ 100000) : ∀ (j i : Nat), i + j = n →
    L17x12 mk0 E (some ⟨b, 0, 0⟩) s n s n ((n : Nat) : Int) ((i : Nat) : Int) h (Q17x12 mk0 E) = some (.bool true, h) := by
  have hl : ps.length = n := by have := HV.1; simpa [castN] using this
  intro j
  induction j with
  | zero =>
    intro i hi
    rw [L17x12xeq, letK_eq, if_neg (by simp; omega), X17x12xe0]
  | succ j ih =>
    intro i hi
    obtain ⟨p, hpi⟩ : ∃ p, ps[i]? = some p := ⟨ps[i]'(by omega), List.getElem?_eq_getElem (by omega)⟩
    have hc : (castN ps)[i]? = some ((p : Nat) : Int) := by simp [castN, hpi]
    obtain ⟨a, ha, la⟩ := vs_ld1 (g := AV.int .i64) HV (fun _ => rfl) i _ hc
    obtain ⟨p1, z, τ, z1, t1, z2, z3, z4⟩ := hp p (List.mem_of_getElem? hpi)
    have hmm := H.w p (by omega)
    rw [z2] at hmm
    have fl := field_loop2 H z4 hm HV hn hs (fun x hx => by
      obtain ⟨x1, y, _, _, _, _, _, y4⟩ := hp x hx
      omega) z3 ((n : Nat) : Int) ((i : Nat) : Int) (Q17x23 mk0 E (Q17x12 mk0 E)) z 1 (by omega) (by omega)
    rw [L17x12xeq, letK_eq, if_pos (by simp; omega), chk_of (by intro _; omega), ha, atP_of, Int.toNat_natCast, la, gI_of, atP_of, add_mk, H.r0, gL_of, chk_of (by intro _; omega), adP_pos, atP_of, add_mk, Int.toNat_natCast, hmm, gI_of, hd_split _ _ _ t1 (by omega), Option.bind_some, gT3_of]
    simp only [List.getD_cons_zero, List.getD_cons_succ]
    rw [gI_of, gI_of, gB_of, letK_eq, wrap64 (by omega) (by omega), show ((p : Int) + 1) = ((p + 1 : Nat) : Int) by omega, fl, X17x23xe2, letK_eq, wrap64 (by omega) (by omega), show ((i : Int) + 1) = ((i + 1 : Nat) : Int) by omega]
    exact ih (i + 1) (by omega)

theorem check_of {h : Heap} {b q z : Nat} {S : MS} {xs os : List Nat} (H : MP h b q S) (C : CH S z xs os) (hz : z ≤ 4000) : ∃ h', E 17 [.ptr (some ⟨b, 0, 0⟩)] h = some (.bool true, h') := by
  have hom := fun x hx => CH.om (x := x) C hx
  obtain ⟨B, c2, c3, c4, c5, c6, zs, c7, c8⟩ := C
  have hold : LayP S.f (Pv (xs ++ os)) S.fr (List.replicate os.length z) S.ol := by
    rw [c6]
    exact layp_img hz _ _ fun p hp => lt_mem c3 (List.mem_append_right _ (c5.mem_iff.2 hp))
  obtain ⟨a1, a2, a3, a4, a5, a6, a7, a8⟩ := B
  have B : MB S := ⟨a1, a2, a3, a4, a5, a6, a7, a8⟩
  obtain ⟨h1, s1, e1, o1, g1, f1⟩ := objects_ok2 H B (by omega) c7
  have H1 : MP h1 b q S := ⟨o1 _ _ H.c, o1 _ _ H.m, H.ne⟩
  obtain ⟨h2, s2, e2, o2, g2, f2⟩ := objects_ok2 H1 B (by omega) hold
  have H2 : MP h2 b q S := ⟨o2 _ _ H1.c, o2 _ _ H1.m, H.ne⟩
  have l1 := starts_lt2 c7
  have l2 := starts_lt2 hold
  have e1' : E 32 [.ptr (some ⟨b, 0, 0⟩), .int .i64 1, .int .i64 ((S.yo : Nat) : Int)] h = some (.tup [.sl s1 (starts 1 zs).length, .bool true], h1) := e1
  have hsub : ∀ p ∈ xs ++ os, p ∈ starts 1 zs ++ starts S.fr (List.replicate os.length z) := by
    intro p hp
    rcases List.mem_append.1 hp with hp | hp
    · exact List.mem_append_left _ (c8 p hp)
    · refine List.mem_append_right _ ?_
      rw [img_starts]
      exact c5.mem_iff.1 hp
  have pv : ∀ v, Pv (xs ++ os) v → Pv (starts 1 zs ++ starts S.fr (List.replicate os.length z)) v := by
    intro v hv
    rcases hv with hv | ⟨p, hp, hv⟩
    · exact .inl hv
    · exact .inr ⟨p, hsub p hp, hv⟩
  have hp : ∀ p ∈ starts 1 zs ++ starts S.fr (List.replicate os.length z), 1 ≤ p ∧ ∃ w τ : Nat, w ≤ 4000 ∧ τ ≤ 258 ∧ S.f p = hd τ w ∧ (∀ k, 1 ≤ k → k ≤ w → Pv (starts 1 zs ++ starts S.fr (List.replicate os.length z)) (S.f (p + k))) ∧ p + w < S.M := by
    intro p hp
    rcases List.mem_append.1 hp with hp | hp
    · obtain ⟨r1, r2, w, τ, q1, q2, q3, q4, q5⟩ := starts_ge c7 hp
      exact ⟨by omega, w, τ, q1, q2, q3, fun k k1 k2 => pv _ (q4 k k1 k2), by omega⟩
    · obtain ⟨r1, r2, w, τ, q1, q2, q3, q4, q5⟩ := starts_ge hold hp
      exact ⟨by omega, w, τ, q1, q2, q3, fun k k1 k2 => pv _ (q4 k k1 k2), by omega⟩
  have hpw : (starts 1 zs ++ starts S.fr (List.replicate os.length z)).Pairwise (· < ·) := by
    refine List.pairwise_append.2 ⟨starts_sorted c7, starts_sorted hold, fun x hx y hy => ?_⟩
    have := (starts_ge c7 hx).2.1
    have := (starts_ge hold hy).1
    omega
  have hs : ∀ i j a c : Nat, (starts 1 zs ++ starts S.fr (List.replicate os.length z))[i]? = some a → (starts 1 zs ++ starts S.fr (List.replicate os.length z))[j]? = some c → i < j → a < c := by
    intro i j a c ha hc hij
    obtain ⟨i1, i2⟩ := List.getElem?_eq_some_iff.1 ha
    obtain ⟨j1, j2⟩ := List.getElem?_eq_some_iff.1 hc
    rw [← i2, ← j2]
    exact List.pairwise_iff_getElem.1 hpw i j i1 j1 hij
  have vs_of : ∀ (hh : Heap) (ss : SA) (m : Nat) (l : List Int), GS hh ss m 1 (l.map (.int .i64)) → VS intC 1 hh ss m l := by
    intro hh ss m l g
    have e1 : (l.map (AV.int .i64)) = l.flatMap intC := (rows_one _ _).symm
    have h1 := g.1
    rw [List.length_map] at h1
    rw [e1] at g
    exact vs_GS (f := intC) (es := 1) (fun _ => rfl) (by omega) g
  rw [e17, atP_of, add_mk, H.r3, gI_of, e1', Option.bind_some, gT2_of]
  simp only [List.getD_cons_zero, List.getD_cons_succ]
  rw [gL_of, gB_of, atP_of, add_mk, H1.r5, gI_of, atP_of, add_mk, H1.r6, gI_of, e2, Option.bind_some, gT2_of]
  simp only [List.getD_cons_zero, List.getD_cons_succ]
  rw [gL_of, gB_of, letK_eq, if_neg (by simp)]
  generalize starts S.fr (List.replicate os.length z) = so at *
  have ldo : ldSl h2 s2 (so.length * 1) = some ((castN so).map (.int .i64)) := by
    obtain ⟨q1, q2, q3 | ⟨bb, v, rfl, q4⟩⟩ := g2
    · obtain ⟨rfl, hz⟩ := q3
      have : so = [] := List.length_eq_zero_iff.1 hz
      rw [this]; rfl
    · rw [Nat.mul_one]
      exact ldSl_at q4 (by simpa using q1) (flat_ints _)
  rw [ldo, Option.bind_some]
  have g1'' : GS h2 s1 (starts 1 zs).length 1 ((castN (starts 1 zs)).map (.int .i64)) := by
    obtain ⟨w1, w2, w3 | ⟨bb, v, w3, w4⟩⟩ := g1
    · exact ⟨w1, w2, .inl w3⟩
    · exact ⟨w1, w2, .inr ⟨bb, v, w3, o2 _ _ w4⟩⟩
  cases hlen : so.length with
  | zero =>
    have hnil : so = [] := List.length_eq_zero_iff.1 hlen
    rw [hnil, List.append_nil] at hp hs
    have al := all_loop2 H2 a1 (vs_of _ _ _ _ g1'') hs hp (by omega) (starts 1 zs).length 0 (by omega)
    rw [show (((0 : Nat) : Int)) = 0 from rfl] at al
    refine ⟨h2, ?_⟩
    rw [show ∀ ys' : List AV, apnd h2 (.sl s1 (starts 1 zs).length) 1 8 ys' 0 = some (.sl s1 (starts 1 zs).length, h2) from fun _ => rfl, Option.bind_some, gL_of]
    exact al
  | succ w =>
    obtain ⟨t, h4, e5, w5, le5, kp5, nw5⟩ := apnd_GS (m := w + 1) (bytes := 8) (ys := (castN so).map (.int .i64)) g1'' (by omega) (by omega) (by simp [castN, hlen]) (flat_ints _) (by rw [← List.map_append]; exact flat_ints _) (by omega)
    have hbl := lt_of_get H.c
    have hql := lt_of_get H.m
    have H4 : MP h4 b q S := ⟨kp5 _ _ H2.c fun hh => by have := f1 _ hh; omega, kp5 _ _ H2.m fun hh => by have := f1 _ hh; omega, H.ne⟩
    have w5' : GS h4 t ((starts 1 zs).length + (w + 1)) 1 ((castN (starts 1 zs ++ so)).map (.int .i64)) := by
      have : castN (starts 1 zs ++ so) = castN (starts 1 zs) ++ castN so := by simp [castN]
      rw [this, List.map_append]
      exact w5
    have al := all_loop2 H4 a1 (vs_of _ _ _ _ w5') hs hp (by omega) ((starts 1 zs).length + (w + 1)) 0 (by omega)
    rw [show (((0 : Nat) : Int)) = 0 from rfl] at al
    rw [e5, Option.bind_some, gL_of]
    exact ⟨h4, al⟩

end Go.Proofs.Ytecgpcpgklholaa.K
