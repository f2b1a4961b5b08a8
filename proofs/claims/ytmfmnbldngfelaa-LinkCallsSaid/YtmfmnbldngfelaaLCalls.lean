/- link: the code, decoded; LinkCalls. -/
import Derived.Test.YtmfmnbldngfelaaLFact
import Derived.Test.YtmfmnbldngfelaaLGen4
set_option linter.unusedVariables false
set_option linter.unusedSimpArgs false
namespace Go.Proofs.Ytmfmnbldngfelaa.I
open Go Go.Proofs.Ytmfmnbldngfelaa.Abs Go.Proofs

theorem atP_false {R : Type} (p : Option Ad) (K : Ad → Option R) : atP p false K = K (p.getD ⟨0, 0, 0⟩) := by cases p <;> rfl

/-! ### The patched code, as entries -/

def eupd (P : Nat → Int) (es : List Ent) (x : Int × Int) : List Ent :=
  match es[x.1.toNat]? with
  | some e => es.set x.1.toNat { e with n := 2 * P x.2.toNat + 1 }
  | none => es

theorem eupd_len (P : Nat → Int) (es : List Ent) (x : Int × Int) : (eupd P es x).length = es.length := by
  unfold eupd
  split
  · simp
  · rfl

theorem words_set {e e' : Ent} {a b v : Int} (hw : e.words = [a, b]) (hw' : e'.words = [a, v]) : ∀ {es : List Ent} {k : Nat}, es[k]? = some e → (es.flatMap Ent.words).set (((es.take k).flatMap Ent.words).length + 1) v = (es.set k e').flatMap Ent.words
  | [], k, h => by simp at h
  | x :: es, 0, h => by
    simp at h; subst h
    rw [List.set_cons_zero, List.flatMap_cons, List.flatMap_cons, hw, hw']
    rfl
  | x :: es, k + 1, h => by
    rw [List.take_succ_cons, List.flatMap_cons, List.flatMap_cons, List.set_cons_succ, List.flatMap_cons, List.length_append, Nat.add_assoc, List.set_append_right _ _ (by omega), Nat.add_sub_cancel_left, words_set hw hw' (by simpa using h)]

theorem long_words {e : Ent} (h : e.long = true) : e.words = [wordV e.op e.d e.a e.b + 67108864, e.n % 4294967296] := by
  unfold Ent.words
  rw [if_pos h]
  rfl

theorem patch_ents (P : Nat → Int) : ∀ (A : List (Int × Int)) (es : List Ent), (∀ x ∈ A, ∃ e, es[x.1.toNat]? = some e ∧ e.long = true ∧ 0 ≤ 2 * P x.2.toNat + 1 ∧ 2 * P x.2.toNat + 1 < 4294967296) →
    (∀ k, k < es.length → ((((es.take k).flatMap Ent.words).length : Nat) : Int) = P k) → patch P A (es.flatMap Ent.words) = (A.foldl (eupd P) es).flatMap Ent.words ∧ ∀ k, k < es.length → (((((A.foldl (eupd P) es).take k).flatMap Ent.words).length : Nat) : Int) = P k
  | [], es, _, hP => ⟨rfl, hP⟩
  | x :: A, es, H, hP => by
    obtain ⟨e, he, hlong, b0, b1⟩ := H x (.head _)
    have hk := (List.getElem?_eq_some_iff.1 he).1
    have hpk := hP x.1.toNat hk
    have hw := long_words hlong
    have hw' : ({ e with n := 2 * P x.2.toNat + 1 } : Ent).words = [wordV e.op e.d e.a e.b + 67108864, 2 * P x.2.toNat + 1] := by
      have := long_words (e := { e with n := 2 * P x.2.toNat + 1 }) hlong
      rw [this]
      dsimp only
      rw [Int.emod_eq_of_lt b0 b1]
    have hu : eupd P es x = es.set x.1.toNat { e with n := 2 * P x.2.toNat + 1 } := by unfold eupd; rw [he]
    have hset := words_set hw hw' he
    have hidx : (P x.1.toNat + 1).toNat = ((es.take x.1.toNat).flatMap Ent.words).length + 1 := by omega
    have hP' : ∀ k, k < (eupd P es x).length → (((((eupd P es x).take k).flatMap Ent.words).length : Nat) : Int) = P k := by
      intro k hk'
      rw [eupd_len] at hk'
      rw [← hP k hk', hu]
      congr 1
      have key : ∀ (es : List Ent) (i k : Nat) (e e' : Ent), es[i]? = some e → e.words.length = e'.words.length → (((es.set i e').take k).flatMap Ent.words).length = ((es.take k).flatMap Ent.words).length := by
        intro es
        induction es with
        | nil => intro i k e e' h; simp at h
        | cons y es ih =>
          intro i k e e' h hl
          cases k with
          | zero => rfl
          | succ k =>
            cases i with
            | zero =>
              simp at h; subst h
              rw [List.set_cons_zero, List.take_succ_cons, List.take_succ_cons, List.flatMap_cons, List.flatMap_cons, List.length_append, List.length_append, hl]
            | succ i =>
              rw [List.set_cons_succ, List.take_succ_cons, List.take_succ_cons, List.flatMap_cons, List.flatMap_cons, List.length_append, List.length_append, ih i k e e' (by simpa using h) hl]
      exact key es _ k e _ he (by rw [hw, hw']; rfl)
    have H' : ∀ y ∈ A, ∃ e, (eupd P es x)[y.1.toNat]? = some e ∧ e.long = true ∧ 0 ≤ 2 * P y.2.toNat + 1 ∧ 2 * P y.2.toNat + 1 < 4294967296 := by
      intro y hy
      obtain ⟨e2, h1, h2, h3⟩ := H y (.tail _ hy)
      rw [hu, List.getElem?_set]
      by_cases hxy : x.1.toNat = y.1.toNat
      · rw [if_pos hxy, if_pos hk]
        exact ⟨_, rfl, hlong, h3⟩
      · rw [if_neg hxy]
        exact ⟨e2, h1, h2, h3⟩
    obtain ⟨i1, i2⟩ := patch_ents P A (eupd P es x) H' hP'
    rw [eupd_len] at i2
    refine ⟨?_, i2⟩
    show patch P A ((es.flatMap Ent.words).set (P x.1.toNat + 1).toNat (2 * P x.2.toNat + 1)) = _
    rw [hidx, hset, ← hu]
    exact i1

theorem eupd_out (P : Nat → Int) : ∀ (A : List (Int × Int)) (es : List Ent) (k : Nat), (∀ x ∈ A, 0 ≤ x.1) → (∀ x ∈ A, x.1 ≠ (k : Int)) → (A.foldl (eupd P) es)[k]? = es[k]?
  | [], es, k, _, _ => rfl
  | x :: A, es, k, h0, h => by
    rw [List.foldl_cons, eupd_out P A _ k (fun y hy => h0 y (.tail _ hy)) fun y hy => h y (.tail _ hy)]
    unfold eupd
    split
    · rw [List.getElem?_set, if_neg]
      have := h x (.head _)
      have := h0 x (.head _)
      omega
    · rfl

theorem eupd_in (P : Nat → Int) : ∀ (A : List (Int × Int)) (es : List Ent) (k : Nat) (t : Int) (e : Ent), (∀ x ∈ A, 0 ≤ x.1) → ((k : Int), t) ∈ A → (∀ x ∈ A, x.1 = (k : Int) → x.2 = t) → es[k]? = some e → (A.foldl (eupd P) es)[k]? = some { e with n := 2 * P t.toNat + 1 }
  | [], es, k, t, e, _, h, _, _ => by cases h
  | x :: A, es, k, t, e, h0, h, hu, he => by
    have hk := (List.getElem?_eq_some_iff.1 he).1
    have h0' : ∀ y ∈ A, 0 ≤ y.1 := fun y hy => h0 y (.tail _ hy)
    rw [List.foldl_cons]
    by_cases hx : x.1 = (k : Int)
    · have hxt := hu x (.head _) hx
      have hst : eupd P es x = es.set k { e with n := 2 * P t.toNat + 1 } := by
        unfold eupd
        rw [hx, Int.toNat_natCast, he, hxt]
      have hek : (eupd P es x)[k]? = some { e with n := 2 * P t.toNat + 1 } := by rw [hst, List.getElem?_set_self hk]
      by_cases hin : ((k : Int), t) ∈ A
      · exact eupd_in P A (eupd P es x) k t { e with n := 2 * P t.toNat + 1 } h0' hin (fun y hy => hu y (.tail _ hy)) hek
      · rw [eupd_out P A (eupd P es x) k h0']
        · exact hek
        · intro y hy hyk
          have := hu y (.tail _ hy) hyk
          apply hin
          rw [← this, ← hyk]
          exact hy
    · rcases List.mem_cons.1 h with h | h
      · exact absurd (by rw [← h]) hx
      · refine eupd_in P A _ k t e h0' h (fun y hy => hu y (.tail _ hy)) ?_
        have hx0 := h0 x (.head _)
        unfold eupd
        split
        · rw [List.getElem?_set, if_neg (by omega)]; exact he
        · exact he

theorem chk_addr2 {d a b n m : Int} (hc : chkV 11 d a b n = 0) (h0 : -2147483648 ≤ m) (h1 : m ≤ 2147483647) : chkV 11 d a b m = 0 := by
  obtain ⟨_, _, _, _, _, _, _, _, n0, n1⟩ := chk_bd hc
  have hm : inB m (-2147483648) 2147483647 = true := by simp [inB, h0, h1]
  have hz : inB n (-2147483648) 2147483647 = true := by simp [inB, n0, n1]
  have un : usN 11 = true := by decide
  have d9 : decide ((11 : Int) = 9) = false := by decide
  have d10 : decide ((11 : Int) = 10) = false := by decide
  have d14 : decide ((11 : Int) = 14) = false := by decide
  have d24 : decide ((11 : Int) = 24) = false := by decide
  unfold chkV at hc ⊢
  rw [hm]
  rw [hz] at hc
  simp only [un, d9, d10, d14, d24, Bool.not_true, Bool.false_and, Bool.or_false] at hc ⊢
  exact hc

/-! ### The code of a linked image -/

/-- The entries of the image. -/
def pents (l : List Fn) (cl : List Int) (mi : Nat) (cs : List Bool) : List Ent := (finS l cl mi).2.foldl (eupd (pos cs)) (ents (finS l cl mi).1 cs)

theorem fin_adn {l : List Fn} {n : Nat} {cl : List Int} (L : Lay l n cl) {mi : Nat} : (∀ x ∈ (finS l cl mi).2, 0 ≤ x.1) ∧ ∀ x ∈ (finS l cl mi).2, ∀ y ∈ (finS l cl mi).2, x.1 = y.1 → x.2 = y.2 := by
  have pw := Rall_pw L l.length (by rw [L.nl]; omega)
  have src : ∀ x ∈ (finS l cl mi).2, ∃ r ∈ Rall l cl (bgsOf l cl) l.length, x = ((r.1 : Int), r.2) := by
    intro x hx
    unfold finS at hx
    rcases fold_mem _ _ pw hx with h | ⟨r, hr, e, _⟩
    · cases h
    · exact ⟨r, hr, e⟩
  refine ⟨fun x hx => ?_, fun x hx y hy e => ?_⟩
  · obtain ⟨r, _, rfl⟩ := src x hx
    dsimp only; omega
  · obtain ⟨r, hr, rfl⟩ := src x hx
    obtain ⟨q, hq, rfl⟩ := src y hy
    dsimp only at e ⊢
    have key : ∀ (R : List (Nat × Int)), R.Pairwise (fun a b => a.1 < b.1) → r ∈ R → q ∈ R → r.2 = q.2 := by
      intro R
      induction R with
      | nil => intro _ h; cases h
      | cons a R ih =>
        intro hp h1 h2
        rw [List.pairwise_cons] at hp
        rcases List.mem_cons.1 h1 with h1 | h1
        · rcases List.mem_cons.1 h2 with h2 | h2
          · rw [h1, h2]
          · have := hp.1 q h2
            rw [← h1] at this
            omega
        · rcases List.mem_cons.1 h2 with h2 | h2
          · have := hp.1 r h1
            rw [← h2] at this
            omega
          · exact ih hp.2 h1 h2
    exact key _ pw hr hq

theorem pos_lt_succ (cs : List Bool) {i k : Nat} (h : i < k) : pos cs i < pos cs k := by
  have := pos_grow cs i (k - i)
  rw [show i + (k - i) = k by omega] at this
  omega

/-- What stands at the place of an item of a function that was not merged. -/
theorem code_at {l : List Fn} {n mi : Nat} {cl : List Int} (L : Lay l n cl) (hmi : mi < n) {bs : List Bool} {lg : Bool} (Fi : Final (finS l cl mi).1 bs) (hF : (finS l cl mi).1.length ≤ 16384) (hle : pos (lng (finS l cl mi).1 bs lg) (finS l cl mi).1.length ≤ 16384) :
    patch (pos (lng (finS l cl mi).1 bs lg)) (finS l cl mi).2 ((ents (finS l cl mi).1 (lng (finS l cl mi).1 bs lg)).flatMap Ent.words) = (pents l cl mi (lng (finS l cl mi).1 bs lg)).flatMap Ent.words ∧
    (∀ k, k < (finS l cl mi).1.length → ((((pents l cl mi (lng (finS l cl mi).1 bs lg)).take k).flatMap Ent.words).length : Int) = pos (lng (finS l cl mi).1 bs lg) k) ∧
    (pents l cl mi (lng (finS l cl mi).1 bs lg)).length = (finS l cl mi).1.length ∧
    (∀ (i m : Nat) (f : Fn) (x : It), l[i]? = some f → at_ cl i = i → f.its[m]? = some x → ∃ e, (pents l cl mi (lng (finS l cl mi).1 bs lg))[(lay l cl i).1.length + m]? = some e ∧ e.ok ∧ e.op = x.op ∧
      (e.words.length : Int) = pos (lng (finS l cl mi).1 bs lg) ((lay l cl i).1.length + m + 1) - pos (lng (finS l cl mi).1 bs lg) ((lay l cl i).1.length + m) ∧
      ∀ c ∈ f.cls, c.1 = m → (x.op = 20 → pos (lng (finS l cl mi).1 bs lg) ((lay l cl i).1.length + m + 1) + e.n = pos (lng (finS l cl mi).1 bs lg) (at_ (bgsOf l cl) (at_ cl c.2.toNat).toNat).toNat) ∧
        (x.op ≠ 20 → e.n = 2 * pos (lng (finS l cl mi).1 bs lg) (at_ (bgsOf l cl) (at_ cl c.2.toNat).toNat).toNat + 1)) := by
  have I := fin_img L hmi
  have okF := I.okF
  obtain ⟨ap, an⟩ := fin_adn L (mi := mi)
  have w1 := pos_words (all := lg) Fi
  have hsz := fun {i : Nat} {e : Ent} => ent_size (all := lg) (i := i) (e := e) Fi
  have hlng := fun {i : Nat} (hi : i < (finS l cl mi).1.length) => gt_lng (bs := bs) (all := lg) hi
  generalize hcs : lng (finS l cl mi).1 bs lg = cs at *
  have heok := ent_ok (its := (finS l cl mi).1) rfl hF okF cs
  have el : (ents (finS l cl mi).1 cs).length = (finS l cl mi).1.length := by unfold ents; simp
  have lngA : ∀ x ∈ (finS l cl mi).2, ∃ k t : Nat, x = ((k : Int), (t : Int)) ∧ t < (finS l cl mi).1.length ∧ ∃ it, (finS l cl mi).1[k]? = some it ∧ it.to < 0 ∧ gt cs k = true := by
    intro x hx
    obtain ⟨k, t, e1, e2, it, e3, e4, e5⟩ := I.ad x hx
    refine ⟨k, t, e1, e2, it, e3, e4, ?_⟩
    rw [hlng (List.getElem?_eq_some_iff.1 e3).1]
    unfold lngAt
    rw [e3]
    dsimp only
    rw [Fi.f1 k it e3 e4, e5]
    rfl
  have hH : ∀ x ∈ (finS l cl mi).2, ∃ e, (ents (finS l cl mi).1 cs)[x.1.toNat]? = some e ∧ e.long = true ∧ 0 ≤ 2 * pos cs x.2.toNat + 1 ∧ 2 * pos cs x.2.toNat + 1 < 4294967296 := by
    intro x hx
    obtain ⟨k, t, rfl, ht, it, hit, _, hg⟩ := lngA x hx
    refine ⟨_, by rw [Int.toNat_natCast]; exact ents_get hit, hg, ?_, ?_⟩
    · have := pos_lo cs t
      rw [Int.toNat_natCast]; omega
    · have := pos_hi cs t
      rw [Int.toNat_natCast]; omega
  have hP0 : ∀ k, k < (ents (finS l cl mi).1 cs).length → (((((ents (finS l cl mi).1 cs).take k).flatMap Ent.words).length : Nat) : Int) = pos cs k := fun k hk => w1 k (by omega)
  obtain ⟨p1, p2⟩ := patch_ents (pos cs) _ _ hH hP0
  have pl : (pents l cl mi cs).length = (finS l cl mi).1.length := by
    unfold pents
    rw [← el]
    generalize ents (finS l cl mi).1 cs = es
    generalize (finS l cl mi).2 = A
    induction A generalizing es with
    | nil => rfl
    | cons x A ih => rw [List.foldl_cons, ih, eupd_len]
  refine ⟨p1, fun k hk => p2 k (by omega), pl, fun i m f x hf e hx => ?_⟩
  have hi := (List.getElem?_eq_some_iff.1 hf).1
  have okf := L.ok f (List.mem_of_getElem? hf)
  have hseg := (lay_at hf e hi (Nat.le_refl _) hx).2
  have hm := (List.getElem?_eq_some_iff.1 hx).1
  have hN := fin_len l cl mi
  generalize hK : (lay l cl i).1.length + m = K at *
  have hKl : K < (finS l cl mi).1.length := by omega
  have sz : ∀ e : Ent, (ents (finS l cl mi).1 cs)[K]? = some e → (e.words.length : Int) = pos cs (K + 1) - pos cs K := by
    intro e he
    rw [hsz he, pos_succ]
    omega
  by_cases hr : ∃ c ∈ f.cls, c.1 = m
  · obtain ⟨c, hc, hcm⟩ := hr
    obtain ⟨r1, r2⟩ := fin_ref L mi hf e hx hc hcm
    rw [hK] at r1 r2
    obtain ⟨b1, b2, b3, b4, b5, b6⟩ := callsOk_bd (by omega) okf.2.2.2.2.2.1 c hc
    obtain ⟨b7, b8, b9⟩ := b6 x (by rw [hcm, Int.toNat_natCast]; exact hx)
    have hsh : shift (lay l cl i).1.length x = x := by unfold shift; rw [if_neg (by omega)]
    rw [hsh] at r1
    obtain ⟨q, g, q1, q2, q3, q4, q5, q6, q7⟩ := rep_bg L (i := c.2.toNat) (by omega)
    rw [q1, Int.toNat_natCast, q5] at r1 r2
    -- the call of this item is the only one
    have uniq : ∀ c' ∈ f.cls, c'.1 = m → at_ (bgsOf l cl) (at_ cl c'.2.toNat).toNat = ((lay l cl q).1.length : Int) := by
      intro c' hc' hcm'
      have r1' := (fin_ref L mi hf e hx hc' hcm')
      rw [hK] at r1'
      obtain ⟨s1, s2⟩ := r1'
      by_cases hop : x.op = 20
      · rw [hsh, r1] at s1
        unfold upItem at s1
        rw [if_pos hop, if_pos hop] at s1
        injection s1 with s1
        have := congrArg It.to s1
        exact this.symm
      · exact an _ (s2 hop) _ (r2 hop) rfl
    have hget := ents_get (cs := cs) r1
    by_cases hop : x.op = 20
    · have hup : upItem x ((lay l cl q).1.length : Int) = { x with to := ((lay l cl q).1.length : Int) } := by unfold upItem; rw [if_pos hop]
      rw [hup] at hget r1
      have hno : ∀ y ∈ (finS l cl mi).2, y.1 ≠ (K : Int) := by
        intro y hy hyk
        obtain ⟨k, t, rfl, ht, it, hit, hto, hg⟩ := lngA y hy
        have : k = K := by dsimp only at hyk; omega
        subst this
        rw [r1] at hit
        injection hit with hit
        rw [← hit] at hto
        dsimp only at hto
        omega
      have hpe : (pents l cl mi cs)[K]? = (ents (finS l cl mi).1 cs)[K]? := eupd_out _ _ _ K ap hno
      refine ⟨_, hpe.trans hget, heok _ (List.mem_of_getElem? hget), rfl, sz _ hget, fun c' hc' hcm' => ⟨fun _ => ?_, fun h => absurd hop h⟩⟩
      rw [uniq c' hc' hcm', Int.toNat_natCast]
      dsimp only
      rw [if_pos (by omega)]
      omega
    · have hup : upItem x ((lay l cl q).1.length : Int) = { x with n := 1048576 } := by unfold upItem; rw [if_neg hop]
      rw [hup] at hget r1
      have hin := r2 hop
      have hpe := eupd_in (pos cs) _ (ents (finS l cl mi).1 cs) K _ _ ap hin (fun y hy hyk => an y hy _ hin hyk) hget
      obtain ⟨k, t, ekt, ht, it, hit, hto, hg⟩ := lngA _ hin
      have hkK : k = K := by
        have := congrArg Prod.fst ekt
        dsimp only at this
        omega
      subst hkK
      have e11 : x.op = 11 := by rcases b7 with h | h; exact absurd h hop; exact h
      have hok := heok _ (List.mem_of_getElem? hget)
      have hlw := long_words (e := (⟨x.op, x.d, x.a, x.b, if 0 ≤ x.to then pos cs x.to.toNat - pos cs (k + 1) else 1048576, gt cs k⟩ : Ent)) hg
      have hs := sz _ hget
      refine ⟨_, hpe, ?_, rfl, ?_, fun c' hc' hcm' => ⟨fun h => absurd h hop, fun _ => ?_⟩⟩
      · unfold Ent.ok at hok ⊢
        dsimp only at hok ⊢
        rw [e11] at hok ⊢
        have p0 := pos_lo cs (lay l cl q).1.length
        have p1 := pos_hi cs (lay l cl q).1.length
        rw [Int.toNat_natCast]
        exact chk_addr2 hok (by omega) (by omega)
      · rw [← hs, long_words (by exact hg), long_words (by exact hg)]
        rfl
      · rw [uniq c' hc' hcm']
  · have hpl := fin_plain L mi hf e hx fun c hc hcm => hr ⟨c, hc, hcm⟩
    rw [hK] at hpl
    have hget := ents_get (cs := cs) hpl
    have hno : ∀ y ∈ (finS l cl mi).2, y.1 ≠ (K : Int) := by
      intro y hy hyk
      have hy' := hy
      have pw := Rall_pw L l.length (by rw [L.nl]; omega)
      unfold finS at hy'
      rcases fold_mem _ _ pw hy' with h | ⟨r, hr', rfl, x', hx', hop⟩
      · cases h
      · obtain ⟨j, g, h3, h4, h5, h6⟩ := (Rall_mem (Nat.le_refl _) r).1 hr'
        obtain ⟨c, hc, rfl⟩ := rs_mem.1 h6
        have okg := L.ok g (List.mem_of_getElem? h4)
        obtain ⟨b1, b2, b3, _⟩ := callsOk_bd (by omega) okg.2.2.2.2.2.1 c hc
        obtain ⟨y', hy2⟩ := at_lt (l := g.its) (i := c.1.toNat) (by omega)
        rw [bgs_at L (i := j) (by rw [← L.nl]; omega), if_pos h5, Int.toNat_natCast] at hyk
        dsimp only at hyk
        rcases Nat.lt_trichotomy i j with hij | hij | hij
        · have := (lay_at hf e hij (by omega) hx).2
          omega
        · subst hij
          rw [hf] at h4
          injection h4 with h4
          subst h4
          exact hr ⟨c, hc, by omega⟩
        · have := (lay_at h4 h5 hij (by omega) hy2).2
          omega
    have hpe : (pents l cl mi cs)[K]? = (ents (finS l cl mi).1 cs)[K]? := eupd_out _ _ _ K ap hno
    refine ⟨_, hpe.trans hget, heok _ (List.mem_of_getElem? hget), ?_, sz _ hget, fun c hc hcm => absurd ⟨c, hc, hcm⟩ hr⟩
    unfold shift
    split <;> rfl

/-! ### The walk -/

theorem contains_loop {h : Heap} {s : SA} {n : Nat} {zs : List Int} {v : Int} (H : VS intC 1 h s n zs) (hn : n ≤ 1000000) : ∀ (k j : Nat), j + k = n → (∃ i, j ≤ i ∧ zs[i]? = some v) →
    ∃ i : Nat, L50x4 mk0 E s n v ((n : Nat) : Int) ((j : Nat) : Int) h (Q50x4 mk0 E) = some (.int .i64 (i : Int), h) := by
  have hl := H.1
  intro k
  induction k with
  | zero =>
    intro j hj ⟨i, h1, h2⟩
    have := (List.getElem?_eq_some_iff.1 h2).1
    omega
  | succ k ih =>
    intro j hj ⟨i, h1, h2⟩
    obtain ⟨x, hx⟩ := at_lt (l := zs) (i := j) (by omega)
    obtain ⟨a, ha, la⟩ := vs_ld1 (g := AV.int .i64) H (fun _ => rfl) j _ hx
    rw [L50x4xeq, letK_eq, if_pos (by simp; omega), chk_of (by intro _; omega), ha, atP_of, Int.toNat_natCast, la, gI_of, letK_eq]
    by_cases e : v = x
    · rw [if_pos (by simp [e]), X50x4xr]
      exact ⟨j, rfl⟩
    · rw [if_neg (by simp [e]), letK_eq, wrap64 (by omega) (by omega), show ((j : Int) + 1) = ((j + 1 : Nat) : Int) by omega]
      refine ih (j + 1) (by omega) ⟨i, ?_, h2⟩
      rcases Nat.lt_or_eq_of_le h1 with h3 | h3
      · omega
      · subst h3; rw [hx] at h2; injection h2 with h2; exact absurd h2.symm e

theorem contains_ok {h : Heap} {s : SA} {n : Nat} {zs : List Int} {v : Int} (H : VS intC 1 h s n zs) (hn : n ≤ 1000000) (hv : v ∈ zs) : E 36 [.sl s n, .int .i64 v] h = some (.bool true, h) := by
  obtain ⟨i, hi⟩ := List.mem_iff_getElem?.1 hv
  obtain ⟨k, e⟩ := contains_loop (v := v) H hn n 0 (by omega) ⟨i, by omega, hi⟩
  have e' : E 50 [.sl s n, .int .i64 v] h = some (.int .i64 (k : Int), h) := by rw [e50]; exact e
  rw [e36, e', Option.bind_some, gI_of, letK_eq]
  simp

theorem calls_pw {its : List It} {many : Nat} : ∀ {r : List (Int × Int)} {last : Int}, -1 ≤ last → callsOk its many last r → r.Pairwise fun a b => a.1 < b.1
  | [], _, _, _ => List.Pairwise.nil
  | x :: r, last, h0, h => by
    have h1 := h.1
    rw [List.pairwise_cons]
    exact ⟨fun a ha => (callsOk_bd (by omega) h.2.2.2.2.2 a ha).1, calls_pw (by omega) h.2.2.2.2.2⟩

theorem pw_get {r : List (Int × Int)} (h : r.Pairwise fun a b => a.1 < b.1) : ∀ {i j : Nat} {a b : Int × Int}, i < j → r[i]? = some a → r[j]? = some b → a.1 < b.1 := by
  induction h with
  | nil => intro i j a b _ h; cases h
  | cons h1 _ ih =>
    intro i j a b hij hi hj
    cases j with
    | zero => omega
    | succ j =>
      cases i with
      | zero =>
        simp at hi hj
        subst hi
        exact h1 b (List.mem_of_getElem? hj)
      | succ i => exact ih (i := i) (j := j) (by omega) (by simpa using hi) (by simpa using hj)

/-- One function, decoded. -/
theorem decode_fn {h : Heap} {s5 s7 sM sS sO s85 : SA} {n5 kM kS n : Nat} {i71 : Int} {s4 : SA} {n4 : Nat} {f : Fn} (F : f.R h) {P : Nat → Int} {base N : Nat} {W : List Int} {es : List Ent} (H7 : VS intC 1 h s7 W.length W) (he7 : esOk h s7 1) (hW : W = es.flatMap Ent.words) (hel : es.length = N) (hP : ∀ k, k < N → ((((es.take k).flatMap Ent.words).length : Nat) : Int) = P k) (hN : N ≤ 16384)
    (hbN : base + f.its.length ≤ N) {T : Nat → Int} (HO : VS intC 1 h sO n ((List.range n).map T)) (hT : ∀ q, q < n → 0 ≤ T q ∧ T q ≤ 1000000)
    (hc : ∀ c ∈ f.cls, 0 ≤ c.1 ∧ c.1 < f.its.length ∧ 0 ≤ c.2 ∧ c.2 < n ∧ ∀ x, f.its[c.1.toNat]? = some x → x.op = 20 ∨ x.op = 11) (pw : f.cls.Pairwise fun a b => a.1 < b.1) (hcl : f.cls.length ≤ 16384)
    (hE : ∀ (m : Nat) (x : It), f.its[m]? = some x → ∃ e, es[base + m]? = some e ∧ e.ok ∧ e.op = x.op ∧ (e.words.length : Int) = P (base + m + 1) - P (base + m) ∧ ∀ c ∈ f.cls, c.1 = m → (x.op = 20 → P (base + m + 1) + e.n = T c.2.toNat) ∧ (x.op ≠ 20 → e.n = 2 * T c.2.toNat + 1))
    (hP1 : ∀ k, k ≤ N → 0 ≤ P k ∧ P k ≤ 1000000) (Q : Kont (AV × Heap)) (i86 i87 : Int) :
    ∀ (k m c : Nat), m + k = f.its.length → (∀ (q : Nat) (x : Int × Int), f.cls[q]? = some x → (q < c → x.1 < (m : Int)) ∧ (c ≤ q → (m : Int) ≤ x.1)) → c ≤ f.cls.length →
      L13x52 mk0 E s5 n5 s7 W.length i71 sS kS sM kM s4 n4 sO n f.nm f.sI f.its.length f.sC f.cls.length f.sM f.mps.length f.size (P (base + m)) (c : Int) s85 n5 i86 i87 ((f.its.length : Nat) : Int) ((m : Nat) : Int) h Q = Q (.exit 2) (S13xe2 s5 n5 s7 W.length i71 sS kS sM kM s4 n4 sO n s85 n5 i86 i87 h) := by
  have hlW := H7.1
  intro k
  induction k with
  | zero =>
    intro m c hm _ _
    rw [L13x52xeq, letK_eq, if_neg (by simp; omega)]
  | succ k ih =>
    intro m c hm hq hcle
    obtain ⟨x, hx⟩ := at_lt (l := f.its) (i := m) (by omega)
    obtain ⟨e, he1, he2, he3, he4, he5⟩ := hE m x hx
    have hbm := hP (base + m) (by omega)
    obtain ⟨b0, b1⟩ := hP1 (base + m) (by omega)
    obtain ⟨b2, b3⟩ := hP1 (base + m + 1) (by omega)
    -- the code from here on
    have hdrop : W.drop (P (base + m)).toNat = e.words ++ (es.drop (base + m + 1)).flatMap Ent.words := by
      have h1 : es.flatMap Ent.words = (es.take (base + m)).flatMap Ent.words ++ (es.drop (base + m)).flatMap Ent.words := by rw [← List.flatMap_append, List.take_append_drop]
      rw [hW, h1, show (P (base + m)).toNat = ((es.take (base + m)).flatMap Ent.words).length by omega, List.drop_left, drop_at he1, List.flatMap_cons]
    have hwpos : 1 ≤ e.words.length ∧ e.words.length ≤ 2 := by
      rcases e.words_cases with ⟨_, w, _⟩ | ⟨w, _⟩ <;> rw [w] <;> simp [longL]
    have hlen : P (base + m) < (W.length : Int) := by
      have := congrArg List.length hdrop
      rw [List.length_drop, List.length_append] at this
      omega
    have HD := is_drop (is_VS H7) (P (base + m)).toNat (by omega)
    rw [hdrop] at HD
    have hsz : e.size = (e.words.length : Int) := rfl
    rw [L13x52xeq, letK_eq, if_pos (by simp; omega), letK_eq, if_neg (by simp; omega), chkC_of (by intro _; exact ⟨by omega, by omega, he7⟩), letK_eq, letK_eq, Nat.mul_one, decode_ok HD, e.dec he2, Option.bind_some, decR, gT3_of]
    simp only [List.getD_cons_zero, List.getD_cons_succ]
    rw [gA_of, chk_of (by intro _; rfl)]
    simp only [List.getElem?_cons_zero, List.getElem?_cons_succ]
    rw [gI_of, gI_of, gI_of, gI_of, gI_of, gI_of, gI_of, letK_eq, if_neg (by simp), letK_eq, hsz, he4, show P (base + m) + (P (base + m + 1) - P (base + m)) = P (base + m + 1) by omega, wrap64 (x := P (base + m + 1)) (by omega) (by omega), letK_eq, gL_any]
    have fin : ∀ c' : Nat, (∀ q x, f.cls[q]? = some x → (q < c' → x.1 < ((m + 1 : Nat) : Int)) ∧ (c' ≤ q → ((m + 1 : Nat) : Int) ≤ x.1)) → c' ≤ f.cls.length →
        J13x80 mk0 E s5 n5 s7 W.length i71 sS kS sM kM s4 n4 sO n f.nm f.sI f.its.length f.sC f.cls.length f.sM f.mps.length f.size (P (base + m + 1)) (c' : Int) s85 n5 i86 i87 ((f.its.length : Nat) : Int) ((m : Nat) : Int) h Q = Q (.exit 2) (S13xe2 s5 n5 s7 W.length i71 sS kS sM kM s4 n4 sO n s85 n5 i86 i87 h) := by
      intro c' hq' hc'
      have hfl := F.bi
      have hb : big = 17592186044416 := rfl
      rw [J13x80xeq, letK_eq, wrap64 (by omega) (by omega), show ((m : Int) + 1) = ((m + 1 : Nat) : Int) by omega]
      exact ih (m + 1) c' (by omega) hq' hc'
    by_cases hck : c < f.cls.length
    · obtain ⟨y, hy⟩ := at_lt hck
      obtain ⟨a, ha, la⟩ := vs_ld F.c cl_flat c y hy
      have lN : ∀ r, r < 2 → ld1 h (Ad.add (Ad.add a (c * 2)) r) = (clC y)[r]? := by
        intro r hr
        obtain ⟨_, hh | ⟨b, v, o, cc, md, hs, hb, hcc⟩⟩ := F.c
        · omega
        · rw [hs] at ha
          injection ha with ha
          subst ha
          obtain ⟨w1, w2⟩ := hcc c y hy
          have : cc[o + c * 2 + r]? = (clC y)[r]? := by rw [← w2, List.getElem?_take, if_pos hr, List.getElem?_drop]
          obtain ⟨z, hz⟩ : ∃ z, (clC y)[r]? = some z := ⟨_, List.getElem?_eq_getElem (by show r < 2; exact hr)⟩
          rw [hz]
          refine ld1_at hb (by rw [← hz]; exact this) ?_
          match r, hr, hz with
          | 0, _, hz => cases hz; rfl
          | 1, _, hz => cases hz; rfl
      have l0 : ld1 h (Ad.add (Ad.add a (c * 2)) 0) = some (.int .i64 y.1) := lN 0 (by omega)
      have l1 : ld1 h (Ad.add (Ad.add a (c * 2)) 1) = some (.int .i64 y.2) := lN 1 (by omega)
      have hqy := (hq c y hy).2 (Nat.le_refl _)
      have dc : decide ((c : Int) < (f.cls.length : Int)) = true := decide_eq_true (by omega)
      rw [dc, chk_of (by intro _; omega), ha, atP_of, atP_of, atP_of, Int.toNat_natCast]
      rw [l0, gI_of, letK_eq, letK_eq]
      by_cases e1 : y.1 = (m : Int)
      · have ym := List.mem_of_getElem? hy
        obtain ⟨y1, y2, y3, y4, y5⟩ := hc y ym
        obtain ⟨i2, hi2⟩ := Int.eq_ofNat_of_zero_le y3
        have gO : ((List.range n).map T)[i2]? = some (T i2) := range_get (by omega)
        obtain ⟨aO, haO, lO⟩ := vs_ld1 (g := AV.int .i64) HO (fun _ => rfl) i2 _ gO
        obtain ⟨t0, t1⟩ := hT i2 (by omega)
        obtain ⟨z1, z2⟩ := he5 y ym e1
        rw [hi2, Int.toNat_natCast] at z1 z2
        have hop := y5 x (by rw [e1, Int.toNat_natCast]; exact hx)
        rw [if_pos (by simp [e1]), chk_of (by intro _; omega), atP_of, l1, gI_of, hi2, chk_of (by intro _; omega), haO, atP_of, Int.toNat_natCast, lO, gI_of, letK_eq, gI_any, letK_eq, letK_eq, letK_eq, gI_any, letK_eq, gI_any, letK_eq, wrap64 (x := 2 * T i2) (by omega) (by omega), letK_eq, wrap64 (x := 2 * T i2 + 1) (by omega) (by omega), letK_eq, letK_eq, letK_eq]
        have hgood : ¬ ((if (if decide (e.op = 20) = true then !decide (IntKind.wrap .i64 (P (base + m + 1) + e.n) = T i2) else false) = true then true else if decide (e.op = 11) = true then !decide (e.n = 2 * T i2 + 1) else false) = true) := by
          rw [he3]
          by_cases h20 : x.op = 20
          · have := z1 h20
            rw [this, wrap64 (by omega) (by omega), h20]
            simp
          · have := z2 h20
            rw [this]
            simp [h20]
        rw [if_neg hgood, letK_eq, wrap64 (by omega) (by omega), show ((c : Int) + 1) = ((c + 1 : Nat) : Int) by omega]
        refine fin (c + 1) (fun q w hw => ⟨fun hlt => ?_, fun hle => ?_⟩) (by omega)
        · by_cases hqc : q = c
          · subst hqc
            rw [hy] at hw
            injection hw with hw
            rw [← hw, e1]; omega
          · have := (hq q w hw).1 (by omega); omega
        · have := pw_get pw (by omega : c < q) hy hw
          omega
      · rw [if_neg (by simp [e1])]
        refine fin c (fun q w hw => ⟨fun hlt => ?_, fun hle => ?_⟩) hcle
        · have := (hq q w hw).1 hlt; omega
        · by_cases hqc : q = c
          · subst hqc
            rw [hy] at hw
            injection hw with hw
            rw [← hw]; omega
          · have := pw_get pw (by omega : c < q) hy hw
            omega
    · have dc : decide ((c : Int) < (f.cls.length : Int)) = false := decide_eq_false (by omega)
      rw [dc, chk_of (by intro h; cases h), atP_false, atP_false, atP_false, gI_false, letK_eq, letK_eq, if_neg (by simp)]
      refine fin c (fun q w hw => ?_) hcle
      have hql := (List.getElem?_eq_some_iff.1 hw).1
      refine ⟨fun hlt => ?_, fun hle => by omega⟩
      have := (hq q w hw).1 hlt; omega

theorem calls_loop2 {h : Heap} {s0 s5 s7 sM sS sO : SA} {n mi kM : Nat} {l : List Fn} {cl : List Int} (HL : VS Fn.cells 5 h s0 n l) (R : ∀ f ∈ l, f.R h) (HC : VS intC 1 h s5 n cl) (L : Lay l n cl) (hmi : mi < n) {bs : List Bool} {lg : Bool} (Fi : Final (finS l cl mi).1 bs) (hF : (finS l cl mi).1.length ≤ 16384) (hle : pos (lng (finS l cl mi).1 bs lg) (finS l cl mi).1.length ≤ 16384)
    {W : List Int} (hW : W = patch (pos (lng (finS l cl mi).1 bs lg)) (finS l cl mi).2 ((ents (finS l cl mi).1 (lng (finS l cl mi).1 bs lg)).flatMap Ent.words)) (H7 : VS intC 1 h s7 W.length W) (he7 : esOk h s7 1)
    (HS : VS intC 1 h sS (stL cl (fun i => pos (lng (finS l cl mi).1 bs lg) (at_ (bgsOf l cl) i).toNat) n).length (stL cl (fun i => pos (lng (finS l cl mi).1 bs lg) (at_ (bgsOf l cl) i).toNat) n))
    (HO : VS intC 1 h sO n ((List.range n).map fun q => pos (lng (finS l cl mi).1 bs lg) (at_ (bgsOf l cl) (at_ cl q).toNat).toNat)) : ∀ (k j : Nat), j + k = n →
      L13x27 mk0 E s5 n s7 W.length 0 sS (stL cl (fun i => pos (lng (finS l cl mi).1 bs lg) (at_ (bgsOf l cl) i).toNat) n).length sM kM .nil 0 sO n s0 n ((n : Nat) : Int) ((j : Nat) : Int) h (Q13x27 mk0 E) = some (.bool true, h) := by
  have hl := HL.1
  have hcl := HC.1
  have hn := L.n256
  obtain ⟨q1, q2, q3, q4⟩ := code_at L hmi Fi hF hle
  have hsl := stL_len cl (fun i => pos (lng (finS l cl mi).1 bs lg) (at_ (bgsOf l cl) i).toNat) n
  rw [q1] at hW
  generalize hcs : lng (finS l cl mi).1 bs lg = cs at *
  have hN := fin_len l cl mi
  intro k
  induction k with
  | zero =>
    intro j hj
    rw [L13x27xeq, letK_eq, if_neg (by simp; omega), X13x27xe0]
  | succ k ih =>
    intro j hj
    obtain ⟨f, hf⟩ := at_lt (l := l) (i := j) (by omega)
    have okf := L.ok f (List.mem_of_getElem? hf)
    obtain ⟨a, ha, la⟩ := vs_ld HL fn_flat j f hf
    have C := L.can
    have c1 := C.lo j (by omega)
    have c2 := C.hi j (by omega)
    have c3 := C.fx j (by omega)
    have g1 := at_get (l := cl) (i := j) (by omega)
    obtain ⟨a', ha', la'⟩ := vs_ld1 (g := AV.int .i64) HC (fun _ => rfl) j _ g1
    have tO : ∀ q, q < n → ∃ aO, adP sO = some aO ∧ ld1 h (Ad.add aO (q * 1)) = some (.int .i64 (pos cs (at_ (bgsOf l cl) (at_ cl q).toNat).toNat)) := fun q hq => vs_ld1 (g := AV.int .i64) HO (fun _ => rfl) q _ (range_get hq)
    obtain ⟨aO, haO, lO⟩ := tO j (by omega)
    have next : J13x81 mk0 E s5 n s7 W.length 0 sS (stL cl (fun i => pos cs (at_ (bgsOf l cl) i).toNat) n).length sM kM .nil 0 sO n s0 n ((n : Nat) : Int) ((j : Nat) : Int) h (Q13x27 mk0 E) = some (.bool true, h) := by
      rw [J13x81xeq, letK_eq, wrap64 (by omega) (by omega), show ((j : Int) + 1) = ((j + 1 : Nat) : Int) by omega]
      exact ih (j + 1) (by omega)
    rw [L13x27xeq, letK_eq, if_pos (by simp; omega), chk_of (by intro _; omega), ha, atP_of, Int.toNat_natCast, la, gCells_of]
    simp only [Fn.cells, List.getElem?_cons_zero, List.getElem?_cons_succ]
    rw [gI_of, gL_of, gL_of, gL_of, gI_of, chk_of (by intro _; omega), ha', atP_of, la', gI_of, letK_eq]
    by_cases e : at_ cl j = j
    · rw [if_neg (by simp [e])]
      have hbj := bgs_at L (i := j) (by omega)
      rw [if_pos e] at hbj
      have tj : pos cs (at_ (bgsOf l cl) (at_ cl j).toNat).toNat = pos cs (lay l cl j).1.length := by rw [e, Int.toNat_natCast, hbj, Int.toNat_natCast]
      rw [tj] at lO
      have hmem : pos cs (lay l cl j).1.length ∈ stL cl (fun i => pos cs (at_ (bgsOf l cl) i).toNat) n := by
        unfold stL
        refine List.mem_map.2 ⟨j, List.mem_filter.2 ⟨List.mem_range.2 (by omega), decide_eq_true e⟩, ?_⟩
        rw [hbj, Int.toNat_natCast]
      have p0 := pos_lo cs (lay l cl j).1.length
      rw [chk_of (by intro _; omega), haO, atP_of, lO, gI_of, contains_ok HS (by omega) hmem, Option.bind_some, gB_of]
      obtain ⟨x0, hx0⟩ := at_lt (l := f.its) (i := 0) (by have := okf.2.1; omega)
      have hseg := (lay_at hf e (by omega : j < l.length) (Nat.le_refl _) hx0).2
      rw [chk_of (by intro _; omega), atP_any, atP_any]
      rw [lO, gI_any, letK_eq, letK_eq, if_neg (by simp; omega), chk_of (by intro _; omega), atP_of, lO, gI_of]
      have D := decode_fn (s5 := s5) (n5 := n) (s7 := s7) (sM := sM) (kM := kM) (sS := sS) (kS := (stL cl (fun i => pos cs (at_ (bgsOf l cl) i).toNat) n).length) (i71 := 0) (s4 := .nil) (n4 := 0) (sO := sO) (n := n) (s85 := s0) (R f (List.mem_of_getElem? hf)) (P := pos cs) (base := (lay l cl j).1.length) (N := (finS l cl mi).1.length) (W := W) (es := pents l cl mi cs) H7 he7 hW q3 q2 hF (by omega) (T := fun q => pos cs (at_ (bgsOf l cl) (at_ cl q).toNat).toNat) HO
        (fun q hq => by
          obtain ⟨r, g, r1, r2, r3, r4, r5, r6, r7⟩ := rep_bg L hq
          rw [r1, Int.toNat_natCast, r5, Int.toNat_natCast]
          have := pos_lo cs (lay l cl r).1.length
          have := pos_hi cs (lay l cl r).1.length
          omega)
        (fun c hc => by
          obtain ⟨b1, b2, b3, b4, b5, b6⟩ := callsOk_bd (by omega) okf.2.2.2.2.2.1 c hc
          exact ⟨b2, b3, b4, b5, fun x hx => (b6 x hx).1⟩)
        (calls_pw (by omega) okf.2.2.2.2.2.1) (by have := callsOk_len (by omega : (-1 : Int) ≤ -1) okf.2.2.2.2.2.1; have := okf.1.1; omega)
        (fun m x hx => q4 j m f x hf e hx) (fun k hk => by have := pos_lo cs k; have := pos_hi cs k; omega) (Q13x52 mk0 E (Q13x27 mk0 E)) ((n : Nat) : Int) ((j : Nat) : Int) f.its.length 0 0 (by omega) (fun q x hx => ⟨fun h => by omega, fun _ => (callsOk_bd (by omega) okf.2.2.2.2.2.1 x (List.mem_of_getElem? hx)).2.1⟩) (by omega)
      have D' : L13x52 mk0 E s5 n s7 W.length 0 sS (stL cl (fun i => pos cs (at_ (bgsOf l cl) i).toNat) n).length sM kM .nil 0 sO n f.nm f.sI f.its.length f.sC f.cls.length f.sM f.mps.length f.size (pos cs (lay l cl j).1.length) 0 s0 n ((n : Nat) : Int) ((j : Nat) : Int) ((f.its.length : Nat) : Int) 0 h (Q13x52 mk0 E (Q13x27 mk0 E)) = _ := D
      rw [D', X13x52xe2]
      exact next
    · rw [if_pos (by simp [e]), chk_of (by intro _; omega), atP_of, la', gI_of, letK_eq, chk_of (by intro _; omega), atP_any, atP_any, la', gI_any, letK_eq, letK_eq]
      have d1 : decide (at_ cl j < 0) = false := decide_eq_false (by omega)
      have d2 : decide ((j : Int) ≤ at_ cl j) = false := decide_eq_false (by omega)
      obtain ⟨r, hr⟩ := Int.eq_ofNat_of_zero_le c1
      obtain ⟨aR, haR, lR⟩ := tO r (by omega)
      have haR' : aO = aR := Option.some.inj (haO.symm.trans haR)
      rw [← haR'] at lR
      rw [hr, Int.toNat_natCast] at c3 lO
      rw [c3, Int.toNat_natCast] at lR
      rw [d1, d2, chk_of (by intro _; omega), haO, atP_any, atP_any, lO, gI_any, chk_of (by intro _; omega), atP_any, atP_any, la', gI_any, hr, chk_of (by intro _; omega), atP_any, atP_any, Int.toNat_natCast, lR, gI_any, letK_eq, letK_eq, if_neg (by simp)]
      exact next

theorem linkCalls_ok {h : Heap} {s0 : SA} {n0 : Nat} {l : List Fn} (lg : Bool) (HL : VS Fn.cells 5 h s0 n0 l) (R : ∀ f ∈ l, f.R h) : ∃ h', E 13 [.sl s0 n0, .bool lg] h = some (.bool true, h') := by
  obtain ⟨h1, f1, o1⟩ := linkFact_ok h
  have hmin : (min (n0 : Int) 12).toNat = min n0 12 := by omega
  rw [e13, f1, Option.bind_some, gB_of, if_neg (by simp), letK_eq, mm_min, chkC_of (by intro _; exact ⟨by omega, .inl (by omega)⟩), letK_eq, hmin]
  have HL1 := vs_take (vs_old HL o1) (min n0 12) (Nat.min_le_left _ _)
  have R1 : ∀ f ∈ l.take (min n0 12), f.R h1 := fun f hf => (R f (List.mem_of_mem_take hf)).old o1
  have hn : min n0 12 ≤ 12 := Nat.min_le_right _ _
  generalize min n0 12 = n at *
  generalize l.take n = m at *
  have hml := HL1.1
  by_cases ok : n ≤ 256 ∧ ∀ f ∈ m, fnOk n f
  · obtain ⟨h2, s3, cl, e2, o2, HC, M⟩ := merge_ok HL1 R1 ok.1 ok.2
    have C := M.can
    rw [hml] at C
    rw [e2, Option.bind_some, gT2_of]
    simp only [List.getD_cons_zero, List.getD_cons_succ]
    rw [gL_of, gI_of, letK_eq, letK_eq, letK_eq, letK_eq, letK_eq]
    by_cases hz : n = 0
    · rw [if_pos (by simp [hz]), letK_eq, letK_eq, letK_eq]
      exact ⟨h2, by simp [hz]⟩
    · rw [if_neg (by simp [hz]), letK_eq, wrap64 (by omega) (by omega), show ((n : Int) - 1) = ((n - 1 : Nat) : Int) by omega]
      have L : Lay m n cl := ⟨hml, ok.1, ok.2, C⟩
      obtain ⟨h3, O, o3⟩ := link_ok (mi := n - 1) lg (vs_old HL1 o2) (fun f hf => (R1 f hf).old o2) HC L (by omega)
      rcases O with ⟨O, _⟩ | ⟨w1, bs, Fi, w3, sc, sS, sM, kM, sO, W, O, w4, w5, w6, w7, w8⟩
      · rw [O, Option.bind_some, gT3_of]
        simp only [List.getD_cons_zero, List.getD_cons_succ]
        rw [gA_of, chk_of (by intro _; rfl)]
        simp only [List.getElem?_cons_zero, List.getElem?_cons_succ]
        rw [gL_of, gI_of, gL_of, gL_of, gL_of, gL_of, gI_of, letK_eq, if_pos (by simp), letK_eq, letK_eq]
        exact ⟨h3, rfl⟩
      · rw [O, Option.bind_some, gT3_of]
        simp only [List.getD_cons_zero, List.getD_cons_succ]
        rw [gA_of, chk_of (by intro _; rfl)]
        simp only [List.getElem?_cons_zero, List.getElem?_cons_succ]
        rw [gL_of, gI_of, gL_of, gL_of, gL_of, gL_of, gI_of, letK_eq, if_neg (by simp), letK_eq, letK_eq, letK_eq, gI_any, letK_eq, letK_eq, if_neg (by simp)]
        have key := calls_loop2 (vs_old HL1 (o2.trans o3)) (fun f hf => (R1 f hf).old (o2.trans o3)) (vs_old HC o3) L (by omega) Fi w1 w3 w4 w5 w8 w6 w7 (sM := sM) (kM := kM) n 0 (by omega)
        exact ⟨h3, key⟩
  · obtain ⟨e, m1, m2⟩ := merge_bad HL1 R1 ok
    rw [m1, Option.bind_some, gT2_of]
    simp only [List.getD_cons_zero, List.getD_cons_succ]
    rw [gL_of, gI_of, letK_eq, letK_eq, letK_eq, letK_eq, letK_eq, if_pos (by simp [m2]), letK_eq, letK_eq, letK_eq]
    exact ⟨h1, by simp [m2]⟩

end Go.Proofs.Ytmfmnbldngfelaa.I
