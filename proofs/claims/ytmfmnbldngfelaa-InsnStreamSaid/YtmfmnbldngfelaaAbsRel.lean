/- The relation between abstract and loaded memory, and what it gives for reads, writes and new blocks. -/
import Derived.Test.YtmfmnbldngfelaaAbsEval
import Derived.Laws.CopyRow
import Derived.Laws.Cells
import Derived.Laws.Tables
set_option linter.unusedVariables false
set_option linter.unusedSimpArgs false
namespace Go.Proofs.Ytmfmnbldngfelaa.Abs
open Go

structure Row where
  cb : Nat
  base : Nat
  ver : Nat
  mode : Mode
  size : Nat

inductive Stt where
  | unborn | dead | live (r : Row) | lmap (cb : Nat)

abbrev Phi := Nat → Stt

def AddrR (φ : Phi) (a : Ad) (a' : Addr) : Prop :=
  match φ a.b with
  | .live r => a.v ≤ r.ver ∧ (a.v = r.ver → a' = ⟨r.cb, r.base + a.o, none⟩)
  | .dead => True
  | _ => False

def CapR (φ : Phi) (a : Ad) (c : Nat) : Prop :=
  match φ a.b with
  | .live r => a.v = r.ver → ∀ es, r.mode = .grow es → r.base + a.o + c * es = r.size
  | _ => True

inductive VR (φ : Phi) : AV → Value → Prop where
  | int (k : IntKind) (n : Int) : VR φ (.int k n) (.int k n)
  | bool (b : Bool) : VR φ (.bool b) (.bool b)
  | str (s : ByteArray) : VR φ (.str s) (.string s)
  | nilFn : VR φ .nilFn .nilFunc
  | nilIface : VR φ .nilIface .nilIface
  | ptrN : VR φ (.ptr none) (.pointer none)
  | ptr {a : Ad} {a' : Addr} : AddrR φ a a' → VR φ (.ptr (some a)) (.pointer (some a'))
  | slN : VR φ (.sl .nil 0) (.slice none 0 0)
  | sl {a : Ad} {a' : Addr} {n c : Nat} : AddrR φ a a' → CapR φ a c → n ≤ c → VR φ (.sl (.pos a) n) (.slice (some a') n c)
  | slL {a' : Addr} {c : Nat} : VR φ (.sl .lost 0) (.slice (some a') 0 c)
  | slZ {a' : Addr} : VR φ (.sl .z 0) (.slice (some a') 0 0)
  | mapN : VR φ (.map none) (.map none)
  | map {r r' : Nat} : φ r = .lmap r' → VR φ (.map (some r)) (.map (some r'))
  | fn (f : FuncId) {a c : List AV} {a' c' : Array Value} : a.length = a'.size → (∀ (i : Nat) x y, a[i]? = some x → a'[i]? = some y → VR φ x y) →
      c.length = c'.size → (∀ (i : Nat) x y, c[i]? = some x → c'[i]? = some y → VR φ x y) → VR φ (.fn f a c) (.func (.func f) a' c')
  | agg {a : List AV} {a' : Array Value} : a.length = a'.size → (∀ (i : Nat) x y, a[i]? = some x → a'[i]? = some y → VR φ x y) → VR φ (.agg a) (.agg a')
  | tup {a : List AV} {a' : Array Value} : a.length = a'.size → (∀ (i : Nat) x y, a[i]? = some x → a'[i]? = some y → VR φ x y) → VR φ (.tup a) (.tuple a')
  | opq (v : Value) : VR φ .opq v

/-- Lists, value by value. -/
def VRs (φ : Phi) (a : List AV) (a' : List Value) : Prop :=
  a.length = a'.length ∧ ∀ (i : Nat) x y, a[i]? = some x → a'[i]? = some y → VR φ x y

def StLE : Stt → Stt → Prop
  | .unborn, _ => True
  | .dead, s => s = .dead
  | .live r, s => ∃ r', s = .live r' ∧ r'.mode = r.mode ∧ (r' = r ∨ r.ver < r'.ver)
  | .lmap c, s => s = .lmap c

def Le (φ φ' : Phi) : Prop := ∀ b, StLE (φ b) (φ' b)

theorem StLE.refl (s : Stt) : StLE s s := by
  cases s with
  | live r => exact ⟨r, rfl, rfl, .inl rfl⟩
  | _ => first | trivial | rfl

theorem Le.refl (φ : Phi) : Le φ φ := fun b => StLE.refl _

theorem StLE.trans {a b c : Stt} (h : StLE a b) (k : StLE b c) : StLE a c := by
  cases a with
  | unborn => trivial
  | dead => cases h; exact k
  | lmap n => cases h; exact k
  | live r =>
    obtain ⟨r', rfl, hm, hv⟩ := h
    obtain ⟨r'', rfl, hm', hv'⟩ := k
    refine ⟨r'', rfl, hm'.trans hm, ?_⟩
    rcases hv with rfl | hv
    · exact hv'
    · rcases hv' with rfl | hv'
      · exact .inr hv
      · exact .inr (Nat.lt_trans hv hv')

theorem Le.trans {φ φ' φ'' : Phi} (h : Le φ φ') (k : Le φ' φ'') : Le φ φ'' := fun b => (h b).trans (k b)

theorem AddrR.mono {φ φ' : Phi} (le : Le φ φ') {a : Ad} {a' : Addr} (h : AddrR φ a a') : AddrR φ' a a' := by
  have l := le a.b
  unfold AddrR at *
  cases e : φ a.b with
  | unborn => rw [e] at h; exact h.elim
  | lmap c => rw [e] at h; exact h.elim
  | dead => rw [e] at l; have l' : φ' a.b = .dead := l; rw [l']; trivial
  | live r =>
    rw [e] at h l
    obtain ⟨r', hr', hm, hv⟩ := l
    rw [hr']
    rcases hv with rfl | hv
    · exact h
    · exact ⟨by have := h.1; omega, fun hh => by have := h.1; omega⟩

theorem CapR.mono {φ φ' : Phi} (le : Le φ φ') {a : Ad} {a' : Addr} {c : Nat} (ha : AddrR φ a a') (h : CapR φ a c) : CapR φ' a c := by
  have l := le a.b
  unfold CapR AddrR at *
  cases e : φ a.b with
  | unborn => rw [e] at ha; exact ha.elim
  | lmap c => rw [e] at ha; exact ha.elim
  | dead => rw [e] at l; have l' : φ' a.b = .dead := l; rw [l']; trivial
  | live r =>
    rw [e] at h l ha
    obtain ⟨r', hr', hm, hv⟩ := l
    rw [hr']
    rcases hv with rfl | hv
    · exact h
    · exact fun hh => by have := ha.1; omega

theorem VR.mono {φ φ' : Phi} (le : Le φ φ') {x : AV} {y : Value} (h : VR φ x y) : VR φ' x y := by
  induction h with
  | int k n => exact .int k n
  | bool b => exact .bool b
  | str s => exact .str s
  | nilFn => exact .nilFn
  | nilIface => exact .nilIface
  | ptrN => exact .ptrN
  | ptr ha => exact .ptr (ha.mono le)
  | slN => exact .slN
  | sl ha hc hn => exact .sl (ha.mono le) (hc.mono le ha) hn
  | slL => exact .slL
  | slZ => exact .slZ
  | mapN => exact .mapN
  | @map r r' hr =>
    have l := le r
    rw [hr] at l
    exact .map l
  | fn f h1 h2 h3 h4 ih1 ih2 => exact .fn f h1 ih1 h3 ih2
  | agg h1 h2 ih => exact .agg h1 ih
  | tup h1 h2 ih => exact .tup h1 ih
  | opq v => exact .opq v

theorem VRs.mono {φ φ' : Phi} (le : Le φ φ') {x : List AV} {y : List Value} (h : VRs φ x y) : VRs φ' x y :=
  ⟨h.1, fun i a b ha hb => (h.2 i a b ha hb).mono le⟩

theorem VRs.nil (φ : Phi) : VRs φ [] [] := ⟨rfl, fun i x y h => by simp at h⟩

theorem VRs.cons {φ : Phi} {x : AV} {y : Value} {xs : List AV} {ys : List Value} (h : VR φ x y) (hs : VRs φ xs ys) : VRs φ (x :: xs) (y :: ys) := by
  refine ⟨by simp [hs.1], fun i a b ha hb => ?_⟩
  cases i with
  | zero => simp at ha hb; subst ha; subst hb; exact h
  | succ i => simp at ha hb; exact hs.2 i a b ha hb

theorem VRs.cons_inv {φ : Phi} {x : AV} {xs : List AV} {l : List Value} (h : VRs φ (x :: xs) l) : ∃ y ys, l = y :: ys ∧ VR φ x y ∧ VRs φ xs ys := by
  cases l with
  | nil => have := h.1; simp at this
  | cons y ys =>
    exact ⟨y, ys, rfl, h.2 0 x y rfl rfl, by have := h.1; simpa using this, fun i a b ha hb => h.2 (i + 1) a b (by simpa using ha) (by simpa using hb)⟩

theorem VRs.append {φ : Phi} {a b : List AV} {a' b' : List Value} (h : VRs φ a a') (k : VRs φ b b') : VRs φ (a ++ b) (a' ++ b') := by
  induction a generalizing a' with
  | nil => have := h.1; cases a' <;> simp_all
  | cons x xs ih =>
    obtain ⟨y, ys, rfl, h1, h2⟩ := h.cons_inv
    exact .cons h1 (ih h2)

theorem VRs.get {φ : Phi} {a : List AV} {a' : List Value} (h : VRs φ a a') {i : Nat} {x : AV} (hx : a[i]? = some x) : ∃ y, a'[i]? = some y ∧ VR φ x y := by
  have hi : i < a.length := (List.getElem?_eq_some_iff.1 hx).1
  have hi' : i < a'.length := by have := h.1; omega
  exact ⟨a'[i], List.getElem?_eq_getElem hi', h.2 i x _ hx (List.getElem?_eq_getElem hi')⟩

theorem VRs.sub {φ : Phi} {a : List AV} {a' : List Value} (h : VRs φ a a') (o n : Nat) : VRs φ ((a.drop o).take n) ((a'.drop o).take n) := by
  refine ⟨by simp [h.1], fun i x y hx hy => ?_⟩
  rw [List.getElem?_take] at hx hy
  split at hx
  · rename_i hi
    rw [if_pos hi] at hy
    rw [List.getElem?_drop] at hx hy
    exact h.2 _ x y hx hy
  · simp at hx

theorem VRs.of_arr {φ : Phi} {a : List AV} {a' : Array Value} (h : a.length = a'.size) (k : ∀ (i : Nat) x y, a[i]? = some x → a'[i]? = some y → VR φ x y) : VRs φ a a'.toList :=
  ⟨by simpa using h, fun i x y hx hy => k i x y hx (by simpa using hy)⟩

theorem VR.agg_list {φ : Phi} {a : List AV} {l : List Value} (h : VRs φ a l) : VR φ (.agg a) (.agg l.toArray) :=
  .agg (by simpa using h.1) fun i x y hx hy => h.2 i x y hx (by simpa using hy)
theorem VR.tup_list {φ : Phi} {a : List AV} {l : List Value} (h : VRs φ a l) : VR φ (.tup a) (.tuple l.toArray) :=
  .tup (by simpa using h.1) fun i x y hx hy => h.2 i x y hx (by simpa using hy)

theorem flat_cell {φ : Phi} {x : AV} {y : Value} (h : VR φ x y) (hf : flatA x = true) : y.oneCell' = true := by
  cases h <;> first | rfl | simp [flatA] at hf

theorem flat_cells {φ : Phi} {xs : List AV} {ys : List Value} (h : VRs φ xs ys) (hf : flatL xs = true) : ∀ v ∈ ys, v.oneCell' = true := by
  induction xs generalizing ys with
  | nil => have := h.1; cases ys <;> simp_all
  | cons x xs ih =>
    obtain ⟨y, ys, rfl, h1, h2⟩ := h.cons_inv
    simp only [flatL, Bool.and_eq_true] at hf
    intro v hv
    cases hv with
    | head => exact flat_cell h1 hf.1
    | tail _ hv => exact ih h2 hf.2 v hv

theorem cellsOf_sound {φ : Phi} {x : AV} {y : Value} (h : VR φ x y) (hx : x ≠ .opq) : VRs φ (cellsOf x) y.cells.toList := by
  cases h with
  | agg h1 h2 => exact VRs.of_arr h1 h2
  | opq => exact absurd rfl hx
  | _ => exact .cons (by constructor <;> assumption) (.nil _)

/-! ### Memory -/

def cbOf : Stt → Option Nat
  | .live r => some r.cb
  | .lmap c => some c
  | _ => none

structure CellsR (φ : Phi) (c : List AV) (base : Nat) (cc : Array Value) : Prop where
  len : base + c.length ≤ cc.size
  get : ∀ (i : Nat) x, c[i]? = some x → ∃ y, cc[base + i]? = some y ∧ VR φ x y

inductive MapR (φ : Phi) : List (AV × AV) → List MapEntry → Prop where
  | nil : MapR φ [] []
  | cons {k v : AV} {e : MapEntry} {l : List (AV × AV)} {es : List MapEntry} : VR φ k e.key → VR φ v e.val → MapR φ l es → MapR φ ((k, v) :: l) (e :: es)

theorem MapR.mono {φ φ' : Phi} (le : Le φ φ') {l : List (AV × AV)} {es : List MapEntry} (h : MapR φ l es) : MapR φ' l es := by
  induction h with
  | nil => exact .nil
  | cons h1 h2 _ ih => exact .cons (h1.mono le) (h2.mono le) ih

structure Sim (φ : Phi) (h : Heap) (w : World) : Prop where
  live : ∀ b r, φ b = .live r → ∃ c cc ty fz, h[b]? = some (.cells c r.mode r.ver) ∧ w.heap[r.cb]? = some (.cells cc ty fz) ∧ CellsR φ c r.base cc ∧
    (r.mode ≠ .ro → fz = (0, 0)) ∧ (∀ es, r.mode = .grow es → cc.size = r.size)
  map : ∀ b cb, φ b = .lmap cb → ∃ es ces clk, h[b]? = some (.map es) ∧ w.heap[cb]? = some (.map ces clk) ∧ MapR φ es ces.toList
  dead : ∀ b, φ b = .dead → h[b]? = some .gone
  inj : ∀ b b' c, cbOf (φ b) = some c → cbOf (φ b') = some c → b = b'

theorem CellsR.mono {φ φ' : Phi} (le : Le φ φ') {c : List AV} {o : Nat} {cc : Array Value} (h : CellsR φ c o cc) : CellsR φ' c o cc :=
  ⟨h.len, fun i x hx => let ⟨y, hy, hv⟩ := h.get i x hx; ⟨y, hy, hv.mono le⟩⟩

/-- A live address: the block behind it. -/
theorem addr_live {φ : Phi} {h : Heap} {w : World} (S : Sim φ h w) {a : Ad} {a' : Addr} (ha : AddrR φ a a') {c : List AV} {m : Mode} {v : Nat}
    (hb : h[a.b]? = some (.cells c m v)) (hv : a.v = v) :
    ∃ r cc ty fz, φ a.b = .live r ∧ r.mode = m ∧ r.ver = v ∧ a' = ⟨r.cb, r.base + a.o, none⟩ ∧ w.heap[r.cb]? = some (.cells cc ty fz) ∧ CellsR φ c r.base cc ∧
      (r.mode ≠ .ro → fz = (0, 0)) ∧ (∀ es, r.mode = .grow es → cc.size = r.size) := by
  unfold AddrR at ha
  cases e : φ a.b with
  | unborn => rw [e] at ha; exact ha.elim
  | lmap c => rw [e] at ha; exact ha.elim
  | dead => have := S.dead _ e; rw [hb] at this; simp at this
  | live r =>
    rw [e] at ha
    obtain ⟨c', cc, ty, fz, h1, h2, h3, h4, h5⟩ := S.live _ _ e
    rw [hb] at h1
    simp only [Option.some.injEq, Blk.cells.injEq] at h1
    obtain ⟨rfl, rfl, rfl⟩ := h1
    exact ⟨r, cc, ty, fz, rfl, rfl, rfl, ha.2 hv, h2, h3, h4, h5⟩

theorem ld1_sound {φ : Phi} {h : Heap} {w : World} (S : Sim φ h w) {a : Ad} {a' : Addr} (ha : AddrR φ a a') {x : AV} (hl : ld1 h a = some x) :
    ∃ y, w.cell? a' = some y ∧ VR φ x y ∧ flatA x = true := by
  unfold ld1 at hl
  cases e : h[a.b]? with
  | none => simp [e] at hl
  | some b =>
    cases b with
    | gone => simp [e] at hl
    | map es => simp [e] at hl
    | cells c m v =>
      simp only [e] at hl
      split at hl
      · rename_i hv
        obtain ⟨r, cc, ty, fz, h1, _, _, rfl, h5, h6, _, _⟩ := addr_live S ha e hv
        split at hl
        · rename_i x' hx'
          split at hl
          · rename_i hf
            simp only [Option.some.injEq] at hl
            subst hl
            obtain ⟨y, hy, hvr⟩ := h6.get _ _ hx'
            exact ⟨y, by simp [World.cell?, h5, hy], hvr, hf⟩
          · simp at hl
        · simp at hl
      · simp at hl

theorem addr_add (b o n : Nat) : (⟨b, o, none⟩ : Addr).add n = ⟨b, o + n, none⟩ := Addr.add_lit b o n

theorem ldN_sound {φ : Phi} {h : Heap} {w : World} (S : Sim φ h w) {a : Ad} {a' : Addr} (ha : AddrR φ a a') {n : Nat} {xs : List AV} (hl : ldN h a n = some xs) :
    ∃ ys : List Value, ys.length = n ∧ (∀ j v, ys[j]? = some v → w.cell? (a'.add j) = some v) ∧ VRs φ xs ys ∧ flatL xs = true := by
  unfold ldN at hl
  cases e : h[a.b]? with
  | none => simp [e] at hl
  | some b =>
    cases b with
    | gone => simp [e] at hl
    | map es => simp [e] at hl
    | cells c m v =>
      simp only [e] at hl
      split at hl
      · rename_i hv
        obtain ⟨hv, hle, hf⟩ := hv
        simp only [Option.some.injEq] at hl
        subst hl
        obtain ⟨r, cc, ty, fz, h1, _, _, rfl, h5, h6, _, _⟩ := addr_live S ha e hv
        refine ⟨(cc.toList.drop (r.base + a.o)).take n, ?_, ?_, ?_, hf⟩
        · have := h6.len
          simp; omega
        · intro j v hj
          rw [List.getElem?_take] at hj
          split at hj
          · rw [List.getElem?_drop] at hj
            rw [addr_add]
            have : cc[r.base + a.o + j]? = some v := by simpa using hj
            simp [World.cell?, h5, this]
          · simp at hj
        · refine ⟨?_, fun i x y hx hy => ?_⟩
          · have := h6.len
            simp; omega
          · rw [List.getElem?_take] at hx hy
            split at hx
            · rename_i hi
              rw [if_pos hi, List.getElem?_drop] at hy
              rw [List.getElem?_drop] at hx
              obtain ⟨y', hy', hvr⟩ := h6.get _ _ hx
              have : cc.toList[r.base + a.o + i]? = some y' := by simpa [Nat.add_assoc] using hy'
              rw [this] at hy
              cases hy
              exact hvr
            · simp at hx
      · simp at hl

theorem run_ldN {φ : Phi} {h : Heap} {w : World} (P : Program) (S : Sim φ h w) {a : Ad} {a' : Addr} (ha : AddrR φ a a') {n : Nat} {xs : List AV} (hl : ldN h a n = some xs) :
    ∃ ys : List Value, (loadCells a' n).run P w = .ok ys.toArray w ∧ ys.length = n ∧ VRs φ xs ys ∧ flatL xs = true := by
  obtain ⟨ys, h1, h2, h3, h4⟩ := ldN_sound S ha hl
  refine ⟨ys, ?_, h1, h3, h4⟩
  rw [← h1]
  exact run_loadCells_list w a' ys h2

/-! ### Writing -/

/-- Blocks of the loaded memory that an abstract heap may turn. -/
def Owns (φ : Phi) (k : Nat) : Prop := ∃ b, (∃ r, φ b = .live r ∧ r.mode ≠ .ro ∧ r.cb = k) ∨ φ b = .lmap k

structure Fr (own : Nat → Prop) (w w' : World) : Prop where
  os : w'.os = w.os
  tape : w'.tape = w.tape
  output : w'.output = w.output
  size : w.heap.size ≤ w'.heap.size
  block : ∀ k, k < w.heap.size → ¬ own k → w'.heap[k]? = w.heap[k]?

theorem Fr.refl (own : Nat → Prop) (w : World) : Fr own w w := ⟨rfl, rfl, rfl, Nat.le_refl _, fun _ _ _ => rfl⟩

theorem Fr.trans {own own' : Nat → Prop} {w w' w'' : World} (h : Fr own w w') (k : Fr own' w' w'') (ho : ∀ n, n < w.heap.size → own' n → own n) : Fr own w w'' :=
  ⟨k.os.trans h.os, k.tape.trans h.tape, k.output.trans h.output, Nat.le_trans h.size k.size,
    fun n hn hno => (k.block n (Nat.lt_of_lt_of_le hn h.size) (fun h' => hno (ho n hn h'))).trans (h.block n hn hno)⟩

theorem splice_length (o : Nat) (vs cs : List AV) (h : o + vs.length ≤ cs.length) : (splice o vs cs).length = cs.length := by
  induction cs generalizing o vs with
  | nil => cases vs with
    | nil => cases o <;> simp [splice]
    | cons v vs => simp at h
  | cons c cs ih =>
    cases vs with
    | nil => cases o <;> simp [splice]
    | cons v vs =>
      cases o with
      | zero => simp only [splice, List.length_cons] at *; rw [ih 0 vs (by omega)]
      | succ o => simp only [splice, List.length_cons] at *; rw [ih o (v :: vs) (by simp; omega)]

theorem splice_get (o : Nat) (vs cs : List AV) (h : o + vs.length ≤ cs.length) (i : Nat) :
    (splice o vs cs)[i]? = if o ≤ i ∧ i < o + vs.length then vs[i - o]? else cs[i]? := by
  induction cs generalizing o vs i with
  | nil => cases vs with
    | nil => cases o <;> simp [splice]
    | cons v vs => simp at h
  | cons c cs ih =>
    cases vs with
    | nil =>
      have : ¬ (o ≤ i ∧ i < o + 0) := by omega
      cases o <;> simp [splice, this]
    | cons v vs =>
      cases o with
      | zero =>
        simp only [splice]
        cases i with
        | zero => simp
        | succ i =>
          simp only [List.length_cons] at h
          rw [List.getElem?_cons_succ, ih 0 vs (by omega)]
          by_cases hc : i < vs.length
          · rw [if_pos (by omega), if_pos (by simp; omega)]
            simp
          · rw [if_neg (by omega), if_neg (by simp; omega)]
            simp
      | succ o =>
        simp only [splice]
        cases i with
        | zero => simp
        | succ i =>
          simp only [List.length_cons] at h
          rw [List.getElem?_cons_succ, ih o (v :: vs) (by simp; omega), List.getElem?_cons_succ]
          by_cases hc : o ≤ i ∧ i < o + (v :: vs).length
          · rw [if_pos hc, if_pos (by omega)]
            congr 1
            omega
          · rw [if_neg hc, if_neg (by omega)]

theorem splice_set (o : Nat) (x : AV) (cs : List AV) (h : o < cs.length) : splice o [x] cs = cs.set o x := by
  apply List.ext_getElem?
  intro i
  rw [splice_get o [x] cs (by simp; omega), List.getElem?_set]
  by_cases hi : o = i
  · subst hi
    simp [h]
  · rw [if_neg (by simp; omega), if_neg hi]

theorem st1_eq (h : Heap) (a : Ad) (x : AV) : st1 h a x = stN h a [x] := by
  unfold st1 stN
  cases h[a.b]? with
  | none => rfl
  | some b => cases b with
    | gone => rfl
    | map es => rfl
    | cells c m v =>
      simp only [List.length_singleton]
      by_cases hc : a.v = v ∧ m ≠ .ro ∧ a.o < c.length
      · rw [if_pos hc, if_pos ⟨hc.1, hc.2.1, by omega⟩, splice_set _ _ _ hc.2.2]
      · rw [if_neg hc, if_neg (fun h => hc ⟨h.1, h.2.1, by omega⟩)]

theorem setRow_get (w : World) (g k : Nat) (cs : Array Value) (h : k ≠ g) : (w.setRow g cs).heap[k]? = w.heap[k]? := by
  simp only [World.setRow, Array.getElem?_modify]
  rw [if_neg (by omega)]

theorem setRow_size (w : World) (g : Nat) (cs : Array Value) : (w.setRow g cs).heap.size = w.heap.size := by simp [World.setRow]

/-- Block b gets other cells (and, it may be, another row), the loaded block with it. -/
theorem Sim.put {φ φ' : Phi} {h : Heap} {w w' : World} (S : Sim φ h w) (le : Le φ φ') {b : Nat} {r' : Row} {c : List AV} {cc : Array Value} {ty : TypeId}
    (hb : b < h.length) (h1 : φ' b = .live r') (h2 : ∀ k, k ≠ b → φ' k = φ k) (hw : w'.heap[r'.cb]? = some (.cells cc ty (0, 0)))
    (hc : CellsR φ' c r'.base cc) (hg : ∀ es, r'.mode = .grow es → cc.size = r'.size)
    (hin : ∀ k, k ≠ b → cbOf (φ k) ≠ some r'.cb)
    (hk : ∀ k, k ≠ b → ∀ n, cbOf (φ k) = some n → w'.heap[n]? = w.heap[n]?) :
    Sim φ' (h.set b (.cells c r'.mode r'.ver)) w' := by
  have hset : ∀ k, k ≠ b → (h.set b (.cells c r'.mode r'.ver))[k]? = h[k]? := fun k hk => by rw [List.getElem?_set, if_neg (Ne.symm hk)]
  constructor
  · intro k r hr
    by_cases e : k = b
    · subst e
      rw [h1] at hr
      cases hr
      exact ⟨c, cc, ty, (0, 0), by simp [List.getElem?_set, hb], hw, hc, fun _ => rfl, hg⟩
    · rw [h2 k e] at hr
      obtain ⟨c', cc', ty', fz', g1, g2, g3, g4, g5⟩ := S.live k r hr
      exact ⟨c', cc', ty', fz', by rw [hset k e]; exact g1, by rw [hk k e r.cb (by simp [hr, cbOf])]; exact g2, g3.mono le, g4, g5⟩
  · intro k cb hr
    by_cases e : k = b
    · subst e; rw [h1] at hr; cases hr
    · rw [h2 k e] at hr
      obtain ⟨es, ces, clk, g1, g2, g3⟩ := S.map k cb hr
      exact ⟨es, ces, clk, by rw [hset k e]; exact g1, by rw [hk k e cb (by simp [hr, cbOf])]; exact g2, g3.mono le⟩
  · intro k hr
    by_cases e : k = b
    · subst e; rw [h1] at hr; cases hr
    · rw [h2 k e] at hr
      rw [hset k e]; exact S.dead k hr
  · intro k k' n hn hn'
    by_cases e : k = b
    · by_cases e' : k' = b
      · rw [e, e']
      · subst e
        rw [h1] at hn
        simp only [cbOf, Option.some.injEq] at hn
        rw [h2 k' e'] at hn'
        exact absurd (hn ▸ hn') (hin k' e')
    · by_cases e' : k' = b
      · subst e'
        rw [h1] at hn'
        simp only [cbOf, Option.some.injEq] at hn'
        rw [h2 k e] at hn
        exact absurd (hn' ▸ hn) (hin k e)
      · rw [h2 k e] at hn
        rw [h2 k' e'] at hn'
        exact S.inj k k' n hn hn'

theorem CellsR.spliced {φ : Phi} {c : List AV} {base o : Nat} {cc : Array Value} {xs : List AV} {ys : List Value} (h : CellsR φ c base cc) (hl : o + xs.length ≤ c.length) (hx : VRs φ xs ys) :
    CellsR φ (splice o xs c) base (cc.toList.take (base + o) ++ ys ++ cc.toList.drop (base + o + ys.length)).toArray := by
  have hlen := h.len
  have hxy := hx.1
  constructor
  · rw [splice_length o xs c hl]
    simp
    omega
  · intro i x hi
    rw [splice_get o xs c hl] at hi
    by_cases hc : o ≤ i ∧ i < o + xs.length
    · rw [if_pos hc] at hi
      obtain ⟨y, hy, hv⟩ := hx.get hi
      refine ⟨y, ?_, hv⟩
      rw [List.getElem?_toArray, List.append_assoc, List.getElem?_append_right (by simp; omega), List.getElem?_append_left (by simp; omega)]
      rw [← hy]
      congr 1
      simp
      omega
    · rw [if_neg hc] at hi
      obtain ⟨y, hy, hv⟩ := h.get i x hi
      refine ⟨y, ?_, hv⟩
      rw [← hy, List.getElem?_toArray]
      by_cases hlt : i < o
      · rw [List.append_assoc, List.getElem?_append_left (by simp; omega), List.getElem?_take, if_pos (by omega)]
        simp
      · rw [List.getElem?_append_right (by simp; omega), List.getElem?_drop]
        simp
        congr 1
        omega

/-- Cells stored: the abstract heap's and the loaded memory's. -/
theorem stN_sound {φ : Phi} {h h' : Heap} {w : World} (P : Program) (S : Sim φ h w) {a : Ad} {a' : Addr} (ha : AddrR φ a a') {xs : List AV} {ys : List Value} (hx : VRs φ xs ys)
    (hf : flatL xs = true) (hs : stN h a xs = some h') :
    ∃ w', (storeCells a' ys).run P w = .ok () w' ∧ Sim φ h' w' ∧ Fr (Owns φ) w w' := by
  unfold stN at hs
  cases e : h[a.b]? with
  | none => simp [e] at hs
  | some b =>
    cases b with
    | gone => simp [e] at hs
    | map es => simp [e] at hs
    | cells c m v =>
      simp only [e] at hs
      split at hs
      · rename_i hc
        obtain ⟨hv, hm, hle⟩ := hc
        simp only [Option.some.injEq] at hs
        subst hs
        obtain ⟨r, cc, ty, fz, h1, h2, h3, rfl, h5, h6, h7, h8⟩ := addr_live S ha e hv
        subst h2; subst h3
        have hfz := h7 hm
        subst hfz
        have hlen := h6.len
        have hxy := hx.1
        have hrun := run_storeCells_at (P := P) r.cb (r.base + a.o) ty ys 0 cc w h5 (by omega) (flat_cells hx hf)
        refine ⟨_, hrun, ?_, ?_⟩
        · have hb : a.b < h.length := (List.getElem?_eq_some_iff.1 e).1
          refine S.put (Le.refl φ) (r' := r) hb h1 (fun _ _ => rfl) (setRow_heap _ _ _ _ _ _ h5) (by simpa using h6.spliced hle hx) (fun es hes => ?_) (fun k hk hcb => ?_) (fun k hk n hn => ?_)
          · rw [← h8 es hes]
            simp
            omega
          · exact hk (S.inj k a.b r.cb hcb (by simp [h1, cbOf]))
          · refine setRow_get _ _ _ _ fun hn' => ?_
            subst hn'
            exact hk (S.inj k a.b r.cb hn (by simp [h1, cbOf]))
        · refine ⟨rfl, rfl, rfl, by rw [setRow_size]; exact Nat.le_refl _, fun k hk hno => setRow_get _ _ _ _ fun hn => hno ?_⟩
          exact ⟨a.b, .inl ⟨r, h1, hm, hn.symm⟩⟩
      · simp at hs

end Go.Proofs.Ytmfmnbldngfelaa.Abs
