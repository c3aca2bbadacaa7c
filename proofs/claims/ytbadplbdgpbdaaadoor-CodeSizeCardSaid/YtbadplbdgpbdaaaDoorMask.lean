/- Whole rows of cells, read and written at once: rules of the walk for an array whose cells are a variable. Masks as plain numbers: 23 words of 64 bits; the set of minutes that a mask has; the mask of a set. Nothing of the program is in sight. Sets of minutes as spans: what rising spans that do not touch are; they are one list. No walk. How many bits a word has: the sums that bits.OnesCount64 makes. No walk. Sets of minutes shifted, counted, looked through for the first free minutes. No walk. Words of a shifted mask. No walk. Masks as values of the program: a row of 23 words, read and written in place, held against another one. -/
import Derived.Test.YtbadplbdgpbdaaaDoorApp
import Derived.Laws.Rows
import Derived.Laws.Tables
import Derived.KernelRfl
import Derived.Test.YtbadplbdgpbdaaaDoorRows
import Derived.ChangeKeysEq
namespace Go.Proofs.YtbadplbdgpbdaaaDoor
open Go.RowKit

/-- so many cells from an address on, if all are there -/
def cellsAt (w : World) (g o n : Nat) : Option (Array Value) := ((List.range n).mapM fun i => w.cell? ⟨g, o + i, none⟩).map List.toArray
def cellsNew (w : World) (g o n : Nat) : Option (Array Value) := cellsAt w g o n
/-- is a block a row of so many cells, none of them frozen? -/
def freeRow (w : World) (g n : Nat) : Bool := match w.heap[g]? with
  | some (.cells cs _ fz) => fz == (0, 0) && cs.size == n
  | _ => false
def freeNew (w : World) (g n : Nat) : Bool := freeRow w g n

theorem mapM_get {f : Nat → Option Value} {xs : List Value} : ∀ {is : List Nat}, is.mapM f = some xs → ∀ (k i : Nat), is[k]? = some i → f i = xs[k]? := by
  intro is
  induction is generalizing xs with
  | nil => intro _ k i h; simp at h
  | cons j is ih =>
    intro h k i hk
    rw [List.mapM_cons] at h
    simp only [bind, Option.bind_eq_some_iff, pure, Option.some.injEq] at h
    obtain ⟨v, hv, vs, hvs, rfl⟩ := h
    cases k with
    | zero => simp at hk; subst hk; simpa using hv
    | succ k => simp at hk; simpa using ih hvs k i hk
theorem mapM_len {f : Nat → Option Value} {xs : List Value} : ∀ {is : List Nat}, is.mapM f = some xs → xs.length = is.length := by
  intro is
  induction is generalizing xs with
  | nil => intro h; simp at h; subst h; rfl
  | cons j is ih =>
    intro h
    rw [List.mapM_cons] at h
    simp only [bind, Option.bind_eq_some_iff, pure, Option.some.injEq] at h
    obtain ⟨v, hv, vs, hvs, rfl⟩ := h
    simp [ih hvs]
theorem mapM_of {f : Nat → Option Value} {xs : List Value} : ∀ {is : List Nat}, xs.length = is.length → (∀ (k i : Nat), is[k]? = some i → f i = xs[k]?) → is.mapM f = some xs := by
  intro is
  induction is generalizing xs with
  | nil => intro h _; cases xs with | nil => rfl | cons _ _ => simp at h
  | cons j is ih =>
    intro h hk
    cases xs with
    | nil => simp at h
    | cons v vs =>
      rw [List.mapM_cons]
      have h0 := hk 0 j rfl
      simp at h0
      rw [ih (by simpa using h) (fun k i hi => by have := hk (k + 1) i (by simpa using hi); simpa using this)]
      simp [h0]

theorem cellsAt_some {w : World} {g o n : Nat} {cs : Array Value} : cellsAt w g o n = some cs ↔ cs.size = n ∧ ∀ i, i < n → w.cell? ⟨g, o + i, none⟩ = cs[i]? := by
  unfold cellsAt
  constructor
  · intro h
    cases hm : (List.range n).mapM fun i => w.cell? ⟨g, o + i, none⟩ with
    | none => rw [hm] at h; simp at h
    | some xs =>
      rw [hm] at h
      simp only [Option.map_some, Option.some.injEq] at h
      subst h
      have hl := mapM_len hm
      refine ⟨by simpa using hl, fun i hi => ?_⟩
      have := mapM_get hm i i (by rw [List.getElem?_range hi])
      simpa using this
  · rintro ⟨h1, h2⟩
    have : (List.range n).mapM (fun i => w.cell? ⟨g, o + i, none⟩) = some cs.toList := mapM_of (by simp [h1]) (fun k i hk => by
      have hk' : k < n := by
        have := (List.getElem?_eq_some_iff.1 hk).1
        simpa using this
      rw [List.getElem?_range hk'] at hk
      simp only [Option.some.injEq] at hk
      subst hk
      simpa using h2 k hk')
    rw [this]
    simp

theorem cellsAt_congr {w w' : World} {g o n : Nat} (h : ∀ i, i < n → w'.cell? ⟨g, o + i, none⟩ = w.cell? ⟨g, o + i, none⟩) : cellsAt w' g o n = cellsAt w g o n := by
  unfold cellsAt
  congr 1
  have : ∀ is : List Nat, (∀ i ∈ is, i < n) → is.mapM (fun i => w'.cell? ⟨g, o + i, none⟩) = is.mapM (fun i => w.cell? ⟨g, o + i, none⟩) := by
    intro is
    induction is with
    | nil => intro _; rfl
    | cons j is ih =>
      intro hj
      rw [List.mapM_cons, List.mapM_cons, h j (hj j (by simp)), ih (fun i hi => hj i (by simp [hi]))]
  exact this _ (fun i hi => by simpa using hi)

/-- a block that is known whole -/
theorem Blk.cells {w : World} {g : Nat} {t : TypeId} {cs : Array Value} (h : Blk w g t cs) : cellsAt w g 0 cs.size = some cs :=
  cellsAt_some.2 ⟨rfl, fun i _ => by rw [Nat.zero_add]; exact h.cell i⟩
theorem Blk.free {w : World} {g : Nat} {t : TypeId} {cs : Array Value} (h : Blk w g t cs) : freeRow w g cs.size = true := by
  unfold Blk at h
  simp [freeRow, h]
theorem Blk.setRow {w : World} {g : Nat} {t : TypeId} {cs : Array Value} (h : Blk w g t cs) (cs' : Array Value) : Blk (w.setRow g cs') g t cs' := setRow_heap w g cs cs' t (0, 0) h
theorem Blk.farRow {w : World} {g k : Nat} {t : TypeId} {cs : Array Value} (h : Blk w g t cs) (hk : g ≠ k) (cs' : Array Value) : Blk (w.setRow k cs') g t cs := (setRow_other w k g cs' hk).trans h
theorem Below.setRow {B g : Nat} {a w : World} (h : Below B a w) (hg : B ≤ g) (cs : Array Value) : Below B a (w.setRow g cs) :=
  h.trans ⟨rfl, rfl, rfl, by simp, fun k hk => setRow_other w g k cs (by omega)⟩

@[go_sem] theorem cellsAt_alloc (w : World) (cs : Array Value) (t : TypeId) (fz : Nat × Nat) (g o n : Nat) :
    cellsAt (w.alloc (.cells cs t fz)) g o n = if g < w.heap.size then cellsAt w g o n else if g = w.heap.size ∧ o = 0 ∧ n = cs.size then some cs else cellsNew (w.alloc (.cells cs t fz)) g o n := by
  split
  · rename_i h
    exact cellsAt_congr fun i _ => by rw [cell_alloc_ite, if_pos h]
  · split
    · rename_i h1 h2
      obtain ⟨rfl, rfl, rfl⟩ := h2
      exact cellsAt_some.2 ⟨rfl, fun i _ => by rw [cell_alloc_ite]; simp⟩
    · rfl
@[go_sem] theorem cellsAt_after {B : Nat} {w0 : World} (m : After B w0) (g o n : Nat) : cellsAt m.w g o n = if g < B then cellsAt w0 g o n else cellsNew m.w g o n := by
  split
  · rename_i h
    exact cellsAt_congr fun i _ => m.below.cell h
  · rfl
@[go_sem] theorem cellsAt_drew (w : World) (g o n : Nat) : cellsAt w.drew g o n = cellsAt w g o n := rfl
@[go_sem] theorem cellsAt_drewN (w : World) (k g o n : Nat) : cellsAt (w.drewN k) g o n = cellsAt w g o n := rfl
@[go_sem] theorem cellsAt_setCell (w : World) (b i : Nat) (v : Value) (g o n : Nat) :
    cellsAt (w.setCell ⟨b, i, none⟩ v) g o n = if b = g then (if o = 0 then (cellsAt w g 0 n).map (·.setIfInBounds i v) else cellsNew (w.setCell ⟨b, i, none⟩ v) g o n) else cellsAt w g o n := by
  split
  · rename_i h
    subst h
    split
    · rename_i h
      subst h
      cases hc : cellsAt w b 0 n with
      | none =>
        cases hd : cellsAt (w.setCell ⟨b, i, none⟩ v) b 0 n with
        | none => rfl
        | some cs =>
          exfalso
          obtain ⟨h1, h2⟩ := cellsAt_some.1 hd
          have hall : ∀ j, j < n → ∃ u, w.cell? ⟨b, 0 + j, none⟩ = some u := fun j hj => by
            have := h2 j hj
            rw [cell_setCell_ite, Array.getElem?_eq_getElem (by omega)] at this
            split at this
            · cases hq : w.cell? ⟨b, 0 + j, none⟩ with
              | none => rw [hq] at this; simp at this
              | some u => exact ⟨u, rfl⟩
            · exact ⟨_, this⟩
          have : ∃ xs : List Value, xs.length = n ∧ ∀ j, j < n → w.cell? ⟨b, 0 + j, none⟩ = xs[j]? := by
            clear hd h1 h2 hc
            induction n with
            | zero => exact ⟨[], rfl, fun j hj => by omega⟩
            | succ n ih =>
              obtain ⟨xs, hl, hx⟩ := ih (fun j hj => hall j (by omega))
              obtain ⟨u, hu⟩ := hall n (by omega)
              refine ⟨xs ++ [u], by simp [hl], fun j hj => ?_⟩
              by_cases hjn : j = n
              · subst hjn; rw [hu, List.getElem?_append_right (by omega)]; simp [hl]
              · rw [hx j (by omega), List.getElem?_append_left (by omega)]
          obtain ⟨xs, hl, hx⟩ := this
          have := (cellsAt_some (w := w) (g := b) (o := 0) (n := n) (cs := xs.toArray)).2 ⟨by simp [hl], fun j hj => by rw [hx j hj]; simp⟩
          rw [this] at hc
          cases hc
      | some cs =>
        obtain ⟨h1, h2⟩ := cellsAt_some.1 hc
        refine cellsAt_some.2 ⟨by simpa using h1, fun j hj => ?_⟩
        rw [cell_setCell_ite, h2 j hj, Array.getElem?_setIfInBounds]
        by_cases hij : i = j
        · subst hij
          simp [h1, hj]
        · simp [hij]
    · rfl
  · rename_i h
    exact cellsAt_congr fun j _ => by rw [cell_setCell_ite, if_neg (fun e => h e.1)]
@[go_sem] theorem cellsAt_setRow (w : World) (b : Nat) (cs : Array Value) (g o n : Nat) :
    cellsAt (w.setRow b cs) g o n = if b = g then (if o = 0 ∧ n = cs.size ∧ freeRow w b n = true then some cs else cellsNew (w.setRow b cs) g o n) else cellsAt w g o n := by
  split
  · rename_i h
    subst h
    split
    · rename_i h
      obtain ⟨rfl, rfl, hf⟩ := h
      unfold freeRow at hf
      split at hf
      · rename_i old t fz hh
        simp only [Bool.and_eq_true, beq_iff_eq] at hf
        obtain ⟨rfl, _⟩ := hf
        exact (Blk.setRow (t := t) hh cs).cells
      · cases hf
    · rfl
  · rename_i h
    exact cellsAt_congr fun j _ => cell_setRow_other w b cs _ (fun e => h e.symm)

@[go_sem] theorem freeRow_alloc (w : World) (cs : Array Value) (t : TypeId) (g n : Nat) :
    freeRow (w.alloc (.cells cs t)) g n = if g < w.heap.size then freeRow w g n else if g = w.heap.size then cs.size == n else false := by
  have e : (w.alloc (.cells cs t)).heap = w.heap.push (.cells cs t) := rfl
  unfold freeRow
  rw [e, Array.getElem?_push]
  by_cases h : g < w.heap.size
  · rw [if_pos h, if_neg (by omega)]
  · rw [if_neg h]
    by_cases h' : g = w.heap.size
    · rw [if_pos h', if_pos h']; simp
    · rw [if_neg h', if_neg h', Array.getElem?_eq_none (by omega)]
@[go_sem] theorem freeRow_after {B : Nat} {w0 : World} (m : After B w0) (g n : Nat) : freeRow m.w g n = if g < B then freeRow w0 g n else freeNew m.w g n := by
  split
  · rename_i h
    unfold freeRow
    rw [m.below.block g h]
  · rfl
@[go_sem] theorem freeRow_drew (w : World) (g n : Nat) : freeRow w.drew g n = freeRow w g n := rfl
@[go_sem] theorem freeRow_drewN (w : World) (k g n : Nat) : freeRow (w.drewN k) g n = freeRow w g n := rfl
@[go_sem] theorem freeRow_setCell (w : World) (b i : Nat) (v : Value) (g n : Nat) : freeRow (w.setCell ⟨b, i, none⟩ v) g n = freeRow w g n := by
  unfold freeRow
  simp only [World.setCell, Array.getElem?_modify]
  by_cases h : b = g
  · subst h
    rw [if_pos rfl]
    cases hb : w.heap[b]? with
    | none => rfl
    | some o => cases o <;> simp
  · rw [if_neg h]
@[go_sem] theorem freeRow_setRow (w : World) (b : Nat) (cs : Array Value) (g n : Nat) : freeRow (w.setRow b cs) g n = if b = g then (if cs.size = n ∧ freeRow w g n = true then true else freeNew (w.setRow b cs) g n) else freeRow w g n := by
  split
  · rename_i h
    subst h
    split
    · rename_i hn
      obtain ⟨hn, hf⟩ := hn
      unfold freeRow at hf ⊢
      simp only [World.setRow, Array.getElem?_modify, if_true]
      cases hb : w.heap[b]? with
      | none => rw [hb] at hf; cases hf
      | some o => rw [hb] at hf; cases o <;> simp_all
    · rfl
  · rename_i h
    unfold freeRow
    rw [setRow_other w b g cs (fun e => h e.symm)]

section
variable {P : Program}
/-- so many cells loaded: held back from the walk's own unfolding -/
def loadRow (n : Nat) (a : Addr) : Sem (Array Value) := loadCellsFrom a 0 n #[]
def loadRaw (n : Nat) (a : Addr) : Sem (Array Value) := loadCellsFrom a 0 n #[]
@[go_sem] theorem run_loadRow (w : World) (g o n : Nat) : (loadRow n ⟨g, o, none⟩).run P w = match cellsAt w g o n with | some cs => .ok cs w | none => (loadRaw n ⟨g, o, none⟩).run P w := by
  cases h : cellsAt w g o n with
  | none => rfl
  | some cs =>
    obtain ⟨h1, h2⟩ := cellsAt_some.1 h
    have := run_loadCells_list (P := P) w ⟨g, o, none⟩ cs.toList (fun j v hv => by
      have hadd : (⟨g, o, none⟩ : Addr).add j = ⟨g, o + j, none⟩ := by unfold Addr.add; split <;> simp_all
      have hj : j < n := by
        have := (List.getElem?_eq_some_iff.1 hv).1
        simp at this
        omega
      rw [hadd, h2 j hj]
      simpa using hv)
    subst h1
    simpa [loadCells, loadRow] using this
/-- so many cells stored -/
def storeRaw (a : Addr) (cs : Array Value) : Sem Unit := storeCells a cs.toList 0
theorem run_storeRow (w : World) (g n : Nat) (cs : Array Value) (hn : cs.size = n) (h1 : ∀ v ∈ cs.toList, v.oneCell' = true) :
    (storeCells ⟨g, 0, none⟩ cs.toList 0).run P w = if freeRow w g n = true then .ok () (w.setRow g cs) else (storeRaw ⟨g, 0, none⟩ cs).run P w := by
  split
  · rename_i hf
    unfold freeRow at hf
    split at hf
    · rename_i old t fz hh
      simp only [Bool.and_eq_true, beq_iff_eq] at hf
      obtain ⟨rfl, ho⟩ := hf
      have := run_storeCells_from (P := P) g t cs.toList 0 old w hh (by simp; omega) h1
      simpa using this
    · cases hf
  · rfl
end

end Go.Proofs.YtbadplbdgpbdaaaDoor

namespace Go.Proofs.YtbadplbdgpbdaaaDoor
namespace Msk

/-- does a row of words have a minute? -/
def has (f : Nat → Nat) (i : Nat) : Bool := decide (i < 1440) && (f (i / 64)).testBit (i % 64)

/-- the number whose bit j is p (b + j), for j < n -/
def bitsTo (p : Nat → Bool) (b : Nat) : Nat → Nat
  | 0 => 0
  | n + 1 => bitsTo p b n + if p (b + n) then 2 ^ n else 0

theorem bitsTo_lt (p : Nat → Bool) (b n : Nat) : bitsTo p b n < 2 ^ n := by
  induction n with
  | zero => simp [bitsTo]
  | succ n ih =>
    have : 2 ^ (n + 1) = 2 ^ n + 2 ^ n := by omega
    unfold bitsTo
    split <;> omega

theorem bitsTo_bit (p : Nat → Bool) (b n j : Nat) : (bitsTo p b n).testBit j = (decide (j < n) && p (b + j)) := by
  induction n with
  | zero => simp [bitsTo]
  | succ n ih =>
    have hl := bitsTo_lt p b n
    unfold bitsTo
    by_cases hp : p (b + n) = true
    · rw [if_pos hp, Nat.add_comm (bitsTo p b n)]
      rcases Nat.lt_trichotomy j n with h | h | h
      · rw [Nat.testBit_two_pow_add_gt h, ih]
        simp [h, show j < n + 1 by omega]
      · subst h
        rw [Nat.testBit_two_pow_add_eq, Nat.testBit_lt_two_pow hl]
        simp [hp]
      · have : 2 ^ n + bitsTo p b n < 2 ^ j := by
          have : 2 ^ (n + 1) ≤ 2 ^ j := Nat.pow_le_pow_right (by omega) h
          have : 2 ^ (n + 1) = 2 ^ n + 2 ^ n := by omega
          omega
        rw [Nat.testBit_lt_two_pow this]
        simp [show ¬ j < n + 1 by omega]
    · rw [if_neg hp, Nat.add_zero, ih]
      by_cases hj : j = n
      · subst hj; simp at hp; simp [hp]
      · by_cases h : j < n
        · simp [h, show j < n + 1 by omega]
        · simp [h, show ¬ j < n + 1 by omega]

/-- the words of a set of minutes -/
def setW (p : Nat → Bool) (k : Nat) : Nat := bitsTo (fun i => decide (i < 1440) && p i) (64 * k) 64

theorem setW_lt (p : Nat → Bool) (k : Nat) : setW p k < 18446744073709551616 := bitsTo_lt _ _ 64
theorem setW_bit (p : Nat → Bool) (k j : Nat) : (setW p k).testBit j = (decide (j < 64) && (decide (64 * k + j < 1440) && p (64 * k + j))) := bitsTo_bit _ _ _ _
theorem has_setW (p : Nat → Bool) (i : Nat) : has (setW p) i = (decide (i < 1440) && p i) := by
  unfold has
  rw [setW_bit, show 64 * (i / 64) + i % 64 = i by omega]
  by_cases h : i < 1440 <;> simp [h, show i % 64 < 64 by omega]
theorem setW_congr {p q : Nat → Bool} (h : ∀ i, i < 1440 → p i = q i) : setW p = setW q := by
  funext k
  apply Nat.eq_of_testBit_eq
  intro j
  rw [setW_bit, setW_bit]
  by_cases hj : 64 * k + j < 1440
  · rw [h _ hj]
  · simp [hj]
theorem setW_inj {p q : Nat → Bool} (h : ∀ k, k < 23 → setW p k = setW q k) {i : Nat} (hi : i < 1440) : p i = q i := by
  have h1 := has_setW p i
  have h2 := has_setW q i
  simp only [hi, decide_true, Bool.true_and] at h1 h2
  rw [← h1, ← h2]
  unfold has
  rw [h _ (by omega)]

/-- without the bits behind the last minute -/
def cleanW (f : Nat → Nat) (k : Nat) : Nat := if k = 22 then f k &&& 4294967295 else f k
theorem cleanW_eq {f : Nat → Nat} {k : Nat} (hk : k < 23) (hf : f k < 18446744073709551616) : cleanW f k = setW (has f) k := by
  apply Nat.eq_of_testBit_eq
  intro j
  rw [setW_bit]
  have hc : (cleanW f k).testBit j = (decide (j < 64) && (decide (64 * k + j < 1440) && (f k).testBit j)) := by
    unfold cleanW
    split
    · rename_i h
      subst h
      rw [Nat.testBit_and, show (4294967295 : Nat) = 2 ^ 32 - 1 by rfl, Nat.testBit_two_pow_sub_one]
      by_cases h1 : j < 32
      · simp [h1, show j < 64 by omega, show 64 * 22 + j < 1440 by omega]
      · simp [h1, show ¬ 64 * 22 + j < 1440 by omega]
    · by_cases h1 : j < 64
      · simp [h1, show 64 * k + j < 1440 by omega]
      · have : f k < 2 ^ j := Nat.lt_of_lt_of_le hf (show 2 ^ 64 ≤ 2 ^ j from Nat.pow_le_pow_right (by omega) (by omega))
        rw [Nat.testBit_lt_two_pow this]
        simp [h1]
  rw [hc]
  by_cases h1 : j < 64
  · by_cases h2 : 64 * k + j < 1440
    · simp [h1, h2, has, show (64 * k + j) / 64 = k by omega, show (64 * k + j) % 64 = j by omega]
    · simp [h2]
  · simp [h1]

theorem setW_lt32 (p : Nat → Bool) : setW p 22 < 4294967296 := by
  apply Nat.lt_pow_two_of_testBit (n := 32)
  intro j hj
  rw [setW_bit]
  simp [show ¬ 64 * 22 + j < 1440 by omega]
theorem cleanW_setW (p : Nat → Bool) (k : Nat) (hk : k < 23) : cleanW (setW p) k = setW p k := by
  rw [cleanW_eq hk (setW_lt _ _)]
  have : setW (has (setW p)) = setW p := setW_congr fun i hi => by rw [has_setW]; simp [hi]
  rw [this]

/-- the words of two masks, one by one -/
theorem has_or (f g : Nat → Nat) (i : Nat) : has (fun k => f k ||| g k) i = (has f i || has g i) := by
  unfold has; rw [Nat.testBit_or]; cases decide (i < 1440) <;> simp
theorem has_and (f g : Nat → Nat) (i : Nat) : has (fun k => f k &&& g k) i = (has f i && has g i) := by
  unfold has; rw [Nat.testBit_and]; cases decide (i < 1440) <;> simp
/-- x without y, of words of 64 bits -/
def sans (x y : Nat) : Nat := x &&& (18446744073709551615 - y)
theorem sans_bit {x y : Nat} (hx : x < 18446744073709551616) (hy : y < 18446744073709551616) (j : Nat) : (sans x y).testBit j = (x.testBit j && !y.testBit j) := by
  unfold sans
  rw [Nat.testBit_and, show 18446744073709551615 - y = 2 ^ 64 - (y + 1) by omega, Nat.testBit_two_pow_sub_succ (by omega)]
  by_cases h1 : j < 64
  · simp [h1]
  · have : x < 2 ^ j := Nat.lt_of_lt_of_le hx (show 2 ^ 64 ≤ 2 ^ j from Nat.pow_le_pow_right (by omega) (by omega))
    simp [Nat.testBit_lt_two_pow this]
theorem has_sans {f g : Nat → Nat} (hf : ∀ k, k < 23 → f k < 18446744073709551616) (hg : ∀ k, k < 23 → g k < 18446744073709551616) (i : Nat) : has (fun k => sans (f k) (g k)) i = (has f i && !has g i) := by
  unfold has
  by_cases h : i < 1440
  · rw [sans_bit (hf _ (by omega)) (hg _ (by omega))]
    simp [h]
  · simp [h]

/-- a minute of a list of spans -/
def inSpans (l : List (Int × Int)) (i : Nat) : Bool := l.any fun s => decide (s.1 ≤ i) && decide ((i : Int) < s.2)

/-- does a set have all minutes from a on, below b? -/
def hasAll (p : Nat → Bool) (a b : Int) : Prop := ∀ i : Nat, a ≤ i → (i : Int) < b → p i = true

/-- a whole word, and one bit, put in -/
theorem setW_word (p : Nat → Bool) (n : Nat) (hn : 64 * n + 64 ≤ 1440) : (fun j => if j = n then 18446744073709551615 else setW p j) = setW (fun q => p q || (decide (64 * n ≤ q) && decide (q < 64 * n + 64))) := by
  funext k
  apply Nat.eq_of_testBit_eq
  intro j
  rw [setW_bit]
  by_cases hk : k = n
  · subst hk
    rw [if_pos rfl, show (18446744073709551615 : Nat) = 2 ^ 64 - 1 by rfl, Nat.testBit_two_pow_sub_one]
    by_cases h : j < 64
    · simp [h]; omega
    · simp [h]
  · rw [if_neg hk, setW_bit]
    by_cases h : j < 64
    · have : (decide (64 * n ≤ 64 * k + j) && decide (64 * k + j < 64 * n + 64)) = false := by simp; omega
      simp [h, this]
    · simp [h]
theorem setW_or_bit (p : Nat → Bool) (i : Nat) (hi : i < 1440) : (fun j => if j = i / 64 then setW p (i / 64) ||| 2 ^ (i % 64) else setW p j) = setW (fun q => p q || decide (q = i)) := by
  funext k
  apply Nat.eq_of_testBit_eq
  intro j
  rw [setW_bit]
  by_cases hk : k = i / 64
  · subst hk
    rw [if_pos rfl, Nat.testBit_or, setW_bit, Nat.testBit_two_pow]
    by_cases h : j < 64
    · by_cases h2 : i % 64 = j
      · simp [h, h2, show 64 * (i / 64) + j = i by omega, hi]
      · simp [h, h2, show ¬ 64 * (i / 64) + j = i by omega]
    · simp [h]; omega
  · rw [if_neg hk, setW_bit]
    by_cases h : j < 64
    · simp [h, show ¬ 64 * k + j = i by omega]
    · simp [h]

/-- minutes from a on, below i, put to a set: 64 more; one more -/
theorem grow_word (p : Nat → Bool) (a : Int) (q : Nat) (ha : a ≤ q) (hm : q % 64 = 0) (hq : q + 64 ≤ 1440) :
    (fun j => if j = q / 64 then 18446744073709551615 else setW (fun x => p x || (decide (a ≤ (x : Int)) && decide ((x : Int) < (q : Int)))) j) = setW (fun x => p x || (decide (a ≤ (x : Int)) && decide ((x : Int) < (q : Int) + 64))) := by
  rw [setW_word _ _ (by omega)]
  apply setW_congr
  intro x _
  cases p x
  · simp only [Bool.false_or]
    rw [Bool.eq_iff_iff]
    simp
    omega
  · simp
theorem grow_bit (p : Nat → Bool) (a : Int) (q : Nat) (ha : a ≤ q) (hq : q < 1440) :
    (fun j => if j = q / 64 then setW (fun x => p x || (decide (a ≤ (x : Int)) && decide ((x : Int) < (q : Int)))) (q / 64) ||| 2 ^ (q % 64) else setW (fun x => p x || (decide (a ≤ (x : Int)) && decide ((x : Int) < (q : Int)))) j) =
      setW (fun x => p x || (decide (a ≤ (x : Int)) && decide ((x : Int) < (q : Int) + 1))) := by
  rw [setW_or_bit _ _ hq]
  apply setW_congr
  intro x _
  cases p x
  · simp only [Bool.false_or]
    rw [Bool.eq_iff_iff]
    simp
    omega
  · simp
theorem inSpans_snoc (l : List (Int × Int)) (j : Nat) (s : Int × Int) (h : l[j]? = some s) (x : Nat) : inSpans (l.take (j + 1)) x = (inSpans (l.take j) x || (decide (s.1 ≤ x) && decide ((x : Int) < s.2))) := by
  unfold inSpans
  obtain ⟨hj, rfl⟩ := List.getElem?_eq_some_iff.1 h
  rw [List.take_succ_eq_append_getElem hj, List.any_append]
  simp

theorem setW_none : setW (fun _ => false) = fun _ => 0 := by
  funext k
  apply Nat.eq_of_testBit_eq
  intro j
  rw [setW_bit]
  simp

end Msk
end Go.Proofs.YtbadplbdgpbdaaaDoor

namespace Go.Proofs.YtbadplbdgpbdaaaDoor
namespace Msk

/-- rising spans, each with minutes, none touching another one -/
def chain : Int → List (Int × Int) → Prop
  | _, [] => True
  | lo, s :: l => lo < s.1 ∧ s.1 < s.2 ∧ s.2 ≤ 1440 ∧ chain s.2 l
theorem chain_mono {lo lo' : Int} : ∀ {l : List (Int × Int)}, lo' ≤ lo → chain lo l → chain lo' l
  | [], _, _ => trivial
  | _ :: _, h, ⟨h1, h2⟩ => ⟨by omega, h2⟩
theorem chain_in {j : Nat} : ∀ {lo : Int} {l : List (Int × Int)}, chain lo l → inSpans l j = true → lo < j ∧ (j : Int) < 1440
  | _, [], _, h => by simp [inSpans] at h
  | lo, s :: l, ⟨h1, h2, h3, h4⟩, h => by
    rw [inSpans, List.any_cons, Bool.or_eq_true] at h
    rcases h with h | h
    · simp at h; omega
    · have := chain_in h4 h; omega
theorem chain_cons_in {lo : Int} {s : Int × Int} {l : List (Int × Int)} (_h : chain lo (s :: l)) (j : Nat) : inSpans (s :: l) j = true ↔ (s.1 ≤ j ∧ (j : Int) < s.2) ∨ inSpans l j = true := by
  rw [inSpans, List.any_cons, Bool.or_eq_true]
  simp [inSpans]
theorem chain_eq : ∀ {lo : Int} (l l' : List (Int × Int)), -1 ≤ lo → chain lo l → chain lo l' → (∀ j : Nat, inSpans l j = inSpans l' j) → l = l'
  | _, [], [], _, _, _, _ => rfl
  | lo, [], s :: l, hlo, _, h, he => by
    have := he s.1.toNat
    have h1 : inSpans (s :: l) s.1.toNat = true := (chain_cons_in h _).2 (.inl (by have := h.1; have := h.2.1; omega))
    rw [h1] at this; simp [inSpans] at this
  | lo, s :: l, [], hlo, h, _, he => by
    have := he s.1.toNat
    have h1 : inSpans (s :: l) s.1.toNat = true := (chain_cons_in h _).2 (.inl (by have := h.1; have := h.2.1; omega))
    rw [h1] at this; simp [inSpans] at this
  | lo, s :: l, s' :: l', hlo, h, h', he => by
    obtain ⟨a1, a2, a3, a4⟩ := h
    obtain ⟨b1, b2, b3, b4⟩ := h'
    have c1 := chain_cons_in (lo := lo) (s := s) (l := l) ⟨a1, a2, a3, a4⟩
    have c2 := chain_cons_in (lo := lo) (s := s') (l := l') ⟨b1, b2, b3, b4⟩
    have low : ∀ {j : Nat}, inSpans l j = true → s.2 < j := fun h => (chain_in a4 h).1
    have low' : ∀ {j : Nat}, inSpans l' j = true → s'.2 < j := fun h => (chain_in b4 h).1
    have key : ∀ j : Nat, ((s.1 ≤ j ∧ (j : Int) < s.2) ∨ inSpans l j = true) ↔ ((s'.1 ≤ j ∧ (j : Int) < s'.2) ∨ inSpans l' j = true) := fun j => by rw [← c1, ← c2, he j]
    have e1 : s.1 = s'.1 := by
      have k1 := (key s.1.toNat).1 (.inl (by omega))
      have k2 := (key s'.1.toNat).2 (.inl (by omega))
      have m1 : s'.1 ≤ s.1 := by
        rcases k1 with k1 | k1
        · omega
        · have := low' k1; omega
      have m2 : s.1 ≤ s'.1 := by
        rcases k2 with k2 | k2
        · omega
        · have := low k2; omega
      omega
    have e2 : s.2 = s'.2 := by
      by_cases hlt : s.2 < s'.2
      · have k := (key s.2.toNat).2 (.inl (by omega))
        rcases k with k | k
        · omega
        · have := low k; omega
      · by_cases hgt : s'.2 < s.2
        · have k := (key s'.2.toNat).1 (.inl (by omega))
          rcases k with k | k
          · omega
          · have := low' k; omega
        · omega
    have es : s = s' := Prod.ext e1 e2
    subst es
    congr 1
    refine chain_eq l l' (by omega) a4 b4 fun j => ?_
    rw [Bool.eq_iff_iff]
    constructor
    · intro hj
      have := low hj
      rcases (key j).1 (.inr hj) with k | k
      · omega
      · exact k
    · intro hj
      have := low' hj
      rcases (key j).2 (.inr hj) with k | k
      · omega
      · exact k

/-- these are the spans of a set, below a minute -/
structure SpansTo (p : Nat → Bool) (i : Nat) (l : List (Int × Int)) : Prop where
  ch : chain (-1) l
  mem : ∀ j : Nat, inSpans l j = (decide (j < i) && p j)
  le : i ≤ 1440

theorem SpansTo.eq {p : Nat → Bool} {i : Nat} {l l' : List (Int × Int)} (h : SpansTo p i l) (h' : SpansTo p i l') : l = l' :=
  chain_eq l l' (by omega) h.ch h'.ch fun j => by rw [h.mem, h'.mem]
theorem SpansTo.zero (p : Nat → Bool) : SpansTo p 0 [] := ⟨trivial, fun j => by simp [inSpans], by omega⟩
theorem SpansTo.skip {p : Nat → Bool} {i i' : Nat} {l : List (Int × Int)} (h : SpansTo p i l) (hi : i ≤ i') (hi' : i' ≤ 1440) (hn : ∀ j, i ≤ j → j < i' → p j = false) : SpansTo p i' l :=
  ⟨h.ch, fun j => by
    rw [h.mem]
    by_cases hj : j < i
    · simp [hj, show j < i' by omega]
    · by_cases hj' : j < i'
      · simp [hj, hj', hn j (by omega) hj']
      · simp [hj, hj'], hi'⟩
theorem chain_mem : ∀ {lo : Int} {l : List (Int × Int)}, -1 ≤ lo → chain lo l → ∀ s ∈ l, 0 ≤ s.1 ∧ s.1 < s.2 ∧ s.2 ≤ 1440
  | lo, [], _, _, s, hs => by cases hs
  | lo, x :: xs, hlo, h, s, hs => by
    rcases List.mem_cons.1 hs with rfl | hs
    · exact ⟨by have := h.1; omega, h.2.1, h.2.2.1⟩
    · exact chain_mem (by have := h.1; have := h.2.1; omega) h.2.2.2 s hs
theorem inSpans_of {l : List (Int × Int)} {s : Int × Int} (hs : s ∈ l) {j : Nat} (h1 : s.1 ≤ j) (h2 : (j : Int) < s.2) : inSpans l j = true := by
  unfold inSpans
  rw [List.any_eq_true]
  exact ⟨s, hs, by simp [h1, h2]⟩
theorem chain_snoc {a b : Int} (hab : a < b) (hb : b ≤ 1440) : ∀ {lo : Int} {l : List (Int × Int)}, chain lo l → lo < a → (∀ s ∈ l, s.2 < a) → chain lo (l ++ [(a, b)])
  | _, [], _, h, _ => ⟨h, hab, hb, trivial⟩
  | _, x :: _, h, _, hs => ⟨h.1, h.2.1, h.2.2.1, chain_snoc hab hb h.2.2.2 (hs x (List.mem_cons_self ..)) fun s h => hs s (List.mem_cons_of_mem _ h)⟩
theorem inSpans_append (l : List (Int × Int)) (s : Int × Int) (j : Nat) : inSpans (l ++ [s]) j = (inSpans l j || (decide (s.1 ≤ j) && decide ((j : Int) < s.2))) := by
  unfold inSpans
  rw [List.any_append]
  simp
theorem SpansTo.push {p : Nat → Bool} {i a b : Nat} {l : List (Int × Int)} (h : SpansTo p i l) (hia : i ≤ a) (hab : a < b) (hb : b ≤ 1440) (hn : ∀ j, i ≤ j → j < a → p j = false) (hp : ∀ j, a ≤ j → j < b → p j = true) (ht : a = 0 ∨ p (a - 1) = false) :
    SpansTo p b (l ++ [((a : Int), (b : Int))]) := by
  have hends : ∀ s ∈ l, s.2 < (a : Int) := fun s hs => by
    obtain ⟨m1, m2, m3⟩ := chain_mem (Int.le_refl _) h.ch s hs
    have hm := inSpans_of hs (j := (s.2 - 1).toNat) (by omega) (by omega)
    rw [h.mem] at hm
    simp at hm
    by_cases e : s.2 = a
    · rcases ht with rfl | ht
      · omega
      · have : s.2.toNat - 1 = a - 1 := by omega
        rw [this, ht] at hm
        exact absurd hm.2 (by simp)
    · omega
  refine ⟨chain_snoc (by omega) (by omega) h.ch (by omega) hends, fun j => ?_, hb⟩
  rw [inSpans_append, h.mem, Bool.eq_iff_iff]
  simp only [Bool.or_eq_true, Bool.and_eq_true, decide_eq_true_eq]
  constructor
  · rintro (⟨h1, h2⟩ | ⟨h1, h2⟩)
    · exact ⟨by omega, h2⟩
    · exact ⟨by omega, hp j (by omega) (by omega)⟩
  · rintro ⟨h1, h2⟩
    by_cases hj : j < i
    · exact .inl ⟨hj, h2⟩
    · by_cases hja : j < a
      · rw [hn j (by omega) hja] at h2; cases h2
      · exact .inr ⟨by omega, by omega⟩
/-- the last span grows by a minute -/
theorem SpansTo.grow {p : Nat → Bool} {i : Nat} {l : List (Int × Int)} {s : Int × Int} (h : SpansTo p i (l ++ [s])) (hi : i < 1440) (hs : s.2 = i) (hp : p i = true) : SpansTo p (i + 1) (l ++ [(s.1, (i : Int) + 1)]) := by
  have hgo : ∀ {lo : Int} {l : List (Int × Int)}, chain lo (l ++ [s]) → chain lo (l ++ [(s.1, (i : Int) + 1)]) := by
    intro lo l
    induction l generalizing lo with
    | nil => intro h; exact ⟨h.1, by have := h.2.1; omega, by omega, trivial⟩
    | cons x xs ih => intro h; exact ⟨h.1, h.2.1, h.2.2.1, ih h.2.2.2⟩
  refine ⟨hgo h.ch, fun j => ?_, by omega⟩
  have hm := h.mem j
  rw [inSpans_append] at hm ⊢
  obtain ⟨m1, m2, m3⟩ := chain_mem (Int.le_refl _) h.ch s (by simp)
  by_cases e : j = i
  · subst e
    simp [hp]; right; omega
  · have e1 : decide ((j : Int) < (i : Int) + 1) = decide ((j : Int) < s.2) := by rw [decide_eq_decide]; omega
    have e2 : decide (j < i + 1) = decide (j < i) := by rw [decide_eq_decide]; omega
    simp only [e1, e2]
    exact hm
/-- does the last span end here? -/
theorem SpansTo.last {p : Nat → Bool} {i : Nat} {l : List (Int × Int)} (h : SpansTo p i l) (hi : 0 < i) (hp : p (i - 1) = true) : ∃ k s, l = k ++ [s] ∧ s.2 = (i : Int) := by
  have hm := h.mem (i - 1)
  rw [hp] at hm
  simp only [Bool.and_true] at hm
  rw [decide_eq_true (by omega)] at hm
  have key : ∀ {lo : Int} {l : List (Int × Int)}, chain lo l → (∀ s ∈ l, s.2 ≤ i) → inSpans l (i - 1) = true → ∃ k s, l = k ++ [s] ∧ s.2 = (i : Int) := by
    intro lo l
    induction l generalizing lo with
    | nil => intro _ _ h; simp [inSpans] at h
    | cons x xs ih =>
      intro hc hb hin
      rcases (chain_cons_in hc _).1 hin with hx | hx
      · cases xs with
        | nil => exact ⟨[], x, rfl, by have := hb x (by simp); omega⟩
        | cons y ys =>
          exfalso
          have := hc.2.2.2.1
          have := hc.2.2.2.2.1
          have := hb y (by simp)
          omega
      · obtain ⟨k, s, rfl, hs⟩ := ih hc.2.2.2 (fun s hs => hb s (List.mem_cons_of_mem _ hs)) hx
        exact ⟨x :: k, s, rfl, hs⟩
  refine key h.ch (fun s hs => ?_) hm
  obtain ⟨m1, m2, m3⟩ := chain_mem (Int.le_refl _) h.ch s hs
  have hm := inSpans_of hs (j := (s.2 - 1).toNat) (by omega) (by omega)
  rw [h.mem] at hm
  simp at hm
  omega

/-- these are the spans of a set -/
def IsSpans (p : Nat → Bool) (l : List (Int × Int)) : Prop := SpansTo p 1440 l
theorem IsSpans.mem {p : Nat → Bool} {l : List (Int × Int)} (h : IsSpans p l) (j : Nat) : inSpans l j = (decide (j < 1440) && p j) := SpansTo.mem h j
/-- how many minutes a set has -/
def cnt (p : Nat → Bool) : Nat := (List.range 1440).countP p
def lens : List (Int × Int) → Int
  | [] => 0
  | s :: l => (s.2 - s.1) + lens l
theorem countP_or {q r : Nat → Bool} : ∀ (l : List Nat), (∀ j ∈ l, q j = true → r j = false) → l.countP (fun j => q j || r j) = l.countP q + l.countP r
  | [], _ => rfl
  | x :: xs, h => by
    have ih := countP_or xs fun j hj => h j (List.mem_cons_of_mem _ hj)
    have hx := h x (List.mem_cons_self ..)
    rw [List.countP_cons, List.countP_cons, List.countP_cons, ih]
    cases hq : q x <;> cases hr : r x <;> simp_all <;> omega
theorem countP_span (a b : Nat) (hab : a ≤ b) : ∀ n, b ≤ n → (List.range n).countP (fun j => decide (a ≤ j) && decide (j < b)) = b - a
  | 0, h => by simp; omega
  | n + 1, h => by
    rw [List.range_succ, List.countP_append]
    by_cases hb : b ≤ n
    · rw [countP_span a b hab n hb]
      simp [show ¬ n < b by omega]
    · have hbn : b = n + 1 := by omega
      subst hbn
      by_cases ha : a ≤ n
      · have e : (List.range n).countP (fun j => decide (a ≤ j) && decide (j < n + 1)) = (List.range n).countP (fun j => decide (a ≤ j) && decide (j < n)) := by
          apply List.countP_congr
          intro j hj
          have : j < n := by simpa using hj
          simp [this, show j < n + 1 by omega]
        rw [e, countP_span a n ha n (Nat.le_refl _)]
        simp [ha]; omega
      · have e : (List.range n).countP (fun j => decide (a ≤ j) && decide (j < n + 1)) = 0 := by
          rw [List.countP_eq_zero]
          intro j hj
          have : j < n := by simpa using hj
          simp; omega
        rw [e]; simp [ha]; omega
theorem lens_cnt : ∀ {lo : Int} (l : List (Int × Int)), -1 ≤ lo → chain lo l → lens l = (cnt (inSpans l) : Int)
  | _, [], _, _ => by
    have : (List.range 1440).countP (inSpans []) = 0 := List.countP_eq_zero.2 fun j _ => by simp [inSpans]
    simp [lens, cnt, this]
  | lo, s :: l, hlo, h => by
    have ih := lens_cnt l (by have := h.1; have := h.2.1; omega) h.2.2.2
    have h1 := h.1
    have h2 := h.2.1
    have h3 := h.2.2.1
    have e : cnt (inSpans (s :: l)) = (s.2.toNat - s.1.toNat) + cnt (inSpans l) := by
      unfold cnt
      have e1 : (List.range 1440).countP (inSpans (s :: l)) = (List.range 1440).countP (fun j => (decide (s.1.toNat ≤ j) && decide (j < s.2.toNat)) || inSpans l j) := by
        apply List.countP_congr
        intro j _
        rw [chain_cons_in h]
        simp only [Bool.or_eq_true, Bool.and_eq_true, decide_eq_true_eq]
        constructor <;> rintro (⟨q1, q2⟩ | q) <;> first | exact .inr q | (left; omega)
      rw [e1, countP_or _ (fun j _ hj => ?_), countP_span _ _ (by omega) _ (by omega)]
      cases hin : inSpans l j
      · rfl
      · have := (chain_in h.2.2.2 hin).1
        simp at hj
        omega
    rw [lens, ih, e]
    omega
theorem IsSpans.lens {p : Nat → Bool} {l : List (Int × Int)} (h : IsSpans p l) : lens l = (cnt p : Int) := by
  have e : cnt (inSpans l) = cnt p := by
    unfold cnt
    apply List.countP_congr
    intro j hj
    have hj' : j < 1440 := by simpa using hj
    rw [h.mem, decide_eq_true hj', Bool.true_and]
  rw [lens_cnt l (Int.le_refl _) h.ch, e]

end Msk
end Go.Proofs.YtbadplbdgpbdaaaDoor

namespace Go.Proofs.YtbadplbdgpbdaaaDoor
namespace Msk

/-- bits of a word, so many -/
def pcn : Nat → Nat → Nat
  | 0, _ => 0
  | n + 1, x => x % 2 + pcn n (x / 2)
/-- the same digit in so many places of a base -/
def rep (c b : Nat) : Nat → Nat
  | 0 => 0
  | n + 1 => c + b * rep c b n
theorem and_fields (k a c r m : Nat) (ha : a < 2 ^ k) (hc : c < 2 ^ k) : (a + 2 ^ k * r) &&& (c + 2 ^ k * m) = (a &&& c) + 2 ^ k * (r &&& m) := by
  have hp : 0 < 2 ^ k := Nat.two_pow_pos k
  have hac : (a &&& c) < 2 ^ k := Nat.lt_of_le_of_lt Nat.and_le_left ha
  have e1 : ((a + 2 ^ k * r) &&& (c + 2 ^ k * m)) % 2 ^ k = a &&& c := by
    rw [Nat.and_mod_two_pow, Nat.add_mul_mod_self_left, Nat.add_mul_mod_self_left, Nat.mod_eq_of_lt ha, Nat.mod_eq_of_lt hc]
  have e2 : ((a + 2 ^ k * r) &&& (c + 2 ^ k * m)) / 2 ^ k = r &&& m := by
    rw [Nat.and_div_two_pow, Nat.add_mul_div_left _ _ hp, Nat.add_mul_div_left _ _ hp, Nat.div_eq_of_lt ha, Nat.div_eq_of_lt hc, Nat.zero_add, Nat.zero_add]
  have := Nat.mod_add_div ((a + 2 ^ k * r) &&& (c + 2 ^ k * m)) (2 ^ k)
  rw [e1, e2] at this
  exact this.symm
theorem and_15 (a : Nat) : a &&& 15 = a % 16 := Nat.and_two_pow_sub_one_eq_mod a 4
theorem and_3 (a : Nat) : a &&& 3 = a % 4 := Nat.and_two_pow_sub_one_eq_mod a 2
theorem and_1 (a : Nat) : a &&& 1 = a % 2 := Nat.and_two_pow_sub_one_eq_mod a 1
theorem and_127 (a : Nat) : a &&& 127 = a % 128 := Nat.and_two_pow_sub_one_eq_mod a 7

theorem and_rep4 (n y : Nat) : y &&& rep 1 4 (n + 1) = y % 2 + 4 * (y / 4 &&& rep 1 4 n) := by
  have h := and_fields 2 (y % 4) 1 (y / 4) (rep 1 4 n) (by omega) (by omega)
  rw [show y % 4 + 2 ^ 2 * (y / 4) = y by omega, and_1] at h
  show y &&& (1 + 4 * rep 1 4 n) = _
  rw [h]; omega
theorem and_rep16 (n y : Nat) : y &&& rep 3 16 (n + 1) = y % 4 + 16 * (y / 16 &&& rep 3 16 n) := by
  have h := and_fields 4 (y % 16) 3 (y / 16) (rep 3 16 n) (by omega) (by omega)
  rw [show y % 16 + 2 ^ 4 * (y / 16) = y by omega, and_3] at h
  show y &&& (3 + 16 * rep 3 16 n) = _
  rw [h]; omega
theorem and_rep256 (n y : Nat) : y &&& rep 15 256 (n + 1) = y % 16 + 256 * (y / 256 &&& rep 15 256 n) := by
  have h := and_fields 8 (y % 256) 15 (y / 256) (rep 15 256 n) (by omega) (by omega)
  rw [show y % 256 + 2 ^ 8 * (y / 256) = y by omega, and_15] at h
  show y &&& (15 + 256 * rep 15 256 n) = _
  rw [h]; omega

/-- pairs, fours, eights of bits, side by side -/
def v1 : Nat → Nat → Nat
  | 0, _ => 0
  | n + 1, x => (x % 2 + x / 2 % 2) + 4 * v1 n (x / 4)
def b4 (x : Nat) : Nat := x % 2 + x / 2 % 2 + x / 4 % 2 + x / 8 % 2
def v2 : Nat → Nat → Nat
  | 0, _ => 0
  | n + 1, x => b4 x + 16 * v2 n (x / 16)
def v3 : Nat → Nat → Nat
  | 0, _ => 0
  | n + 1, x => (b4 x + b4 (x / 16)) + 256 * v3 n (x / 256)
theorem b4_le (x : Nat) : b4 x ≤ 4 := by unfold b4; omega

theorem s1_eq : ∀ (n x : Nat), (x / 2 &&& rep 1 4 n) + (x &&& rep 1 4 n) = v1 n x
  | 0, x => by simp [rep, v1]
  | n + 1, x => by
    have ih := s1_eq n (x / 4)
    rw [and_rep4, and_rep4, v1, ← ih, show x / 2 / 4 = x / 4 / 2 by omega]
    omega
theorem v1_two (n x : Nat) : v1 (n + 2) x = (x % 2 + x / 2 % 2) + 4 * (x / 4 % 2 + x / 8 % 2) + 16 * v1 n (x / 16) := by
  rw [v1, v1, show x / 4 / 2 = x / 8 by omega, show x / 4 / 4 = x / 16 by omega]
  omega
theorem s2_eq : ∀ (n x : Nat), (v1 (2 * n) x / 4 &&& rep 3 16 n) + (v1 (2 * n) x &&& rep 3 16 n) = v2 n x
  | 0, x => by simp [rep, v2]
  | n + 1, x => by
    have ih := s2_eq n (x / 16)
    rw [show 2 * (n + 1) = 2 * n + 2 by omega, and_rep16, and_rep16, v2, ← ih, v1_two]
    unfold b4
    have h1 : ((x % 2 + x / 2 % 2) + 4 * (x / 4 % 2 + x / 8 % 2) + 16 * v1 (2 * n) (x / 16)) / 16 = v1 (2 * n) (x / 16) := by omega
    have h2 : ((x % 2 + x / 2 % 2) + 4 * (x / 4 % 2 + x / 8 % 2) + 16 * v1 (2 * n) (x / 16)) / 4 / 16 = v1 (2 * n) (x / 16) / 4 := by omega
    rw [h1, h2]
    omega
theorem v2_two (n x : Nat) : v2 (n + 2) x = b4 x + 16 * b4 (x / 16) + 256 * v2 n (x / 256) := by
  rw [v2, v2, show x / 16 / 16 = x / 256 by omega]
  omega
theorem v2_low : ∀ (n x : Nat), v2 n x % 16 ≤ 4
  | 0, x => by simp [v2]
  | n + 1, x => by rw [v2]; have := b4_le x; omega
theorem s3_eq : ∀ (n x : Nat), (v2 (2 * n) x / 16 + v2 (2 * n) x) &&& rep 15 256 n = v3 n x
  | 0, x => by simp [rep, v3]
  | n + 1, x => by
    have ih := s3_eq n (x / 256)
    have hl := v2_low (2 * n) (x / 256)
    have h4 := b4_le x
    have h5 := b4_le (x / 16)
    rw [show 2 * (n + 1) = 2 * n + 2 by omega, and_rep256, v3, ← ih, v2_two]
    generalize v2 (2 * n) (x / 256) = R at *
    generalize b4 x = d0 at *
    generalize b4 (x / 16) = d1 at *
    have h1 : ((d0 + 16 * d1 + 256 * R) / 16 + (d0 + 16 * d1 + 256 * R)) / 256 = R / 16 + R := by omega
    rw [h1]
    have h2 : ((d0 + 16 * d1 + 256 * R) / 16 + (d0 + 16 * d1 + 256 * R)) % 16 = d0 + d1 := by omega
    rw [h2]
theorem pcn_zero (x : Nat) : pcn 0 x = 0 := rfl
theorem b4_pcn (n x : Nat) : pcn (n + 4) x = b4 x + pcn n (x / 16) := by
  rw [pcn, pcn, pcn, pcn, show x / 2 / 2 = x / 4 by omega, show x / 4 / 2 = x / 8 by omega, show x / 8 / 2 = x / 16 by omega]
  unfold b4
  omega

def w1 (x : Nat) : Nat := (x / 2 &&& 6148914691236517205) + (x &&& 6148914691236517205)
def w2 (x : Nat) : Nat := (x / 4 &&& 3689348814741910323) + (x &&& 3689348814741910323)
def w3 (x : Nat) : Nat := (x / 16 + x) &&& 1085102592571150095
def w4 (x : Nat) : Nat := x + x / 256
def w5 (x : Nat) : Nat := x + x / 65536
def w6 (x : Nat) : Nat := x + x / 4294967296
theorem w1_eq (x : Nat) : w1 x = v1 32 x := s1_eq 32 x
theorem w2_eq (x : Nat) : w2 (v1 32 x) = v2 16 x := s2_eq 16 x
theorem w3_eq (x : Nat) : w3 (v2 16 x) = v3 8 x := s3_eq 8 x
theorem w4_val (B0 R : Nat) (h : B0 ≤ 8) : w4 (B0 + 256 * R) = B0 + 256 * R + R := by unfold w4; omega
theorem w5_val (P0 P1 P2 P3 : Nat) (h0 : P0 ≤ 5000) : w5 (P0 + 65536 * (P1 + 65536 * (P2 + 65536 * P3))) = P0 + 65536 * (P1 + 65536 * (P2 + 65536 * P3)) + (P1 + 65536 * (P2 + 65536 * P3)) := by unfold w5; omega
theorem w6_val (U V : Nat) (h0 : U < 4294967296) : w6 (U + 4294967296 * V) = U + 4294967296 * V + V := by unfold w6; omega
theorem fold8 {B0 B1 B2 B3 B4 B5 B6 B7 : Nat} (q0 : B0 ≤ 8) (q1 : B1 ≤ 8) (q2 : B2 ≤ 8) (q3 : B3 ≤ 8) (q4 : B4 ≤ 8) (q5 : B5 ≤ 8) (q6 : B6 ≤ 8) (q7 : B7 ≤ 8) :
    w6 (w5 (w4 (B0 + 256 * B1 + 65536 * B2 + 16777216 * B3 + 4294967296 * B4 + 1099511627776 * B5 + 281474976710656 * B6 + 72057594037927936 * B7))) % 128 = B0 + B1 + (B2 + B3) + (B4 + B5) + (B6 + B7) := by
  have e1 : B0 + 256 * B1 + 65536 * B2 + 16777216 * B3 + 4294967296 * B4 + 1099511627776 * B5 + 281474976710656 * B6 + 72057594037927936 * B7 = B0 + 256 * (B1 + 256 * B2 + 65536 * B3 + 16777216 * B4 + 4294967296 * B5 + 1099511627776 * B6 + 281474976710656 * B7) := by omega
  rw [e1, w4_val _ _ q0]
  have e2 : B0 + 256 * (B1 + 256 * B2 + 65536 * B3 + 16777216 * B4 + 4294967296 * B5 + 1099511627776 * B6 + 281474976710656 * B7) + (B1 + 256 * B2 + 65536 * B3 + 16777216 * B4 + 4294967296 * B5 + 1099511627776 * B6 + 281474976710656 * B7) =
      (B0 + B1 + 256 * (B1 + B2)) + 65536 * ((B2 + B3 + 256 * (B3 + B4)) + 65536 * ((B4 + B5 + 256 * (B5 + B6)) + 65536 * (B6 + B7 + 256 * B7))) := by omega
  rw [e2, w5_val _ _ _ _ (by omega)]
  generalize hP0 : B0 + B1 + 256 * (B1 + B2) = P0
  generalize hP1 : B2 + B3 + 256 * (B3 + B4) = P1
  generalize hP2 : B4 + B5 + 256 * (B5 + B6) = P2
  generalize hP3 : B6 + B7 + 256 * B7 = P3
  have e3 : P0 + 65536 * (P1 + 65536 * (P2 + 65536 * P3)) + (P1 + 65536 * (P2 + 65536 * P3)) = (P0 + P1 + 65536 * (P1 + P2)) + 4294967296 * (P2 + P3 + 65536 * P3) := by omega
  rw [e3, w6_val _ _ (by omega)]
  have e4 : P0 + P1 + 65536 * (P1 + P2) + 4294967296 * (P2 + P3 + 65536 * P3) + (P2 + P3 + 65536 * P3) = (P0 + P1 + P2 + P3) + 128 * (512 * (P1 + P2) + 33554432 * (P2 + P3 + 65536 * P3) + 512 * P3) := by omega
  rw [e4, Nat.add_mul_mod_self_left]
  clear e1 e2 e3 e4
  have e5 : P0 + P1 + P2 + P3 = (B0 + B1 + (B2 + B3) + (B4 + B5) + (B6 + B7)) + 128 * (2 * (B1 + B2) + 2 * (B3 + B4) + 2 * (B5 + B6) + 2 * B7) := by omega
  rw [e5, Nat.add_mul_mod_self_left, Nat.mod_eq_of_lt (by omega)]
theorem ones_eq (x : Nat) : w6 (w5 (w4 (w3 (w2 (w1 x))))) % 128 = pcn 64 x := by
  rw [w1_eq, w2_eq, w3_eq]
  have e : pcn 64 x = b4 x + b4 (x / 16) + (b4 (x / 256) + b4 (x / 4096)) + (b4 (x / 65536) + b4 (x / 1048576)) + (b4 (x / 16777216) + b4 (x / 268435456)) + (b4 (x / 4294967296) + b4 (x / 68719476736)) + (b4 (x / 1099511627776) + b4 (x / 17592186044416)) +
      (b4 (x / 281474976710656) + b4 (x / 4503599627370496)) + (b4 (x / 72057594037927936) + b4 (x / 1152921504606846976)) := by
    simp only [b4_pcn, Nat.div_div_eq_div_mul, Nat.reduceMul, pcn_zero]
    omega
  have hv : v3 8 x = (b4 x + b4 (x / 16)) + 256 * (b4 (x / 256) + b4 (x / 4096)) + 65536 * (b4 (x / 65536) + b4 (x / 1048576)) + 16777216 * (b4 (x / 16777216) + b4 (x / 268435456)) + 4294967296 * (b4 (x / 4294967296) + b4 (x / 68719476736)) +
      1099511627776 * (b4 (x / 1099511627776) + b4 (x / 17592186044416)) + 281474976710656 * (b4 (x / 281474976710656) + b4 (x / 4503599627370496)) + 72057594037927936 * (b4 (x / 72057594037927936) + b4 (x / 1152921504606846976)) := by
    simp only [v3, Nat.div_div_eq_div_mul, Nat.reduceMul]
    omega
  rw [e, hv]
  have q0 : b4 x + b4 (x / 16) ≤ 8 := by have := b4_le x; have := b4_le (x / 16); omega
  have q1 : b4 (x / 256) + b4 (x / 4096) ≤ 8 := by have := b4_le (x / 256); have := b4_le (x / 4096); omega
  have q2 : b4 (x / 65536) + b4 (x / 1048576) ≤ 8 := by have := b4_le (x / 65536); have := b4_le (x / 1048576); omega
  have q3 : b4 (x / 16777216) + b4 (x / 268435456) ≤ 8 := by have := b4_le (x / 16777216); have := b4_le (x / 268435456); omega
  have q4 : b4 (x / 4294967296) + b4 (x / 68719476736) ≤ 8 := by have := b4_le (x / 4294967296); have := b4_le (x / 68719476736); omega
  have q5 : b4 (x / 1099511627776) + b4 (x / 17592186044416) ≤ 8 := by have := b4_le (x / 1099511627776); have := b4_le (x / 17592186044416); omega
  have q6 : b4 (x / 281474976710656) + b4 (x / 4503599627370496) ≤ 8 := by have := b4_le (x / 281474976710656); have := b4_le (x / 4503599627370496); omega
  have q7 : b4 (x / 72057594037927936) + b4 (x / 1152921504606846976) ≤ 8 := by have := b4_le (x / 72057594037927936); have := b4_le (x / 1152921504606846976); omega
  generalize b4 x + b4 (x / 16) = B0 at *
  generalize b4 (x / 256) + b4 (x / 4096) = B1 at *
  generalize b4 (x / 65536) + b4 (x / 1048576) = B2 at *
  generalize b4 (x / 16777216) + b4 (x / 268435456) = B3 at *
  generalize b4 (x / 4294967296) + b4 (x / 68719476736) = B4 at *
  generalize b4 (x / 1099511627776) + b4 (x / 17592186044416) = B5 at *
  generalize b4 (x / 281474976710656) + b4 (x / 4503599627370496) = B6 at *
  generalize b4 (x / 72057594037927936) + b4 (x / 1152921504606846976) = B7 at *
  rw [fold8 q0 q1 q2 q3 q4 q5 q6 q7]
  omega
/-! ### Bounds; words' bits are a set's minutes -/
theorem w1_le (x : Nat) : w1 x ≤ 12297829382473034410 := by
  unfold w1
  have h1 : x / 2 &&& 6148914691236517205 ≤ 6148914691236517205 := Nat.and_le_right
  have h2 : x &&& 6148914691236517205 ≤ 6148914691236517205 := Nat.and_le_right
  omega
theorem w2_le (x : Nat) : w2 x ≤ 7378697629483820646 := by
  unfold w2
  have h1 : x / 4 &&& 3689348814741910323 ≤ 3689348814741910323 := Nat.and_le_right
  have h2 : x &&& 3689348814741910323 ≤ 3689348814741910323 := Nat.and_le_right
  omega
theorem w3_le (x : Nat) : w3 x ≤ 1085102592571150095 := Nat.and_le_right
theorem pcn_countP : ∀ (n x : Nat), pcn n x = (List.range n).countP fun j => x.testBit j
  | 0, _ => rfl
  | n + 1, x => by
    rw [pcn, pcn_countP n (x / 2), List.range_succ_eq_map, List.countP_cons, List.countP_map]
    have e : ((fun j => x.testBit j) ∘ Nat.succ) = fun j => (x / 2).testBit j := by
      funext j
      show x.testBit (j + 1) = _
      rw [Nat.testBit_succ]
    rw [e, Nat.testBit_zero]
    by_cases h : x % 2 = 1
    · rw [h]; simp; omega
    · have : x % 2 = 0 := by omega
      rw [this]; simp
/-- minutes of a set below a number -/
def cntTo (p : Nat → Bool) (n : Nat) : Nat := (List.range n).countP fun i => decide (i < 1440) && p i
theorem cntTo_word (p : Nat → Bool) (k : Nat) : cntTo p (64 * (k + 1)) = cntTo p (64 * k) + pcn 64 (setW p k) := by
  unfold cntTo
  rw [show 64 * (k + 1) = 64 * k + 64 by omega, List.range_add, List.countP_append, List.countP_map, pcn_countP]
  congr 1
  apply List.countP_congr
  intro j hj
  have hj' : j < 64 := by simpa using hj
  rw [setW_bit]
  simp [hj']
theorem cntTo_all (p : Nat → Bool) : cntTo p (64 * 23) = cnt p := by
  unfold cntTo cnt
  rw [show 64 * 23 = 1440 + 32 by omega, List.range_add, List.countP_append, List.countP_map]
  have e1 : (List.range 1440).countP (fun i => decide (i < 1440) && p i) = (List.range 1440).countP p := by
    apply List.countP_congr
    intro j hj
    have hj' : j < 1440 := by simpa using hj
    simp [hj']
  have e2 : (List.range 32).countP ((fun i => decide (i < 1440) && p i) ∘ fun x => 1440 + x) = 0 := by
    rw [List.countP_eq_zero]
    intro j _
    simp
    intro h
    omega
  rw [e1, e2, Nat.add_zero]
theorem cntTo_zero (p : Nat → Bool) : cntTo p (64 * 0) = 0 := rfl
theorem cnt_le (p : Nat → Bool) : cnt p ≤ 1440 := by
  unfold cnt
  exact Nat.le_trans List.countP_le_length (by simp)

end Msk
end Go.Proofs.YtbadplbdgpbdaaaDoor

namespace Go.Proofs.YtbadplbdgpbdaaaDoor
namespace Msk

/-- a set shifted by so many minutes -/
def shS (p : Nat → Bool) (n : Int) (i : Nat) : Bool := decide (0 ≤ (i : Int) - n) && (decide ((i : Int) - n < 1440) && p ((i : Int) - n).toNat)

/-- all minutes from one on, so many -/
def allFrom (p : Nat → Bool) (i n : Nat) : Bool := (List.range n).all fun j => p (i + j)
theorem allFrom_iff {p : Nat → Bool} {i n : Nat} : allFrom p i n = true ↔ ∀ j, i ≤ j → j < i + n → p j = true := by
  unfold allFrom
  rw [List.all_eq_true]
  constructor
  · intro h j h1 h2
    have := h (j - i) (by simp; omega)
    rwa [show i + (j - i) = j by omega] at this
  · intro h j hj
    have hj' : j < n := by simpa using hj
    exact h _ (by omega) (by omega)

/-- the first minute, from one on, at which so many are free -/
def nextS (p : Nat → Bool) (a n : Int) : Option Nat :=
  if n < 0 ∨ 1440 < n then none else (List.range 1441).find? fun i => decide (a ≤ (i : Int)) && (decide ((i : Int) + n ≤ 1440) && allFrom p i n.toNat)
theorem nextS_none {p : Nat → Bool} {a n : Int} (h0 : 0 ≤ n) (h1 : n ≤ 1440) : nextS p a n = none ↔ ∀ i : Nat, a ≤ i → (i : Int) + n ≤ 1440 → ¬ allFrom p i n.toNat = true := by
  unfold nextS
  rw [if_neg (by omega), List.find?_eq_none]
  constructor
  · intro h i h2 h3 h4
    exact h i (by simp; omega) (by simp [h2, h3, h4])
  · intro h i _ h2
    simp only [Bool.and_eq_true, decide_eq_true_eq] at h2
    exact h i h2.1 h2.2.1 h2.2.2
theorem nextS_some {p : Nat → Bool} {a n : Int} {m : Nat} (h : nextS p a n = some m) : 0 ≤ n ∧ n ≤ 1440 ∧ a ≤ m ∧ (m : Int) + n ≤ 1440 ∧ allFrom p m n.toNat = true ∧ ∀ i : Nat, a ≤ i → i < m → ¬ allFrom p i n.toNat = true := by
  unfold nextS at h
  split at h
  · cases h
  · rename_i hn
    rw [List.find?_range_eq_some] at h
    obtain ⟨h1, h2, h3⟩ := h
    simp only [Bool.and_eq_true, decide_eq_true_eq] at h1
    have hm : m < 1441 := by simpa using h2
    refine ⟨by omega, by omega, h1.1, h1.2.1, h1.2.2, fun i h4 h5 h6 => ?_⟩
    have := h3 i (by omega)
    simp [h4, h6] at this
    omega
theorem nextS_of {p : Nat → Bool} {a n : Int} {m : Nat} (h0 : 0 ≤ n) (h1 : n ≤ 1440) (h2 : a ≤ m) (h3 : (m : Int) + n ≤ 1440) (h4 : allFrom p m n.toNat = true) (h5 : ∀ i : Nat, a ≤ i → i < m → ¬ allFrom p i n.toNat = true) : nextS p a n = some m := by
  cases h : nextS p a n with
  | none => exact absurd h4 ((nextS_none h0 h1).1 h m h2 h3)
  | some k =>
    obtain ⟨_, _, k2, k3, k4, k5⟩ := nextS_some h
    congr 1
    rcases Nat.lt_trichotomy k m with e | e | e
    · exact absurd k4 (h5 k k2 e)
    · exact e
    · exact absurd h4 (k5 m h2 e)

/-- a span of a set that has so many minutes from a minute on: looked for span by span -/
def firstIn (a n : Int) : List (Int × Int) → Option Int
  | [] => none
  | s :: l => if n ≤ s.2 ∧ max s.1 a ≤ s.2 - n then some (max s.1 a) else firstIn a n l
theorem all_in_span {p : Nat → Bool} : ∀ {lo : Int} {l : List (Int × Int)} {i n : Nat}, chain lo l → -1 ≤ lo → 0 < n → (∀ j, i ≤ j → j < i + n → inSpans l j = true) → ∃ s ∈ l, s.1 ≤ i ∧ (i : Int) + n ≤ s.2
  | _, [], i, n, _, _, hn, h => by have := h i (by omega) (by omega); simp [inSpans] at this
  | lo, s :: l, i, n, hc, hlo, hn, h => by
    have h1 := hc.1
    have h2 := hc.2.1
    by_cases hi : (i : Int) < s.2
    · refine ⟨s, List.mem_cons_self .., ?_, ?_⟩
      · rcases (chain_cons_in hc i).1 (h i (by omega) (by omega)) with k | k
        · exact k.1
        · have := (chain_in hc.2.2.2 k).1; omega
      · by_cases hb : (i : Int) + n ≤ s.2
        · exact hb
        · exfalso
          rcases (chain_cons_in hc s.2.toNat).1 (h s.2.toNat (by omega) (by omega)) with k | k
          · omega
          · have := (chain_in hc.2.2.2 k).1; omega
    · obtain ⟨s', hs', q1, q2⟩ := all_in_span (p := p) hc.2.2.2 (by omega) hn (i := i) (n := n) fun j hj1 hj2 => by
        rcases (chain_cons_in hc j).1 (h j hj1 hj2) with k | k
        · omega
        · exact k
      exact ⟨s', List.mem_cons_of_mem _ hs', q1, q2⟩
theorem firstIn_none {a n : Int} : ∀ {l : List (Int × Int)}, firstIn a n l = none → ∀ s ∈ l, ¬ (n ≤ s.2 ∧ max s.1 a ≤ s.2 - n)
  | [], _, _, h => by cases h
  | s :: l, h, s', hs' => by
    unfold firstIn at h
    split at h
    · cases h
    · rcases List.mem_cons.1 hs' with rfl | hs'
      · assumption
      · exact firstIn_none h s' hs'
theorem firstIn_some {a n m : Int} : ∀ {lo : Int} {l : List (Int × Int)}, chain lo l → -1 ≤ lo → firstIn a n l = some m → ∃ s ∈ l, m = max s.1 a ∧ n ≤ s.2 ∧ m ≤ s.2 - n ∧ ∀ s' ∈ l, (n ≤ s'.2 ∧ max s'.1 a ≤ s'.2 - n) → m ≤ max s'.1 a
  | _, [], _, _, h => by cases h
  | lo, s :: l, hc, hlo, h => by
    unfold firstIn at h
    split at h
    · rename_i hq
      cases h
      refine ⟨s, List.mem_cons_self .., rfl, hq.1, hq.2, fun s' hs' _ => ?_⟩
      rcases List.mem_cons.1 hs' with rfl | hs'
      · omega
      · have h1 := hc.1
        have h2 := hc.2.1
        have : s.2 < s'.1 := by
          have key : ∀ {lo : Int} {l : List (Int × Int)}, chain lo l → ∀ s ∈ l, lo < s.1 := by
            intro lo l
            induction l generalizing lo with
            | nil => intro _ s hs; cases hs
            | cons x xs ih =>
              intro hc s hs
              rcases List.mem_cons.1 hs with rfl | hs
              · exact hc.1
              · have := ih hc.2.2.2 s hs
                have := hc.1
                have := hc.2.1
                omega
          exact key hc.2.2.2 s' hs'
        omega
    · rename_i hq
      obtain ⟨s0, hs0, e, q1, q2, q3⟩ := firstIn_some hc.2.2.2 (by have := hc.1; have := hc.2.1; omega) h
      refine ⟨s0, List.mem_cons_of_mem _ hs0, e, q1, q2, fun s' hs' hs'' => ?_⟩
      rcases List.mem_cons.1 hs' with rfl | hs'
      · exact absurd hs'' hq
      · exact q3 s' hs' hs''
theorem firstIn_next {p : Nat → Bool} {l : List (Int × Int)} {a n : Int} (h : IsSpans p l) (hp : ∀ i, p i = true → i < 1440) (ha : 0 ≤ a) (h0 : 0 < n) (h1 : n ≤ 1440) : firstIn a n l = (nextS p a n).map (fun k => (k : Int)) := by
  have hmem : ∀ j, inSpans l j = p j := fun j => by
    rw [h.mem]
    cases hj : p j
    · simp
    · simp [hp j hj]
  have hall : ∀ i : Nat, a ≤ i → allFrom p i n.toNat = true → ∃ s ∈ l, s.1 ≤ i ∧ (i : Int) + n ≤ s.2 := fun i _ hi => by
    have := all_in_span (p := p) (i := i) (n := n.toNat) h.ch (Int.le_refl _) (by omega) (fun j q1 q2 => by rw [hmem]; exact allFrom_iff.1 hi j q1 q2)
    obtain ⟨s, hs, q1, q2⟩ := this
    exact ⟨s, hs, q1, by omega⟩
  cases hf : firstIn a n l with
  | none =>
    have hn := firstIn_none hf
    have : nextS p a n = none := (nextS_none (by omega) h1).2 fun i q1 _ q3 => by
      obtain ⟨s, hs, k1, k2⟩ := hall i q1 q3
      exact hn s hs ⟨by omega, by omega⟩
    rw [this]; rfl
  | some m =>
    obtain ⟨s, hs, rfl, q1, q2, q3⟩ := firstIn_some h.ch (Int.le_refl _) hf
    obtain ⟨b1, b2, b3⟩ := chain_mem (Int.le_refl _) h.ch s hs
    have : nextS p a n = some (max s.1 a).toNat := nextS_of (by omega) h1 (by omega) (by omega) (allFrom_iff.2 fun j k1 k2 => by
      rw [← hmem]; exact inSpans_of hs (by omega) (by omega)) (fun i k1 k2 k3 => by
        obtain ⟨s', hs', c1, c2⟩ := hall i k1 k3
        have := q3 s' hs' ⟨by omega, by omega⟩
        omega)
    rw [this]
    simp
    omega

/-- shifted twice the same way; back; sets -/
theorem shS_two {p : Nat → Bool} {x y : Int} (h : 0 ≤ x ∧ 0 ≤ y ∨ x ≤ 0 ∧ y ≤ 0) (i : Nat) (hi : i < 1440) : shS (fun i => decide (i < 1440) && shS p x i) y i = shS p (x + y) i := by
  unfold shS
  by_cases h1 : 0 ≤ (i : Int) - y ∧ (i : Int) - y < 1440
  · rw [decide_eq_true h1.1, decide_eq_true h1.2]
    have e : (((i : Int) - y).toNat : Int) - x = (i : Int) - (x + y) := by omega
    have e2 : ((i : Int) - y).toNat < 1440 := by omega
    simp only [e, e2, decide_true, Bool.true_and]
  · have h2 : (decide (0 ≤ (i : Int) - (x + y)) && decide ((i : Int) - (x + y) < 1440)) = false := by simp; omega
    have h3 : (decide (0 ≤ (i : Int) - y) && decide ((i : Int) - y < 1440)) = false := by simp; omega
    rw [← Bool.and_assoc (decide (0 ≤ (i : Int) - y)), h3, ← Bool.and_assoc (decide (0 ≤ (i : Int) - (x + y))), h2]; rfl
theorem shS_back {p : Nat → Bool} {x : Int} (h : 0 ≤ x) (i : Nat) (hi : i < 1440) : shS (fun i => decide (i < 1440) && shS p x i) (-x) i = (p i && inSpans [(0, 1440 - x)] i) := by
  simp only [shS, inSpans, List.any_cons, List.any_nil, Bool.or_false]
  by_cases h1 : (i : Int) + x < 1440
  · have e : (((i : Int) - -x).toNat : Int) - x = (i : Int) := by omega
    have e2 : ((i : Int) - -x).toNat < 1440 := by omega
    simp only [e, e2, decide_true, Bool.true_and, Int.toNat_natCast]
    rw [decide_eq_true (show 0 ≤ (i : Int) - -x by omega), decide_eq_true (show (i : Int) - -x < 1440 by omega), decide_eq_true (show 0 ≤ (i : Int) by omega), decide_eq_true (show (i : Int) < 1440 by omega), decide_eq_true (show (i : Int) < 1440 - x by omega)]
    simp
  · rw [decide_eq_false (show ¬ (i : Int) - -x < 1440 by omega), decide_eq_false (show ¬ (i : Int) < 1440 - x by omega)]
    simp
theorem shS_or (p q : Nat → Bool) (x : Int) (i : Nat) : shS (fun i => p i || q i) x i = (shS p x i || shS q x i) := by
  unfold shS
  cases decide (0 ≤ (i : Int) - x) <;> cases decide ((i : Int) - x < 1440) <;> simp
theorem shS_and (p q : Nat → Bool) (x : Int) (i : Nat) : shS (fun i => p i && q i) x i = (shS p x i && shS q x i) := by
  unfold shS
  cases decide (0 ≤ (i : Int) - x) <;> cases decide ((i : Int) - x < 1440) <;> simp
theorem shS_congr {p q : Nat → Bool} (h : ∀ i, i < 1440 → p i = q i) (x : Int) (i : Nat) : shS p x i = shS q x i := by
  unfold shS
  by_cases h1 : 0 ≤ (i : Int) - x ∧ (i : Int) - x < 1440
  · rw [h _ (by omega)]
  · have h2 : (decide (0 ≤ (i : Int) - x) && decide ((i : Int) - x < 1440)) = false := by simp; omega
    rw [← Bool.and_assoc, h2, ← Bool.and_assoc, h2]; rfl

/-- counted -/
theorem cnt_congr {p q : Nat → Bool} (h : ∀ i, i < 1440 → p i = q i) : cnt p = cnt q := by
  unfold cnt
  apply List.countP_congr
  intro j hj
  have hj' : j < 1440 := by simpa using hj
  rw [h j hj']
theorem countP_both {p q : Nat → Bool} : ∀ (l : List Nat), l.countP (fun j => p j || q j) + l.countP (fun j => p j && q j) = l.countP p + l.countP q
  | [] => rfl
  | x :: xs => by
    have ih := countP_both (p := p) (q := q) xs
    rw [List.countP_cons, List.countP_cons, List.countP_cons, List.countP_cons]
    cases p x <;> cases q x <;> simp <;> omega
theorem cnt_both (p q : Nat → Bool) : cnt (fun j => p j || q j) + cnt (fun j => p j && q j) = cnt p + cnt q := countP_both _
theorem cnt_spans {lo : Int} {l : List (Int × Int)} (hlo : -1 ≤ lo) (h : chain lo l) : (cnt (inSpans l) : Int) = lens l := (lens_cnt l hlo h).symm

end Msk
end Go.Proofs.YtbadplbdgpbdaaaDoor

namespace Go.Proofs.YtbadplbdgpbdaaaDoor
namespace Msk

/-- word i of a mask that is shifted by W words and r bits -/
def shA (f : Nat → Nat) (W : Int) (r i : Nat) : Nat := if 0 ≤ (i : Int) - W ∧ (i : Int) - W < 23 then f ((i : Int) - W).toNat * 2 ^ r % 18446744073709551616 else 0
def shB (f : Nat → Nat) (W : Int) (r i : Nat) : Nat := if 0 < r ∧ 0 ≤ (i : Int) - W - 1 ∧ (i : Int) - W - 1 < 23 then f ((i : Int) - W - 1).toNat / 2 ^ (64 - r) else 0
def shF (f : Nat → Nat) (W : Int) (r i : Nat) : Nat := shA f W r i ||| shB f W r i

theorem mul_pow_bit (x r j : Nat) (hj : j < 64) : (x * 2 ^ r % 18446744073709551616).testBit j = (decide (r ≤ j) && x.testBit (j - r)) := by
  rw [show (18446744073709551616 : Nat) = 2 ^ 64 by rfl, Nat.testBit_mod_two_pow, decide_eq_true hj, Bool.true_and, Nat.mul_comm, Nat.testBit_two_pow_mul]
theorem has_shF (p : Nat → Bool) (W : Int) (r : Nat) (hr : r < 64) (i : Nat) (hi : i < 1440) : has (shF (setW p) W r) i = shS p (64 * W + r) i := by
  unfold has shF
  rw [decide_eq_true hi, Bool.true_and, Nat.testBit_or]
  have hA : (shA (setW p) W r (i / 64)).testBit (i % 64) = (decide (r ≤ i % 64) && shS p (64 * W + r) i) := by
    unfold shA shS
    split
    · rename_i h
      rw [mul_pow_bit _ _ _ (by omega), setW_bit]
      by_cases h1 : r ≤ i % 64
      · have e : 64 * ((((i / 64 : Nat) : Int) - W).toNat) + (i % 64 - r) = ((i : Int) - (64 * W + r)).toNat := by omega
        rw [e]
        have e1 : decide (i % 64 - r < 64) = true := by simp; omega
        have e2 : decide (0 ≤ (i : Int) - (64 * W + r)) = true := by simp; omega
        have e3 : decide (((i : Int) - (64 * W + r)).toNat < 1440) = decide ((i : Int) - (64 * W + r) < 1440) := by rw [decide_eq_decide]; omega
        rw [e1, e2, e3]
      · simp [h1]
    · rename_i h
      rw [Nat.zero_testBit]
      by_cases h1 : r ≤ i % 64
      · have e2 : (decide (0 ≤ (i : Int) - (64 * W + r)) && decide ((i : Int) - (64 * W + r) < 1440)) = false := by simp; omega
        rw [← Bool.and_assoc (decide (0 ≤ (i : Int) - (64 * W + r))), e2]; simp
      · simp [h1]
  have hB : (shB (setW p) W r (i / 64)).testBit (i % 64) = (decide (i % 64 < r) && shS p (64 * W + r) i) := by
    unfold shB shS
    split
    · rename_i h
      rw [Nat.testBit_div_two_pow, setW_bit]
      by_cases h1 : i % 64 < r
      · have e : 64 * ((((i / 64 : Nat) : Int) - W - 1).toNat) + (i % 64 + (64 - r)) = ((i : Int) - (64 * W + r)).toNat := by omega
        rw [e]
        have e1 : decide (i % 64 + (64 - r) < 64) = true := by simp; omega
        have e2 : decide (0 ≤ (i : Int) - (64 * W + r)) = true := by simp; omega
        have e3 : decide (((i : Int) - (64 * W + r)).toNat < 1440) = decide ((i : Int) - (64 * W + r) < 1440) := by rw [decide_eq_decide]; omega
        rw [e1, e2, e3]; simp [h1]
      · have e1 : decide (i % 64 + (64 - r) < 64) = false := by simp; omega
        rw [e1]; simp [h1]
    · rename_i h
      rw [Nat.zero_testBit]
      by_cases h1 : i % 64 < r
      · have e2 : (decide (0 ≤ (i : Int) - (64 * W + r)) && decide ((i : Int) - (64 * W + r) < 1440)) = false := by simp; omega
        rw [← Bool.and_assoc (decide (0 ≤ (i : Int) - (64 * W + r))), e2]; simp
      · simp [h1]
  rw [hA, hB]
  by_cases h1 : r ≤ i % 64
  · simp [h1, show ¬ i % 64 < r by omega]
  · simp [h1, show i % 64 < r by omega]
theorem shift_set (p : Nat → Bool) (W : Int) (r : Nat) (hr : r < 64) : setW (has (shF (setW p) W r)) = setW (shS p (64 * W + r)) :=
  setW_congr fun i hi => has_shF p W r hr i hi
theorem shS_far {p : Nat → Bool} {n : Int} (h : n ≤ -1440 ∨ 1440 ≤ n) : setW (shS p n) = fun _ => 0 := by
  rw [← setW_none]
  apply setW_congr
  intro i hi
  unfold shS
  rcases h with h | h
  · rw [decide_eq_false (show ¬ (i : Int) - n < 1440 by omega)]; simp
  · rw [decide_eq_false (show ¬ 0 ≤ (i : Int) - n by omega)]; simp
theorem shA_lt (f : Nat → Nat) (W : Int) (r i : Nat) : shA f W r i < 18446744073709551616 := by
  unfold shA; split <;> omega
theorem shB_lt {f : Nat → Nat} (hf : ∀ k, k < 23 → f k < 18446744073709551616) (W : Int) (r i : Nat) : shB f W r i < 18446744073709551616 := by
  unfold shB
  split
  · rename_i h
    exact Nat.lt_of_le_of_lt (Nat.div_le_self _ _) (hf _ (by omega))
  · omega
theorem shF_lt {f : Nat → Nat} (hf : ∀ k, k < 23 → f k < 18446744073709551616) (W : Int) (r i : Nat) : shF f W r i < 18446744073709551616 := Nat.or_lt_two_pow (n := 64) (shA_lt f W r i) (shB_lt hf W r i)

end Msk
end Go.Proofs.YtbadplbdgpbdaaaDoor

namespace Go.Proofs.YtbadplbdgpbdaaaDoor
open Go.RowKit
namespace Msk

/-- the cells of a mask whose words are f 0, f 1 .. -/
def maskA (f : Nat → Nat) : Array Value := Array.ofFn (n := 23) fun i => .int .u64 (f i.val)
/-- the mask of a set of minutes -/
abbrev setA (p : Nat → Bool) : Array Value := maskA (setW p)

theorem maskA_size (f : Nat → Nat) : (maskA f).size = 23 := by simp [maskA]
theorem maskA_get (f : Nat → Nat) (i : Nat) : (maskA f)[i]? = if i < 23 then some (.int .u64 (f i)) else none := by
  unfold maskA
  rw [Array.getElem?_ofFn]
  split <;> rfl
theorem maskA_congr {f g : Nat → Nat} (h : ∀ k, k < 23 → f k = g k) : maskA f = maskA g := by
  apply Array.ext_getElem?
  intro i
  rw [maskA_get, maskA_get]
  split
  · rw [h i (by assumption)]
  · rfl
theorem maskA_set (f : Nat → Nat) (i v : Nat) : (maskA f).setIfInBounds i (.int .u64 v) = maskA (fun j => if j = i then v else f j) := by
  apply Array.ext_getElem?
  intro j
  rw [Array.getElem?_setIfInBounds, maskA_get, maskA_get, maskA_size]
  by_cases h : i = j
  · subst h
    by_cases h2 : i < 23 <;> simp [h2]
  · rw [if_neg h]
    split
    · rw [if_neg (fun e => h e.symm)]
    · rfl
theorem maskA_inj {f g : Nat → Nat} (h : maskA f = maskA g) {k : Nat} (hk : k < 23) : f k = g k := by
  have := congrArg (·[k]?) h
  simp only [maskA_get, hk, if_true, Option.some.injEq, Value.int.injEq, true_and] at this
  omega
theorem setA_eq {p q : Nat → Bool} : setA p = setA q ↔ ∀ i, i < 1440 → p i = q i :=
  ⟨fun h i hi => setW_inj (fun k hk => maskA_inj h hk) hi, fun h => by unfold setA; rw [setW_congr h]⟩

attribute [go_sem] maskA_size maskA_set
@[go_sem] theorem maskA_get_in (f : Nat → Nat) (i : Nat) (h : i < 23) : (maskA f)[i]? = some (.int .u64 (f i)) := by rw [maskA_get, if_pos h]
@[go_sem] theorem zeroA : (#[.int .u64 0, .int .u64 0, .int .u64 0, .int .u64 0, .int .u64 0, .int .u64 0, .int .u64 0, .int .u64 0, .int .u64 0, .int .u64 0, .int .u64 0, .int .u64 0, .int .u64 0, .int .u64 0, .int .u64 0, .int .u64 0, .int .u64 0,
    .int .u64 0, .int .u64 0, .int .u64 0, .int .u64 0, .int .u64 0, .int .u64 0] : Array Value) = maskA (fun _ => 0) := by
  apply Array.ext_getElem?
  intro i
  rw [maskA_get]
  rcases i with _ | _ | _ | _ | _ | _ | _ | _ | _ | _ | _ | _ | _ | _ | _ | _ | _ | _ | _ | _ | _ | _ | _ | i <;> first | rfl | simp
@[go_sem] theorem maskA_getElem (f : Nat → Nat) (i : Nat) (h : i < (maskA f).size) : (maskA f)[i] = .int .u64 (f i) := by
  have h1 := maskA_get f i
  rw [maskA_size] at h
  rw [if_pos h, Array.getElem?_eq_getElem (by rw [maskA_size]; exact h)] at h1
  exact Option.some.inj h1
theorem zero_set : setA (fun _ => false) = maskA (fun _ => 0) := by
  apply maskA_congr
  intro k _
  apply Nat.eq_of_testBit_eq
  intro j
  rw [setW_bit]
  simp
theorem one_cell (f : Nat → Nat) : ∀ v ∈ (maskA f).toList, v.oneCell' = true := by
  intro v hv
  have : v ∈ maskA f := by simpa using hv
  unfold maskA at this
  rw [Array.mem_ofFn] at this
  obtain ⟨i, rfl⟩ := this
  rfl

theorem run_eqItems_mask {P : Program} {e : TypeId} (he : P.underlying e = some (.int .u64)) (ha : ∀ w, (isAgg e).run P w = .ok false w) (d : Nat) (f g : Nat → Nat) (w : World) : ∀ is : List Nat, (∀ k ∈ is, k < 23) →
    (Op.eqItems (d + 1) e 1 (maskA f) (maskA g) is).run P w = .ok (decide (∀ k ∈ is, f k = g k)) w
  | [], _ => by simp [Op.eqItems]
  | i :: is, h => by
    have hi := h i (by simp)
    have ih := run_eqItems_mask he ha d f g w is (fun k hk => h k (by simp [hk]))
    simp only [Op.eqItems, Nat.mul_one, Sem.run_bind, run_part_plain, ha, Result.andThen_ok, Bool.false_eq_true, if_false, maskA_get_in _ _ hi, Op.equalIn, run_underlying he, if_true, Sem.run_pure]
    by_cases hfg : f i = g i
    · have : ((f i : Int) == (g i : Int)) = true := by rw [beq_iff_eq]; omega
      simp only [this, Bool.not_true, Bool.false_eq_true, if_false, ih]
      simp [hfg]
    · have : ((f i : Int) == (g i : Int)) = false := by rw [beq_eq_false_iff_ne]; omega
      simp only [this, Bool.not_false, if_true, Sem.run_pure]
      simp [hfg]

/-- are two masks one? are two sets? -/
def sameW (f g : Nat → Nat) : Bool := (List.range 23).all fun k => f k == g k
def sameS (p q : Nat → Bool) : Bool := (List.range 1440).all fun i => p i == q i
theorem sameW_all {f g : Nat → Nat} : sameW f g = true ↔ ∀ k, k < 23 → f k = g k := by unfold sameW; simp [List.all_eq_true]
theorem sameS_all {p q : Nat → Bool} : sameS p q = true ↔ ∀ i, i < 1440 → p i = q i := by unfold sameS; simp [List.all_eq_true]
theorem sameW_set (p q : Nat → Bool) : sameW (setW p) (setW q) = sameS p q := by
  rw [Bool.eq_iff_iff, sameW_all, sameS_all]
  exact ⟨fun h i hi => setW_inj h hi, fun h k _ => by rw [setW_congr h]⟩
theorem sameW_iff {f g : Nat → Nat} : sameW f g = true ↔ maskA f = maskA g := by
  rw [sameW_all]
  exact ⟨maskA_congr, fun h k hk => maskA_inj h hk⟩

theorem run_equal_mask {P : Program} {t e : TypeId} {i : TypeInfo} (hu : P.underlying t = some (.array 23 e)) (hi : P.info? e = some i) (hc : P.cellsOf e = 1) (he : P.underlying e = some (.int .u64)) (ha : ∀ w, (isAgg e).run P w = .ok false w) (f g : Nat → Nat) (w : World) :
    (Op.equal t (.agg (maskA f)) (.agg (maskA g))).run P w = .ok (sameW f g) w := by
  have := run_equalIn_array w 9999 (maskA f) (maskA g) hu hi
  unfold Op.equal Op.maxDepth
  rw [this, hc, run_eqItems_mask he ha 9998 f g w _ (fun k hk => by simpa using hk)]
  congr 1
  rw [Bool.eq_iff_iff, sameW_all]
  simp

@[go_sem] theorem run_equalIn_mask (f g : Nat → Nat) (w : World) : (Op.equalIn 10000 38 (.agg (maskA f)) (.agg (maskA g))).run Tryd.prog w = .ok (sameW f g) w :=
  run_equal_mask (P := Tryd.prog) (t := 38) (e := 36) (i := Tryd.t36) Tryd.underlying38 (by kernel_rfl) (by kernel_rfl) Tryd.underlying36 (fun w => Tryd.isAgg36 w) f g w

/-- a whole mask loaded, stored -/
@[go_sem ↓] theorem fold_loadMask (a : Addr) : loadCellsFrom a 0 23 #[] = loadRow 23 a := rfl
@[go_sem] theorem run_storeMask {P : Program} (w : World) (g : Nat) (f : Nat → Nat) :
    (storeCells ⟨g, 0, none⟩ (maskA f).toList 0).run P w = if freeRow w g 23 = true then .ok () (w.setRow g (maskA f)) else (storeRaw ⟨g, 0, none⟩ (maskA f)).run P w :=
  run_storeRow w g 23 _ (maskA_size f) (one_cell f)

theorem blk_cells {w : World} {g : Nat} {t : TypeId} {f : Nat → Nat} (h : Blk w g t (maskA f)) : cellsAt w g 0 23 = some (maskA f) := by have := h.cells; rwa [maskA_size] at this
theorem blk_free {w : World} {g : Nat} {t : TypeId} {f : Nat → Nat} (h : Blk w g t (maskA f)) : freeRow w g 23 = true := by have := h.free; rwa [maskA_size] at this

theorem maskA_ones (f : Nat → Nat) (i : Nat) : (maskA f).setIfInBounds i (.int .u64 18446744073709551615) = maskA (fun j => if j = i then 18446744073709551615 else f j) := maskA_set f i 18446744073709551615

/-- one bit put into a word -/
theorem or_bit (x m : Nat) (hx : x < 18446744073709551616) (hm : m < 64) : bits .or .u64 (x : Int) (IntKind.u64.wrap (2 ^ m)) = ((x ||| 2 ^ m : Nat) : Int) := by
  have hp : 2 ^ m < 18446744073709551616 := (show 2 ^ m < 2 ^ 64 from Nat.pow_lt_pow_right (by omega) hm)
  have e : IntKind.u64.wrap (2 ^ m) = ((2 ^ m : Nat) : Int) := by
    have h2 : ((2 : Int) ^ m) = ((2 ^ m : Nat) : Int) := by rw [Int.natCast_pow]; rfl
    rw [h2]
    generalize 2 ^ m = y at hp
    exact IntWalk.u64_in _ (by omega)
  rw [e]
  exact u64_or_nat x (2 ^ m) hx hp

end Msk
end Go.Proofs.YtbadplbdgpbdaaaDoor
