/- Whole rows of cells, read and written at once: rules of the walk for an array whose cells are a variable. -/
import Derived.Test.YtfhedopfjgjffaaLib
import Derived.Laws.Rows
import Derived.Laws.Tables
namespace Go.Proofs.Ytfhedopfjgjffaa
open Go.RowKit

/-- so many cells from an address on, if all are there -/
def cellsAt (w : World) (g o n : Nat) : Option (Array Value) := ((List.range n).mapM fun i => w.cell? ⟨g, o + i, none⟩).map List.toArray
def cellsNew (w : World) (g o n : Nat) : Option (Array Value) := cellsAt w g o n
/-- is a block a row of so many cells, none of them frozen? -/
def freeRow (w : World) (g n : Nat) : Bool := match w.heap[g]? with
  | some (.cells cs _ fz) => fz == (0, 0) && cs.size == n
  | _ => false
def freeNew (w : World) (g n : Nat) : Bool := freeRow w g n

theorem mapM_get {f : Nat → Option Value} {xs : List Value} : ∀ {is : List Nat}, is.mapM f = some xs → ∀ (k i : Nat), is[k]? = some i → f i = xs[k]? := by
  intro is
  induction is generalizing xs with
  | nil => intro _ k i h; simp at h
  | cons j is ih =>
    intro h k i hk
    rw [List.mapM_cons] at h
    simp only [bind, Option.bind_eq_some_iff, pure, Option.some.injEq] at h
    obtain ⟨v, hv, vs, hvs, rfl⟩ := h
    cases k with
    | zero => simp at hk; subst hk; simpa using hv
    | succ k => simp at hk; simpa using ih hvs k i hk
theorem mapM_len {f : Nat → Option Value} {xs : List Value} : ∀ {is : List Nat}, is.mapM f = some xs → xs.length = is.length := by
  intro is
  induction is generalizing xs with
  | nil => intro h; simp at h; subst h; rfl
  | cons j is ih =>
    intro h
    rw [List.mapM_cons] at h
    simp only [bind, Option.bind_eq_some_iff, pure, Option.some.injEq] at h
    obtain ⟨v, hv, vs, hvs, rfl⟩ := h
    simp [ih hvs]
theorem mapM_of {f : Nat → Option Value} {xs : List Value} : ∀ {is : List Nat}, xs.length = is.length → (∀ (k i : Nat), is[k]? = some i → f i = xs[k]?) → is.mapM f = some xs := by
  intro is
  induction is generalizing xs with
  | nil => intro h _; cases xs with | nil => rfl | cons _ _ => simp at h
  | cons j is ih =>
    intro h hk
    cases xs with
    | nil => simp at h
    | cons v vs =>
      rw [List.mapM_cons]
      have h0 := hk 0 j rfl
      simp at h0
      rw [ih (by simpa using h) (fun k i hi => by have := hk (k + 1) i (by simpa using hi); simpa using this)]
      simp [h0]

theorem cellsAt_some {w : World} {g o n : Nat} {cs : Array Value} : cellsAt w g o n = some cs ↔ cs.size = n ∧ ∀ i, i < n → w.cell? ⟨g, o + i, none⟩ = cs[i]? := by
  unfold cellsAt
  constructor
  · intro h
    cases hm : (List.range n).mapM fun i => w.cell? ⟨g, o + i, none⟩ with
    | none => rw [hm] at h; simp at h
    | some xs =>
      rw [hm] at h
      simp only [Option.map_some, Option.some.injEq] at h
      subst h
      have hl := mapM_len hm
      refine ⟨by simpa using hl, fun i hi => ?_⟩
      have := mapM_get hm i i (by rw [List.getElem?_range hi])
      simpa using this
  · rintro ⟨h1, h2⟩
    have : (List.range n).mapM (fun i => w.cell? ⟨g, o + i, none⟩) = some cs.toList := mapM_of (by simp [h1]) (fun k i hk => by
      have hk' : k < n := by
        have := (List.getElem?_eq_some_iff.1 hk).1
        simpa using this
      rw [List.getElem?_range hk'] at hk
      simp only [Option.some.injEq] at hk
      subst hk
      simpa using h2 k hk')
    rw [this]
    simp

theorem cellsAt_congr {w w' : World} {g o n : Nat} (h : ∀ i, i < n → w'.cell? ⟨g, o + i, none⟩ = w.cell? ⟨g, o + i, none⟩) : cellsAt w' g o n = cellsAt w g o n := by
  unfold cellsAt
  congr 1
  have : ∀ is : List Nat, (∀ i ∈ is, i < n) → is.mapM (fun i => w'.cell? ⟨g, o + i, none⟩) = is.mapM (fun i => w.cell? ⟨g, o + i, none⟩) := by
    intro is
    induction is with
    | nil => intro _; rfl
    | cons j is ih =>
      intro hj
      rw [List.mapM_cons, List.mapM_cons, h j (hj j (by simp)), ih (fun i hi => hj i (by simp [hi]))]
  exact this _ (fun i hi => by simpa using hi)

/-- a block that is known whole -/
theorem Blk.cells {w : World} {g : Nat} {t : TypeId} {cs : Array Value} (h : Blk w g t cs) : cellsAt w g 0 cs.size = some cs :=
  cellsAt_some.2 ⟨rfl, fun i _ => by rw [Nat.zero_add]; exact h.cell i⟩
theorem Blk.free {w : World} {g : Nat} {t : TypeId} {cs : Array Value} (h : Blk w g t cs) : freeRow w g cs.size = true := by
  unfold Blk at h
  simp [freeRow, h]
theorem Blk.setRow {w : World} {g : Nat} {t : TypeId} {cs : Array Value} (h : Blk w g t cs) (cs' : Array Value) : Blk (w.setRow g cs') g t cs' := setRow_heap w g cs cs' t (0, 0) h
theorem Blk.farRow {w : World} {g k : Nat} {t : TypeId} {cs : Array Value} (h : Blk w g t cs) (hk : g ≠ k) (cs' : Array Value) : Blk (w.setRow k cs') g t cs := (setRow_other w k g cs' hk).trans h
theorem Below.setRow {B g : Nat} {a w : World} (h : Below B a w) (hg : B ≤ g) (cs : Array Value) : Below B a (w.setRow g cs) :=
  h.trans ⟨rfl, rfl, rfl, by simp, fun k hk => setRow_other w g k cs (by omega)⟩

@[go_sem] theorem cellsAt_alloc (w : World) (cs : Array Value) (t : TypeId) (fz : Nat × Nat) (g o n : Nat) :
    cellsAt (w.alloc (.cells cs t fz)) g o n = if g < w.heap.size then cellsAt w g o n else if g = w.heap.size ∧ o = 0 ∧ n = cs.size then some cs else cellsNew (w.alloc (.cells cs t fz)) g o n := by
  split
  · rename_i h
    exact cellsAt_congr fun i _ => by rw [cell_alloc_ite, if_pos h]
  · split
    · rename_i h1 h2
      obtain ⟨rfl, rfl, rfl⟩ := h2
      exact cellsAt_some.2 ⟨rfl, fun i _ => by rw [cell_alloc_ite]; simp⟩
    · rfl
@[go_sem] theorem cellsAt_after {B : Nat} {w0 : World} (m : After B w0) (g o n : Nat) : cellsAt m.w g o n = if g < B then cellsAt w0 g o n else cellsNew m.w g o n := by
  split
  · rename_i h
    exact cellsAt_congr fun i _ => m.below.cell h
  · rfl
@[go_sem] theorem cellsAt_drew (w : World) (g o n : Nat) : cellsAt w.drew g o n = cellsAt w g o n := rfl
@[go_sem] theorem cellsAt_drewN (w : World) (k g o n : Nat) : cellsAt (w.drewN k) g o n = cellsAt w g o n := rfl
@[go_sem] theorem cellsAt_setCell (w : World) (b i : Nat) (v : Value) (g o n : Nat) :
    cellsAt (w.setCell ⟨b, i, none⟩ v) g o n = if b = g then (if o = 0 then (cellsAt w g 0 n).map (·.setIfInBounds i v) else cellsNew (w.setCell ⟨b, i, none⟩ v) g o n) else cellsAt w g o n := by
  split
  · rename_i h
    subst h
    split
    · rename_i h
      subst h
      cases hc : cellsAt w b 0 n with
      | none =>
        cases hd : cellsAt (w.setCell ⟨b, i, none⟩ v) b 0 n with
        | none => rfl
        | some cs =>
          exfalso
          obtain ⟨h1, h2⟩ := cellsAt_some.1 hd
          have hall : ∀ j, j < n → ∃ u, w.cell? ⟨b, 0 + j, none⟩ = some u := fun j hj => by
            have := h2 j hj
            rw [cell_setCell_ite, Array.getElem?_eq_getElem (by omega)] at this
            split at this
            · cases hq : w.cell? ⟨b, 0 + j, none⟩ with
              | none => rw [hq] at this; simp at this
              | some u => exact ⟨u, rfl⟩
            · exact ⟨_, this⟩
          have : ∃ xs : List Value, xs.length = n ∧ ∀ j, j < n → w.cell? ⟨b, 0 + j, none⟩ = xs[j]? := by
            clear hd h1 h2 hc
            induction n with
            | zero => exact ⟨[], rfl, fun j hj => by omega⟩
            | succ n ih =>
              obtain ⟨xs, hl, hx⟩ := ih (fun j hj => hall j (by omega))
              obtain ⟨u, hu⟩ := hall n (by omega)
              refine ⟨xs ++ [u], by simp [hl], fun j hj => ?_⟩
              by_cases hjn : j = n
              · subst hjn; rw [hu, List.getElem?_append_right (by omega)]; simp [hl]
              · rw [hx j (by omega), List.getElem?_append_left (by omega)]
          obtain ⟨xs, hl, hx⟩ := this
          have := (cellsAt_some (w := w) (g := b) (o := 0) (n := n) (cs := xs.toArray)).2 ⟨by simp [hl], fun j hj => by rw [hx j hj]; simp⟩
          rw [this] at hc
          cases hc
      | some cs =>
        obtain ⟨h1, h2⟩ := cellsAt_some.1 hc
        refine cellsAt_some.2 ⟨by simpa using h1, fun j hj => ?_⟩
        rw [cell_setCell_ite, h2 j hj, Array.getElem?_setIfInBounds]
        by_cases hij : i = j
        · subst hij
          simp [h1, hj]
        · simp [hij]
    · rfl
  · rename_i h
    exact cellsAt_congr fun j _ => by rw [cell_setCell_ite, if_neg (fun e => h e.1)]
@[go_sem] theorem cellsAt_setRow (w : World) (b : Nat) (cs : Array Value) (g o n : Nat) :
    cellsAt (w.setRow b cs) g o n = if b = g then (if o = 0 ∧ n = cs.size ∧ freeRow w b n = true then some cs else cellsNew (w.setRow b cs) g o n) else cellsAt w g o n := by
  split
  · rename_i h
    subst h
    split
    · rename_i h
      obtain ⟨rfl, rfl, hf⟩ := h
      unfold freeRow at hf
      split at hf
      · rename_i old t fz hh
        simp only [Bool.and_eq_true, beq_iff_eq] at hf
        obtain ⟨rfl, _⟩ := hf
        exact (Blk.setRow (t := t) hh cs).cells
      · cases hf
    · rfl
  · rename_i h
    exact cellsAt_congr fun j _ => cell_setRow_other w b cs _ (fun e => h e.symm)

@[go_sem] theorem freeRow_alloc (w : World) (cs : Array Value) (t : TypeId) (g n : Nat) :
    freeRow (w.alloc (.cells cs t)) g n = if g < w.heap.size then freeRow w g n else if g = w.heap.size then cs.size == n else false := by
  have e : (w.alloc (.cells cs t)).heap = w.heap.push (.cells cs t) := rfl
  unfold freeRow
  rw [e, Array.getElem?_push]
  by_cases h : g < w.heap.size
  · rw [if_pos h, if_neg (by omega)]
  · rw [if_neg h]
    by_cases h' : g = w.heap.size
    · rw [if_pos h', if_pos h']; simp
    · rw [if_neg h', if_neg h', Array.getElem?_eq_none (by omega)]
@[go_sem] theorem freeRow_after {B : Nat} {w0 : World} (m : After B w0) (g n : Nat) : freeRow m.w g n = if g < B then freeRow w0 g n else freeNew m.w g n := by
  split
  · rename_i h
    unfold freeRow
    rw [m.below.block g h]
  · rfl
@[go_sem] theorem freeRow_drew (w : World) (g n : Nat) : freeRow w.drew g n = freeRow w g n := rfl
@[go_sem] theorem freeRow_drewN (w : World) (k g n : Nat) : freeRow (w.drewN k) g n = freeRow w g n := rfl
@[go_sem] theorem freeRow_setCell (w : World) (b i : Nat) (v : Value) (g n : Nat) : freeRow (w.setCell ⟨b, i, none⟩ v) g n = freeRow w g n := by
  unfold freeRow
  simp only [World.setCell, Array.getElem?_modify]
  by_cases h : b = g
  · subst h
    rw [if_pos rfl]
    cases hb : w.heap[b]? with
    | none => rfl
    | some o => cases o <;> simp
  · rw [if_neg h]
@[go_sem] theorem freeRow_setRow (w : World) (b : Nat) (cs : Array Value) (g n : Nat) : freeRow (w.setRow b cs) g n = if b = g then (if cs.size = n ∧ freeRow w g n = true then true else freeNew (w.setRow b cs) g n) else freeRow w g n := by
  split
  · rename_i h
    subst h
    split
    · rename_i hn
      obtain ⟨hn, hf⟩ := hn
      unfold freeRow at hf ⊢
      simp only [World.setRow, Array.getElem?_modify, if_true]
      cases hb : w.heap[b]? with
      | none => rw [hb] at hf; cases hf
      | some o => rw [hb] at hf; cases o <;> simp_all
    · rfl
  · rename_i h
    unfold freeRow
    rw [setRow_other w b g cs (fun e => h e.symm)]

section
variable {P : Program}
/-- so many cells loaded: held back from the walk's own unfolding -/
def loadRow (n : Nat) (a : Addr) : Sem (Array Value) := loadCellsFrom a 0 n #[]
def loadRaw (n : Nat) (a : Addr) : Sem (Array Value) := loadCellsFrom a 0 n #[]
@[go_sem] theorem run_loadRow (w : World) (g o n : Nat) : (loadRow n ⟨g, o, none⟩).run P w = match cellsAt w g o n with | some cs => .ok cs w | none => (loadRaw n ⟨g, o, none⟩).run P w := by
  cases h : cellsAt w g o n with
  | none => rfl
  | some cs =>
    obtain ⟨h1, h2⟩ := cellsAt_some.1 h
    have := run_loadCells_list (P := P) w ⟨g, o, none⟩ cs.toList (fun j v hv => by
      have hadd : (⟨g, o, none⟩ : Addr).add j = ⟨g, o + j, none⟩ := by unfold Addr.add; split <;> simp_all
      have hj : j < n := by
        have := (List.getElem?_eq_some_iff.1 hv).1
        simp at this
        omega
      rw [hadd, h2 j hj]
      simpa using hv)
    subst h1
    simpa [loadCells, loadRow] using this
/-- so many cells stored -/
def storeRaw (a : Addr) (cs : Array Value) : Sem Unit := storeCells a cs.toList 0
theorem run_storeRow (w : World) (g n : Nat) (cs : Array Value) (hn : cs.size = n) (h1 : ∀ v ∈ cs.toList, v.oneCell' = true) :
    (storeCells ⟨g, 0, none⟩ cs.toList 0).run P w = if freeRow w g n = true then .ok () (w.setRow g cs) else (storeRaw ⟨g, 0, none⟩ cs).run P w := by
  split
  · rename_i hf
    unfold freeRow at hf
    split at hf
    · rename_i old t fz hh
      simp only [Bool.and_eq_true, beq_iff_eq] at hf
      obtain ⟨rfl, ho⟩ := hf
      have := run_storeCells_from (P := P) g t cs.toList 0 old w hh (by simp; omega) h1
      simpa using this
    · cases hf
  · rfl
end

end Go.Proofs.Ytfhedopfjgjffaa
