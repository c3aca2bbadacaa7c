/- Slices that are read. Slices that are read: of ints, of slices of ints, of masks. Slices that are read: of ints, of slices of ints, of masks; the walks of slices.Index and slices.Contains at []int. Slices of strings; the walks of slices.Index, slices.Contains at []string. -/
import Derived.Test.YtbadplbdgpbdaaaDoorApp
import Derived.Test.YtbadplbdgpbdaaaDoorMask
import Derived.Test.YtbadplbdgpbdaaaDoorRows
namespace Go.Proofs.YtbadplbdgpbdaaaDoor
open Go.RowKit
namespace Sl

/-- a slice that reads as a list: element i is at cell o + i * k of a block below B, and reads as x by R -/
def Reads {α : Type} (B : Nat) (v : Value) (l : List α) (R : Nat → Nat → Nat → α → Prop) : Prop :=
  ∃ A cap, v = .slice A l.length cap ∧ l.length ≤ 9223372036854775807 ∧ ∀ (i : Nat) (x : α), l[i]? = some x → ∃ b o, A = some ⟨b, o, none⟩ ∧ b < B ∧ R b o i x
theorem Reads.mono {α : Type} {B B' : Nat} {v : Value} {l : List α} {R R' : Nat → Nat → Nat → α → Prop} (h : Reads B v l R) (hB : B ≤ B') (hR : ∀ b o i x, b < B → l[i]? = some x → R b o i x → R' b o i x) : Reads B' v l R' := by
  obtain ⟨A, cap, hv, hl, hc⟩ := h
  refine ⟨A, cap, hv, hl, fun i x hx => ?_⟩
  obtain ⟨b, o, hA, hlt, h1⟩ := hc i x hx
  exact ⟨b, o, hA, by omega, hR b o i x hlt hx h1⟩


end Sl
end Go.Proofs.YtbadplbdgpbdaaaDoor

namespace Go.Proofs.YtbadplbdgpbdaaaDoor
open Go.RowKit
namespace Sl

/-- a []int -/
def IntsV (w : World) (B : Nat) (v : Value) (l : List Int) : Prop := Reads B v l fun b o i n => w.cell? ⟨b, o + i, none⟩ = some (.int .i64 n)
theorem IntsV.below {w w' : World} {B B' B'' : Nat} {v : Value} {l : List Int} (h : IntsV w B v l) (hb : Below B' w w') (hB : B ≤ B') (hB2 : B ≤ B'') : IntsV w' B'' v l :=
  Reads.mono h hB2 fun b o i n hlt _ h1 => (hb.cell (p := ⟨b, _, none⟩) (by simp; omega)).trans h1
/-- a [][]int -/
def Ints2V (w : World) (B : Nat) (v : Value) (l : List (List Int)) : Prop := Reads B v l fun b o i x => ∃ u, w.cell? ⟨b, o + i, none⟩ = some u ∧ IntsV w B u x
theorem Ints2V.below {w w' : World} {B B' B'' : Nat} {v : Value} {l : List (List Int)} (h : Ints2V w B v l) (hb : Below B' w w') (hB : B ≤ B') (hB2 : B ≤ B'') : Ints2V w' B'' v l :=
  Reads.mono h hB2 fun b o i n hlt _ h1 => by
    obtain ⟨u, hu, hi⟩ := h1
    exact ⟨u, (hb.cell (p := ⟨b, _, none⟩) (by simp; omega)).trans hu, hi.below hb hB hB2⟩
/-- a mask's words are words -/
def okW (f : Nat → Nat) : Prop := ∀ k, k < 23 → f k < 18446744073709551616
/-- a []Mask -/
def MasksV (w : World) (B : Nat) (v : Value) (l : List (Nat → Nat)) : Prop := Reads B v l fun b o i f => cellsAt w b (o + i * 23) 23 = some (Msk.maskA f) ∧ okW f
theorem MasksV.below {w w' : World} {B B' B'' : Nat} {v : Value} {l : List (Nat → Nat)} (h : MasksV w B v l) (hb : Below B' w w') (hB : B ≤ B') (hB2 : B ≤ B'') : MasksV w' B'' v l :=
  Reads.mono h hB2 fun b o i f hlt _ h1 => ⟨(cellsAt_congr fun j _ => hb.cell (p := ⟨b, _, none⟩) (by simp; omega)).trans h1.1, h1.2⟩
/-- a [][]Mask -/
def Masks2V (w : World) (B : Nat) (v : Value) (l : List (List (Nat → Nat))) : Prop := Reads B v l fun b o i x => ∃ u, w.cell? ⟨b, o + i, none⟩ = some u ∧ MasksV w B u x
theorem Masks2V.below {w w' : World} {B B' B'' : Nat} {v : Value} {l : List (List (Nat → Nat))} (h : Masks2V w B v l) (hb : Below B' w w') (hB : B ≤ B') (hB2 : B ≤ B'') : Masks2V w' B'' v l :=
  Reads.mono h hB2 fun b o i n hlt _ h1 => by
    obtain ⟨u, hu, hi⟩ := h1
    exact ⟨u, (hb.cell (p := ⟨b, _, none⟩) (by simp; omega)).trans hu, hi.below hb hB hB2⟩


end Sl
end Go.Proofs.YtbadplbdgpbdaaaDoor

namespace Go.Proofs.YtbadplbdgpbdaaaDoor
open Go.RowKit
namespace Sl

/-- the place of a number in a list, -1: there is none -/
def idx (l : List Int) (x : Int) : Int := match l.idxOf? x with | some i => i | none => -1
theorem idx_nonneg (l : List Int) (x : Int) : (0 ≤ idx l x) = (l.contains x = true) := by
  unfold idx
  cases h : l.idxOf? x with
  | none => rw [List.idxOf?_eq_none_iff] at h; simp [h]
  | some i =>
    have : x ∈ l := by
      by_cases hx : x ∈ l
      · exact hx
      · rw [List.idxOf?_eq_none_iff.2 hx] at h; cases h
    simp [this]
theorem idx_at {l : List Int} {x : Int} {j : Nat} (h : l[j]? = some x) (hn : ∀ i, i < j → l[i]? ≠ some x) : idx l x = j := by
  unfold idx
  have : l.idxOf? x = some j := by
    obtain ⟨hj, rfl⟩ := List.getElem?_eq_some_iff.1 h
    rw [List.idxOf?_eq_some_iff]
    exact ⟨hj, rfl, fun i hi e => hn i hi (by rw [List.getElem?_eq_getElem (by omega), e])⟩
  rw [this]
theorem idx_none {l : List Int} {x : Int} (hn : ∀ i, i < l.length → l[i]? ≠ some x) : idx l x = -1 := by
  unfold idx
  have : l.idxOf? x = none := by
    rw [List.idxOf?_eq_none_iff]
    intro h
    obtain ⟨i, hi, e⟩ := List.getElem_of_mem h
    exact hn i hi (by rw [List.getElem?_eq_getElem hi, e])
  rw [this]

set_option maxHeartbeats 1000000 in
theorem Index_any (v : Value) (l : List Int) (x : Int) (w : World) (B : Nat) (hl : IntsV w B v l) :
    Calls Tryd.prog 78 #[v, .int .i64 x] w fun e w' => e = .returned (.int .i64 (idx l x)) ∧ w = w' := by
  obtain ⟨A, cap, rfl, hlen, hc⟩ := hl
  replace hc := Lib.hid hc
  go_enter Tryd.func78, Tryd.ntmps78
  go_wp2
  go_loopg [8] l.length (fun n k wr => ∃ j : Nat, j ≤ l.length ∧ n = l.length - j ∧ k = .int .i64 j ∧ (∀ i, i < j → l[i]? ≠ some x) ∧ wr = w)
  case atStart => exact ⟨0, by omega, rfl, rfl, fun i hi => by omega, rfl⟩
  case round =>
    obtain ⟨j, hj, hn, rfl, hno, rfl⟩ := hrel
    replace hn := Lib.hid hn
    replace hno := Lib.hid hno
    by_cases hlt : j < l.length
    · obtain ⟨y, hy⟩ : ∃ y, l[j]? = some y := ⟨_, List.getElem?_eq_getElem hlt⟩
      obtain ⟨b, o, rfl, hblt, c0⟩ := hc.out j y hy
      replace hy := Lib.hid hy
      by_cases hxy : x = y
      · have g : (x == y) = true := by simpa using hxy
        have e := Lib.hid (idx_at (x := x) (by rw [hy.out, hxy]) hno.out)
        clear hxy
        go_wp2
        go_ret
        exact ⟨ret_int e.out.symm, rfl⟩
      · have g : (x == y) = false := by simpa using hxy
        have hno2 := Lib.hid (show ∀ i, i < j + 1 → l[i]? ≠ some x from fun i hi => by
          by_cases h : i = j
          · subst h; rw [hy.out]; intro e; exact hxy (Option.some.inj e).symm
          · exact hno.out i (by omega))
        clear hxy
        go_wp2
        go_roundg (l.length - (j + 1))
        case measure => rw [hn.out]; omega
        case rel => exact ⟨j + 1, by omega, rfl, by go_num, hno2.out, rfl⟩
    · obtain rfl : j = l.length := by omega
      have e := Lib.hid (idx_none hno.out)
      go_wp2
      go_ret
      exact ⟨ret_int e.out.symm, rfl⟩

set_option maxHeartbeats 1000000 in
theorem Contains_any (v : Value) (l : List Int) (x : Int) (w : World) (B : Nat) (hl : IntsV w B v l) :
    Calls Tryd.prog 37 #[v, .int .i64 x] w fun e w' => e = .returned (.bool (l.contains x)) ∧ w = w' := by
  have e : decide (0 ≤ idx l x) = l.contains x := by rw [Bool.eq_iff_iff]; simp only [decide_eq_true_eq]; rw [idx_nonneg]
  replace e := Lib.hid e
  go_enter Tryd.func37, Tryd.ntmps37
  go_wp2_with fail
  refine (Index_any _ l x _ B hl).mono ?_
  rintro e' w1 ⟨rfl, rfl⟩
  go_wp2
  go_ret
  exact ⟨ret_bool e.out, rfl⟩

end Sl
end Go.Proofs.YtbadplbdgpbdaaaDoor

namespace Go.Proofs.YtbadplbdgpbdaaaDoor
open Go.RowKit
namespace Sl

/-- a string's value -/
abbrev strV (s : List UInt8) : Value := .string ⟨s.toArray⟩
/-- a []string -/
def StrsV (w : World) (B : Nat) (v : Value) (l : List (List UInt8)) : Prop := Reads B v l fun b o i s => w.cell? ⟨b, o + i, none⟩ = some (strV s)
theorem StrsV.below {w w' : World} {B B' B'' : Nat} {v : Value} {l : List (List UInt8)} (h : StrsV w B v l) (hb : Below B' w w') (hB : B ≤ B') (hB2 : B ≤ B'') : StrsV w' B'' v l :=
  Reads.mono h hB2 fun b o i n hlt _ h1 => (hb.cell (p := ⟨b, _, none⟩) (by simp; omega)).trans h1

/-- the place of a thing in a list, -1: there is none -/
def place {α : Type} [BEq α] (l : List α) (x : α) : Int := match l.idxOf? x with | some i => i | none => -1
theorem place_nonneg {α : Type} [BEq α] [LawfulBEq α] (l : List α) (x : α) : (0 ≤ place l x) = (l.contains x = true) := by
  unfold place
  cases h : l.idxOf? x with
  | none => rw [List.idxOf?_eq_none_iff] at h; simp [h]
  | some i =>
    have : x ∈ l := by
      by_cases hx : x ∈ l
      · exact hx
      · rw [List.idxOf?_eq_none_iff.2 hx] at h; cases h
    simp [this]
theorem place_at {α : Type} [BEq α] [LawfulBEq α] {l : List α} {x : α} {j : Nat} (h : l[j]? = some x) (hn : ∀ i, i < j → l[i]? ≠ some x) : place l x = j := by
  unfold place
  have : l.idxOf? x = some j := by
    obtain ⟨hj, rfl⟩ := List.getElem?_eq_some_iff.1 h
    rw [List.idxOf?_eq_some_iff]
    exact ⟨hj, rfl, fun i hi e => hn i hi (by rw [List.getElem?_eq_getElem (by omega), e])⟩
  rw [this]
theorem place_none {α : Type} [BEq α] [LawfulBEq α] {l : List α} {x : α} (hn : ∀ i, i < l.length → l[i]? ≠ some x) : place l x = -1 := by
  unfold place
  have : l.idxOf? x = none := by
    rw [List.idxOf?_eq_none_iff]
    intro hx
    obtain ⟨i, hi, e⟩ := List.getElem_of_mem hx
    exact hn i hi (by rw [List.getElem?_eq_getElem hi, e])
  rw [this]

set_option maxHeartbeats 1000000 in
theorem IndexS_any (v : Value) (l : List (List UInt8)) (x : List UInt8) (w : World) (B : Nat) (hl : StrsV w B v l) :
    Calls Tryd.prog 113 #[v, strV x] w fun e w' => e = .returned (.int .i64 (place l x)) ∧ w = w' := by
  obtain ⟨A, cap, rfl, hlen, hc⟩ := hl
  replace hc := Lib.hid hc
  go_enter Tryd.func113, Tryd.ntmps113
  go_wp2
  go_loopg [8] l.length (fun n k wr => ∃ j : Nat, j ≤ l.length ∧ n = l.length - j ∧ k = .int .i64 j ∧ (∀ i, i < j → l[i]? ≠ some x) ∧ wr = w)
  case atStart => exact ⟨0, by omega, rfl, rfl, fun i hi => by omega, rfl⟩
  case round =>
    obtain ⟨j, hj, hn, rfl, hno, rfl⟩ := hrel
    replace hn := Lib.hid hn
    replace hno := Lib.hid hno
    by_cases hlt : j < l.length
    · obtain ⟨y, hy⟩ : ∃ y, l[j]? = some y := ⟨_, List.getElem?_eq_getElem hlt⟩
      obtain ⟨b, o, rfl, hblt, c0⟩ := hc.out j y hy
      replace hy := Lib.hid hy
      by_cases hxy : x = y
      · have e := Lib.hid (place_at (x := x) (by rw [hy.out, hxy]) hno.out)
        subst hxy
        go_wp2
        go_ret
        exact ⟨ret_int e.out.symm, rfl⟩
      · have g : (x == y) = false := by simpa using hxy
        have hno2 := Lib.hid (show ∀ i, i < j + 1 → l[i]? ≠ some x from fun i hi => by
          by_cases h : i = j
          · subst h; rw [hy.out]; intro e; exact hxy (Option.some.inj e).symm
          · exact hno.out i (by omega))
        clear hxy
        go_wp2
        go_roundg (l.length - (j + 1))
        case measure => rw [hn.out]; omega
        case rel => exact ⟨j + 1, by omega, rfl, by go_num, hno2.out, rfl⟩
    · obtain rfl : j = l.length := by omega
      have e := Lib.hid (place_none hno.out)
      go_wp2
      go_ret
      exact ⟨ret_int e.out.symm, rfl⟩

set_option maxHeartbeats 1000000 in
theorem ContainsS_any (v : Value) (l : List (List UInt8)) (x : List UInt8) (w : World) (B : Nat) (hl : StrsV w B v l) :
    Calls Tryd.prog 101 #[v, strV x] w fun e w' => e = .returned (.bool (l.contains x)) ∧ w = w' := by
  have e : decide (0 ≤ place l x) = l.contains x := by rw [Bool.eq_iff_iff]; simp only [decide_eq_true_eq]; rw [place_nonneg]
  replace e := Lib.hid e
  go_enter Tryd.func101, Tryd.ntmps101
  go_wp2_with fail
  refine (IndexS_any _ l x _ B hl).mono ?_
  rintro e' w1 ⟨rfl, rfl⟩
  go_wp2
  go_ret
  exact ⟨ret_bool e.out, rfl⟩

end Sl
end Go.Proofs.YtbadplbdgpbdaaaDoor
