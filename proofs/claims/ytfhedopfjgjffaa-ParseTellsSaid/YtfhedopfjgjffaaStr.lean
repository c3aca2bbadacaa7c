/- Slices of strings; the walks of slices.Index, slices.Contains at []string. -/
import Derived.Test.YtfhedopfjgjffaaRows
import Derived.Test.YtfhedopfjgjffaaRd
namespace Go.Proofs.Ytfhedopfjgjffaa
open Go.RowKit
namespace Sl

/-- a string's value -/
abbrev strV (s : List UInt8) : Value := .string ⟨s.toArray⟩
/-- a []string -/
def StrsV (w : World) (B : Nat) (v : Value) (l : List (List UInt8)) : Prop := Reads B v l fun b o i s => w.cell? ⟨b, o + i, none⟩ = some (strV s)
theorem StrsV.below {w w' : World} {B B' B'' : Nat} {v : Value} {l : List (List UInt8)} (h : StrsV w B v l) (hb : Below B' w w') (hB : B ≤ B') (hB2 : B ≤ B'') : StrsV w' B'' v l :=
  Reads.mono h hB2 fun b o i n hlt _ h1 => (hb.cell (p := ⟨b, _, none⟩) (by simp; omega)).trans h1

/-- the place of a thing in a list, -1: there is none -/
def place {α : Type} [BEq α] (l : List α) (x : α) : Int := match l.idxOf? x with | some i => i | none => -1
theorem place_nonneg {α : Type} [BEq α] [LawfulBEq α] (l : List α) (x : α) : (0 ≤ place l x) = (l.contains x = true) := by
  unfold place
  cases h : l.idxOf? x with
  | none => rw [List.idxOf?_eq_none_iff] at h; simp [h]
  | some i =>
    have : x ∈ l := by
      by_cases hx : x ∈ l
      · exact hx
      · rw [List.idxOf?_eq_none_iff.2 hx] at h; cases h
    simp [this]
theorem place_at {α : Type} [BEq α] [LawfulBEq α] {l : List α} {x : α} {j : Nat} (h : l[j]? = some x) (hn : ∀ i, i < j → l[i]? ≠ some x) : place l x = j := by
  unfold place
  have : l.idxOf? x = some j := by
    obtain ⟨hj, rfl⟩ := List.getElem?_eq_some_iff.1 h
    rw [List.idxOf?_eq_some_iff]
    exact ⟨hj, rfl, fun i hi e => hn i hi (by rw [List.getElem?_eq_getElem (by omega), e])⟩
  rw [this]
theorem place_none {α : Type} [BEq α] [LawfulBEq α] {l : List α} {x : α} (hn : ∀ i, i < l.length → l[i]? ≠ some x) : place l x = -1 := by
  unfold place
  have : l.idxOf? x = none := by
    rw [List.idxOf?_eq_none_iff]
    intro hx
    obtain ⟨i, hi, e⟩ := List.getElem_of_mem hx
    exact hn i hi (by rw [List.getElem?_eq_getElem hi, e])
  rw [this]

set_option maxHeartbeats 1000000 in
theorem IndexS_any (v : Value) (l : List (List UInt8)) (x : List UInt8) (w : World) (B : Nat) (hl : StrsV w B v l) :
    Calls Try.prog 117 #[v, strV x] w fun e w' => e = .returned (.int .i64 (place l x)) ∧ w = w' := by
  obtain ⟨A, cap, rfl, hlen, hc⟩ := hl
  replace hc := Lib.hid hc
  go_enter Try.func117, Try.ntmps117
  go_wp2
  go_loopg [8] l.length (fun n k wr => ∃ j : Nat, j ≤ l.length ∧ n = l.length - j ∧ k = .int .i64 j ∧ (∀ i, i < j → l[i]? ≠ some x) ∧ wr = w)
  case atStart => exact ⟨0, by omega, rfl, rfl, fun i hi => by omega, rfl⟩
  case round =>
    obtain ⟨j, hj, hn, rfl, hno, rfl⟩ := hrel
    replace hn := Lib.hid hn
    replace hno := Lib.hid hno
    by_cases hlt : j < l.length
    · obtain ⟨y, hy⟩ : ∃ y, l[j]? = some y := ⟨_, List.getElem?_eq_getElem hlt⟩
      obtain ⟨b, o, rfl, hblt, c0⟩ := hc.out j y hy
      replace hy := Lib.hid hy
      by_cases hxy : x = y
      · have e := Lib.hid (place_at (x := x) (by rw [hy.out, hxy]) hno.out)
        subst hxy
        go_wp2
        go_ret
        exact ⟨ret_int e.out.symm, rfl⟩
      · have g : (x == y) = false := by simpa using hxy
        have hno2 := Lib.hid (show ∀ i, i < j + 1 → l[i]? ≠ some x from fun i hi => by
          by_cases h : i = j
          · subst h; rw [hy.out]; intro e; exact hxy (Option.some.inj e).symm
          · exact hno.out i (by omega))
        clear hxy
        go_wp2
        go_roundg (l.length - (j + 1))
        case measure => rw [hn.out]; omega
        case rel => exact ⟨j + 1, by omega, rfl, by go_num, hno2.out, rfl⟩
    · obtain rfl : j = l.length := by omega
      have e := Lib.hid (place_none hno.out)
      go_wp2
      go_ret
      exact ⟨ret_int e.out.symm, rfl⟩

set_option maxHeartbeats 1000000 in
theorem ContainsS_any (v : Value) (l : List (List UInt8)) (x : List UInt8) (w : World) (B : Nat) (hl : StrsV w B v l) :
    Calls Try.prog 84 #[v, strV x] w fun e w' => e = .returned (.bool (l.contains x)) ∧ w = w' := by
  have e : decide (0 ≤ place l x) = l.contains x := by rw [Bool.eq_iff_iff]; simp only [decide_eq_true_eq]; rw [place_nonneg]
  replace e := Lib.hid e
  go_enter Try.func84, Try.ntmps84
  go_wp2_with fail
  refine (IndexS_any _ l x _ B hl).mono ?_
  rintro e' w1 ⟨rfl, rfl⟩
  go_wp2
  go_ret
  exact ⟨ret_bool e.out, rfl⟩

end Sl
end Go.Proofs.Ytfhedopfjgjffaa
