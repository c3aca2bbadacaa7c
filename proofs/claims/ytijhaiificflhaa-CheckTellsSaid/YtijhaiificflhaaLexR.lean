/- The walks of the reference's small functions on texts: Word, digit, low, digits, sign. -/
import Derived.Test.YtijhaiificflhaaLexV
import Derived.Laws.IdiomStrings
namespace Go.Proofs.Ytijhaiificflhaa
open Go.RowKit
namespace Lx
open Sl (strV)

theorem rlow (n : Nat) (w : World) : Calls Try.prog 70 #[.int .u8 n] w fun e w' => e = .returned (.bool (small n)) ∧ w = w' := by
  have hc : (decide (97 ≤ (n : Int)) = false ∧ small n = false) ∨ (decide (97 ≤ (n : Int)) = true ∧ decide ((n : Int) ≤ 122) = false ∧ small n = false) ∨ (decide (97 ≤ (n : Int)) = true ∧ decide ((n : Int) ≤ 122) = true ∧ small n = true) := by
    unfold small
    by_cases h1 : 97 ≤ n
    · by_cases h2 : n ≤ 122
      · right; right; simp [h1, h2]; omega
      · right; left; simp [h1, h2]; omega
    · left; simp [h1]; omega
  rcases hc with ⟨g1, e⟩ | ⟨g1, g2, e⟩ | ⟨g1, g2, e⟩
  all_goals
    rw [e]
    clear e
    go_enter Try.func70, Try.ntmps70
    go_wp2
    go_ret
    exact ⟨rfl, rfl⟩
theorem rdigit (n : Nat) (w : World) : Calls Try.prog 71 #[.int .u8 n] w fun e w' => e = .returned (.bool (digit n)) ∧ w = w' := by
  have hc : (decide (48 ≤ (n : Int)) = false ∧ digit n = false) ∨ (decide (48 ≤ (n : Int)) = true ∧ decide ((n : Int) ≤ 57) = false ∧ digit n = false) ∨ (decide (48 ≤ (n : Int)) = true ∧ decide ((n : Int) ≤ 57) = true ∧ digit n = true) := by
    unfold digit
    by_cases h1 : 48 ≤ n
    · by_cases h2 : n ≤ 57
      · right; right; simp [h1, h2]; omega
      · right; left; simp [h1, h2]; omega
    · left; simp [h1]; omega
  rcases hc with ⟨g1, e⟩ | ⟨g1, g2, e⟩ | ⟨g1, g2, e⟩
  all_goals
    rw [e]
    clear e
    go_enter Try.func71, Try.ntmps71
    go_wp2
    go_ret
    exact ⟨rfl, rfl⟩

/-- the words, as the reference has them -/
def wordsR : List (List UInt8) := [[114, 117, 108, 101], [110, 101, 118, 101, 114], [97, 108, 119, 97, 121, 115], [119, 101, 101, 107, 108, 121], [100, 97, 116, 101, 115], [115, 104, 105, 102, 116], [109, 111, 110], [116, 117, 101], [119, 101, 100], [116, 104, 117], [102, 114, 105], [115, 97, 116], [115, 117, 110]]
theorem wordsR_eq (s : List UInt8) : wordsR.contains s = wordsL.contains s := by
  rw [Bool.eq_iff_iff, List.contains_iff_mem, List.contains_iff_mem]
  simp only [wordsR, wordsL, List.mem_cons, List.not_mem_nil, or_false]
  constructor <;> (rintro (h | h | h | h | h | h | h | h | h | h | h | h | h) <;> simp [h])
def wordsRA : Array Value := #[strV [114, 117, 108, 101], strV [110, 101, 118, 101, 114], strV [97, 108, 119, 97, 121, 115], strV [119, 101, 101, 107, 108, 121], strV [100, 97, 116, 101, 115], strV [115, 104, 105, 102, 116], strV [109, 111, 110], strV [116, 117, 101], strV [119, 101, 100], strV [116, 104, 117], strV [102, 114, 105], strV [115, 97, 116], strV [115, 117, 110]]
theorem wordsR_get (i : Nat) : wordsRA[i]? = (wordsR[i]?).map strV := by
  rcases i with _ | _ | _ | _ | _ | _ | _ | _ | _ | _ | _ | _ | _ | i <;> first | rfl | simp [wordsRA, wordsR]

set_option maxHeartbeats 1000000 in
theorem Word_any (s : List UInt8) (w : World) : Calls Try.prog 72 #[strV s] w fun e w' => e = .returned (.bool (wordsL.contains s)) ∧ Below w.heap.size w w' := by
  rw [← wordsR_eq]
  go_enter Try.func72, Try.ntmps72
  go_wp2
  go_loopg [7] 13 (fun n k wr => ∃ j : Nat, j ≤ 13 ∧ n = 13 - j ∧ k = .int .i64 j ∧ (∀ i, i < j → wordsR[i]? ≠ some s) ∧ Below w.heap.size w wr ∧ Blk wr w.heap.size 9 wordsRA)
  case atStart => exact ⟨0, by omega, rfl, rfl, fun i hi => by omega, (by repeat (first | exact Below.refl _ _ | assumption | refine Below.n _ ?_ (by first | omega | (simp; done) | (simp; omega)) | refine Below.alloc ?_ (by first | omega | (simp; done) | (simp; omega)) _ | refine Below.setCell ?_ (by first | omega | (simp; done) | (simp; omega)) _ | refine Below.drew ?_ | refine Below.setRow ?_ (by first | omega | (simp; done) | (simp; omega)) _ | refine Below.drewN ?_ _)), Blk.new _ _ _⟩
  case round =>
    obtain ⟨j, hj, hn, rfl, hno, hb, B⟩ := hrel
    replace hn := Lib.hid hn
    replace hno := Lib.hid hno
    by_cases hlt : j < 13
    · obtain ⟨y, hy⟩ : ∃ y, wordsR[j]? = some y := ⟨_, List.getElem?_eq_getElem hlt⟩
      have c0 : wr.cell? ⟨w.heap.size, j, none⟩ = some (strV y) := (B.cell j).trans (by rw [wordsR_get, hy]; rfl)
      replace hy := Lib.hid hy
      by_cases hxy : s = y
      · have e : wordsR.contains s = true := by rw [List.contains_iff_mem, hxy]; exact List.mem_of_getElem? hy.out
        replace e := Lib.hid e
        clear hy hno
        subst hxy
        go_wp2
        go_ret
        exact ⟨ret_bool e.out.symm, hb⟩
      · have g : (y == s) = false := by simpa using fun h => hxy h.symm
        have hno2 := Lib.hid (show ∀ i, i < j + 1 → wordsR[i]? ≠ some s from fun i hi => by
          by_cases h : i = j
          · subst h; rw [hy.out]; intro e; exact hxy (Option.some.inj e).symm
          · exact hno.out i (by omega))
        clear hxy
        go_wp2
        go_roundg (13 - (j + 1))
        case measure => rw [hn.out]; omega
        case rel => exact ⟨j + 1, by omega, rfl, by go_num, hno2.out, hb, B⟩
    · obtain rfl : j = 13 := by omega
      have e : wordsR.contains s = false := by
        cases h : wordsR.contains s
        · rfl
        · rw [List.contains_iff_mem] at h
          obtain ⟨i, hi, e⟩ := List.getElem_of_mem h
          exact absurd (by rw [List.getElem?_eq_getElem hi, e]) (hno.out i hi)
      replace e := Lib.hid e
      go_wp2
      go_ret
      exact ⟨ret_bool e.out.symm, hb⟩

/-- []byte(s): how much room, and the world behind it -/
def byC (W : World) (r : List UInt8) : Nat := grownCap W r.length 0 5
def byW (W : World) (r : List UInt8) : World := W.drew.alloc (.cells (bytesRow ⟨r.toArray⟩ (byC W r)) 5 ((bytesRow ⟨r.toArray⟩ (byC W r)).size, (bytesRow ⟨r.toArray⟩ (byC W r)).size + 1))
theorem byW_run (W : World) (r : List UInt8) : (convert 9 99 (.string ⟨r.toArray⟩)).run Try.prog W = .ok (.slice (some ⟨W.heap.size, 0, none⟩) r.length (byC W r)) (byW W r) :=
  run_bytes_of_string W 9 99 5 ⟨r.toArray⟩ Try.underlying9 Try.underlying99 Try.underlying5
theorem byW_below (W : World) (r : List UInt8) : Below W.heap.size W (byW W r) := ((Below.refl _ _).drew).alloc (Nat.le_refl _) _
theorem byW_cell (W : World) {r : List UInt8} {j : Nat} {c : UInt8} (h : r[j]? = some c) : (byW W r).cell? ⟨W.heap.size, j, none⟩ = some (.int .u8 (c.toNat : Int)) := by
  unfold byW
  obtain ⟨hj, hc⟩ := List.getElem?_eq_some_iff.1 h
  rw [show W.heap.size = W.drew.heap.size from rfl, World.cell?_alloc_mark, bytesRow_at _ _ _ (by simpa using hj)]
  rw [← hc]
  rfl

/-- digits at a place -/
def digAt (s : List UInt8) (a n : Nat) : Int × Bool := if a + n ≤ s.length then (if ((s.take (a + n)).drop a).all (fun c => digit c.toNat) = true then (num ((s.take (a + n)).drop a), true) else (0, false)) else (0, false)

theorem dig_ret {x : Int × Bool} {n : Int} {b : Bool} (h : x = (n, b)) : Ending.returned (.tuple #[.int .i64 n, .bool b]) = .returned (.tuple #[.int .i64 x.1, .bool x.2]) := by rw [h]


























































































/-- is a sign there? -/
def signAt (s : List UInt8) (a : Nat) (c : UInt8) : Bool := decide (s[a]? = some c)


























end Lx
end Go.Proofs.Ytijhaiificflhaa
