/- The walks of the reference's small functions on texts: Word, digit, low, digits, sign. The walk of the reference's Named. -/
import Derived.Test.YtfhedopfjgjffaaLexN
import Derived.Laws.IdiomStrings
import Derived.Laws.Cover1
namespace Go.Proofs.Ytfhedopfjgjffaa
open Go.RowKit
namespace Lx
open Sl (strV)

theorem rlow (n : Nat) (w : World) : Calls Try.prog 103 #[.int .u8 n] w fun e w' => e = .returned (.bool (small n)) ∧ w = w' := by
  have hc : (decide (97 ≤ (n : Int)) = false ∧ small n = false) ∨ (decide (97 ≤ (n : Int)) = true ∧ decide ((n : Int) ≤ 122) = false ∧ small n = false) ∨ (decide (97 ≤ (n : Int)) = true ∧ decide ((n : Int) ≤ 122) = true ∧ small n = true) := by
    unfold small
    by_cases h1 : 97 ≤ n
    · by_cases h2 : n ≤ 122
      · right; right; simp [h1, h2]; omega
      · right; left; simp [h1, h2]; omega
    · left; simp [h1]; omega
  rcases hc with ⟨g1, e⟩ | ⟨g1, g2, e⟩ | ⟨g1, g2, e⟩
  all_goals
    rw [e]
    clear e
    go_enter Try.func103, Try.ntmps103
    go_wp2
    go_ret
    exact ⟨rfl, rfl⟩
theorem rdigit (n : Nat) (w : World) : Calls Try.prog 102 #[.int .u8 n] w fun e w' => e = .returned (.bool (digit n)) ∧ w = w' := by
  have hc : (decide (48 ≤ (n : Int)) = false ∧ digit n = false) ∨ (decide (48 ≤ (n : Int)) = true ∧ decide ((n : Int) ≤ 57) = false ∧ digit n = false) ∨ (decide (48 ≤ (n : Int)) = true ∧ decide ((n : Int) ≤ 57) = true ∧ digit n = true) := by
    unfold digit
    by_cases h1 : 48 ≤ n
    · by_cases h2 : n ≤ 57
      · right; right; simp [h1, h2]; omega
      · right; left; simp [h1, h2]; omega
    · left; simp [h1]; omega
  rcases hc with ⟨g1, e⟩ | ⟨g1, g2, e⟩ | ⟨g1, g2, e⟩
  all_goals
    rw [e]
    clear e
    go_enter Try.func102, Try.ntmps102
    go_wp2
    go_ret
    exact ⟨rfl, rfl⟩

/-- the words, as the reference has them -/
def wordsR : List (List UInt8) := [[114, 117, 108, 101], [110, 101, 118, 101, 114], [97, 108, 119, 97, 121, 115], [119, 101, 101, 107, 108, 121], [100, 97, 116, 101, 115], [115, 104, 105, 102, 116], [109, 111, 110], [116, 117, 101], [119, 101, 100], [116, 104, 117], [102, 114, 105], [115, 97, 116], [115, 117, 110]]
theorem wordsR_eq (s : List UInt8) : wordsR.contains s = wordsL.contains s := by
  rw [Bool.eq_iff_iff, List.contains_iff_mem, List.contains_iff_mem]
  simp only [wordsR, wordsL, List.mem_cons, List.not_mem_nil, or_false]
  constructor <;> (rintro (h | h | h | h | h | h | h | h | h | h | h | h | h) <;> simp [h])
def wordsRA : Array Value := #[strV [114, 117, 108, 101], strV [110, 101, 118, 101, 114], strV [97, 108, 119, 97, 121, 115], strV [119, 101, 101, 107, 108, 121], strV [100, 97, 116, 101, 115], strV [115, 104, 105, 102, 116], strV [109, 111, 110], strV [116, 117, 101], strV [119, 101, 100], strV [116, 104, 117], strV [102, 114, 105], strV [115, 97, 116], strV [115, 117, 110]]
theorem wordsR_get (i : Nat) : wordsRA[i]? = (wordsR[i]?).map strV := by
  rcases i with _ | _ | _ | _ | _ | _ | _ | _ | _ | _ | _ | _ | _ | i <;> first | rfl | simp [wordsRA, wordsR]

set_option maxHeartbeats 1000000 in
theorem Word_any (s : List UInt8) (w : World) : Calls Try.prog 104 #[strV s] w fun e w' => e = .returned (.bool (wordsL.contains s)) ∧ Below w.heap.size w w' := by
  rw [← wordsR_eq]
  go_enter Try.func104, Try.ntmps104
  go_wp2
  go_loopg [7] 13 (fun n k wr => ∃ j : Nat, j ≤ 13 ∧ n = 13 - j ∧ k = .int .i64 j ∧ (∀ i, i < j → wordsR[i]? ≠ some s) ∧ Below w.heap.size w wr ∧ Blk wr w.heap.size 9 wordsRA)
  case atStart => exact ⟨0, by omega, rfl, rfl, fun i hi => by omega, (by repeat (first | exact Below.refl _ _ | assumption | refine Below.n _ ?_ (by first | omega | (simp; done) | (simp; omega)) | refine Below.alloc ?_ (by first | omega | (simp; done) | (simp; omega)) _ | refine Below.setCell ?_ (by first | omega | (simp; done) | (simp; omega)) _ | refine Below.drew ?_ | refine Below.setRow ?_ (by first | omega | (simp; done) | (simp; omega)) _ | refine Below.drewN ?_ _)), Blk.new _ _ _⟩
  case round =>
    obtain ⟨j, hj, hn, rfl, hno, hb, B⟩ := hrel
    replace hn := Lib.hid hn
    replace hno := Lib.hid hno
    by_cases hlt : j < 13
    · obtain ⟨y, hy⟩ : ∃ y, wordsR[j]? = some y := ⟨_, List.getElem?_eq_getElem hlt⟩
      have c0 : wr.cell? ⟨w.heap.size, j, none⟩ = some (strV y) := (B.cell j).trans (by rw [wordsR_get, hy]; rfl)
      replace hy := Lib.hid hy
      by_cases hxy : s = y
      · have e : wordsR.contains s = true := by rw [List.contains_iff_mem, hxy]; exact List.mem_of_getElem? hy.out
        replace e := Lib.hid e
        clear hy hno
        subst hxy
        go_wp2
        go_ret
        exact ⟨ret_bool e.out.symm, hb⟩
      · have g : (y == s) = false := by simpa using fun h => hxy h.symm
        have hno2 := Lib.hid (show ∀ i, i < j + 1 → wordsR[i]? ≠ some s from fun i hi => by
          by_cases h : i = j
          · subst h; rw [hy.out]; intro e; exact hxy (Option.some.inj e).symm
          · exact hno.out i (by omega))
        clear hxy
        go_wp2
        go_roundg (13 - (j + 1))
        case measure => rw [hn.out]; omega
        case rel => exact ⟨j + 1, by omega, rfl, by go_num, hno2.out, hb, B⟩
    · obtain rfl : j = 13 := by omega
      have e : wordsR.contains s = false := by
        cases h : wordsR.contains s
        · rfl
        · rw [List.contains_iff_mem] at h
          obtain ⟨i, hi, e⟩ := List.getElem_of_mem h
          exact absurd (by rw [List.getElem?_eq_getElem hi, e]) (hno.out i hi)
      replace e := Lib.hid e
      go_wp2
      go_ret
      exact ⟨ret_bool e.out.symm, hb⟩

/-- []byte(s): how much room, and the world behind it -/
def byC (W : World) (r : List UInt8) : Nat := grownCap W r.length 0 5
def byW (W : World) (r : List UInt8) : World := W.drew.alloc (.cells (bytesRow ⟨r.toArray⟩ (byC W r)) 5 ((bytesRow ⟨r.toArray⟩ (byC W r)).size, (bytesRow ⟨r.toArray⟩ (byC W r)).size + 1))
theorem byW_run (W : World) (r : List UInt8) : (convert 9 145 (.string ⟨r.toArray⟩)).run Try.prog W = .ok (.slice (some ⟨W.heap.size, 0, none⟩) r.length (byC W r)) (byW W r) :=
  run_bytes_of_string W 9 145 5 ⟨r.toArray⟩ Try.underlying9 Try.underlying145 Try.underlying5
theorem byW_below (W : World) (r : List UInt8) : Below W.heap.size W (byW W r) := ((Below.refl _ _).drew).alloc (Nat.le_refl _) _
theorem byW_cell (W : World) {r : List UInt8} {j : Nat} {c : UInt8} (h : r[j]? = some c) : (byW W r).cell? ⟨W.heap.size, j, none⟩ = some (.int .u8 (c.toNat : Int)) := by
  unfold byW
  obtain ⟨hj, hc⟩ := List.getElem?_eq_some_iff.1 h
  rw [show W.heap.size = W.drew.heap.size from rfl, World.cell?_alloc_mark, bytesRow_at _ _ _ (by simpa using hj)]
  rw [← hc]
  rfl

/-- digits at a place -/
def digAt (s : List UInt8) (a n : Nat) : Int × Bool := if a + n ≤ s.length then (if ((s.take (a + n)).drop a).all (fun c => digit c.toNat) = true then (num ((s.take (a + n)).drop a), true) else (0, false)) else (0, false)

theorem dig_ret {x : Int × Bool} {n : Int} {b : Bool} (h : x = (n, b)) : Ending.returned (.tuple #[.int .i64 n, .bool b]) = .returned (.tuple #[.int .i64 x.1, .bool x.2]) := by rw [h]

set_option maxHeartbeats 1000000 in
theorem digits_any (s : List UInt8) (a n : Nat) (w : World) (hl : s.length ≤ 6000) (hn : n ≤ 6) (ha : a ≤ 7000) :
    Calls Try.prog 99 #[strV s, .int .i64 a, .int .i64 n] w fun e w' => e = .returned (.tuple #[.int .i64 (digAt s a n).1, .bool (digAt s a n).2]) ∧ Below w.heap.size w w' := by
  by_cases hin : a + n ≤ s.length
  · have g1 : decide ((s.length : Int) < (a : Int) + (n : Int)) = false := by simp; omega
    obtain ⟨r, hr⟩ : ∃ r, (s.take (a + n)).drop a = r := ⟨_, rfl⟩
    have hrl : r.length = n := by rw [← hr, List.length_drop, List.length_take]; omega
    have e : digAt s a n = if r.all (fun c => digit c.toNat) = true then (num r, true) else (0, false) := by unfold digAt; rw [if_pos hin, hr]
    replace e := Lib.hid e
    replace hr := Lib.hid hr
    have kc := byW_run
    go_enter Try.func99, Try.ntmps99
    have hcell := Lib.hid (fun (j : Nat) (c : UInt8) (h : r[j]? = some c) => byW_cell w h)
    have hbw := byW_below w r
    go_wp2_with fail
    rw [hr.out]
    generalize byW w r = W at *
    clear kc g1
    go_loopg [8, 25] n (fun q x k wr => ∃ (j : Nat) (z : Int), j ≤ n ∧ q = n - j ∧ k = .int .i64 j ∧ x = .int .i64 z ∧ Hid (z = num (r.take j)) ∧ 0 ≤ z ∧ z ≤ 1000000 ∧ Hid (∀ c ∈ r.take j, digit c.toNat = true) ∧ wr = W)
    case atStart => exact ⟨0, 0, by omega, rfl, rfl, rfl, Lib.hid rfl, by omega, by omega, Lib.hid (by simp), rfl⟩
    case round =>
      obtain ⟨j, z, hj, hq, rfl, rfl, hz, hz0, hz1, hall, rfl⟩ := hrel
      replace hq := Lib.hid hq
      by_cases hlt : j < n
      · obtain ⟨c, hc⟩ : ∃ c, r[j]? = some c := ⟨_, List.getElem?_eq_getElem (by omega)⟩
        have k0 := hcell.out j c hc
        have cd := fun W => rdigit c.toNat W
        have hltI : (j : Int) < n := by omega
        cases hdc : digit c.toNat with
        | true =>
          rw [hdc] at cd
          replace cd := Lib.hid cd
          have hd1 := digit_iff.1 hdc
          have hall2 : ∀ c ∈ r.take (j + 1), digit c.toNat = true := fun x hx => by
            rw [List.take_add_one, hc] at hx
            simp only [Option.toList_some, List.mem_append, List.mem_singleton] at hx
            rcases hx with hx | rfl
            · exact hall.out x hx
            · exact hdc
          obtain ⟨h1, h2⟩ := num_bd (s := r.take (j + 1)) hall2 (j + 1) (by rw [List.length_take]; omega)
          rw [List.take_take, Nat.min_self, num_take hc, ← hz.out] at h1 h2
          have h3 : 10 * z + ((c.toNat : Int) - 48) ≤ 1000000 := by
            have hj6 : j = 0 ∨ j = 1 ∨ j = 2 ∨ j = 3 ∨ j = 4 ∨ j = 5 := by omega
            rcases hj6 with rfl | rfl | rfl | rfl | rfl | rfl <;> omega
          have d1 : 48 ≤ (c.toNat : Int) := by omega
          have d2 : (c.toNat : Int) ≤ 57 := by omega
          have hx3 := Lib.hid (show 10 * z + ((c.toNat : Int) - 48) = num (r.take (j + 1)) by rw [num_take hc, hz.out])
          replace hall2 := Lib.hid hall2
          clear h2 hc hdc hd1
          go_wp2_with fail
          refine (cd.out _).mono ?_
          rintro e1 w1 ⟨rfl, rfl⟩
          go_wp2
          go_roundg (n - (j + 1))
          case measure => rw [hq.out]; omega
          case rel => exact ⟨j + 1, 10 * z + ((c.toNat : Int) - 48), by omega, rfl, by go_num, rfl, hx3, h1, h3, hall2, rfl⟩
        | false =>
          rw [hdc] at cd
          replace cd := Lib.hid cd
          have hno : r.all (fun c => digit c.toNat) = false := by
            rw [List.all_eq_false]
            exact ⟨c, List.mem_of_getElem? hc, by rw [hdc]; simp⟩
          have e2 := Lib.hid (e.out.trans (if_neg (by rw [hno]; simp)))
          clear hc hdc hno
          go_wp2_with fail
          refine (cd.out _).mono ?_
          rintro e1 w1 ⟨rfl, rfl⟩
          go_wp2
          go_ret2
          exact ⟨dig_ret e2.out, hbw⟩
      · obtain rfl : j = n := by omega
        have hall2 := hall.out
        have hz2 := hz.out
        rw [← hrl, List.take_length] at hall2 hz2
        have e2 := Lib.hid (e.out.trans (if_pos (List.all_eq_true.2 hall2)))
        have e3 := Lib.hid (hz2 ▸ e2.out : digAt s a j = (z, true))
        clear hall2 hz2
        go_wp2
        go_ret2
        exact ⟨dig_ret e3.out, hbw⟩
  · have g1 : decide ((s.length : Int) < (a : Int) + (n : Int)) = true := by simp; omega
    have e : digAt s a n = (0, false) := by unfold digAt; rw [if_neg hin]
    rw [e]
    clear e hin
    go_enter Try.func99, Try.ntmps99
    go_wp2
    go_ret2
    exact ⟨rfl, Below.refl _ _⟩

/-- is a sign there? -/
def signAt (s : List UInt8) (a : Nat) (c : UInt8) : Bool := decide (s[a]? = some c)

set_option maxHeartbeats 400000 in
theorem sign_any (s : List UInt8) (a : Nat) (c : UInt8) (w : World) :
    Calls Try.prog 100 #[strV s, .int .i64 a, .int .u8 (c.toNat : Int)] w fun e w' => e = .returned (.bool (signAt s a c)) ∧ w = w' := by
  by_cases h : a < s.length
  · obtain ⟨x, hx⟩ : ∃ x, s[a]? = some x := ⟨_, List.getElem?_eq_getElem h⟩
    have hbx := bAt_of hx
    have hI : (a : Int) < s.length := by omega
    have e : signAt s a c = (x == c) := by unfold signAt; rw [hx, Bool.eq_iff_iff]; simp
    have eb := beqI (c := x) (x := c)
    rw [e]
    clear e hx
    go_enter Try.func100, Try.ntmps100
    go_wp2
    go_ret
    exact ⟨rfl, rfl⟩
  · have g : decide ((a : Int) < s.length) = false := by simp; omega
    have e : signAt s a c = false := by unfold signAt; rw [List.getElem?_eq_none (by omega)]; rfl
    rw [e]
    clear e
    go_enter Try.func100, Try.ntmps100
    go_wp2
    go_ret
    exact ⟨rfl, rfl⟩


end Lx
end Go.Proofs.Ytfhedopfjgjffaa

namespace Go.Proofs.Ytfhedopfjgjffaa
open Go.RowKit
namespace Lx
open Sl (strV)

theorem isName_false {s : List UInt8} {j : Nat} {c : UInt8} (hc : s[j]? = some c) (hs : small c.toNat = false) (h : j = 0 ∨ nameC c.toNat = false) : isName s = false := by
  cases s with
  | nil => simp at hc
  | cons x xs =>
    unfold isName
    simp only [Bool.and_eq_false_iff]
    rcases h with rfl | h
    · simp at hc; subst hc; exact .inr (.inl hs)
    · refine .inr (.inr (.inr ?_))
      rw [List.all_eq_false]
      exact ⟨c, List.mem_of_getElem? hc, by rw [h]; simp⟩
theorem isName_ok {s : List UInt8} {x : UInt8} {xs : List UInt8} (e : s = x :: xs) (h : ∀ i c, s[i]? = some c → small c.toNat = true ∨ (i ≠ 0 ∧ nameC c.toNat = true)) : isName s = (decide (s.length ≤ 20) && !wordsL.contains s) := by
  subst e
  unfold isName
  have h0 : small x.toNat = true := by
    rcases h 0 x rfl with h | h
    · exact h
    · exact absurd rfl h.1
  have h1 : (x :: xs).all (fun c => nameC c.toNat) = true := by
    rw [List.all_eq_true]
    intro c hc
    obtain ⟨i, hi, e⟩ := List.getElem_of_mem hc
    rcases h i c (by rw [List.getElem?_eq_getElem hi, e]) with h | h
    · unfold nameC; rw [h]; rfl
    · exact h.2
  simp only [h0, h1, Bool.true_and, Bool.and_true]


























































































































































end Lx
end Go.Proofs.Ytfhedopfjgjffaa
