/- The walks of the reference's small functions on texts: Word, digit, low, digits, sign. The walk of the reference's Named. -/
import Derived.Test.YtbadplbdgpbdaaaDoorLexN
import Derived.Laws.IdiomStrings
import Derived.Laws.Cover1
namespace Go.Proofs.YtbadplbdgpbdaaaDoor
open Go.RowKit
namespace Lx
open Sl (strV)

theorem rlow (n : Nat) (w : World) : Calls Tryd.prog 105 #[.int .u8 n] w fun e w' => e = .returned (.bool (small n)) ∧ w = w' := by
  have hc : (decide (97 ≤ (n : Int)) = false ∧ small n = false) ∨ (decide (97 ≤ (n : Int)) = true ∧ decide ((n : Int) ≤ 122) = false ∧ small n = false) ∨ (decide (97 ≤ (n : Int)) = true ∧ decide ((n : Int) ≤ 122) = true ∧ small n = true) := by
    unfold small
    by_cases h1 : 97 ≤ n
    · by_cases h2 : n ≤ 122
      · right; right; simp [h1, h2]; omega
      · right; left; simp [h1, h2]; omega
    · left; simp [h1]; omega
  rcases hc with ⟨g1, e⟩ | ⟨g1, g2, e⟩ | ⟨g1, g2, e⟩
  all_goals
    rw [e]
    clear e
    go_enter Tryd.func105, Tryd.ntmps105
    go_wp2
    go_ret
    exact ⟨rfl, rfl⟩
theorem rdigit (n : Nat) (w : World) : Calls Tryd.prog 106 #[.int .u8 n] w fun e w' => e = .returned (.bool (digit n)) ∧ w = w' := by
  have hc : (decide (48 ≤ (n : Int)) = false ∧ digit n = false) ∨ (decide (48 ≤ (n : Int)) = true ∧ decide ((n : Int) ≤ 57) = false ∧ digit n = false) ∨ (decide (48 ≤ (n : Int)) = true ∧ decide ((n : Int) ≤ 57) = true ∧ digit n = true) := by
    unfold digit
    by_cases h1 : 48 ≤ n
    · by_cases h2 : n ≤ 57
      · right; right; simp [h1, h2]; omega
      · right; left; simp [h1, h2]; omega
    · left; simp [h1]; omega
  rcases hc with ⟨g1, e⟩ | ⟨g1, g2, e⟩ | ⟨g1, g2, e⟩
  all_goals
    rw [e]
    clear e
    go_enter Tryd.func106, Tryd.ntmps106
    go_wp2
    go_ret
    exact ⟨rfl, rfl⟩

/-- the words, as the reference has them -/
def wordsR : List (List UInt8) := [[114, 117, 108, 101], [110, 101, 118, 101, 114], [97, 108, 119, 97, 121, 115], [119, 101, 101, 107, 108, 121], [100, 97, 116, 101, 115], [115, 104, 105, 102, 116], [109, 111, 110], [116, 117, 101], [119, 101, 100], [116, 104, 117], [102, 114, 105], [115, 97, 116], [115, 117, 110]]
theorem wordsR_eq (s : List UInt8) : wordsR.contains s = wordsL.contains s := by
  rw [Bool.eq_iff_iff, List.contains_iff_mem, List.contains_iff_mem]
  simp only [wordsR, wordsL, List.mem_cons, List.not_mem_nil, or_false]
  constructor <;> (rintro (h | h | h | h | h | h | h | h | h | h | h | h | h) <;> simp [h])
def wordsRA : Array Value := #[strV [114, 117, 108, 101], strV [110, 101, 118, 101, 114], strV [97, 108, 119, 97, 121, 115], strV [119, 101, 101, 107, 108, 121], strV [100, 97, 116, 101, 115], strV [115, 104, 105, 102, 116], strV [109, 111, 110], strV [116, 117, 101], strV [119, 101, 100], strV [116, 104, 117], strV [102, 114, 105], strV [115, 97, 116], strV [115, 117, 110]]
theorem wordsR_get (i : Nat) : wordsRA[i]? = (wordsR[i]?).map strV := by
  rcases i with _ | _ | _ | _ | _ | _ | _ | _ | _ | _ | _ | _ | _ | i <;> first | rfl | simp [wordsRA, wordsR]

set_option maxHeartbeats 1000000 in
theorem Word_any (s : List UInt8) (w : World) : Calls Tryd.prog 107 #[strV s] w fun e w' => e = .returned (.bool (wordsL.contains s)) ∧ Below w.heap.size w w' := by
  rw [← wordsR_eq]
  go_enter Tryd.func107, Tryd.ntmps107
  go_wp2
  go_loopg [7] 13 (fun n k wr => ∃ j : Nat, j ≤ 13 ∧ n = 13 - j ∧ k = .int .i64 j ∧ (∀ i, i < j → wordsR[i]? ≠ some s) ∧ Below w.heap.size w wr ∧ Blk wr w.heap.size 9 wordsRA)
  case atStart => exact ⟨0, by omega, rfl, rfl, fun i hi => by omega, (by repeat (first | exact Below.refl _ _ | assumption | refine Below.n _ ?_ (by first | omega | (simp; done) | (simp; omega)) | refine Below.alloc ?_ (by first | omega | (simp; done) | (simp; omega)) _ | refine Below.setCell ?_ (by first | omega | (simp; done) | (simp; omega)) _ | refine Below.drew ?_ | refine Below.setRow ?_ (by first | omega | (simp; done) | (simp; omega)) _ | refine Below.drewN ?_ _)), Blk.new _ _ _⟩
  case round =>
    obtain ⟨j, hj, hn, rfl, hno, hb, B⟩ := hrel
    replace hn := Lib.hid hn
    replace hno := Lib.hid hno
    by_cases hlt : j < 13
    · obtain ⟨y, hy⟩ : ∃ y, wordsR[j]? = some y := ⟨_, List.getElem?_eq_getElem hlt⟩
      have c0 : wr.cell? ⟨w.heap.size, j, none⟩ = some (strV y) := (B.cell j).trans (by rw [wordsR_get, hy]; rfl)
      replace hy := Lib.hid hy
      by_cases hxy : s = y
      · have e : wordsR.contains s = true := by rw [List.contains_iff_mem, hxy]; exact List.mem_of_getElem? hy.out
        replace e := Lib.hid e
        clear hy hno
        subst hxy
        go_wp2
        go_ret
        exact ⟨ret_bool e.out.symm, hb⟩
      · have g : (y == s) = false := by simpa using fun h => hxy h.symm
        have hno2 := Lib.hid (show ∀ i, i < j + 1 → wordsR[i]? ≠ some s from fun i hi => by
          by_cases h : i = j
          · subst h; rw [hy.out]; intro e; exact hxy (Option.some.inj e).symm
          · exact hno.out i (by omega))
        clear hxy
        go_wp2
        go_roundg (13 - (j + 1))
        case measure => rw [hn.out]; omega
        case rel => exact ⟨j + 1, by omega, rfl, by go_num, hno2.out, hb, B⟩
    · obtain rfl : j = 13 := by omega
      have e : wordsR.contains s = false := by
        cases h : wordsR.contains s
        · rfl
        · rw [List.contains_iff_mem] at h
          obtain ⟨i, hi, e⟩ := List.getElem_of_mem h
          exact absurd (by rw [List.getElem?_eq_getElem hi, e]) (hno.out i hi)
      replace e := Lib.hid e
      go_wp2
      go_ret
      exact ⟨ret_bool e.out.symm, hb⟩

/-- []byte(s): how much room, and the world behind it -/
def byC (W : World) (r : List UInt8) : Nat := grownCap W r.length 0 5
def byW (W : World) (r : List UInt8) : World := W.drew.alloc (.cells (bytesRow ⟨r.toArray⟩ (byC W r)) 5 ((bytesRow ⟨r.toArray⟩ (byC W r)).size, (bytesRow ⟨r.toArray⟩ (byC W r)).size + 1))
theorem byW_run (W : World) (r : List UInt8) : (convert 9 160 (.string ⟨r.toArray⟩)).run Tryd.prog W = .ok (.slice (some ⟨W.heap.size, 0, none⟩) r.length (byC W r)) (byW W r) :=
  run_bytes_of_string W 9 160 5 ⟨r.toArray⟩ Tryd.underlying9 Tryd.underlying160 Tryd.underlying5
theorem byW_below (W : World) (r : List UInt8) : Below W.heap.size W (byW W r) := ((Below.refl _ _).drew).alloc (Nat.le_refl _) _
theorem byW_cell (W : World) {r : List UInt8} {j : Nat} {c : UInt8} (h : r[j]? = some c) : (byW W r).cell? ⟨W.heap.size, j, none⟩ = some (.int .u8 (c.toNat : Int)) := by
  unfold byW
  obtain ⟨hj, hc⟩ := List.getElem?_eq_some_iff.1 h
  rw [show W.heap.size = W.drew.heap.size from rfl, World.cell?_alloc_mark, bytesRow_at _ _ _ (by simpa using hj)]
  rw [← hc]
  rfl

/-- digits at a place -/
def digAt (s : List UInt8) (a n : Nat) : Int × Bool := if a + n ≤ s.length then (if ((s.take (a + n)).drop a).all (fun c => digit c.toNat) = true then (num ((s.take (a + n)).drop a), true) else (0, false)) else (0, false)

theorem dig_ret {x : Int × Bool} {n : Int} {b : Bool} (h : x = (n, b)) : Ending.returned (.tuple #[.int .i64 n, .bool b]) = .returned (.tuple #[.int .i64 x.1, .bool x.2]) := by rw [h]


























































































/-- is a sign there? -/
def signAt (s : List UInt8) (a : Nat) (c : UInt8) : Bool := decide (s[a]? = some c)


























end Lx
end Go.Proofs.YtbadplbdgpbdaaaDoor

namespace Go.Proofs.YtbadplbdgpbdaaaDoor
open Go.RowKit
namespace Lx
open Sl (strV)

theorem isName_false {s : List UInt8} {j : Nat} {c : UInt8} (hc : s[j]? = some c) (hs : small c.toNat = false) (h : j = 0 ∨ nameC c.toNat = false) : isName s = false := by
  cases s with
  | nil => simp at hc
  | cons x xs =>
    unfold isName
    simp only [Bool.and_eq_false_iff]
    rcases h with rfl | h
    · simp at hc; subst hc; exact .inr (.inl hs)
    · refine .inr (.inr (.inr ?_))
      rw [List.all_eq_false]
      exact ⟨c, List.mem_of_getElem? hc, by rw [h]; simp⟩
theorem isName_ok {s : List UInt8} {x : UInt8} {xs : List UInt8} (e : s = x :: xs) (h : ∀ i c, s[i]? = some c → small c.toNat = true ∨ (i ≠ 0 ∧ nameC c.toNat = true)) : isName s = (decide (s.length ≤ 20) && !wordsL.contains s) := by
  subst e
  unfold isName
  have h0 : small x.toNat = true := by
    rcases h 0 x rfl with h | h
    · exact h
    · exact absurd rfl h.1
  have h1 : (x :: xs).all (fun c => nameC c.toNat) = true := by
    rw [List.all_eq_true]
    intro c hc
    obtain ⟨i, hi, e⟩ := List.getElem_of_mem hc
    rcases h i c (by rw [List.getElem?_eq_getElem hi, e]) with h | h
    · unfold nameC; rw [h]; rfl
    · exact h.2
  simp only [h0, h1, Bool.true_and, Bool.and_true]


set_option maxHeartbeats 1000000 in
theorem RNamed_any (s : List UInt8) (w : World) (hl : s.length ≤ 9223372036854775807) : Calls Tryd.prog 82 #[strV s] w fun e w' => e = .returned (.bool (isName s)) ∧ Below w.heap.size w w' := by
  have kc := byW_run
  have hcell := Lib.hid (fun (j : Nat) (c : UInt8) (h : s[j]? = some c) => byW_cell w h)
  have hbw := byW_below w s
  go_enter Tryd.func82, Tryd.ntmps82
  go_wp2_with fail
  generalize byW w s = W at *
  clear kc
  go_loopg [8] s.length (fun q k wr => ∃ j : Nat, j ≤ s.length ∧ q = s.length - j ∧ k = .int .i64 j ∧ Hid (∀ i c, i < j → s[i]? = some c → small c.toNat = true ∨ (i ≠ 0 ∧ nameC c.toNat = true)) ∧ wr = W)
  case atStart => exact ⟨0, by omega, rfl, rfl, Lib.hid (fun i c h => by omega), rfl⟩
  case round =>
    obtain ⟨j, hj, hq, rfl, hall, rfl⟩ := hrel
    replace hq := Lib.hid hq
    by_cases hlt : j < s.length
    · obtain ⟨c, hc⟩ : ∃ c, s[j]? = some c := ⟨_, List.getElem?_eq_getElem hlt⟩
      have k0 := hcell.out j c hc
      have cs := fun W => rlow c.toNat W
      have cd := fun W => rdigit c.toNat W
      have hltI : (j : Int) < s.length := by omega
      have e95 := bneI (c := c) (x := 95)
      simp only [show ((95 : UInt8).toNat : Int) = 95 from rfl] at e95
      have hgo := fun h : small c.toNat = true ∨ (j ≠ 0 ∧ nameC c.toNat = true) => Lib.hid (show ∀ i x, i < j + 1 → s[i]? = some x → small x.toNat = true ∨ (i ≠ 0 ∧ nameC x.toNat = true) from fun i x hi hx => by
        by_cases hij : i = j
        · subst hij
          rw [hc] at hx; cases hx; exact h
        · exact hall.out i x (by omega) hx)
      have hno := fun (h1 : small c.toNat = false) (h : j = 0 ∨ nameC c.toNat = false) => Lib.hid (isName_false hc h1 h)
      rw [nameC_b] at hgo hno
      clear hc
      cases hsm : small c.toNat with
      | true =>
        rw [hsm] at cs hgo
        have hg := hgo (.inl rfl)
        replace cs := Lib.hid cs
        clear hgo hno cd e95 hsm
        go_wp2_with fail
        refine (cs.out _).mono ?_
        rintro e1 w1 ⟨rfl, rfl⟩
        go_wp2
        go_roundg (s.length - (j + 1))
        case measure => rw [hq.out]; omega
        case rel => exact ⟨j + 1, by omega, rfl, by go_num, hg, rfl⟩
      | false =>
        rw [hsm] at cs hgo hno
        replace cs := Lib.hid cs
        by_cases hj0 : j = 0
        · have e := hno rfl (.inl hj0)
          have g0 : ((j : Int) == 0) = true := by rw [beq_iff_eq]; omega
          clear hgo hno hj0 hsm
          go_wp2_with fail
          refine (cs.out _).mono ?_
          rintro e1 w1 ⟨rfl, rfl⟩
          go_wp2
          go_ret
          exact ⟨ret_bool e.out.symm, hbw⟩
        · have g0 : ((j : Int) == 0) = false := by rw [beq_eq_false_iff_ne]; omega
          cases hdx : digit c.toNat with
          | true =>
            rw [hdx] at cd hgo
            have hg := hgo (.inr ⟨hj0, rfl⟩)
            replace cd := Lib.hid cd
            clear hgo hno e95 hsm hdx hj0
            go_wp2_with fail
            refine (cs.out _).mono ?_
            rintro e1 w1 ⟨rfl, rfl⟩
            go_wp2_with fail
            refine (cd.out _).mono ?_
            rintro e1 w1 ⟨rfl, rfl⟩
            go_wp2
            go_roundg (s.length - (j + 1))
            case measure => rw [hq.out]; omega
            case rel => exact ⟨j + 1, by omega, rfl, by go_num, hg, rfl⟩
          | false =>
            rw [hdx] at cd hgo hno
            replace cd := Lib.hid cd
            cases h95 : (c == 95) with
            | true =>
              rw [h95] at e95 hgo
              have hg := hgo (.inr ⟨hj0, rfl⟩)
              rw [Bool.not_true] at e95
              clear hgo hno hsm hdx hj0 h95
              go_wp2_with fail
              refine (cs.out _).mono ?_
              rintro e1 w1 ⟨rfl, rfl⟩
              go_wp2_with fail
              refine (cd.out _).mono ?_
              rintro e1 w1 ⟨rfl, rfl⟩
              go_wp2
              go_roundg (s.length - (j + 1))
              case measure => rw [hq.out]; omega
              case rel => exact ⟨j + 1, by omega, rfl, by go_num, hg, rfl⟩
            | false =>
              rw [h95] at e95 hno
              have e := hno rfl (.inr rfl)
              rw [Bool.not_false] at e95
              clear hgo hno hsm hdx hj0 h95
              go_wp2_with fail
              refine (cs.out _).mono ?_
              rintro e1 w1 ⟨rfl, rfl⟩
              go_wp2_with fail
              refine (cd.out _).mono ?_
              rintro e1 w1 ⟨rfl, rfl⟩
              go_wp2
              go_ret
              exact ⟨ret_bool e.out.symm, hbw⟩
    · have hjl : j = s.length := by omega
      have hall2 : ∀ i c, s[i]? = some c → small c.toNat = true ∨ (i ≠ 0 ∧ nameC c.toNat = true) := fun i c hc => hall.out i c (by rw [hjl]; exact (List.getElem?_eq_some_iff.1 hc).1) hc
      subst hjl
      clear hall hcell
      by_cases hs : s.length = 0
      · have e : isName s = false := by rw [show s = [] by simpa using hs]; rfl
        have g0 : decide (0 < (s.length : Int)) = false := by rw [decide_eq_false_iff_not]; omega
        have g0' : decide (0 < s.length) = false := by rw [decide_eq_false_iff_not]; omega
        replace e := Lib.hid e
        clear hs hall2
        go_wp2
        go_ret
        exact ⟨ret_bool e.out.symm, hbw⟩
      · obtain ⟨x, xs, hs'⟩ : ∃ x xs, s = x :: xs := by
          cases s with
          | nil => exact absurd rfl hs
          | cons x xs => exact ⟨x, xs, rfl⟩
        have e := isName_ok hs' hall2
        have g0 : decide (0 < (s.length : Int)) = true := by rw [decide_eq_true_eq]; omega
        have g0' : decide (0 < s.length) = true := by rw [decide_eq_true_eq]; omega
        clear hs hs' hall2
        have cw := fun W => Word_any s W
        by_cases h20 : s.length ≤ 20
        · have g1 : decide ((s.length : Int) ≤ 20) = true := by simp; omega
          have g1' : decide (s.length ≤ 20) = true := by simp; omega
          rw [g1', Bool.true_and] at e
          generalize wordsL.contains s = wb at *
          replace cw := Lib.hid cw
          replace e := Lib.hid e
          go_wp2_with fail
          refine (cw.out _).mono ?_
          rintro e1 w1 ⟨rfl, hb1⟩
          cases wb
          all_goals
            go_wp2
            go_ret
            exact ⟨ret_bool e.out.symm, hbw.trans (hb1.mono hbw.size)⟩
        · have g1 : decide ((s.length : Int) ≤ 20) = false := by simp; omega
          have g1' : decide (s.length ≤ 20) = false := by simp; omega
          rw [g1', Bool.false_and] at e
          replace e := Lib.hid e
          go_wp2
          go_ret
          exact ⟨ret_bool e.out.symm, hbw⟩


end Lx
end Go.Proofs.YtbadplbdgpbdaaaDoor
