/- The walk of the reference's Named. -/
import Derived.Test.YtijhaiificflhaaLexR
import Derived.Test.YtijhaiificflhaaLexN
import Derived.Laws.Cover1
namespace Go.Proofs.Ytijhaiificflhaa
open Go.RowKit
namespace Lx
open Sl (strV)

theorem isName_false {s : List UInt8} {j : Nat} {c : UInt8} (hc : s[j]? = some c) (hs : small c.toNat = false) (h : j = 0 ∨ nameC c.toNat = false) : isName s = false := by
  cases s with
  | nil => simp at hc
  | cons x xs =>
    unfold isName
    simp only [Bool.and_eq_false_iff]
    rcases h with rfl | h
    · simp at hc; subst hc; exact .inr (.inl hs)
    · refine .inr (.inr (.inr ?_))
      rw [List.all_eq_false]
      exact ⟨c, List.mem_of_getElem? hc, by rw [h]; simp⟩
theorem isName_ok {s : List UInt8} {x : UInt8} {xs : List UInt8} (e : s = x :: xs) (h : ∀ i c, s[i]? = some c → small c.toNat = true ∨ (i ≠ 0 ∧ nameC c.toNat = true)) : isName s = (decide (s.length ≤ 20) && !wordsL.contains s) := by
  subst e
  unfold isName
  have h0 : small x.toNat = true := by
    rcases h 0 x rfl with h | h
    · exact h
    · exact absurd rfl h.1
  have h1 : (x :: xs).all (fun c => nameC c.toNat) = true := by
    rw [List.all_eq_true]
    intro c hc
    obtain ⟨i, hi, e⟩ := List.getElem_of_mem hc
    rcases h i c (by rw [List.getElem?_eq_getElem hi, e]) with h | h
    · unfold nameC; rw [h]; rfl
    · exact h.2
  simp only [h0, h1, Bool.true_and, Bool.and_true]

set_option maxHeartbeats 1000000 in
theorem RNamed_any (s : List UInt8) (w : World) (hl : s.length ≤ 9223372036854775807) : Calls Try.prog 49 #[strV s] w fun e w' => e = .returned (.bool (isName s)) ∧ Below w.heap.size w w' := by
  have kc := byW_run
  have hcell := Lib.hid (fun (j : Nat) (c : UInt8) (h : s[j]? = some c) => byW_cell w h)
  have hbw := byW_below w s
  go_enter Try.func49, Try.ntmps49
  go_wp2_with fail
  generalize byW w s = W at *
  clear kc
  go_loopg [8] s.length (fun q k wr => ∃ j : Nat, j ≤ s.length ∧ q = s.length - j ∧ k = .int .i64 j ∧ Hid (∀ i c, i < j → s[i]? = some c → small c.toNat = true ∨ (i ≠ 0 ∧ nameC c.toNat = true)) ∧ wr = W)
  case atStart => exact ⟨0, by omega, rfl, rfl, Lib.hid (fun i c h => by omega), rfl⟩
  case round =>
    obtain ⟨j, hj, hq, rfl, hall, rfl⟩ := hrel
    replace hq := Lib.hid hq
    by_cases hlt : j < s.length
    · obtain ⟨c, hc⟩ : ∃ c, s[j]? = some c := ⟨_, List.getElem?_eq_getElem hlt⟩
      have k0 := hcell.out j c hc
      have cs := fun W => rlow c.toNat W
      have cd := fun W => rdigit c.toNat W
      have hltI : (j : Int) < s.length := by omega
      have e95 := bneI (c := c) (x := 95)
      simp only [show ((95 : UInt8).toNat : Int) = 95 from rfl] at e95
      have hgo := fun h : small c.toNat = true ∨ (j ≠ 0 ∧ nameC c.toNat = true) => Lib.hid (show ∀ i x, i < j + 1 → s[i]? = some x → small x.toNat = true ∨ (i ≠ 0 ∧ nameC x.toNat = true) from fun i x hi hx => by
        by_cases hij : i = j
        · subst hij
          rw [hc] at hx; cases hx; exact h
        · exact hall.out i x (by omega) hx)
      have hno := fun (h1 : small c.toNat = false) (h : j = 0 ∨ nameC c.toNat = false) => Lib.hid (isName_false hc h1 h)
      rw [nameC_b] at hgo hno
      clear hc
      cases hsm : small c.toNat with
      | true =>
        rw [hsm] at cs hgo
        have hg := hgo (.inl rfl)
        replace cs := Lib.hid cs
        clear hgo hno cd e95 hsm
        go_wp2_with fail
        refine (cs.out _).mono ?_
        rintro e1 w1 ⟨rfl, rfl⟩
        go_wp2
        go_roundg (s.length - (j + 1))
        case measure => rw [hq.out]; omega
        case rel => exact ⟨j + 1, by omega, rfl, by go_num, hg, rfl⟩
      | false =>
        rw [hsm] at cs hgo hno
        replace cs := Lib.hid cs
        by_cases hj0 : j = 0
        · have e := hno rfl (.inl hj0)
          have g0 : ((j : Int) == 0) = true := by rw [beq_iff_eq]; omega
          clear hgo hno hj0 hsm
          go_wp2_with fail
          refine (cs.out _).mono ?_
          rintro e1 w1 ⟨rfl, rfl⟩
          go_wp2
          go_ret
          exact ⟨ret_bool e.out.symm, hbw⟩
        · have g0 : ((j : Int) == 0) = false := by rw [beq_eq_false_iff_ne]; omega
          cases hdx : digit c.toNat with
          | true =>
            rw [hdx] at cd hgo
            have hg := hgo (.inr ⟨hj0, rfl⟩)
            replace cd := Lib.hid cd
            clear hgo hno e95 hsm hdx hj0
            go_wp2_with fail
            refine (cs.out _).mono ?_
            rintro e1 w1 ⟨rfl, rfl⟩
            go_wp2_with fail
            refine (cd.out _).mono ?_
            rintro e1 w1 ⟨rfl, rfl⟩
            go_wp2
            go_roundg (s.length - (j + 1))
            case measure => rw [hq.out]; omega
            case rel => exact ⟨j + 1, by omega, rfl, by go_num, hg, rfl⟩
          | false =>
            rw [hdx] at cd hgo hno
            replace cd := Lib.hid cd
            cases h95 : (c == 95) with
            | true =>
              rw [h95] at e95 hgo
              have hg := hgo (.inr ⟨hj0, rfl⟩)
              rw [Bool.not_true] at e95
              clear hgo hno hsm hdx hj0 h95
              go_wp2_with fail
              refine (cs.out _).mono ?_
              rintro e1 w1 ⟨rfl, rfl⟩
              go_wp2_with fail
              refine (cd.out _).mono ?_
              rintro e1 w1 ⟨rfl, rfl⟩
              go_wp2
              go_roundg (s.length - (j + 1))
              case measure => rw [hq.out]; omega
              case rel => exact ⟨j + 1, by omega, rfl, by go_num, hg, rfl⟩
            | false =>
              rw [h95] at e95 hno
              have e := hno rfl (.inr rfl)
              rw [Bool.not_false] at e95
              clear hgo hno hsm hdx hj0 h95
              go_wp2_with fail
              refine (cs.out _).mono ?_
              rintro e1 w1 ⟨rfl, rfl⟩
              go_wp2_with fail
              refine (cd.out _).mono ?_
              rintro e1 w1 ⟨rfl, rfl⟩
              go_wp2
              go_ret
              exact ⟨ret_bool e.out.symm, hbw⟩
    · have hjl : j = s.length := by omega
      have hall2 : ∀ i c, s[i]? = some c → small c.toNat = true ∨ (i ≠ 0 ∧ nameC c.toNat = true) := fun i c hc => hall.out i c (by rw [hjl]; exact (List.getElem?_eq_some_iff.1 hc).1) hc
      subst hjl
      clear hall hcell
      by_cases hs : s.length = 0
      · have e : isName s = false := by rw [show s = [] by simpa using hs]; rfl
        have g0 : decide (0 < (s.length : Int)) = false := by rw [decide_eq_false_iff_not]; omega
        have g0' : decide (0 < s.length) = false := by rw [decide_eq_false_iff_not]; omega
        replace e := Lib.hid e
        clear hs hall2
        go_wp2
        go_ret
        exact ⟨ret_bool e.out.symm, hbw⟩
      · obtain ⟨x, xs, hs'⟩ : ∃ x xs, s = x :: xs := by
          cases s with
          | nil => exact absurd rfl hs
          | cons x xs => exact ⟨x, xs, rfl⟩
        have e := isName_ok hs' hall2
        have g0 : decide (0 < (s.length : Int)) = true := by rw [decide_eq_true_eq]; omega
        have g0' : decide (0 < s.length) = true := by rw [decide_eq_true_eq]; omega
        clear hs hs' hall2
        have cw := fun W => Word_any s W
        by_cases h20 : s.length ≤ 20
        · have g1 : decide ((s.length : Int) ≤ 20) = true := by simp; omega
          have g1' : decide (s.length ≤ 20) = true := by simp; omega
          rw [g1', Bool.true_and] at e
          generalize wordsL.contains s = wb at *
          replace cw := Lib.hid cw
          replace e := Lib.hid e
          go_wp2_with fail
          refine (cw.out _).mono ?_
          rintro e1 w1 ⟨rfl, hb1⟩
          cases wb
          all_goals
            go_wp2
            go_ret
            exact ⟨ret_bool e.out.symm, hbw.trans (hb1.mono hbw.size)⟩
        · have g1 : decide ((s.length : Int) ≤ 20) = false := by simp; omega
          have g1' : decide (s.length ≤ 20) = false := by simp; omega
          rw [g1', Bool.false_and] at e
          replace e := Lib.hid e
          go_wp2
          go_ret
          exact ⟨ret_bool e.out.symm, hbw⟩

end Lx
end Go.Proofs.Ytijhaiificflhaa
