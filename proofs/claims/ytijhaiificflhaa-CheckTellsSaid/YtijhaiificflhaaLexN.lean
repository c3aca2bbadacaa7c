/- The walk of lex.Named. -/
import Derived.Test.YtijhaiificflhaaLexV
namespace Go.Proofs.Ytijhaiificflhaa
open Go.RowKit
namespace Lx
open Sl (strV)

def isName (s : List UInt8) : Bool := match s with
  | [] => false
  | c :: _ => decide (s.length ≤ 20) && (small c.toNat && (!wordsL.contains s && s.all (fun c => nameC c.toNat)))
theorem isName_at {s : List UInt8} {c : UInt8} (h : s[0]? = some c) : isName s = (decide (s.length ≤ 20) && (small c.toNat && (!wordsL.contains s && s.all (fun c => nameC c.toNat)))) := by
  cases s with
  | nil => simp at h
  | cons x xs => simp at h; subst h; rfl
theorem nameC_b (x : UInt8) : nameC x.toNat = (small x.toNat || (digit x.toNat || (x == 95))) := by
  unfold nameC
  have : (x.toNat == 95) = (x == 95) := by rw [Bool.eq_iff_iff, beq_iff_eq, beq_iff_eq, ← UInt8.toNat_inj]; rfl
  rw [this]

set_option maxHeartbeats 1000000 in
theorem Named_any (s : List UInt8) (w : World) (hl : s.length ≤ 9223372036854775807) : Calls Try.prog 42 #[strV s] w fun e w' => e = .returned (.bool (isName s)) ∧ Below w.heap.size w w' := by
  by_cases h0 : s = []
  · subst h0
    go_enter Try.func42, Try.ntmps42
    go_wp2
    go_ret
    exact ⟨rfl, (by repeat (first | exact Below.refl _ _ | assumption | refine Below.n _ ?_ (by first | omega | (simp; done) | (simp; omega)) | refine Below.alloc ?_ (by first | omega | (simp; done) | (simp; omega)) _ | refine Below.setCell ?_ (by first | omega | (simp; done) | (simp; omega)) _ | refine Below.drew ?_ | refine Below.setRow ?_ (by first | omega | (simp; done) | (simp; omega)) _ | refine Below.drewN ?_ _))⟩
  · have hpos : 1 ≤ s.length := by cases s with | nil => exact absurd rfl h0 | cons => simp
    obtain ⟨c, hc⟩ : ∃ c, s[0]? = some c := ⟨_, List.getElem?_eq_getElem (by omega)⟩
    have e := isName_at hc
    have hb0 := bAt_of hc
    have g0 : decide ((s.length : Int) < 1) = false := by simp; omega
    have hposI : (0 : Int) < s.length := by omega
    clear h0 hc
    by_cases h20 : s.length ≤ 20
    · have g1 : decide (20 < (s.length : Int)) = false := by simp; omega
      rw [decide_eq_true h20, Bool.true_and] at e
      have cs := fun W => wsmall c.toNat W
      cases hsm : small c.toNat with
      | false =>
        rw [hsm] at cs e
        simp only [Bool.false_and] at e
        rw [e]
        replace cs := Lib.hid cs
        clear e hsm
        go_enter Try.func42, Try.ntmps42
        go_wp2_with fail
        refine (cs.out _).mono ?_
        rintro e1 w1 ⟨rfl, rfl⟩
        go_wp2
        go_ret
        exact ⟨rfl, (by repeat (first | exact Below.refl _ _ | assumption | refine Below.n _ ?_ (by first | omega | (simp; done) | (simp; omega)) | refine Below.alloc ?_ (by first | omega | (simp; done) | (simp; omega)) _ | refine Below.setCell ?_ (by first | omega | (simp; done) | (simp; omega)) _ | refine Below.drew ?_ | refine Below.setRow ?_ (by first | omega | (simp; done) | (simp; omega)) _ | refine Below.drewN ?_ _))⟩
      | true =>
        rw [hsm] at cs e
        simp only [Bool.true_and] at e
        replace cs := Lib.hid cs
        have cC := fun v W B (hv : Sl.StrsV W B v wordsL) => Sl.ContainsS_any v wordsL s W B hv
        cases hw : wordsL.contains s with
        | true =>
          rw [hw] at cC e
          simp only [Bool.not_true, Bool.false_and] at e
          rw [e]
          replace cC := Lib.hid cC
          clear e hw hsm
          go_enter Try.func42, Try.ntmps42
          go_wp2_with fail
          refine (cs.out _).mono ?_
          rintro e1 w1 ⟨rfl, rfl⟩
          go_wp2_with fail
          refine (Words_row _).mono ?_
          rintro e1 w2 ⟨v, rfl, hb2, hv⟩
          go_wp2_with fail
          refine (cC.out _ _ _ hv).mono ?_
          rintro e1 w3 ⟨rfl, rfl⟩
          go_wp2
          go_ret
          exact ⟨rfl, hb2⟩
        | false =>
          rw [hw] at cC e
          simp only [Bool.not_false, Bool.true_and] at e
          replace e := Lib.hid e
          replace cC := Lib.hid cC
          clear hw hsm
          go_enter Try.func42, Try.ntmps42
          go_wp2_with fail
          refine (cs.out _).mono ?_
          rintro e1 w1 ⟨rfl, rfl⟩
          go_wp2_with fail
          refine (Words_row _).mono ?_
          rintro e1 w2 ⟨v, rfl, hb2, hv⟩
          go_wp2_with fail
          refine (cC.out _ _ _ hv).mono ?_
          rintro e1 w3 ⟨rfl, rfl⟩
          clear hb0 cs cC hv
          go_wp2_with fail
          go_loopg [25] s.length (fun q k wr => ∃ j : Nat, j ≤ s.length ∧ q = s.length - j ∧ k = .int .i64 j ∧ Hid (∀ c ∈ s.take j, nameC c.toNat = true) ∧ wr = w2)
          case atStart => exact ⟨0, by omega, rfl, rfl, Lib.hid (by simp), rfl⟩
          case round =>
            obtain ⟨j, hj, hq, rfl, hall, rfl⟩ := hrel
            replace hq := Lib.hid hq
            by_cases hlt : j < s.length
            · obtain ⟨x, hx⟩ : ∃ x, s[j]? = some x := ⟨_, List.getElem?_eq_getElem hlt⟩
              have hbx := bAt_of hx
              have hjI : (j : Int) < s.length := by omega
              have cx := fun W => wsmall x.toNat W
              have cy := fun W => wdigit x.toNat W
              have e95 := bneI (c := x) (x := 95)
              simp only [show ((95 : UInt8).toNat : Int) = 95 from rfl] at e95
              have hyes := fun h : nameC x.toNat = true => Lib.hid (show ∀ c ∈ s.take (j + 1), nameC c.toNat = true from fun c hc => by
                rw [List.take_add_one, hx] at hc
                simp only [Option.toList_some, List.mem_append, List.mem_singleton] at hc
                rcases hc with hc | rfl
                · exact hall.out c hc
                · exact h)
              have hno := fun h : nameC x.toNat = false => Lib.hid (show s.all (fun c => nameC c.toNat) = false from by
                rw [List.all_eq_false]
                exact ⟨x, List.mem_of_getElem? hx, by rw [h]; simp⟩)
              rw [nameC_b] at hyes hno
              clear hx
              cases hsx : small x.toNat with
              | true =>
                rw [hsx] at cx hyes
                have hy := hyes rfl
                replace cx := Lib.hid cx
                clear hyes hno cy e95 hsx
                go_wp2_with fail
                refine (cx.out _).mono ?_
                rintro e1 w1 ⟨rfl, rfl⟩
                go_wp2
                go_roundg (s.length - (j + 1))
                case measure => rw [hq.out]; omega
                case rel => exact ⟨j + 1, by omega, rfl, by go_num, hy, rfl⟩
              | false =>
                rw [hsx] at cx hyes hno
                replace cx := Lib.hid cx
                cases hdx : digit x.toNat with
                | true =>
                  rw [hdx] at cy hyes
                  have hy := hyes rfl
                  replace cy := Lib.hid cy
                  clear hyes hno e95 hsx hdx
                  go_wp2_with fail
                  refine (cx.out _).mono ?_
                  rintro e1 w1 ⟨rfl, rfl⟩
                  go_wp2_with fail
                  refine (cy.out _).mono ?_
                  rintro e1 w1 ⟨rfl, rfl⟩
                  go_wp2
                  go_roundg (s.length - (j + 1))
                  case measure => rw [hq.out]; omega
                  case rel => exact ⟨j + 1, by omega, rfl, by go_num, hy, rfl⟩
                | false =>
                  rw [hdx] at cy hyes hno
                  replace cy := Lib.hid cy
                  cases h95 : (x == 95) with
                  | true =>
                    rw [h95] at e95 hyes
                    have hy := hyes rfl
                    clear hyes hno hsx hdx h95
                    rw [Bool.not_true] at e95
                    go_wp2_with fail
                    refine (cx.out _).mono ?_
                    rintro e1 w1 ⟨rfl, rfl⟩
                    go_wp2_with fail
                    refine (cy.out _).mono ?_
                    rintro e1 w1 ⟨rfl, rfl⟩
                    go_wp2
                    go_roundg (s.length - (j + 1))
                    case measure => rw [hq.out]; omega
                    case rel => exact ⟨j + 1, by omega, rfl, by go_num, hy, rfl⟩
                  | false =>
                    rw [h95] at e95 hno
                    have hn := hno rfl
                    clear hyes hno hsx hdx h95
                    rw [Bool.not_false] at e95
                    go_wp2_with fail
                    refine (cx.out _).mono ?_
                    rintro e1 w1 ⟨rfl, rfl⟩
                    go_wp2_with fail
                    refine (cy.out _).mono ?_
                    rintro e1 w1 ⟨rfl, rfl⟩
                    go_wp2
                    go_ret
                    exact ⟨ret_bool (by rw [e.out, hn.out]), hb2⟩
            · obtain rfl : j = s.length := by omega
              have hall2 := hall.out
              rw [List.take_length] at hall2
              go_wp2
              go_ret
              exact ⟨ret_bool (by rw [e.out]; symm; rw [List.all_eq_true]; exact hall2), hb2⟩
    · have g1 : decide (20 < (s.length : Int)) = true := by simp; omega
      rw [decide_eq_false h20, Bool.false_and] at e
      rw [e]
      clear e hb0
      go_enter Try.func42, Try.ntmps42
      go_wp2
      go_ret
      exact ⟨rfl, (by repeat (first | exact Below.refl _ _ | assumption | refine Below.n _ ?_ (by first | omega | (simp; done) | (simp; omega)) | refine Below.alloc ?_ (by first | omega | (simp; done) | (simp; omega)) _ | refine Below.setCell ?_ (by first | omega | (simp; done) | (simp; omega)) _ | refine Below.drew ?_ | refine Below.setRow ?_ (by first | omega | (simp; done) | (simp; omega)) _ | refine Below.drewN ?_ _))⟩

end Lx
end Go.Proofs.Ytijhaiificflhaa
