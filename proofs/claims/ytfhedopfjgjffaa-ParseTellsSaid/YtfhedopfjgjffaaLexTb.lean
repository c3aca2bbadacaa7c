/- The walk of the reference's One: names. -/
import Derived.Test.YtfhedopfjgjffaaLexT
namespace Go.Proofs.Ytfhedopfjgjffaa
open Go.RowKit
namespace Lx
open Sl (strV)

theorem small_digit2 {n : Nat} (h : small n = true) : digit n = false := by
  have := small_iff.1 h
  cases hd : digit n
  · rfl
  · have := digit_iff.1 hd; omega

set_option maxHeartbeats 8000000 in
set_option maxRecDepth 100000 in
theorem One_name (s : List UInt8) (a : Nat) (c : UInt8) (w : World) (hl : s.length ≤ 6000) (hc : s[a]? = some c) (h0 : shapeGo (s.drop a) dateS = false) (h1 : shapeGo (s.drop a) timeS = false) (hs : small c.toNat = true) : Calls Try.prog 73 #[strV s, .int .i64 a] w (ROnePost s a w) := by
  have ha : a < s.length := (List.getElem?_eq_some_iff.1 hc).1
  have haI : (a : Int) < s.length := by omega
  have hD := (rDate_eq s a).trans h0
  unfold rDate at hD
  have hT := (rTime_eq s a).trans h1
  unfold rTime at hT
  obtain ⟨⟨x1, c1⟩, p1⟩ : ∃ x, digAt s a 4 = x := ⟨_, rfl⟩
  obtain ⟨⟨x2, c2⟩, p2⟩ : ∃ x, digAt s (a + 5) 2 = x := ⟨_, rfl⟩
  obtain ⟨⟨x3, c3⟩, p3⟩ : ∃ x, digAt s (a + 8) 2 = x := ⟨_, rfl⟩
  obtain ⟨c4, p4⟩ : ∃ x, signAt s (a + 4) 45 = x := ⟨_, rfl⟩
  obtain ⟨c5, p5⟩ : ∃ x, signAt s (a + 7) 45 = x := ⟨_, rfl⟩
  obtain ⟨⟨y1, d1⟩, t1⟩ : ∃ x, digAt s a 2 = x := ⟨_, rfl⟩
  obtain ⟨⟨y2, d2⟩, t2⟩ : ∃ x, digAt s (a + 3) 2 = x := ⟨_, rfl⟩
  obtain ⟨d3, t3⟩ : ∃ x, signAt s (a + 2) 58 = x := ⟨_, rfl⟩
  rw [p1, p2, p3, p4, p5] at hD
  dsimp only at hD
  rw [t1, t2, t3] at hT
  dsimp only at hT
  have q1 := Lib.hid (fun W => digits_at (i := (a : Int)) (k := 4) W hl (by omega) (by omega) (by omega) (by omega) p1)
  have q2 := Lib.hid (fun W => digits_at (i := (a : Int) + 5) (k := 2) W hl (by omega) (by omega) (by omega) (by omega) p2)
  have q3 := Lib.hid (fun W => digits_at (i := (a : Int) + 8) (k := 2) W hl (by omega) (by omega) (by omega) (by omega) p3)
  have q4 := Lib.hid (fun W => sign_at (i := (a : Int) + 4) (k := 45) W (by omega) rfl p4)
  have q5 := Lib.hid (fun W => sign_at (i := (a : Int) + 7) (k := 45) W (by omega) rfl p5)
  have r1 := Lib.hid (fun W => digits_at (i := (a : Int)) (k := 2) W hl (by omega) (by omega) (by omega) (by omega) t1)
  have r2 := Lib.hid (fun W => digits_at (i := (a : Int) + 3) (k := 2) W hl (by omega) (by omega) (by omega) (by omega) t2)
  have r3 := Lib.hid (fun W => sign_at (i := (a : Int) + 2) (k := 58) W (by omega) rfl t3)
  have hb0 := bAt_of hc
  have hd := small_digit2 hs
  have cd := fun W => rdigit c.toNat W
  rw [hd] at cd
  replace cd := Lib.hid cd
  have cs := fun W => rlow c.toNat W
  rw [hs] at cs
  replace cs := Lib.hid cs
  have hrl := run_le nameC (s.drop a)
  rw [List.length_drop] at hrl
  have hry := Lib.hid (fun i x (h : i < run nameC (s.drop a)) (hx : s[a + i]? = some x) => run_yes (f := nameC) h (c := x) (by rw [List.getElem?_drop]; exact hx))
  have hrn := Lib.hid (fun x (hx : s[a + run nameC (s.drop a)]? = some x) => run_no (f := nameC) (s := s.drop a) (c := x) (by rw [List.getElem?_drop]; exact hx))
  have hok := Lib.hid (rok_name h0 h1 hc hd hs rfl)
  clear hd hs
  generalize run nameC (s.drop a) = R at *
  clear p1 p2 p3 p4 p5 t1 t2 t3 h0 h1 hc
  replace hD := Lib.hid hD
  replace hT := Lib.hid hT
  go_enter Try.func73, Try.ntmps73
  go_wp2_with fail
  refine (q1.out _).mono ?_
  rintro e1 w1 ⟨rfl, hb1⟩
  obtain ⟨m1, rfl⟩ := After.of hb1
  have z1 := m1.size
  simp at z1
  have B1 := (Blk.new w 75 #[.int .i64 0, .int .i64 0, .int .i64 0, strV []]).after m1 (by simp)
  go_wp2_with fail
  refine (q2.out _).mono ?_
  rintro e1 w2 ⟨rfl, hb2⟩
  obtain ⟨m2, rfl⟩ := After.of hb2
  have z2 := m2.size
  have B2 := B1.after m2 (by omega)
  go_wp2_with fail
  refine (q3.out _).mono ?_
  rintro e1 w2 ⟨rfl, hb3⟩
  obtain ⟨m3, rfl⟩ := After.of hb3
  have z3 := m3.size
  have B3 := B2.after m3 (by omega)
  have hbw : Below w.heap.size w m3.w := (by repeat (first | exact Below.refl _ _ | assumption | refine Below.n _ ?_ (by first | omega | (simp; done) | (simp; omega)) | refine Below.alloc ?_ (by first | omega | (simp; done) | (simp; omega)) _ | refine Below.setCell ?_ (by first | omega | (simp; done) | (simp; omega)) _ | refine Below.drew ?_ | refine Below.setRow ?_ (by first | omega | (simp; done) | (simp; omega)) _ | refine Below.drewN ?_ _))
  clear B1 B2 hb1 hb2 hb3 q1 q2 q3
  generalize m3.w = W at *
  clear m3 z1 z2
  go_upto_region 4 with fail
  go_cut [60] (fun s60 wx => s60 = .bool false ∧ wx = W)
  case first =>
    have hD2 := hD.out
    have hh : c1 = false ∨ c1 = true ∧ c2 = false ∨ c1 = true ∧ c2 = true ∧ c3 = false ∨ c1 = true ∧ c2 = true ∧ c3 = true ∧ c4 = false ∨ c1 = true ∧ c2 = true ∧ c3 = true ∧ c4 = true ∧ c5 = false := by
      revert hD2; cases c1 <;> cases c2 <;> cases c3 <;> cases c4 <;> cases c5 <;> simp
    clear hD2 hD hT
    rcases hh with rfl | ⟨rfl, rfl⟩ | ⟨rfl, rfl, rfl⟩ | ⟨rfl, rfl, rfl, rfl⟩ | ⟨rfl, rfl, rfl, rfl, rfl⟩
    all_goals
      go_wp2_with (go_at_call 100; first | ((with_reducible refine (q4.out _).mono ?_); rintro e' w' ⟨rfl, rfl⟩) | ((with_reducible refine (q5.out _).mono ?_); rintro e' w' ⟨rfl, rfl⟩))
      go_meet
      exact ⟨rfl, rfl⟩
  obtain ⟨rfl, rfl⟩ := hcut
  have zW := B3.lt
  go_wp2_with fail
  refine (r1.out _).mono ?_
  rintro e1 w4 ⟨rfl, hb4⟩
  obtain ⟨m4, rfl⟩ := After.of hb4
  have z4 := m4.size
  have B4 := B3.after m4 (by omega)
  go_wp2_with fail
  refine (r2.out _).mono ?_
  rintro e1 w5 ⟨rfl, hb5⟩
  obtain ⟨m5, rfl⟩ := After.of hb5
  have z5 := m5.size
  have B5 := B4.after m5 (by omega)
  have hbx : Below w.heap.size w m5.w := (by repeat (first | exact Below.refl _ _ | assumption | refine Below.n _ ?_ (by first | omega | (simp; done) | (simp; omega)) | refine Below.alloc ?_ (by first | omega | (simp; done) | (simp; omega)) _ | refine Below.setCell ?_ (by first | omega | (simp; done) | (simp; omega)) _ | refine Below.drew ?_ | refine Below.setRow ?_ (by first | omega | (simp; done) | (simp; omega)) _ | refine Below.drewN ?_ _))
  clear B3 B4 hb4 hb5 r1 r2 hbw q4 q5 hD
  generalize m5.w = W5 at *
  clear m5 z4 z5 m4
  go_upto_region 9 with fail
  go_cut [97] (fun s60 wx => s60 = .bool false ∧ wx = W5)
  case first =>
    have hT2 := hT.out
    have hh : d1 = false ∨ d1 = true ∧ d2 = false ∨ d1 = true ∧ d2 = true ∧ d3 = false := by
      revert hT2; cases d1 <;> cases d2 <;> cases d3 <;> simp
    clear hT2 hT
    rcases hh with rfl | ⟨rfl, rfl⟩ | ⟨rfl, rfl, rfl⟩
    all_goals
      go_wp2_with (go_at_call 100; (with_reducible refine (r3.out _).mono ?_); rintro e' w' ⟨rfl, rfl⟩)
      go_meet
      exact ⟨rfl, rfl⟩
  obtain ⟨rfl, wcx⟩ := hcut
  obtain rfl := wcx
  have zW5 := B5.lt
  clear hT r3
  go_wp2_with fail
  refine (cd.out _).mono ?_
  rintro e1 w2 ⟨rfl, rfl⟩
  go_wp2_with fail
  refine (cs.out _).mono ?_
  rintro e1 w2 ⟨rfl, rfl⟩
  clear hb0
  go_wp2_with fail
  go_loopg [16] R (fun q k wr => ∃ j : Nat, a ≤ j ∧ j ≤ a + R ∧ q = a + R - j ∧ k = .int .i64 j ∧ wr = wc)
  case atStart => exact ⟨a, by omega, by omega, by omega, rfl, rfl⟩
  case round =>
    obtain ⟨j, haj, hj, hq, rfl, rfl⟩ := hrel
    replace hq := Lib.hid hq
    by_cases hlt : j < a + R
    · obtain ⟨x, hx⟩ : ∃ x, s[j]? = some x := ⟨_, List.getElem?_eq_getElem (by omega)⟩
      have hnx := hry.out (j - a) x (by omega) (by rw [show a + (j - a) = j by omega]; exact hx)
      have cx := fun W => rlow x.toNat W
      have cy := fun W => rdigit x.toNat W
      have hbx' := bAt_of hx
      have g1 : decide ((j : Int) < (s.length : Int)) = true := by simp; omega
      have g1' : decide (j < s.length) = true := by simp; omega
      have hjs : j < s.length := by omega
      have hjI : (j : Int) < s.length := by omega
      clear hx
      cases hsx : small x.toNat with
      | true =>
        rw [hsx] at cx
        replace cx := Lib.hid cx
        clear hsx hnx
        go_wp2_with fail
        refine (cx.out _).mono ?_
        rintro e1 w2 ⟨rfl, rfl⟩
        go_wp2
        go_roundg (a + R - (j + 1))
        case measure => rw [hq.out]; omega
        case rel => exact ⟨j + 1, by omega, by omega, rfl, by go_num, rfl⟩
      | false =>
        rw [hsx] at cx
        replace cx := Lib.hid cx
        cases hdx : digit x.toNat with
        | true =>
          rw [hdx] at cy
          replace cy := Lib.hid cy
          clear hsx hnx hdx
          go_wp2_with fail
          refine (cx.out _).mono ?_
          rintro e1 w2 ⟨rfl, rfl⟩
          go_wp2_with fail
          refine (cy.out _).mono ?_
          rintro e1 w2 ⟨rfl, rfl⟩
          go_wp2
          go_roundg (a + R - (j + 1))
          case measure => rw [hq.out]; omega
          case rel => exact ⟨j + 1, by omega, by omega, rfl, by go_num, rfl⟩
        | false =>
          rw [hdx] at cy
          replace cy := Lib.hid cy
          have g95 : (((x.toNat : Nat) : Int) == 95) = true := by
            unfold nameC at hnx
            rw [hsx, hdx] at hnx
            simp at hnx
            rw [beq_iff_eq]; omega
          clear hsx hnx hdx
          go_wp2_with fail
          refine (cx.out _).mono ?_
          rintro e1 w2 ⟨rfl, rfl⟩
          go_wp2_with fail
          refine (cy.out _).mono ?_
          rintro e1 w2 ⟨rfl, rfl⟩
          go_wp2
          go_roundg (a + R - (j + 1))
          case measure => rw [hq.out]; omega
          case rel => exact ⟨j + 1, by omega, by omega, rfl, by go_num, rfl⟩
    · have hjR : j = a + R := by omega
      have hok2 := hok.out
      rw [show (a : Int) + (R : Nat) = (j : Nat) by omega, ← hjR] at hok2
      have hajI : (a : Int) ≤ j := by omega
      have hjsI : (j : Int) ≤ s.length := by omega
      have hend : decide ((j : Int) < (s.length : Int)) = false ∧ decide (j < s.length) = false ∨ decide ((j : Int) < (s.length : Int)) = true ∧ decide (j < s.length) = true ∧ (j : Int) < s.length ∧ j < s.length ∧ ∃ x, s[j]? = some x ∧ nameC x.toNat = false := by
        by_cases h : j < s.length
        · exact .inr ⟨by simp; omega, by simp; omega, by omega, h, _, List.getElem?_eq_getElem h, hrn.out _ (by rw [← hjR]; exact List.getElem?_eq_getElem h)⟩
        · exact .inl ⟨by simp; omega, by simp; omega⟩
      have cw := fun W => Word_any ((s.take j).drop a) W
      have hfin : ∃ wb, wordsL.contains ((s.take j).drop a) = wb ∧ (decide (20 < (j : Int) - (a : Int)) = true ∧ Hid (ROk s a ((0, 0, 0, []), (a : Int), 7)) ∨ decide (20 < (j : Int) - (a : Int)) = false ∧ Hid (ROk s a ((if wb = true then 2 else 1, 0, (a : Int), (s.take j).drop a), (j : Int), 0))) := by
        refine ⟨_, rfl, ?_⟩
        by_cases h : 20 < R
        · rw [if_pos h] at hok2; exact .inl ⟨by simp; omega, Lib.hid hok2⟩
        · rw [if_neg h] at hok2; exact .inr ⟨by simp; omega, Lib.hid hok2⟩
      clear hok2 hok hjR hry hrn
      obtain ⟨wb, hwb, hfin⟩ := hfin
      rw [hwb] at cw
      replace cw := Lib.hid cw
      clear hwb
      have hT1 := Lib.hid (Blk.new wr 75 #[.int .i64 1, .int .i64 0, .int .i64 (a : Int), strV ((s.take j).drop a)])
      have hT0 := Lib.hid (B5.alloc (.cells #[.int .i64 1, .int .i64 0, .int .i64 (a : Int), strV ((s.take j).drop a)] 75))
      cases wb
      all_goals rcases hfin with ⟨g2, hok⟩ | ⟨g2, hok⟩
      all_goals rcases hend with ⟨g1, g1'⟩ | ⟨g1, g1', hjI, hjs, x, hx, hdx⟩
      all_goals first
        | ((fail_if_success (have := hx)); go_wp2_with fail)
        | (have cx := fun W => rlow x.toNat W
           have cy := fun W => rdigit x.toNat W
           have hbx' := bAt_of hx
           have g95 : (((x.toNat : Nat) : Int) == 95) = false := by
             unfold nameC at hdx
             simp at hdx
             rw [beq_eq_false_iff_ne]; omega
           rw [show small x.toNat = false by unfold nameC at hdx; simp at hdx; exact hdx.1] at cx
           rw [show digit x.toNat = false by unfold nameC at hdx; simp at hdx; exact hdx.2.1] at cy
           replace cx := Lib.hid cx
           replace cy := Lib.hid cy
           clear hx hdx
           go_wp2_with fail
           refine (cx.out _).mono ?_
           rintro e1 w2 ⟨rfl, rfl⟩
           go_wp2_with fail
           refine (cy.out _).mono ?_
           rintro e1 w2 ⟨rfl, rfl⟩
           go_wp2_with fail)
      all_goals
        refine (cw.out _).mono ?_
        rintro e1 w6 ⟨rfl, hb6⟩
        obtain ⟨m6, rfl⟩ := After.of hb6
        have z6 := m6.size
        simp at z6
        have Bt := hT1.out.after m6 (by simp)
        have Bo := hT0.out.after m6 (by simp; omega)
        have f0 : ∀ j, m6.w.frozen? ⟨w.heap.size, j, none⟩ = false := fun j => Bo.frozen j
        have k0 : m6.w.cell? ⟨w.heap.size, 0, none⟩ = some (.int .i64 0) := Bo.cell 0
        have k1 : m6.w.cell? ⟨w.heap.size, 1, none⟩ = some (.int .i64 0) := Bo.cell 1
        have k2 : m6.w.cell? ⟨w.heap.size, 2, none⟩ = some (.int .i64 0) := Bo.cell 2
        have k3 : m6.w.cell? ⟨w.heap.size, 3, none⟩ = some (strV []) := Bo.cell 3
        have l0 : m6.w.cell? ⟨wr.heap.size, 0, none⟩ = some (.int .i64 1) := Bt.cell 0
        have l1 : m6.w.cell? ⟨wr.heap.size, 1, none⟩ = some (.int .i64 0) := Bt.cell 1
        have l2 : m6.w.cell? ⟨wr.heap.size, 2, none⟩ = some (.int .i64 (a : Int)) := Bt.cell 2
        have l3 : m6.w.cell? ⟨wr.heap.size, 3, none⟩ = some (strV ((s.take j).drop a)) := Bt.cell 3
        have g0 : ∀ j, m6.w.frozen? ⟨wr.heap.size, j, none⟩ = false := fun j => Bt.frozen j
        have hne : ¬ wr.heap.size = w.heap.size := by omega
        have hne' : ¬ w.heap.size = wr.heap.size := by omega
        go_wp2
        have _ := And.intro hne hne'
        first
          | (refine bodyPost_ret (v := retOne ((0, 0, 0, []), (a : Int), 7)) ?_ rfl ⟨_, rfl, hok.out, (by repeat (first | exact Below.refl _ _ | assumption | refine Below.n _ ?_ (by first | omega | (simp; done) | (simp; omega)) | refine Below.alloc ?_ (by first | omega | (simp; done) | (simp; omega)) _ | refine Below.setCell ?_ (by first | omega | (simp; done) | (simp; omega)) _ | refine Below.drew ?_ | refine Below.setRow ?_ (by first | omega | (simp; done) | (simp; omega)) _ | refine Below.drewN ?_ _))⟩
             simp [results, Try.results73, go_sem, retOne, k0, k1, k2, k3]; done)
          | (refine bodyPost_ret (v := retOne ((1, 0, (a : Int), (s.take j).drop a), (j : Int), 0)) ?_ rfl ⟨_, rfl, hok.out, (by repeat (first | exact Below.refl _ _ | assumption | refine Below.n _ ?_ (by first | omega | (simp; done) | (simp; omega)) | refine Below.alloc ?_ (by first | omega | (simp; done) | (simp; omega)) _ | refine Below.setCell ?_ (by first | omega | (simp; done) | (simp; omega)) _ | refine Below.drew ?_ | refine Below.setRow ?_ (by first | omega | (simp; done) | (simp; omega)) _ | refine Below.drewN ?_ _))⟩
             simp [results, Try.results73, go_sem, retOne, k0, k1, k2, k3]; done)
          | (refine bodyPost_ret (v := retOne ((2, 0, (a : Int), (s.take j).drop a), (j : Int), 0)) ?_ rfl ⟨_, rfl, hok.out, (by repeat (first | exact Below.refl _ _ | assumption | refine Below.n _ ?_ (by first | omega | (simp; done) | (simp; omega)) | refine Below.alloc ?_ (by first | omega | (simp; done) | (simp; omega)) _ | refine Below.setCell ?_ (by first | omega | (simp; done) | (simp; omega)) _ | refine Below.drew ?_ | refine Below.setRow ?_ (by first | omega | (simp; done) | (simp; omega)) _ | refine Below.drewN ?_ _))⟩
             simp [results, Try.results73, go_sem, retOne, k0, k1, k2, k3]; done)

end Lx
end Go.Proofs.Ytfhedopfjgjffaa
