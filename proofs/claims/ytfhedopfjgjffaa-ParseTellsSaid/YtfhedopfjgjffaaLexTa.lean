/- The walk of the reference's One: numbers. -/
import Derived.Test.YtfhedopfjgjffaaLexT
namespace Go.Proofs.Ytfhedopfjgjffaa
open Go.RowKit
namespace Lx
open Sl (strV)

set_option maxHeartbeats 8000000 in
set_option maxRecDepth 100000 in
theorem One_number (s : List UInt8) (a : Nat) (c : UInt8) (w : World) (hl : s.length ≤ 6000) (hc : s[a]? = some c) (h0 : shapeGo (s.drop a) dateS = false) (h1 : shapeGo (s.drop a) timeS = false) (hd : digit c.toNat = true) : Calls Try.prog 73 #[strV s, .int .i64 a] w (ROnePost s a w) := by
  have ha : a < s.length := (List.getElem?_eq_some_iff.1 hc).1
  have haI : (a : Int) < s.length := by omega
  have hD := (rDate_eq s a).trans h0
  unfold rDate at hD
  have hT := (rTime_eq s a).trans h1
  unfold rTime at hT
  obtain ⟨⟨x1, c1⟩, p1⟩ : ∃ x, digAt s a 4 = x := ⟨_, rfl⟩
  obtain ⟨⟨x2, c2⟩, p2⟩ : ∃ x, digAt s (a + 5) 2 = x := ⟨_, rfl⟩
  obtain ⟨⟨x3, c3⟩, p3⟩ : ∃ x, digAt s (a + 8) 2 = x := ⟨_, rfl⟩
  obtain ⟨c4, p4⟩ : ∃ x, signAt s (a + 4) 45 = x := ⟨_, rfl⟩
  obtain ⟨c5, p5⟩ : ∃ x, signAt s (a + 7) 45 = x := ⟨_, rfl⟩
  obtain ⟨⟨y1, d1⟩, t1⟩ : ∃ x, digAt s a 2 = x := ⟨_, rfl⟩
  obtain ⟨⟨y2, d2⟩, t2⟩ : ∃ x, digAt s (a + 3) 2 = x := ⟨_, rfl⟩
  obtain ⟨d3, t3⟩ : ∃ x, signAt s (a + 2) 58 = x := ⟨_, rfl⟩
  rw [p1, p2, p3, p4, p5] at hD
  dsimp only at hD
  rw [t1, t2, t3] at hT
  dsimp only at hT
  have q1 := Lib.hid (fun W => digits_at (i := (a : Int)) (k := 4) W hl (by omega) (by omega) (by omega) (by omega) p1)
  have q2 := Lib.hid (fun W => digits_at (i := (a : Int) + 5) (k := 2) W hl (by omega) (by omega) (by omega) (by omega) p2)
  have q3 := Lib.hid (fun W => digits_at (i := (a : Int) + 8) (k := 2) W hl (by omega) (by omega) (by omega) (by omega) p3)
  have q4 := Lib.hid (fun W => sign_at (i := (a : Int) + 4) (k := 45) W (by omega) rfl p4)
  have q5 := Lib.hid (fun W => sign_at (i := (a : Int) + 7) (k := 45) W (by omega) rfl p5)
  have r1 := Lib.hid (fun W => digits_at (i := (a : Int)) (k := 2) W hl (by omega) (by omega) (by omega) (by omega) t1)
  have r2 := Lib.hid (fun W => digits_at (i := (a : Int) + 3) (k := 2) W hl (by omega) (by omega) (by omega) (by omega) t2)
  have r3 := Lib.hid (fun W => sign_at (i := (a : Int) + 2) (k := 58) W (by omega) rfl t3)
  have hb0 := bAt_of hc
  have cd := fun W => rdigit c.toNat W
  rw [hd] at cd
  replace cd := Lib.hid cd
  have hrl := run_le digit (s.drop a)
  rw [List.length_drop] at hrl
  have hr1 : 1 ≤ run digit (s.drop a) := by rw [drop_at hc]; unfold run; rw [if_pos hd]; omega
  have hry := Lib.hid (fun i x (h : i < run digit (s.drop a)) (hx : s[a + i]? = some x) => run_yes (f := digit) h (c := x) (by rw [List.getElem?_drop]; exact hx))
  have hrn := Lib.hid (fun x (hx : s[a + run digit (s.drop a)]? = some x) => run_no (f := digit) (s := s.drop a) (c := x) (by rw [List.getElem?_drop]; exact hx))
  have dr := digAt_run hr1
  have hok := Lib.hid (rok_number h0 h1 hc hd rfl)
  have nn := Lib.hid (fun W (i k : Int) (hi : i = a) (hk : k = (run digit (s.drop a) : Nat)) (h6 : run digit (s.drop a) ≤ 6) => digits_at (i := i) (k := k) W hl h6 (by omega) hi hk dr)
  clear dr hd
  generalize run digit (s.drop a) = R at *
  clear p1 p2 p3 p4 p5 t1 t2 t3 h0 h1 hc
  replace hD := Lib.hid hD
  replace hT := Lib.hid hT
  go_enter Try.func73, Try.ntmps73
  go_wp2_with fail
  refine (q1.out _).mono ?_
  rintro e1 w1 ⟨rfl, hb1⟩
  obtain ⟨m1, rfl⟩ := After.of hb1
  have z1 := m1.size
  simp at z1
  have B1 := (Blk.new w 75 #[.int .i64 0, .int .i64 0, .int .i64 0, strV []]).after m1 (by simp)
  go_wp2_with fail
  refine (q2.out _).mono ?_
  rintro e1 w2 ⟨rfl, hb2⟩
  obtain ⟨m2, rfl⟩ := After.of hb2
  have z2 := m2.size
  have B2 := B1.after m2 (by omega)
  go_wp2_with fail
  refine (q3.out _).mono ?_
  rintro e1 w2 ⟨rfl, hb3⟩
  obtain ⟨m3, rfl⟩ := After.of hb3
  have z3 := m3.size
  have B3 := B2.after m3 (by omega)
  have hbw : Below w.heap.size w m3.w := (by repeat (first | exact Below.refl _ _ | assumption | refine Below.n _ ?_ (by first | omega | (simp; done) | (simp; omega)) | refine Below.alloc ?_ (by first | omega | (simp; done) | (simp; omega)) _ | refine Below.setCell ?_ (by first | omega | (simp; done) | (simp; omega)) _ | refine Below.drew ?_ | refine Below.setRow ?_ (by first | omega | (simp; done) | (simp; omega)) _ | refine Below.drewN ?_ _))
  clear B1 B2 hb1 hb2 hb3 q1 q2 q3
  generalize m3.w = W at *
  clear m3 z1 z2
  go_upto_region 4 with fail
  go_cut [60] (fun s60 wx => s60 = .bool false ∧ wx = W)
  case first =>
    have hD2 := hD.out
    have hh : c1 = false ∨ c1 = true ∧ c2 = false ∨ c1 = true ∧ c2 = true ∧ c3 = false ∨ c1 = true ∧ c2 = true ∧ c3 = true ∧ c4 = false ∨ c1 = true ∧ c2 = true ∧ c3 = true ∧ c4 = true ∧ c5 = false := by
      revert hD2; cases c1 <;> cases c2 <;> cases c3 <;> cases c4 <;> cases c5 <;> simp
    clear hD2 hD hT
    rcases hh with rfl | ⟨rfl, rfl⟩ | ⟨rfl, rfl, rfl⟩ | ⟨rfl, rfl, rfl, rfl⟩ | ⟨rfl, rfl, rfl, rfl, rfl⟩
    all_goals
      go_wp2_with (go_at_call 100; first | ((with_reducible refine (q4.out _).mono ?_); rintro e' w' ⟨rfl, rfl⟩) | ((with_reducible refine (q5.out _).mono ?_); rintro e' w' ⟨rfl, rfl⟩))
      go_meet
      exact ⟨rfl, rfl⟩
  obtain ⟨rfl, rfl⟩ := hcut
  have zW := B3.lt
  go_wp2_with fail
  refine (r1.out _).mono ?_
  rintro e1 w4 ⟨rfl, hb4⟩
  obtain ⟨m4, rfl⟩ := After.of hb4
  have z4 := m4.size
  have B4 := B3.after m4 (by omega)
  go_wp2_with fail
  refine (r2.out _).mono ?_
  rintro e1 w5 ⟨rfl, hb5⟩
  obtain ⟨m5, rfl⟩ := After.of hb5
  have z5 := m5.size
  have B5 := B4.after m5 (by omega)
  have hbx : Below w.heap.size w m5.w := (by repeat (first | exact Below.refl _ _ | assumption | refine Below.n _ ?_ (by first | omega | (simp; done) | (simp; omega)) | refine Below.alloc ?_ (by first | omega | (simp; done) | (simp; omega)) _ | refine Below.setCell ?_ (by first | omega | (simp; done) | (simp; omega)) _ | refine Below.drew ?_ | refine Below.setRow ?_ (by first | omega | (simp; done) | (simp; omega)) _ | refine Below.drewN ?_ _))
  clear B3 B4 hb4 hb5 r1 r2 hbw q4 q5 hD
  generalize m5.w = W5 at *
  clear m5 z4 z5 m4
  go_upto_region 9 with fail
  go_cut [97] (fun s60 wx => s60 = .bool false ∧ wx = W5)
  case first =>
    have hT2 := hT.out
    have hh : d1 = false ∨ d1 = true ∧ d2 = false ∨ d1 = true ∧ d2 = true ∧ d3 = false := by
      revert hT2; cases d1 <;> cases d2 <;> cases d3 <;> simp
    clear hT2 hT
    rcases hh with rfl | ⟨rfl, rfl⟩ | ⟨rfl, rfl, rfl⟩
    all_goals
      go_wp2_with (go_at_call 100; (with_reducible refine (r3.out _).mono ?_); rintro e' w' ⟨rfl, rfl⟩)
      go_meet
      exact ⟨rfl, rfl⟩
  obtain ⟨rfl, wcx⟩ := hcut
  obtain rfl := wcx
  have zW5 := B5.lt
  clear hT r3
  go_wp2_with fail
  refine (cd.out _).mono ?_
  rintro e1 w2 ⟨rfl, rfl⟩
  clear hb0
  go_wp2_with fail
  go_loopg [16] R (fun q k wr => ∃ j : Nat, a ≤ j ∧ j ≤ a + R ∧ q = a + R - j ∧ k = .int .i64 j ∧ wr = wc)
  case atStart => exact ⟨a, by omega, by omega, by omega, rfl, rfl⟩
  case round =>
    obtain ⟨j, haj, hj, hq, rfl, rfl⟩ := hrel
    replace hq := Lib.hid hq
    by_cases hlt : j < a + R
    · obtain ⟨x, hx⟩ : ∃ x, s[j]? = some x := ⟨_, List.getElem?_eq_getElem (by omega)⟩
      have hyx := hry.out (j - a) x (by omega) (by rw [show a + (j - a) = j by omega]; exact hx)
      have cx := fun W => rdigit x.toNat W
      rw [hyx] at cx
      replace cx := Lib.hid cx
      have hbx' := bAt_of hx
      have g1 : decide ((j : Int) < (s.length : Int)) = true := by simp; omega
      have g1' : decide (j < s.length) = true := by simp; omega
      have hjs : j < s.length := by omega
      have hjI : (j : Int) < s.length := by omega
      clear hx hyx
      go_wp2_with fail
      refine (cx.out _).mono ?_
      rintro e1 w2 ⟨rfl, rfl⟩
      go_wp2
      go_roundg (a + R - (j + 1))
      case measure => rw [hq.out]; omega
      case rel => exact ⟨j + 1, by omega, by omega, rfl, by go_num, rfl⟩
    · have hjR : j = a + R := by omega
      have f0 : ∀ j, wr.frozen? ⟨w.heap.size, j, none⟩ = false := fun j => B5.frozen j
      have k0 : wr.cell? ⟨w.heap.size, 0, none⟩ = some (.int .i64 0) := B5.cell 0
      have k1 : wr.cell? ⟨w.heap.size, 1, none⟩ = some (.int .i64 0) := B5.cell 1
      have k2 : wr.cell? ⟨w.heap.size, 2, none⟩ = some (.int .i64 0) := B5.cell 2
      have k3 : wr.cell? ⟨w.heap.size, 3, none⟩ = some (strV []) := B5.cell 3
      have hok2 := hok.out
      rw [show (a : Int) + (R : Nat) = (j : Nat) by omega] at hok2
      have hend : decide ((j : Int) < (s.length : Int)) = false ∧ decide (j < s.length) = false ∨ decide ((j : Int) < (s.length : Int)) = true ∧ decide (j < s.length) = true ∧ (j : Int) < s.length ∧ j < s.length ∧ ∃ x, s[j]? = some x ∧ digit x.toNat = false := by
        by_cases h : j < s.length
        · exact .inr ⟨by simp; omega, by simp; omega, by omega, h, _, List.getElem?_eq_getElem h, hrn.out _ (by rw [← hjR]; exact List.getElem?_eq_getElem h)⟩
        · exact .inl ⟨by simp; omega, by simp; omega⟩
      have h6c : decide (6 < (j : Int) - (a : Int)) = true ∧ Hid (ROk s a ((0, 0, 0, []), (a : Int), 3)) ∨ decide (6 < (j : Int) - (a : Int)) = false ∧ R ≤ 6 ∧ Hid (ROk s a ((6, num ((s.drop a).take R), (a : Int), []), (j : Int), 0)) := by
        by_cases h6 : 6 < R
        · rw [if_pos h6] at hok2; exact .inl ⟨by simp; omega, Lib.hid hok2⟩
        · rw [if_neg h6] at hok2; exact .inr ⟨by simp; omega, by omega, Lib.hid hok2⟩
      replace hjR := Lib.hid hjR
      have nn2 := Lib.hid (fun W h6 => nn.out W (a : Int) ((j : Int) - a) rfl (by have := hjR.out; omega) h6)
      clear hok2 hrn hry nn hok
      generalize num ((s.drop a).take R) = v at *
      rcases hend with ⟨g1, g1'⟩ | ⟨g1, g1', hjI, hjs, x, hx, hdx⟩
      · rcases h6c with ⟨g2, hok⟩ | ⟨g2, h6, hok⟩
        · go_wp2
          refine bodyPost_ret (v := retOne ((0, 0, 0, []), (a : Int), 3)) ?_ rfl ⟨_, rfl, hok.out, (by repeat (first | exact Below.refl _ _ | assumption | refine Below.n _ ?_ (by first | omega | (simp; done) | (simp; omega)) | refine Below.alloc ?_ (by first | omega | (simp; done) | (simp; omega)) _ | refine Below.setCell ?_ (by first | omega | (simp; done) | (simp; omega)) _ | refine Below.drew ?_ | refine Below.setRow ?_ (by first | omega | (simp; done) | (simp; omega)) _ | refine Below.drewN ?_ _))⟩
          simp [results, Try.results73, go_sem, retOne, k0, k1, k2, k3]
        · go_wp2_with fail
          refine (nn2.out _ h6).mono ?_
          rintro e1 w2 ⟨rfl, hb6⟩
          obtain ⟨m6, rfl⟩ := After.of hb6
          have z6 := m6.size
          go_wp2
          refine bodyPost_ret (v := retOne ((6, v, (a : Int), []), (j : Int), 0)) ?_ rfl ⟨_, rfl, hok.out, (by repeat (first | exact Below.refl _ _ | assumption | refine Below.n _ ?_ (by first | omega | (simp; done) | (simp; omega)) | refine Below.alloc ?_ (by first | omega | (simp; done) | (simp; omega)) _ | refine Below.setCell ?_ (by first | omega | (simp; done) | (simp; omega)) _ | refine Below.drew ?_ | refine Below.setRow ?_ (by first | omega | (simp; done) | (simp; omega)) _ | refine Below.drewN ?_ _))⟩
          simp [results, Try.results73, go_sem, retOne, k0, k1, k2, k3, zW5]
      · have cx := fun W => rdigit x.toNat W
        rw [hdx] at cx
        replace cx := Lib.hid cx
        have hbx' := bAt_of hx
        clear hx hdx
        rcases h6c with ⟨g2, hok⟩ | ⟨g2, h6, hok⟩
        · go_wp2_with fail
          refine (cx.out _).mono ?_
          rintro e1 w2 ⟨rfl, rfl⟩
          go_wp2
          refine bodyPost_ret (v := retOne ((0, 0, 0, []), (a : Int), 3)) ?_ rfl ⟨_, rfl, hok.out, (by repeat (first | exact Below.refl _ _ | assumption | refine Below.n _ ?_ (by first | omega | (simp; done) | (simp; omega)) | refine Below.alloc ?_ (by first | omega | (simp; done) | (simp; omega)) _ | refine Below.setCell ?_ (by first | omega | (simp; done) | (simp; omega)) _ | refine Below.drew ?_ | refine Below.setRow ?_ (by first | omega | (simp; done) | (simp; omega)) _ | refine Below.drewN ?_ _))⟩
          simp [results, Try.results73, go_sem, retOne, k0, k1, k2, k3]
        · go_wp2_with fail
          refine (cx.out _).mono ?_
          rintro e1 w2 ⟨rfl, rfl⟩
          go_wp2_with fail
          refine (nn2.out _ h6).mono ?_
          rintro e1 w2 ⟨rfl, hb6⟩
          obtain ⟨m6, rfl⟩ := After.of hb6
          have z6 := m6.size
          go_wp2
          refine bodyPost_ret (v := retOne ((6, v, (a : Int), []), (j : Int), 0)) ?_ rfl ⟨_, rfl, hok.out, (by repeat (first | exact Below.refl _ _ | assumption | refine Below.n _ ?_ (by first | omega | (simp; done) | (simp; omega)) | refine Below.alloc ?_ (by first | omega | (simp; done) | (simp; omega)) _ | refine Below.setCell ?_ (by first | omega | (simp; done) | (simp; omega)) _ | refine Below.drew ?_ | refine Below.setRow ?_ (by first | omega | (simp; done) | (simp; omega)) _ | refine Below.drewN ?_ _))⟩
          simp [results, Try.results73, go_sem, retOne, k0, k1, k2, k3, zW5]

end Lx
end Go.Proofs.Ytfhedopfjgjffaa
