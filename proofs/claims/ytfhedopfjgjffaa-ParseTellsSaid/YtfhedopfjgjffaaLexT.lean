/- The walk of the reference's One: dates and times. -/
import Derived.Test.YtfhedopfjgjffaaLexU
import Derived.Test.YtfhedopfjgjffaaLexA
import Derived.Test.YtfhedopfjgjffaaCivR
import Derived.Deep.DeepCutAuto
namespace Go.Proofs.Ytfhedopfjgjffaa
open Go.RowKit
namespace Lx
open Sl (strV)

theorem digits_at {s : List UInt8} {a n : Nat} {i k : Int} (w : World) (hl : s.length ≤ 6000) (hn : n ≤ 6) (ha : a ≤ 7000) (hi : i = a) (hk : k = n) {x : Int} {b : Bool} (h : digAt s a n = (x, b)) :
    Calls Try.prog 99 #[strV s, .int .i64 i, .int .i64 k] w fun e w' => e = .returned (.tuple #[.int .i64 x, .bool b]) ∧ Below w.heap.size w w' := by
  subst hi hk
  have := digits_any s a n w hl hn ha
  rw [h] at this
  exact this
theorem sign_at {s : List UInt8} {a : Nat} {c : UInt8} {i k : Int} (w : World) (hi : i = a) (hk : k = (c.toNat : Int)) {b : Bool} (h : signAt s a c = b) :
    Calls Try.prog 100 #[strV s, .int .i64 i, .int .u8 k] w fun e w' => e = .returned (.bool b) ∧ w = w' := by
  subst hi hk
  have := sign_any s a c w
  rw [h] at this
  exact this
theorem RNumber_day (y m d : Int) (w : World) {n e : Int} (h : dayOf y m d = (n, e)) :
    Calls Try.prog 101 #[.agg #[.int .i64 y, .int .i64 m, .int .i64 d]] w fun r w' => r = .returned (.tuple #[.int .i64 n, .int .i64 e]) ∧ Below w.heap.size w w' := by
  unfold dayOf at h
  split at h
  · rename_i hv; cases h; exact Civ.RNumber_yes y m d w hv
  · rename_i hv; cases h; exact Civ.RNumber_no y m d w hv

/-- what One answers -/
def ROnePost (s : List UInt8) (a : Nat) (w : World) (e : Ending) (w' : World) : Prop := ∃ x : Tok × Int × Int, e = .returned (retOne x) ∧ ROk s a x ∧ Below w.heap.size w w'

set_option maxHeartbeats 2000000 in
set_option maxRecDepth 100000 in
theorem One_date (s : List UInt8) (a : Nat) (w : World) (hl : s.length ≤ 6000) (ha : a < s.length) (h : shapeGo (s.drop a) dateS = true) : Calls Try.prog 73 #[strV s, .int .i64 a] w (ROnePost s a w) := by
  obtain ⟨p1, p2, p3, p4, p5⟩ := rDate_parts ((rDate_eq s a).trans h)
  have q1 := Lib.hid (fun W => digits_at (i := (a : Int)) (k := 4) W hl (by omega) (by omega) (by omega) (by omega) p1)
  have q2 := Lib.hid (fun W => digits_at (i := (a : Int) + 5) (k := 2) W hl (by omega) (by omega) (by omega) (by omega) p2)
  have q3 := Lib.hid (fun W => digits_at (i := (a : Int) + 8) (k := 2) W hl (by omega) (by omega) (by omega) (by omega) p3)
  have q4 := Lib.hid (fun W => sign_at (i := (a : Int) + 4) (k := 45) W (by omega) rfl p4)
  have q5 := Lib.hid (fun W => sign_at (i := (a : Int) + 7) (k := 45) W (by omega) rfl p5)
  obtain ⟨⟨n, e⟩, hn⟩ : ∃ x, dayOf (num ((s.drop a).take 4)) (num (((s.drop a).take 7).drop 5)) (num (((s.drop a).take 10).drop 8)) = x := ⟨_, rfl⟩
  have hok := Lib.hid (rok_date h hn)
  have q6 := Lib.hid (fun W => RNumber_day _ _ _ W hn)
  clear p1 p2 p3 p4 p5 hn h
  generalize num ((s.drop a).take 4) = y at *
  generalize num (((s.drop a).take 7).drop 5) = m at *
  generalize num (((s.drop a).take 10).drop 8) = d at *
  go_enter Try.func73, Try.ntmps73
  go_wp2_with fail
  refine (q1.out _).mono ?_
  rintro e1 w1 ⟨rfl, hb1⟩
  obtain ⟨m1, rfl⟩ := After.of hb1
  have z1 := m1.size
  simp at z1
  have B1 := (Blk.new w 75 #[.int .i64 0, .int .i64 0, .int .i64 0, strV []]).after m1 (by simp)
  go_wp2_with fail
  refine (q2.out _).mono ?_
  rintro e1 w2 ⟨rfl, hb2⟩
  obtain ⟨m2, rfl⟩ := After.of hb2
  have z2 := m2.size
  have B2 := B1.after m2 (by omega)
  go_wp2_with fail
  refine (q3.out _).mono ?_
  rintro e1 w2 ⟨rfl, hb3⟩
  obtain ⟨m3, rfl⟩ := After.of hb3
  have z3 := m3.size
  have B3 := B2.after m3 (by omega)
  go_wp2_with fail
  refine (q4.out _).mono ?_
  rintro e1 w2 ⟨rfl, rfl⟩
  go_wp2_with fail
  refine (q5.out _).mono ?_
  rintro e1 w2 ⟨rfl, rfl⟩
  go_wp2_with fail
  refine (q6.out _).mono ?_
  rintro e1 w2 ⟨rfl, hb4⟩
  obtain ⟨m4, rfl⟩ := After.of hb4
  have z4 := m4.size
  have B4 := B3.after m4 (by omega)
  have f0 : ∀ j, m4.w.frozen? ⟨w.heap.size, j, none⟩ = false := fun j => B4.frozen j
  have k0 : m4.w.cell? ⟨w.heap.size, 0, none⟩ = some (.int .i64 0) := B4.cell 0
  have k1 : m4.w.cell? ⟨w.heap.size, 1, none⟩ = some (.int .i64 0) := B4.cell 1
  have k2 : m4.w.cell? ⟨w.heap.size, 2, none⟩ = some (.int .i64 0) := B4.cell 2
  have k3 : m4.w.cell? ⟨w.heap.size, 3, none⟩ = some (strV []) := B4.cell 3
  go_wp2
  refine bodyPost_ret (v := retOne ((5, n, (a : Int), []), (a : Int) + 10, e)) ?_ rfl ⟨_, rfl, hok.out, (by repeat (first | exact Below.refl _ _ | assumption | refine Below.n _ ?_ (by first | omega | (simp; done) | (simp; omega)) | refine Below.alloc ?_ (by first | omega | (simp; done) | (simp; omega)) _ | refine Below.setCell ?_ (by first | omega | (simp; done) | (simp; omega)) _ | refine Below.drew ?_ | refine Below.setRow ?_ (by first | omega | (simp; done) | (simp; omega)) _ | refine Below.drewN ?_ _))⟩
  simp [results, Try.results73, go_sem, retOne, k0, k1, k2, k3]

set_option maxHeartbeats 2000000 in
set_option maxRecDepth 100000 in
theorem One_time (s : List UInt8) (a : Nat) (w : World) (hl : s.length ≤ 6000) (ha : a < s.length) (h0 : shapeGo (s.drop a) dateS = false) (h : shapeGo (s.drop a) timeS = true) : Calls Try.prog 73 #[strV s, .int .i64 a] w (ROnePost s a w) := by
  have hD := (rDate_eq s a).trans h0
  unfold rDate at hD
  obtain ⟨⟨x1, c1⟩, p1⟩ : ∃ x, digAt s a 4 = x := ⟨_, rfl⟩
  obtain ⟨⟨x2, c2⟩, p2⟩ : ∃ x, digAt s (a + 5) 2 = x := ⟨_, rfl⟩
  obtain ⟨⟨x3, c3⟩, p3⟩ : ∃ x, digAt s (a + 8) 2 = x := ⟨_, rfl⟩
  obtain ⟨c4, p4⟩ : ∃ x, signAt s (a + 4) 45 = x := ⟨_, rfl⟩
  obtain ⟨c5, p5⟩ : ∃ x, signAt s (a + 7) 45 = x := ⟨_, rfl⟩
  rw [p1, p2, p3, p4, p5] at hD
  dsimp only at hD
  obtain ⟨t1, t2, t3⟩ := rTime_parts ((rTime_eq s a).trans h)
  have hx := (digAt_drop (s := s) (a := a) (n := 2) (by omega)).symm.trans t1
  have q1 := Lib.hid (fun W => digits_at (i := (a : Int)) (k := 4) W hl (by omega) (by omega) (by omega) (by omega) p1)
  have q2 := Lib.hid (fun W => digits_at (i := (a : Int) + 5) (k := 2) W hl (by omega) (by omega) (by omega) (by omega) p2)
  have q3 := Lib.hid (fun W => digits_at (i := (a : Int) + 8) (k := 2) W hl (by omega) (by omega) (by omega) (by omega) p3)
  have q4 := Lib.hid (fun W => sign_at (i := (a : Int) + 4) (k := 45) W (by omega) rfl p4)
  have q5 := Lib.hid (fun W => sign_at (i := (a : Int) + 7) (k := 45) W (by omega) rfl p5)
  have r1 := Lib.hid (fun W => digits_at (i := (a : Int)) (k := 2) W hl (by omega) (by omega) (by omega) (by omega) t1)
  have r2 := Lib.hid (fun W => digits_at (i := (a : Int) + 3) (k := 2) W hl (by omega) (by omega) (by omega) (by omega) t2)
  have r3 := Lib.hid (fun W => sign_at (i := (a : Int) + 2) (k := 58) W (by omega) rfl t3)
  obtain ⟨u1, u2⟩ := num_lt (s := (s.drop a).take 2) (fun c hc => by
    have := rDate_eq s a
    have hs := shape_digits h 0 2 (by decide) (bytes_lit (by decide))
    rw [List.drop_zero] at hs
    exact hs c hc) (by rw [List.length_take]; omega)
  obtain ⟨u3, u4⟩ := num_lt (s := ((s.drop a).take 5).drop 3) (shape_digits h 3 5 (by decide) (bytes_lit (by decide))) (by rw [List.length_drop, List.length_take]; omega)
  obtain ⟨x, ex⟩ : ∃ x, num ((s.drop a).take 2) = x := ⟨_, rfl⟩
  obtain ⟨y, ey⟩ : ∃ x, num (((s.drop a).take 5).drop 3) = x := ⟨_, rfl⟩
  have hok := rok_time h0 h ex ey
  rw [ex] at u1 u2 r1
  rw [ey] at u3 u4 r2
  have hcase : (decide (60 ≤ y) = true ∧ Hid (ROk s a ((0, 0, 0, []), (a : Int), 3))) ∨ (decide (60 ≤ y) = false ∧ decide (1440 < 60 * x + y) = true ∧ Hid (ROk s a ((0, 0, 0, []), (a : Int), 3))) ∨ (decide (60 ≤ y) = false ∧ decide (1440 < 60 * x + y) = false ∧ Hid (ROk s a ((4, 60 * x + y, (a : Int), []), (a : Int) + 5, 0))) := by
    by_cases h1 : 60 ≤ y
    · rw [if_pos (.inl h1)] at hok; exact .inl ⟨by simpa using h1, Lib.hid hok⟩
    · by_cases h2 : 1440 < 60 * x + y
      · rw [if_pos (.inr h2)] at hok; exact .inr (.inl ⟨by simpa using h1, by simpa using h2, Lib.hid hok⟩)
      · rw [if_neg (by omega)] at hok; exact .inr (.inr ⟨by simpa using h1, by simpa using h2, Lib.hid hok⟩)
  clear p1 p2 p3 p4 p5 t1 t2 t3 hx hok ex ey h0 h
  replace hD := Lib.hid hD
  replace hcase := Lib.hid hcase
  go_enter Try.func73, Try.ntmps73
  go_wp2_with fail
  refine (q1.out _).mono ?_
  rintro e1 w1 ⟨rfl, hb1⟩
  obtain ⟨m1, rfl⟩ := After.of hb1
  have z1 := m1.size
  simp at z1
  have B1 := (Blk.new w 75 #[.int .i64 0, .int .i64 0, .int .i64 0, strV []]).after m1 (by simp)
  go_wp2_with fail
  refine (q2.out _).mono ?_
  rintro e1 w2 ⟨rfl, hb2⟩
  obtain ⟨m2, rfl⟩ := After.of hb2
  have z2 := m2.size
  have B2 := B1.after m2 (by omega)
  go_wp2_with fail
  refine (q3.out _).mono ?_
  rintro e1 w2 ⟨rfl, hb3⟩
  obtain ⟨m3, rfl⟩ := After.of hb3
  have z3 := m3.size
  have B3 := B2.after m3 (by omega)
  have hbw : Below w.heap.size w m3.w := (by repeat (first | exact Below.refl _ _ | assumption | refine Below.n _ ?_ (by first | omega | (simp; done) | (simp; omega)) | refine Below.alloc ?_ (by first | omega | (simp; done) | (simp; omega)) _ | refine Below.setCell ?_ (by first | omega | (simp; done) | (simp; omega)) _ | refine Below.drew ?_ | refine Below.setRow ?_ (by first | omega | (simp; done) | (simp; omega)) _ | refine Below.drewN ?_ _))
  clear B1 B2 hb1 hb2 hb3 q1 q2 q3
  generalize m3.w = W at *
  clear m3 z1 z2
  go_upto_region 4 with fail
  go_cut [60] (fun s60 wx => s60 = .bool false ∧ wx = W)
  case first =>
    have hD2 := hD.out
    have hh : c1 = false ∨ c1 = true ∧ c2 = false ∨ c1 = true ∧ c2 = true ∧ c3 = false ∨ c1 = true ∧ c2 = true ∧ c3 = true ∧ c4 = false ∨ c1 = true ∧ c2 = true ∧ c3 = true ∧ c4 = true ∧ c5 = false := by
      revert hD2; cases c1 <;> cases c2 <;> cases c3 <;> cases c4 <;> cases c5 <;> simp
    clear hD2 hD hcase
    rcases hh with rfl | ⟨rfl, rfl⟩ | ⟨rfl, rfl, rfl⟩ | ⟨rfl, rfl, rfl, rfl⟩ | ⟨rfl, rfl, rfl, rfl, rfl⟩
    all_goals
      go_wp2_with (go_at_call 100; first | ((with_reducible refine (q4.out _).mono ?_); rintro e' w' ⟨rfl, rfl⟩) | ((with_reducible refine (q5.out _).mono ?_); rintro e' w' ⟨rfl, rfl⟩))
      go_meet
      exact ⟨rfl, rfl⟩
  case rest =>
    obtain ⟨rfl, rfl⟩ := hcut
    have zW := B3.lt
    go_wp2_with fail
    refine (r1.out _).mono ?_
    rintro e1 w4 ⟨rfl, hb4⟩
    obtain ⟨m4, rfl⟩ := After.of hb4
    have z4 := m4.size
    have B4 := B3.after m4 (by omega)
    go_wp2_with fail
    refine (r2.out _).mono ?_
    rintro e1 w5 ⟨rfl, hb5⟩
    obtain ⟨m5, rfl⟩ := After.of hb5
    have z5 := m5.size
    have B5 := B4.after m5 (by omega)
    go_wp2_with fail
    refine (r3.out _).mono ?_
    rintro e1 w2 ⟨rfl, rfl⟩
    have f0 : ∀ j, m5.w.frozen? ⟨w.heap.size, j, none⟩ = false := fun j => B5.frozen j
    have k0 : m5.w.cell? ⟨w.heap.size, 0, none⟩ = some (.int .i64 0) := B5.cell 0
    have k1 : m5.w.cell? ⟨w.heap.size, 1, none⟩ = some (.int .i64 0) := B5.cell 1
    have k2 : m5.w.cell? ⟨w.heap.size, 2, none⟩ = some (.int .i64 0) := B5.cell 2
    have k3 : m5.w.cell? ⟨w.heap.size, 3, none⟩ = some (strV []) := B5.cell 3
    rcases hcase.out with ⟨g1, hok⟩ | ⟨g1, g2, hok⟩ | ⟨g1, g2, hok⟩
    all_goals go_wp2
    · refine bodyPost_ret (v := retOne ((0, 0, 0, []), (a : Int), 3)) ?_ rfl ⟨_, rfl, hok.out, (by repeat (first | exact Below.refl _ _ | assumption | refine Below.n _ ?_ (by first | omega | (simp; done) | (simp; omega)) | refine Below.alloc ?_ (by first | omega | (simp; done) | (simp; omega)) _ | refine Below.setCell ?_ (by first | omega | (simp; done) | (simp; omega)) _ | refine Below.drew ?_ | refine Below.setRow ?_ (by first | omega | (simp; done) | (simp; omega)) _ | refine Below.drewN ?_ _))⟩
      simp [results, Try.results73, go_sem, retOne, k0, k1, k2, k3]
    · refine bodyPost_ret (v := retOne ((0, 0, 0, []), (a : Int), 3)) ?_ rfl ⟨_, rfl, hok.out, (by repeat (first | exact Below.refl _ _ | assumption | refine Below.n _ ?_ (by first | omega | (simp; done) | (simp; omega)) | refine Below.alloc ?_ (by first | omega | (simp; done) | (simp; omega)) _ | refine Below.setCell ?_ (by first | omega | (simp; done) | (simp; omega)) _ | refine Below.drew ?_ | refine Below.setRow ?_ (by first | omega | (simp; done) | (simp; omega)) _ | refine Below.drewN ?_ _))⟩
      simp [results, Try.results73, go_sem, retOne, k0, k1, k2, k3]
    · refine bodyPost_ret (v := retOne ((4, 60 * x + y, (a : Int), []), (a : Int) + 5, 0)) ?_ rfl ⟨_, rfl, hok.out, (by repeat (first | exact Below.refl _ _ | assumption | refine Below.n _ ?_ (by first | omega | (simp; done) | (simp; omega)) | refine Below.alloc ?_ (by first | omega | (simp; done) | (simp; omega)) _ | refine Below.setCell ?_ (by first | omega | (simp; done) | (simp; omega)) _ | refine Below.drew ?_ | refine Below.setRow ?_ (by first | omega | (simp; done) | (simp; omega)) _ | refine Below.drewN ?_ _))⟩
      simp [results, Try.results73, go_sem, retOne, k0, k1, k2, k3]

end Lx
end Go.Proofs.Ytfhedopfjgjffaa
