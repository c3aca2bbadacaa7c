/- The walk of the reference's One: signs. -/
import Derived.Test.YtfhedopfjgjffaaLexT
import Derived.Lib.SlBytesConst
namespace Go.Proofs.Ytfhedopfjgjffaa
open Go.RowKit
namespace Lx
open Sl (strV)

def signsA : Array Value := #[.int .u8 61, .int .u8 59, .int .u8 58, .int .u8 43, .int .u8 45, .int .u8 38, .int .u8 40, .int .u8 41, .int .u8 44]
theorem signs_get (i : Nat) : signsA[i]? = (signs[i]?).map fun c => Value.int .u8 (c.toNat : Int) := by
  rcases i with _ | _ | _ | _ | _ | _ | _ | _ | _ | i <;> first | rfl | simp [signsA, signs]

theorem one_results {tmps : Array Value} {W : World} {g : Nat} {a b c n e : Int} {s : List UInt8} (t4 : tmps.getD 4 undef = .pointer (some ⟨g, 0, none⟩)) (t5 : tmps.getD 5 undef = .int .i64 n) (t6 : tmps.getD 6 undef = .int .i64 e)
    (h0 : W.cell? ⟨g, 0, none⟩ = some (.int .i64 a)) (h1 : W.cell? ⟨g, 1, none⟩ = some (.int .i64 b)) (h2 : W.cell? ⟨g, 2, none⟩ = some (.int .i64 c)) (h3 : W.cell? ⟨g, 3, none⟩ = some (strV s)) :
    (results Try.f73 tmps).run Try.prog W = .ok (retOne ((a, b, c, s), n, e)) W := by
  simp only [Array.getD_eq_getD_getElem?] at t4 t5 t6
  simp [results, Try.results73, go_sem, retOne, t4, t5, t6, h0, h1, h2, h3]

theorem signs_none {c : UInt8} {j : Nat} (hj : 9 ≤ j) (hno : ∀ i, i < j → signs[i]? ≠ some c) : signs.contains c = false := by
  cases h : signs.contains c with
  | false => rfl
  | true =>
    rw [List.contains_iff_mem] at h
    obtain ⟨i, hi, e⟩ := List.getElem_of_mem h
    have h9 : signs.length = 9 := rfl
    exact absurd (by rw [List.getElem?_eq_getElem hi, e]) (hno i (by omega))

set_option maxHeartbeats 8000000 in
set_option maxRecDepth 100000 in
theorem One_dots (s : List UInt8) (a : Nat) (c : UInt8) (w : World) (hl : s.length ≤ 6000) (hc : s[a]? = some c) (h0 : shapeGo (s.drop a) dateS = false) (h1 : shapeGo (s.drop a) timeS = false) (hd : digit c.toNat = false) (hs : small c.toNat = false) (hk : signAt s a 46 = true ∧ signAt s (a + 1) 46 = true) : Calls Try.prog 73 #[strV s, .int .i64 a] w (ROnePost s a w) := by
  have ha : a < s.length := (List.getElem?_eq_some_iff.1 hc).1
  have haI : (a : Int) < s.length := by omega
  have hD := (rDate_eq s a).trans h0
  unfold rDate at hD
  have hT := (rTime_eq s a).trans h1
  unfold rTime at hT
  obtain ⟨⟨x1, c1⟩, p1⟩ : ∃ x, digAt s a 4 = x := ⟨_, rfl⟩
  obtain ⟨⟨x2, c2⟩, p2⟩ : ∃ x, digAt s (a + 5) 2 = x := ⟨_, rfl⟩
  obtain ⟨⟨x3, c3⟩, p3⟩ : ∃ x, digAt s (a + 8) 2 = x := ⟨_, rfl⟩
  obtain ⟨c4, p4⟩ : ∃ x, signAt s (a + 4) 45 = x := ⟨_, rfl⟩
  obtain ⟨c5, p5⟩ : ∃ x, signAt s (a + 7) 45 = x := ⟨_, rfl⟩
  obtain ⟨⟨y1, d1⟩, t1⟩ : ∃ x, digAt s a 2 = x := ⟨_, rfl⟩
  obtain ⟨⟨y2, d2⟩, t2⟩ : ∃ x, digAt s (a + 3) 2 = x := ⟨_, rfl⟩
  obtain ⟨d3, t3⟩ : ∃ x, signAt s (a + 2) 58 = x := ⟨_, rfl⟩
  rw [p1, p2, p3, p4, p5] at hD
  dsimp only at hD
  rw [t1, t2, t3] at hT
  dsimp only at hT
  have q1 := Lib.hid (fun W => digits_at (i := (a : Int)) (k := 4) W hl (by omega) (by omega) (by omega) (by omega) p1)
  have q2 := Lib.hid (fun W => digits_at (i := (a : Int) + 5) (k := 2) W hl (by omega) (by omega) (by omega) (by omega) p2)
  have q3 := Lib.hid (fun W => digits_at (i := (a : Int) + 8) (k := 2) W hl (by omega) (by omega) (by omega) (by omega) p3)
  have q4 := Lib.hid (fun W => sign_at (i := (a : Int) + 4) (k := 45) W (by omega) rfl p4)
  have q5 := Lib.hid (fun W => sign_at (i := (a : Int) + 7) (k := 45) W (by omega) rfl p5)
  have r1 := Lib.hid (fun W => digits_at (i := (a : Int)) (k := 2) W hl (by omega) (by omega) (by omega) (by omega) t1)
  have r2 := Lib.hid (fun W => digits_at (i := (a : Int) + 3) (k := 2) W hl (by omega) (by omega) (by omega) (by omega) t2)
  have r3 := Lib.hid (fun W => sign_at (i := (a : Int) + 2) (k := 58) W (by omega) rfl t3)
  have hb0 := bAt_of hc
  have cd := fun W => rdigit c.toNat W
  rw [hd] at cd
  replace cd := Lib.hid cd
  have cs := fun W => rlow c.toNat W
  rw [hs] at cs
  replace cs := Lib.hid cs
  obtain ⟨f1, v1⟩ : ∃ x, signAt s a 46 = x := ⟨_, rfl⟩
  obtain ⟨f2, v2⟩ : ∃ x, signAt s (a + 1) 46 = x := ⟨_, rfl⟩
  have o1 := Lib.hid (fun W => sign_at (i := (a : Int)) (k := 46) W rfl rfl v1)
  have o2 := Lib.hid (fun W => sign_at (i := (a : Int) + 1) (k := 46) W (by omega) rfl v2)
  have hdd := two_dots (s := s) (a := a)
  rw [v1, v2] at hdd
  rw [v1, v2] at hk
  obtain ⟨rfl, rfl⟩ := hk
  have h2 : (s.drop a).take 2 = [46, 46] := of_decide_eq_true hdd.symm
  have hok := Lib.hid (rok_dots h0 h1 hc hd hs h2)
  clear v1 v2 hdd hd hs h2
  clear p1 p2 p3 p4 p5 t1 t2 t3 h0 h1 hc
  replace hD := Lib.hid hD
  replace hT := Lib.hid hT
  go_enter Try.func73, Try.ntmps73
  go_wp2_with fail
  refine (q1.out _).mono ?_
  rintro e1 w1 ⟨rfl, hb1⟩
  obtain ⟨m1, rfl⟩ := After.of hb1
  have z1 := m1.size
  simp at z1
  have B1 := (Blk.new w 75 #[.int .i64 0, .int .i64 0, .int .i64 0, strV []]).after m1 (by simp)
  go_wp2_with fail
  refine (q2.out _).mono ?_
  rintro e1 w2 ⟨rfl, hb2⟩
  obtain ⟨m2, rfl⟩ := After.of hb2
  have z2 := m2.size
  have B2 := B1.after m2 (by omega)
  go_wp2_with fail
  refine (q3.out _).mono ?_
  rintro e1 w2 ⟨rfl, hb3⟩
  obtain ⟨m3, rfl⟩ := After.of hb3
  have z3 := m3.size
  have B3 := B2.after m3 (by omega)
  have hbw : Below w.heap.size w m3.w := (by repeat (first | exact Below.refl _ _ | assumption | refine Below.n _ ?_ (by first | omega | (simp; done) | (simp; omega)) | refine Below.alloc ?_ (by first | omega | (simp; done) | (simp; omega)) _ | refine Below.setCell ?_ (by first | omega | (simp; done) | (simp; omega)) _ | refine Below.drew ?_ | refine Below.setRow ?_ (by first | omega | (simp; done) | (simp; omega)) _ | refine Below.drewN ?_ _))
  clear B1 B2 hb1 hb2 hb3 q1 q2 q3
  generalize m3.w = W at *
  clear m3 z1 z2
  go_upto_region 4 with fail
  go_cut [60] (fun s60 wx => s60 = .bool false ∧ wx = W)
  case first =>
    have hD2 := hD.out
    have hh : c1 = false ∨ c1 = true ∧ c2 = false ∨ c1 = true ∧ c2 = true ∧ c3 = false ∨ c1 = true ∧ c2 = true ∧ c3 = true ∧ c4 = false ∨ c1 = true ∧ c2 = true ∧ c3 = true ∧ c4 = true ∧ c5 = false := by
      revert hD2; cases c1 <;> cases c2 <;> cases c3 <;> cases c4 <;> cases c5 <;> simp
    clear hD2 hD hT
    rcases hh with rfl | ⟨rfl, rfl⟩ | ⟨rfl, rfl, rfl⟩ | ⟨rfl, rfl, rfl, rfl⟩ | ⟨rfl, rfl, rfl, rfl, rfl⟩
    all_goals
      go_wp2_with (go_at_call 100; first | ((with_reducible refine (q4.out _).mono ?_); rintro e' w' ⟨rfl, rfl⟩) | ((with_reducible refine (q5.out _).mono ?_); rintro e' w' ⟨rfl, rfl⟩))
      go_meet
      exact ⟨rfl, rfl⟩
  obtain ⟨rfl, rfl⟩ := hcut
  have zW := B3.lt
  go_wp2_with fail
  refine (r1.out _).mono ?_
  rintro e1 w4 ⟨rfl, hb4⟩
  obtain ⟨m4, rfl⟩ := After.of hb4
  have z4 := m4.size
  have B4 := B3.after m4 (by omega)
  go_wp2_with fail
  refine (r2.out _).mono ?_
  rintro e1 w5 ⟨rfl, hb5⟩
  obtain ⟨m5, rfl⟩ := After.of hb5
  have z5 := m5.size
  have B5 := B4.after m5 (by omega)
  have hbx : Below w.heap.size w m5.w := (by repeat (first | exact Below.refl _ _ | assumption | refine Below.n _ ?_ (by first | omega | (simp; done) | (simp; omega)) | refine Below.alloc ?_ (by first | omega | (simp; done) | (simp; omega)) _ | refine Below.setCell ?_ (by first | omega | (simp; done) | (simp; omega)) _ | refine Below.drew ?_ | refine Below.setRow ?_ (by first | omega | (simp; done) | (simp; omega)) _ | refine Below.drewN ?_ _))
  clear B3 B4 hb4 hb5 r1 r2 hbw q4 q5 hD
  generalize m5.w = W5 at *
  clear m5 z4 z5 m4
  go_upto_region 9 with fail
  go_cut [97] (fun s60 wx => s60 = .bool false ∧ wx = W5)
  case first =>
    have hT2 := hT.out
    have hh : d1 = false ∨ d1 = true ∧ d2 = false ∨ d1 = true ∧ d2 = true ∧ d3 = false := by
      revert hT2; cases d1 <;> cases d2 <;> cases d3 <;> simp
    clear hT2 hT
    rcases hh with rfl | ⟨rfl, rfl⟩ | ⟨rfl, rfl, rfl⟩
    all_goals
      go_wp2_with (go_at_call 100; (with_reducible refine (r3.out _).mono ?_); rintro e' w' ⟨rfl, rfl⟩)
      go_meet
      exact ⟨rfl, rfl⟩
  obtain ⟨rfl, wcx⟩ := hcut
  obtain rfl := wcx
  have zW5 := B5.lt
  clear hT r3
  go_wp2_with fail
  refine (cd.out _).mono ?_
  rintro e1 w2 ⟨rfl, rfl⟩
  go_wp2_with fail
  refine (cs.out _).mono ?_
  rintro e1 w2 ⟨rfl, rfl⟩
  clear cd cs
  have f0 : ∀ j, wc.frozen? ⟨w.heap.size, j, none⟩ = false := fun j => B5.frozen j
  have k0 : wc.cell? ⟨w.heap.size, 0, none⟩ = some (.int .i64 0) := B5.cell 0
  have k1 : wc.cell? ⟨w.heap.size, 1, none⟩ = some (.int .i64 0) := B5.cell 1
  have k2 : wc.cell? ⟨w.heap.size, 2, none⟩ = some (.int .i64 0) := B5.cell 2
  have k3 : wc.cell? ⟨w.heap.size, 3, none⟩ = some (strV []) := B5.cell 3
  go_wp2_with fail
  refine (o1.out _).mono ?_
  rintro e1 w2 ⟨rfl, rfl⟩
  go_wp2_with fail
  refine (o2.out _).mono ?_
  rintro e1 w2 ⟨rfl, rfl⟩
  go_wp2
  refine bodyPost_ret (v := retOne ((3, 0, (a : Int), [46, 46]), (a : Int) + 2, 0)) ?_ rfl ⟨_, rfl, hok.out, (by repeat (first | exact Below.refl _ _ | assumption | refine Below.n _ ?_ (by first | omega | (simp; done) | (simp; omega)) | refine Below.alloc ?_ (by first | omega | (simp; done) | (simp; omega)) _ | refine Below.setCell ?_ (by first | omega | (simp; done) | (simp; omega)) _ | refine Below.drew ?_ | refine Below.setRow ?_ (by first | omega | (simp; done) | (simp; omega)) _ | refine Below.drewN ?_ _))⟩
  simp [results, Try.results73, go_sem, retOne, k0, k1, k2, k3]

set_option maxHeartbeats 8000000 in
set_option maxRecDepth 100000 in
theorem One_sign1 (s : List UInt8) (a : Nat) (c : UInt8) (w : World) (hl : s.length ≤ 6000) (hc : s[a]? = some c) (h0 : shapeGo (s.drop a) dateS = false) (h1 : shapeGo (s.drop a) timeS = false) (hd : digit c.toNat = false) (hs : small c.toNat = false) (hk : signAt s a 46 = false) : Calls Try.prog 73 #[strV s, .int .i64 a] w (ROnePost s a w) := by
  have ha : a < s.length := (List.getElem?_eq_some_iff.1 hc).1
  have haI : (a : Int) < s.length := by omega
  have hD := (rDate_eq s a).trans h0
  unfold rDate at hD
  have hT := (rTime_eq s a).trans h1
  unfold rTime at hT
  obtain ⟨⟨x1, c1⟩, p1⟩ : ∃ x, digAt s a 4 = x := ⟨_, rfl⟩
  obtain ⟨⟨x2, c2⟩, p2⟩ : ∃ x, digAt s (a + 5) 2 = x := ⟨_, rfl⟩
  obtain ⟨⟨x3, c3⟩, p3⟩ : ∃ x, digAt s (a + 8) 2 = x := ⟨_, rfl⟩
  obtain ⟨c4, p4⟩ : ∃ x, signAt s (a + 4) 45 = x := ⟨_, rfl⟩
  obtain ⟨c5, p5⟩ : ∃ x, signAt s (a + 7) 45 = x := ⟨_, rfl⟩
  obtain ⟨⟨y1, d1⟩, t1⟩ : ∃ x, digAt s a 2 = x := ⟨_, rfl⟩
  obtain ⟨⟨y2, d2⟩, t2⟩ : ∃ x, digAt s (a + 3) 2 = x := ⟨_, rfl⟩
  obtain ⟨d3, t3⟩ : ∃ x, signAt s (a + 2) 58 = x := ⟨_, rfl⟩
  rw [p1, p2, p3, p4, p5] at hD
  dsimp only at hD
  rw [t1, t2, t3] at hT
  dsimp only at hT
  have q1 := Lib.hid (fun W => digits_at (i := (a : Int)) (k := 4) W hl (by omega) (by omega) (by omega) (by omega) p1)
  have q2 := Lib.hid (fun W => digits_at (i := (a : Int) + 5) (k := 2) W hl (by omega) (by omega) (by omega) (by omega) p2)
  have q3 := Lib.hid (fun W => digits_at (i := (a : Int) + 8) (k := 2) W hl (by omega) (by omega) (by omega) (by omega) p3)
  have q4 := Lib.hid (fun W => sign_at (i := (a : Int) + 4) (k := 45) W (by omega) rfl p4)
  have q5 := Lib.hid (fun W => sign_at (i := (a : Int) + 7) (k := 45) W (by omega) rfl p5)
  have r1 := Lib.hid (fun W => digits_at (i := (a : Int)) (k := 2) W hl (by omega) (by omega) (by omega) (by omega) t1)
  have r2 := Lib.hid (fun W => digits_at (i := (a : Int) + 3) (k := 2) W hl (by omega) (by omega) (by omega) (by omega) t2)
  have r3 := Lib.hid (fun W => sign_at (i := (a : Int) + 2) (k := 58) W (by omega) rfl t3)
  have hb0 := bAt_of hc
  have cd := fun W => rdigit c.toNat W
  rw [hd] at cd
  replace cd := Lib.hid cd
  have cs := fun W => rlow c.toNat W
  rw [hs] at cs
  replace cs := Lib.hid cs
  obtain ⟨f1, v1⟩ : ∃ x, signAt s a 46 = x := ⟨_, rfl⟩
  obtain ⟨f2, v2⟩ : ∃ x, signAt s (a + 1) 46 = x := ⟨_, rfl⟩
  have o1 := Lib.hid (fun W => sign_at (i := (a : Int)) (k := 46) W rfl rfl v1)
  have o2 := Lib.hid (fun W => sign_at (i := (a : Int) + 1) (k := 46) W (by omega) rfl v2)
  have hdd := two_dots (s := s) (a := a)
  rw [v1, v2] at hdd
  rw [v1] at hk
  subst hk
  have h2 : ¬ (s.drop a).take 2 = [46, 46] := of_decide_eq_false hdd.symm
  have hok1 := Lib.hid (fun h3 => rok_sign h0 h1 hc hd hs h2 h3)
  have hok2 := Lib.hid (fun h3 => rok_none h0 h1 hc hd hs h2 h3)
  clear v1 v2 hdd hd hs h2
  clear p1 p2 p3 p4 p5 t1 t2 t3 h0 h1 hc
  replace hD := Lib.hid hD
  replace hT := Lib.hid hT
  go_enter Try.func73, Try.ntmps73
  go_wp2_with fail
  refine (q1.out _).mono ?_
  rintro e1 w1 ⟨rfl, hb1⟩
  obtain ⟨m1, rfl⟩ := After.of hb1
  have z1 := m1.size
  simp at z1
  have B1 := (Blk.new w 75 #[.int .i64 0, .int .i64 0, .int .i64 0, strV []]).after m1 (by simp)
  go_wp2_with fail
  refine (q2.out _).mono ?_
  rintro e1 w2 ⟨rfl, hb2⟩
  obtain ⟨m2, rfl⟩ := After.of hb2
  have z2 := m2.size
  have B2 := B1.after m2 (by omega)
  go_wp2_with fail
  refine (q3.out _).mono ?_
  rintro e1 w2 ⟨rfl, hb3⟩
  obtain ⟨m3, rfl⟩ := After.of hb3
  have z3 := m3.size
  have B3 := B2.after m3 (by omega)
  have hbw : Below w.heap.size w m3.w := (by repeat (first | exact Below.refl _ _ | assumption | refine Below.n _ ?_ (by first | omega | (simp; done) | (simp; omega)) | refine Below.alloc ?_ (by first | omega | (simp; done) | (simp; omega)) _ | refine Below.setCell ?_ (by first | omega | (simp; done) | (simp; omega)) _ | refine Below.drew ?_ | refine Below.setRow ?_ (by first | omega | (simp; done) | (simp; omega)) _ | refine Below.drewN ?_ _))
  clear B1 B2 hb1 hb2 hb3 q1 q2 q3
  generalize m3.w = W at *
  clear m3 z1 z2
  go_upto_region 4 with fail
  go_cut [60] (fun s60 wx => s60 = .bool false ∧ wx = W)
  case first =>
    have hD2 := hD.out
    have hh : c1 = false ∨ c1 = true ∧ c2 = false ∨ c1 = true ∧ c2 = true ∧ c3 = false ∨ c1 = true ∧ c2 = true ∧ c3 = true ∧ c4 = false ∨ c1 = true ∧ c2 = true ∧ c3 = true ∧ c4 = true ∧ c5 = false := by
      revert hD2; cases c1 <;> cases c2 <;> cases c3 <;> cases c4 <;> cases c5 <;> simp
    clear hD2 hD hT
    rcases hh with rfl | ⟨rfl, rfl⟩ | ⟨rfl, rfl, rfl⟩ | ⟨rfl, rfl, rfl, rfl⟩ | ⟨rfl, rfl, rfl, rfl, rfl⟩
    all_goals
      go_wp2_with (go_at_call 100; first | ((with_reducible refine (q4.out _).mono ?_); rintro e' w' ⟨rfl, rfl⟩) | ((with_reducible refine (q5.out _).mono ?_); rintro e' w' ⟨rfl, rfl⟩))
      go_meet
      exact ⟨rfl, rfl⟩
  obtain ⟨rfl, rfl⟩ := hcut
  have zW := B3.lt
  go_wp2_with fail
  refine (r1.out _).mono ?_
  rintro e1 w4 ⟨rfl, hb4⟩
  obtain ⟨m4, rfl⟩ := After.of hb4
  have z4 := m4.size
  have B4 := B3.after m4 (by omega)
  go_wp2_with fail
  refine (r2.out _).mono ?_
  rintro e1 w5 ⟨rfl, hb5⟩
  obtain ⟨m5, rfl⟩ := After.of hb5
  have z5 := m5.size
  have B5 := B4.after m5 (by omega)
  have hbx : Below w.heap.size w m5.w := (by repeat (first | exact Below.refl _ _ | assumption | refine Below.n _ ?_ (by first | omega | (simp; done) | (simp; omega)) | refine Below.alloc ?_ (by first | omega | (simp; done) | (simp; omega)) _ | refine Below.setCell ?_ (by first | omega | (simp; done) | (simp; omega)) _ | refine Below.drew ?_ | refine Below.setRow ?_ (by first | omega | (simp; done) | (simp; omega)) _ | refine Below.drewN ?_ _))
  clear B3 B4 hb4 hb5 r1 r2 hbw q4 q5 hD
  generalize m5.w = W5 at *
  clear m5 z4 z5 m4
  go_upto_region 9 with fail
  go_cut [97] (fun s60 wx => s60 = .bool false ∧ wx = W5)
  case first =>
    have hT2 := hT.out
    have hh : d1 = false ∨ d1 = true ∧ d2 = false ∨ d1 = true ∧ d2 = true ∧ d3 = false := by
      revert hT2; cases d1 <;> cases d2 <;> cases d3 <;> simp
    clear hT2 hT
    rcases hh with rfl | ⟨rfl, rfl⟩ | ⟨rfl, rfl, rfl⟩
    all_goals
      go_wp2_with (go_at_call 100; (with_reducible refine (r3.out _).mono ?_); rintro e' w' ⟨rfl, rfl⟩)
      go_meet
      exact ⟨rfl, rfl⟩
  obtain ⟨rfl, wcx⟩ := hcut
  obtain rfl := wcx
  have zW5 := B5.lt
  clear hT r3
  go_wp2_with fail
  refine (cd.out _).mono ?_
  rintro e1 w2 ⟨rfl, rfl⟩
  go_wp2_with fail
  refine (cs.out _).mono ?_
  rintro e1 w2 ⟨rfl, rfl⟩
  clear cd cs
  go_wp2_with fail
  refine (o1.out _).mono ?_
  rintro e1 w2 ⟨rfl, rfl⟩
  clear o1 o2
  have kb := fun (w : World) (C : Array Value) (n c : Nat) => Lib.run_convert_bytes_const (P := Try.prog) w 145 5 C n c Try.underlying145 Try.underlying5
  go_wp2_with fail
  clear kb
  go_loopg [215] 9 (fun q k wr => ∃ j : Nat, j ≤ 9 ∧ q = 9 - j ∧ k = .int .i64 j ∧ Hid (∀ i, i < j → signs[i]? ≠ some c) ∧ Below w.heap.size w wr ∧ Blk wr w.heap.size 75 #[.int .i64 0, .int .i64 0, .int .i64 0, strV []] ∧ w.heap.size < wc.heap.size ∧ Hid (∀ i, wr.cell? ⟨wc.heap.size, i, none⟩ = signsA[i]?))
  case atStart => exact ⟨0, by omega, rfl, rfl, Lib.hid (fun i hi => by omega), (by repeat (first | exact Below.refl _ _ | assumption | refine Below.n _ ?_ (by first | omega | (simp; done) | (simp; omega)) | refine Below.alloc ?_ (by first | omega | (simp; done) | (simp; omega)) _ | refine Below.setCell ?_ (by first | omega | (simp; done) | (simp; omega)) _ | refine Below.drew ?_ | refine Below.setRow ?_ (by first | omega | (simp; done) | (simp; omega)) _ | refine Below.drewN ?_ _)), B5.alloc _, zW5, Lib.hid (fun i => World.cell?_alloc_mark _ _ _ _ i)⟩
  case round =>
    obtain ⟨j, hj, hq, rfl, hno, hbr, B6, zz, BS⟩ := hrel
    replace hq := Lib.hid hq
    have f0 : ∀ j, wr.frozen? ⟨w.heap.size, j, none⟩ = false := fun j => B6.frozen j
    have k0 : wr.cell? ⟨w.heap.size, 0, none⟩ = some (.int .i64 0) := B6.cell 0
    have k1 : wr.cell? ⟨w.heap.size, 1, none⟩ = some (.int .i64 0) := B6.cell 1
    have k2 : wr.cell? ⟨w.heap.size, 2, none⟩ = some (.int .i64 0) := B6.cell 2
    have k3 : wr.cell? ⟨w.heap.size, 3, none⟩ = some (strV []) := B6.cell 3
    by_cases hlt : j < 9
    · obtain ⟨x, hx⟩ : ∃ x, signs[j]? = some x := ⟨_, List.getElem?_eq_getElem hlt⟩
      have cx : wr.cell? ⟨wc.heap.size, j, none⟩ = some (.int .u8 (x.toNat : Int)) := (BS.out j).trans (by rw [signs_get, hx]; rfl)
      have eb := beqI (c := c) (x := x)
      have hjI : (j : Int) < 9 := by omega
      by_cases hxc : c = x
      · have hok := Lib.hid (hok1.out (by rw [List.contains_iff_mem, hxc]; exact List.mem_of_getElem? hx))
        rw [show (c == x) = true by simpa using hxc] at eb
        clear hxc hx hno hok1 hok2
        go_wp2
        refine bodyPost_ret (v := retOne ((3, 0, (a : Int), (s.take (a + 1)).drop a), (a : Int) + 1, 0)) ?_ rfl ⟨_, rfl, hok.out, (by repeat (first | exact Below.refl _ _ | assumption | refine Below.n _ ?_ (by first | omega | (simp; done) | (simp; omega)) | refine Below.alloc ?_ (by first | omega | (simp; done) | (simp; omega)) _ | refine Below.setCell ?_ (by first | omega | (simp; done) | (simp; omega)) _ | refine Below.drew ?_ | refine Below.setRow ?_ (by first | omega | (simp; done) | (simp; omega)) _ | refine Below.drewN ?_ _))⟩
        simp [results, Try.results73, go_sem, retOne, k0, k1, k2, k3]
      · rw [show (c == x) = false by simpa using hxc] at eb
        have hno2 := Lib.hid (show ∀ i, i < j + 1 → signs[i]? ≠ some c from fun i hi => by
          by_cases h : i = j
          · subst h; rw [hx]; intro e; exact hxc (Option.some.inj e).symm
          · exact hno.out i (by omega))
        clear hxc hx
        go_wp2
        go_roundg (9 - (j + 1))
        case measure => rw [hq.out]; omega
        case rel => exact ⟨j + 1, by omega, rfl, by go_num, hno2, hbr, B6, zz, BS⟩
    · have hok := Lib.hid (hok2.out (signs_none (show 9 ≤ j by omega) hno.out))
      have hjI : (9 : Int) ≤ j := by omega
      clear hno hok1 hok2 BS hlt hj
      go_wp2
      refine bodyPost_ret (v := retOne ((0, 0, 0, []), (a : Int), 2)) (one_results (g := w.heap.size) rfl rfl rfl ?_ ?_ ?_ ?_) rfl ⟨_, rfl, hok.out, (by repeat (first | exact Below.refl _ _ | assumption | refine Below.n _ ?_ (by first | omega | (simp; done) | (simp; omega)) | refine Below.alloc ?_ (by first | omega | (simp; done) | (simp; omega)) _ | refine Below.setCell ?_ (by first | omega | (simp; done) | (simp; omega)) _ | refine Below.drew ?_ | refine Below.setRow ?_ (by first | omega | (simp; done) | (simp; omega)) _ | refine Below.drewN ?_ _))⟩
      all_goals simp [go_sem, k0, k1, k2, k3]

set_option maxHeartbeats 8000000 in
set_option maxRecDepth 100000 in
theorem One_sign2 (s : List UInt8) (a : Nat) (c : UInt8) (w : World) (hl : s.length ≤ 6000) (hc : s[a]? = some c) (h0 : shapeGo (s.drop a) dateS = false) (h1 : shapeGo (s.drop a) timeS = false) (hd : digit c.toNat = false) (hs : small c.toNat = false) (hk : signAt s a 46 = true ∧ signAt s (a + 1) 46 = false) : Calls Try.prog 73 #[strV s, .int .i64 a] w (ROnePost s a w) := by
  have ha : a < s.length := (List.getElem?_eq_some_iff.1 hc).1
  have haI : (a : Int) < s.length := by omega
  have hD := (rDate_eq s a).trans h0
  unfold rDate at hD
  have hT := (rTime_eq s a).trans h1
  unfold rTime at hT
  obtain ⟨⟨x1, c1⟩, p1⟩ : ∃ x, digAt s a 4 = x := ⟨_, rfl⟩
  obtain ⟨⟨x2, c2⟩, p2⟩ : ∃ x, digAt s (a + 5) 2 = x := ⟨_, rfl⟩
  obtain ⟨⟨x3, c3⟩, p3⟩ : ∃ x, digAt s (a + 8) 2 = x := ⟨_, rfl⟩
  obtain ⟨c4, p4⟩ : ∃ x, signAt s (a + 4) 45 = x := ⟨_, rfl⟩
  obtain ⟨c5, p5⟩ : ∃ x, signAt s (a + 7) 45 = x := ⟨_, rfl⟩
  obtain ⟨⟨y1, d1⟩, t1⟩ : ∃ x, digAt s a 2 = x := ⟨_, rfl⟩
  obtain ⟨⟨y2, d2⟩, t2⟩ : ∃ x, digAt s (a + 3) 2 = x := ⟨_, rfl⟩
  obtain ⟨d3, t3⟩ : ∃ x, signAt s (a + 2) 58 = x := ⟨_, rfl⟩
  rw [p1, p2, p3, p4, p5] at hD
  dsimp only at hD
  rw [t1, t2, t3] at hT
  dsimp only at hT
  have q1 := Lib.hid (fun W => digits_at (i := (a : Int)) (k := 4) W hl (by omega) (by omega) (by omega) (by omega) p1)
  have q2 := Lib.hid (fun W => digits_at (i := (a : Int) + 5) (k := 2) W hl (by omega) (by omega) (by omega) (by omega) p2)
  have q3 := Lib.hid (fun W => digits_at (i := (a : Int) + 8) (k := 2) W hl (by omega) (by omega) (by omega) (by omega) p3)
  have q4 := Lib.hid (fun W => sign_at (i := (a : Int) + 4) (k := 45) W (by omega) rfl p4)
  have q5 := Lib.hid (fun W => sign_at (i := (a : Int) + 7) (k := 45) W (by omega) rfl p5)
  have r1 := Lib.hid (fun W => digits_at (i := (a : Int)) (k := 2) W hl (by omega) (by omega) (by omega) (by omega) t1)
  have r2 := Lib.hid (fun W => digits_at (i := (a : Int) + 3) (k := 2) W hl (by omega) (by omega) (by omega) (by omega) t2)
  have r3 := Lib.hid (fun W => sign_at (i := (a : Int) + 2) (k := 58) W (by omega) rfl t3)
  have hb0 := bAt_of hc
  have cd := fun W => rdigit c.toNat W
  rw [hd] at cd
  replace cd := Lib.hid cd
  have cs := fun W => rlow c.toNat W
  rw [hs] at cs
  replace cs := Lib.hid cs
  obtain ⟨f1, v1⟩ : ∃ x, signAt s a 46 = x := ⟨_, rfl⟩
  obtain ⟨f2, v2⟩ : ∃ x, signAt s (a + 1) 46 = x := ⟨_, rfl⟩
  have o1 := Lib.hid (fun W => sign_at (i := (a : Int)) (k := 46) W rfl rfl v1)
  have o2 := Lib.hid (fun W => sign_at (i := (a : Int) + 1) (k := 46) W (by omega) rfl v2)
  have hdd := two_dots (s := s) (a := a)
  rw [v1, v2] at hdd
  rw [v1, v2] at hk
  obtain ⟨rfl, rfl⟩ := hk
  have h2 : ¬ (s.drop a).take 2 = [46, 46] := of_decide_eq_false hdd.symm
  have hok1 := Lib.hid (fun h3 => rok_sign h0 h1 hc hd hs h2 h3)
  have hok2 := Lib.hid (fun h3 => rok_none h0 h1 hc hd hs h2 h3)
  clear v1 v2 hdd hd hs h2
  clear p1 p2 p3 p4 p5 t1 t2 t3 h0 h1 hc
  replace hD := Lib.hid hD
  replace hT := Lib.hid hT
  go_enter Try.func73, Try.ntmps73
  go_wp2_with fail
  refine (q1.out _).mono ?_
  rintro e1 w1 ⟨rfl, hb1⟩
  obtain ⟨m1, rfl⟩ := After.of hb1
  have z1 := m1.size
  simp at z1
  have B1 := (Blk.new w 75 #[.int .i64 0, .int .i64 0, .int .i64 0, strV []]).after m1 (by simp)
  go_wp2_with fail
  refine (q2.out _).mono ?_
  rintro e1 w2 ⟨rfl, hb2⟩
  obtain ⟨m2, rfl⟩ := After.of hb2
  have z2 := m2.size
  have B2 := B1.after m2 (by omega)
  go_wp2_with fail
  refine (q3.out _).mono ?_
  rintro e1 w2 ⟨rfl, hb3⟩
  obtain ⟨m3, rfl⟩ := After.of hb3
  have z3 := m3.size
  have B3 := B2.after m3 (by omega)
  have hbw : Below w.heap.size w m3.w := (by repeat (first | exact Below.refl _ _ | assumption | refine Below.n _ ?_ (by first | omega | (simp; done) | (simp; omega)) | refine Below.alloc ?_ (by first | omega | (simp; done) | (simp; omega)) _ | refine Below.setCell ?_ (by first | omega | (simp; done) | (simp; omega)) _ | refine Below.drew ?_ | refine Below.setRow ?_ (by first | omega | (simp; done) | (simp; omega)) _ | refine Below.drewN ?_ _))
  clear B1 B2 hb1 hb2 hb3 q1 q2 q3
  generalize m3.w = W at *
  clear m3 z1 z2
  go_upto_region 4 with fail
  go_cut [60] (fun s60 wx => s60 = .bool false ∧ wx = W)
  case first =>
    have hD2 := hD.out
    have hh : c1 = false ∨ c1 = true ∧ c2 = false ∨ c1 = true ∧ c2 = true ∧ c3 = false ∨ c1 = true ∧ c2 = true ∧ c3 = true ∧ c4 = false ∨ c1 = true ∧ c2 = true ∧ c3 = true ∧ c4 = true ∧ c5 = false := by
      revert hD2; cases c1 <;> cases c2 <;> cases c3 <;> cases c4 <;> cases c5 <;> simp
    clear hD2 hD hT
    rcases hh with rfl | ⟨rfl, rfl⟩ | ⟨rfl, rfl, rfl⟩ | ⟨rfl, rfl, rfl, rfl⟩ | ⟨rfl, rfl, rfl, rfl, rfl⟩
    all_goals
      go_wp2_with (go_at_call 100; first | ((with_reducible refine (q4.out _).mono ?_); rintro e' w' ⟨rfl, rfl⟩) | ((with_reducible refine (q5.out _).mono ?_); rintro e' w' ⟨rfl, rfl⟩))
      go_meet
      exact ⟨rfl, rfl⟩
  obtain ⟨rfl, rfl⟩ := hcut
  have zW := B3.lt
  go_wp2_with fail
  refine (r1.out _).mono ?_
  rintro e1 w4 ⟨rfl, hb4⟩
  obtain ⟨m4, rfl⟩ := After.of hb4
  have z4 := m4.size
  have B4 := B3.after m4 (by omega)
  go_wp2_with fail
  refine (r2.out _).mono ?_
  rintro e1 w5 ⟨rfl, hb5⟩
  obtain ⟨m5, rfl⟩ := After.of hb5
  have z5 := m5.size
  have B5 := B4.after m5 (by omega)
  have hbx : Below w.heap.size w m5.w := (by repeat (first | exact Below.refl _ _ | assumption | refine Below.n _ ?_ (by first | omega | (simp; done) | (simp; omega)) | refine Below.alloc ?_ (by first | omega | (simp; done) | (simp; omega)) _ | refine Below.setCell ?_ (by first | omega | (simp; done) | (simp; omega)) _ | refine Below.drew ?_ | refine Below.setRow ?_ (by first | omega | (simp; done) | (simp; omega)) _ | refine Below.drewN ?_ _))
  clear B3 B4 hb4 hb5 r1 r2 hbw q4 q5 hD
  generalize m5.w = W5 at *
  clear m5 z4 z5 m4
  go_upto_region 9 with fail
  go_cut [97] (fun s60 wx => s60 = .bool false ∧ wx = W5)
  case first =>
    have hT2 := hT.out
    have hh : d1 = false ∨ d1 = true ∧ d2 = false ∨ d1 = true ∧ d2 = true ∧ d3 = false := by
      revert hT2; cases d1 <;> cases d2 <;> cases d3 <;> simp
    clear hT2 hT
    rcases hh with rfl | ⟨rfl, rfl⟩ | ⟨rfl, rfl, rfl⟩
    all_goals
      go_wp2_with (go_at_call 100; (with_reducible refine (r3.out _).mono ?_); rintro e' w' ⟨rfl, rfl⟩)
      go_meet
      exact ⟨rfl, rfl⟩
  obtain ⟨rfl, wcx⟩ := hcut
  obtain rfl := wcx
  have zW5 := B5.lt
  clear hT r3
  go_wp2_with fail
  refine (cd.out _).mono ?_
  rintro e1 w2 ⟨rfl, rfl⟩
  go_wp2_with fail
  refine (cs.out _).mono ?_
  rintro e1 w2 ⟨rfl, rfl⟩
  clear cd cs
  go_wp2_with fail
  refine (o1.out _).mono ?_
  rintro e1 w2 ⟨rfl, rfl⟩
  go_wp2_with fail
  refine (o2.out _).mono ?_
  rintro e1 w2 ⟨rfl, rfl⟩
  clear o1 o2
  have kb := fun (w : World) (C : Array Value) (n c : Nat) => Lib.run_convert_bytes_const (P := Try.prog) w 145 5 C n c Try.underlying145 Try.underlying5
  go_wp2_with fail
  clear kb
  go_loopg [215] 9 (fun q k wr => ∃ j : Nat, j ≤ 9 ∧ q = 9 - j ∧ k = .int .i64 j ∧ Hid (∀ i, i < j → signs[i]? ≠ some c) ∧ Below w.heap.size w wr ∧ Blk wr w.heap.size 75 #[.int .i64 0, .int .i64 0, .int .i64 0, strV []] ∧ w.heap.size < wc.heap.size ∧ Hid (∀ i, wr.cell? ⟨wc.heap.size, i, none⟩ = signsA[i]?))
  case atStart => exact ⟨0, by omega, rfl, rfl, Lib.hid (fun i hi => by omega), (by repeat (first | exact Below.refl _ _ | assumption | refine Below.n _ ?_ (by first | omega | (simp; done) | (simp; omega)) | refine Below.alloc ?_ (by first | omega | (simp; done) | (simp; omega)) _ | refine Below.setCell ?_ (by first | omega | (simp; done) | (simp; omega)) _ | refine Below.drew ?_ | refine Below.setRow ?_ (by first | omega | (simp; done) | (simp; omega)) _ | refine Below.drewN ?_ _)), B5.alloc _, zW5, Lib.hid (fun i => World.cell?_alloc_mark _ _ _ _ i)⟩
  case round =>
    obtain ⟨j, hj, hq, rfl, hno, hbr, B6, zz, BS⟩ := hrel
    replace hq := Lib.hid hq
    have f0 : ∀ j, wr.frozen? ⟨w.heap.size, j, none⟩ = false := fun j => B6.frozen j
    have k0 : wr.cell? ⟨w.heap.size, 0, none⟩ = some (.int .i64 0) := B6.cell 0
    have k1 : wr.cell? ⟨w.heap.size, 1, none⟩ = some (.int .i64 0) := B6.cell 1
    have k2 : wr.cell? ⟨w.heap.size, 2, none⟩ = some (.int .i64 0) := B6.cell 2
    have k3 : wr.cell? ⟨w.heap.size, 3, none⟩ = some (strV []) := B6.cell 3
    by_cases hlt : j < 9
    · obtain ⟨x, hx⟩ : ∃ x, signs[j]? = some x := ⟨_, List.getElem?_eq_getElem hlt⟩
      have cx : wr.cell? ⟨wc.heap.size, j, none⟩ = some (.int .u8 (x.toNat : Int)) := (BS.out j).trans (by rw [signs_get, hx]; rfl)
      have eb := beqI (c := c) (x := x)
      have hjI : (j : Int) < 9 := by omega
      by_cases hxc : c = x
      · have hok := Lib.hid (hok1.out (by rw [List.contains_iff_mem, hxc]; exact List.mem_of_getElem? hx))
        rw [show (c == x) = true by simpa using hxc] at eb
        clear hxc hx hno hok1 hok2
        go_wp2
        refine bodyPost_ret (v := retOne ((3, 0, (a : Int), (s.take (a + 1)).drop a), (a : Int) + 1, 0)) ?_ rfl ⟨_, rfl, hok.out, (by repeat (first | exact Below.refl _ _ | assumption | refine Below.n _ ?_ (by first | omega | (simp; done) | (simp; omega)) | refine Below.alloc ?_ (by first | omega | (simp; done) | (simp; omega)) _ | refine Below.setCell ?_ (by first | omega | (simp; done) | (simp; omega)) _ | refine Below.drew ?_ | refine Below.setRow ?_ (by first | omega | (simp; done) | (simp; omega)) _ | refine Below.drewN ?_ _))⟩
        simp [results, Try.results73, go_sem, retOne, k0, k1, k2, k3]
      · rw [show (c == x) = false by simpa using hxc] at eb
        have hno2 := Lib.hid (show ∀ i, i < j + 1 → signs[i]? ≠ some c from fun i hi => by
          by_cases h : i = j
          · subst h; rw [hx]; intro e; exact hxc (Option.some.inj e).symm
          · exact hno.out i (by omega))
        clear hxc hx
        go_wp2
        go_roundg (9 - (j + 1))
        case measure => rw [hq.out]; omega
        case rel => exact ⟨j + 1, by omega, rfl, by go_num, hno2, hbr, B6, zz, BS⟩
    · have hok := Lib.hid (hok2.out (signs_none (show 9 ≤ j by omega) hno.out))
      have hjI : (9 : Int) ≤ j := by omega
      clear hno hok1 hok2 BS hlt hj
      go_wp2
      refine bodyPost_ret (v := retOne ((0, 0, 0, []), (a : Int), 2)) (one_results (g := w.heap.size) rfl rfl rfl ?_ ?_ ?_ ?_) rfl ⟨_, rfl, hok.out, (by repeat (first | exact Below.refl _ _ | assumption | refine Below.n _ ?_ (by first | omega | (simp; done) | (simp; omega)) | refine Below.alloc ?_ (by first | omega | (simp; done) | (simp; omega)) _ | refine Below.setCell ?_ (by first | omega | (simp; done) | (simp; omega)) _ | refine Below.drew ?_ | refine Below.setRow ?_ (by first | omega | (simp; done) | (simp; omega)) _ | refine Below.drewN ?_ _))⟩
      all_goals simp [go_sem, k0, k1, k2, k3]

theorem One_signs (s : List UInt8) (a : Nat) (c : UInt8) (w : World) (hl : s.length ≤ 6000) (hc : s[a]? = some c) (h0 : shapeGo (s.drop a) dateS = false) (h1 : shapeGo (s.drop a) timeS = false) (hd : digit c.toNat = false) (hs : small c.toNat = false) : Calls Try.prog 73 #[strV s, .int .i64 a] w (ROnePost s a w) := by
  cases h1' : signAt s a 46 with
  | false => exact One_sign1 s a c w hl hc h0 h1 hd hs h1'
  | true =>
    cases h2' : signAt s (a + 1) 46 with
    | false => exact One_sign2 s a c w hl hc h0 h1 hd hs ⟨h1', h2'⟩
    | true => exact One_dots s a c w hl hc h0 h1 hd hs ⟨h1', h2'⟩

end Lx
end Go.Proofs.Ytfhedopfjgjffaa
