/- The walk of lex.one: times, numbers, names, signs. -/
import Derived.Test.YtbcgcpcjepigeaaLexO
import Derived.Deep.RegionWith
namespace Go.Proofs.Ytbcgcpcjepigeaa
open Go.RowKit
namespace Lx
open Sl (strV)

theorem num_lt {s : List UInt8} (hd : ∀ c ∈ s, digit c.toNat = true) (h : s.length ≤ 6) : 0 ≤ num s ∧ num s < 1000000 := by
  obtain ⟨h1, h2⟩ := num_bd hd s.length (Nat.le_refl _)
  rw [List.take_length] at h1 h2
  refine ⟨h1, ?_⟩
  have : s.length = 0 ∨ s.length = 1 ∨ s.length = 2 ∨ s.length = 3 ∨ s.length = 4 ∨ s.length = 5 ∨ s.length = 6 := by omega
  rcases this with e | e | e | e | e | e | e <;> rw [e] at h2 <;> omega

set_option maxHeartbeats 2000000 in
set_option maxRecDepth 100000 in
theorem one_time (s : List UInt8) (w : World) (hl : s.length ≤ 6000) (h0 : shapeGo s dateS = false) (h : shapeGo s timeS = true) : Calls Try.prog 29 #[strV s] w (OnePost s w) := by
  have hlen := shapeGo_len h
  have hlen' : 5 ≤ (s.length : Int) := by have : timeS.length = 5 := rfl; omega
  have h5 : 5 ≤ s.length := by omega
  have c1 := fun W => shape_any s dateS W (by omega) (by decide)
  rw [h0] at c1
  have c2 := fun W => shape_any s timeS W (by omega) (by decide)
  rw [h] at c2
  have d1 := shape_digits h 0 2 (by decide) (bytes_lit (by decide))
  have d2 := shape_digits h 3 5 (by decide) (bytes_lit (by decide))
  rw [List.drop_zero] at d1
  have l1 : (s.take 2).length ≤ 6 := by rw [List.length_take]; omega
  have l2 : ((s.take 5).drop 3).length ≤ 6 := by rw [List.length_drop, List.length_take]; omega
  have n1 := fun W => num_any (s.take 2) W l1 d1
  have n2 := fun W => num_any ((s.take 5).drop 3) W l2 d2
  obtain ⟨a1, a2⟩ := num_lt d1 l1
  obtain ⟨b1, b2⟩ := num_lt d2 l2
  have e : one s = if 59 < num ((s.take 5).drop 3) ∨ 1440 < 60 * num (s.take 2) + num ((s.take 5).drop 3) then ((0, 0, 0, []), 5, 3) else ((4, 60 * num (s.take 2) + num ((s.take 5).drop 3), 0, []), 5, 0) := by
    unfold one; rw [if_neg (by rw [h0]; simp), if_pos h]
  generalize hx : num (s.take 2) = x at *
  generalize hy : num ((s.take 5).drop 3) = y at *
  have q1 : IntKind.i64.wrap (60 * x) = 60 * x := IntWalk.i64_in _ (by omega)
  have q2 : IntKind.i64.wrap (60 * x + y) = 60 * x + y := IntWalk.i64_in _ (by omega)
  have hcase : (decide (59 < y) = true ∧ one s = ((0, 0, 0, []), 5, 3)) ∨ (decide (59 < y) = false ∧ decide (1440 < 60 * x + y) = true ∧ one s = ((0, 0, 0, []), 5, 3)) ∨ (decide (59 < y) = false ∧ decide (1440 < 60 * x + y) = false ∧ one s = ((4, 60 * x + y, 0, []), 5, 0)) := by
    by_cases h1 : 59 < y
    · exact .inl ⟨by simpa using h1, by rw [e, if_pos (.inl h1)]⟩
    · by_cases h2 : 1440 < 60 * x + y
      · exact .inr (.inl ⟨by simpa using h1, by simpa using h2, by rw [e, if_pos (.inr h2)]⟩)
      · exact .inr (.inr ⟨by simpa using h1, by simpa using h2, by rw [e, if_neg (by omega)]⟩)
  clear e d1 d2 l1 l2 h0 h hlen hx hy
  replace c1 := Lib.hid c1
  replace c2 := Lib.hid c2
  replace n1 := Lib.hid n1
  replace n2 := Lib.hid n2
  rcases hcase with ⟨g1, e⟩ | ⟨g1, g2, e⟩ | ⟨g1, g2, e⟩
  all_goals
    replace e := Lib.hid e
    go_enter Try.func29, Try.ntmps29
    go_wp2_with fail
    refine (c1.out _).mono ?_
    rintro e1 w1 ⟨rfl, hb1⟩
    obtain ⟨m1, rfl⟩ := After.of hb1
    have z1 := m1.size
    simp at z1
    have B0 := (Blk.new w 34 #[.int .i64 0, .int .i64 0, .int .i64 0, strV []]).after m1 (by simp)
    go_wp2_with fail
    refine (c2.out _).mono ?_
    rintro e1 w2 ⟨rfl, hb2⟩
    obtain ⟨m2, rfl⟩ := After.of hb2
    have z2 := m2.size
    have B1 := B0.after m2 (by omega)
    go_wp2_with fail
    refine wp_region_below (m2.w.heap.size) _ (Below.refl _ _) (by kernel_rfl) (by kernel_rfl) ?_
    repeat (go_big_quiet_step ((go_at_call 64; first | with_reducible exact quiet_same (n1.out _) | with_reducible exact quiet_same (n2.out _))))
    refine wpQuiet_nil ?_
    rintro _ ⟨m3, rfl⟩
    have z3 := m3.size
    have B2 := B1.after m3 (by omega)
    go_wp2_with fail
    refine (n2.out _).mono ?_
    rintro e1 w3 ⟨rfl, rfl⟩
    have f0 : ∀ j, m3.w.frozen? ⟨w.heap.size, j, none⟩ = false := fun j => B2.frozen j
    have k0 : m3.w.cell? ⟨w.heap.size, 0, none⟩ = some (.int .i64 0) := B2.cell 0
    have k1 : m3.w.cell? ⟨w.heap.size, 1, none⟩ = some (.int .i64 0) := B2.cell 1
    have k2 : m3.w.cell? ⟨w.heap.size, 2, none⟩ = some (.int .i64 0) := B2.cell 2
    have k3 : m3.w.cell? ⟨w.heap.size, 3, none⟩ = some (strV []) := B2.cell 3
    go_wp2
    refine bodyPost_ret (v := retOne (one s)) ?_ rfl ⟨rfl, (by repeat (first | exact Below.refl _ _ | assumption | refine Below.n _ ?_ (by first | omega | (simp; done) | (simp; omega)) | refine Below.alloc ?_ (by first | omega | (simp; done) | (simp; omega)) _ | refine Below.setCell ?_ (by first | omega | (simp; done) | (simp; omega)) _ | refine Below.drew ?_ | refine Below.setRow ?_ (by first | omega | (simp; done) | (simp; omega)) _ | refine Below.drewN ?_ _))⟩
    rw [e.out]
    simp [results, Try.results29, go_sem, retOne, k0, k1, k2, k3]

set_option maxHeartbeats 2000000 in
set_option maxRecDepth 100000 in
theorem one_number (s : List UInt8) (c : UInt8) (w : World) (hl : s.length ≤ 6000) (h0 : shapeGo s dateS = false) (h1 : shapeGo s timeS = false) (hc : s[0]? = some c) (hd : digit c.toNat = true) : Calls Try.prog 29 #[strV s] w (OnePost s w) := by
  have hlen : 1 ≤ s.length := (List.getElem?_eq_some_iff.1 hc).1
  have hlen' : 1 ≤ (s.length : Int) := by omega
  have c1 := fun W => shape_any s dateS W (by omega) (by decide)
  rw [h0] at c1
  have c2 := fun W => shape_any s timeS W (by omega) (by decide)
  rw [h1] at c2
  have cd := fun W => wdigit c.toNat W
  rw [hd] at cd
  have hb0 := bAt_of hc
  have hrl := run_le digit s
  have hry := Lib.hid (fun i c (h : i < run digit s) (hc : s[i]? = some c) => run_yes (f := digit) h hc)
  have hrn := Lib.hid (fun c (hc : s[run digit s]? = some c) => run_no (f := digit) hc)
  have e : one s = if 6 < run digit s then ((0, 0, 0, []), (run digit s : Int), 3) else ((6, num (s.take (run digit s)), 0, []), (run digit s : Int), 0) := by
    unfold one
    rw [if_neg (by rw [h0]; simp), if_neg (by rw [h1]; simp)]
    cases s with
    | nil => simp at hc
    | cons x xs => simp at hc; subst hc; simp only; rw [if_pos hd]
  have nn := fun W (h : run digit s ≤ 6) => num_any (s.take (run digit s)) W (by rw [List.length_take]; omega) (run_take digit s)
  generalize hR : run digit s = R at *
  replace c1 := Lib.hid c1
  replace c2 := Lib.hid c2
  replace cd := Lib.hid cd
  replace nn := Lib.hid nn
  replace e := Lib.hid e
  clear hc hd hR h0 h1
  go_enter Try.func29, Try.ntmps29
  go_wp2_with fail
  refine (c1.out _).mono ?_
  rintro e1 w1 ⟨rfl, hb1⟩
  obtain ⟨m1, rfl⟩ := After.of hb1
  have z1 := m1.size
  simp at z1
  have B0 := (Blk.new w 34 #[.int .i64 0, .int .i64 0, .int .i64 0, strV []]).after m1 (by simp)
  go_wp2_with fail
  refine (c2.out _).mono ?_
  rintro e1 w2 ⟨rfl, hb2⟩
  obtain ⟨m2, rfl⟩ := After.of hb2
  have z2 := m2.size
  have B1 := B0.after m2 (by omega)
  have hbw : Below w.heap.size w m2.w := (by repeat (first | exact Below.refl _ _ | assumption | refine Below.n _ ?_ (by first | omega | (simp; done) | (simp; omega)) | refine Below.alloc ?_ (by first | omega | (simp; done) | (simp; omega)) _ | refine Below.setCell ?_ (by first | omega | (simp; done) | (simp; omega)) _ | refine Below.drew ?_ | refine Below.setRow ?_ (by first | omega | (simp; done) | (simp; omega)) _ | refine Below.drewN ?_ _))
  clear B0 hb1 hb2
  go_wp2_with fail
  refine (cd.out _).mono ?_
  rintro e1 w2 ⟨rfl, rfl⟩
  clear hb0
  generalize m2.w = wm at *
  clear m2 z1 z2
  go_wp2_with fail
  go_loopg [8] R (fun q k wr => ∃ j : Nat, j ≤ R ∧ q = R - j ∧ k = .int .i64 j ∧ wr = wm)
  case atStart => exact ⟨0, by omega, rfl, rfl, rfl⟩
  case round =>
    obtain ⟨j, hj, hq, rfl, rfl⟩ := hrel
    replace hq := Lib.hid hq
    by_cases hlt : j < R
    · obtain ⟨x, hx⟩ : ∃ x, s[j]? = some x := ⟨_, List.getElem?_eq_getElem (by omega)⟩
      have cx := fun W => wdigit x.toNat W
      rw [hry.out j x hlt hx] at cx
      replace cx := Lib.hid cx
      have hbx := bAt_of hx
      have g1 : decide ((j : Int) < (s.length : Int)) = true := by simp; omega
      have g1' : decide (j < s.length) = true := by simp; omega
      clear hx
      go_wp2_with fail
      refine (cx.out _).mono ?_
      rintro e1 w2 ⟨rfl, rfl⟩
      go_wp2
      go_roundg (R - (j + 1))
      case measure => rw [hq.out]; omega
      case rel => exact ⟨j + 1, by omega, rfl, by go_num, rfl⟩
    · obtain rfl : j = R := by omega
      have f0 : ∀ j, wr.frozen? ⟨w.heap.size, j, none⟩ = false := fun j => B1.frozen j
      have k0 : wr.cell? ⟨w.heap.size, 0, none⟩ = some (.int .i64 0) := B1.cell 0
      have k1 : wr.cell? ⟨w.heap.size, 1, none⟩ = some (.int .i64 0) := B1.cell 1
      have k2 : wr.cell? ⟨w.heap.size, 2, none⟩ = some (.int .i64 0) := B1.cell 2
      have k3 : wr.cell? ⟨w.heap.size, 3, none⟩ = some (strV []) := B1.cell 3
      have hend : decide ((j : Int) < (s.length : Int)) = false ∧ decide (j < s.length) = false ∨ decide ((j : Int) < (s.length : Int)) = true ∧ decide (j < s.length) = true ∧ (j : Int) < s.length ∧ j < s.length ∧ ∃ x, s[j]? = some x ∧ digit x.toNat = false := by
        by_cases h : j < s.length
        · exact .inr ⟨by simp; omega, by simp; omega, by omega, h, _, List.getElem?_eq_getElem h, hrn.out _ (List.getElem?_eq_getElem h)⟩
        · exact .inl ⟨by simp; omega, by simp; omega⟩
      rcases hend with ⟨g1, g1'⟩ | ⟨g1, g1', hjI, hjs, x, hx, hdx⟩
      · by_cases h6 : 6 < j
        · have g2 : decide (6 < (j : Int)) = true := by simp; omega
          have e' := e.out
          rw [if_pos h6] at e'
          replace e' := Lib.hid e'
          go_wp2
          refine bodyPost_ret (v := retOne (one s)) ?_ rfl ⟨rfl, (by repeat (first | exact Below.refl _ _ | assumption | refine Below.n _ ?_ (by first | omega | (simp; done) | (simp; omega)) | refine Below.alloc ?_ (by first | omega | (simp; done) | (simp; omega)) _ | refine Below.setCell ?_ (by first | omega | (simp; done) | (simp; omega)) _ | refine Below.drew ?_ | refine Below.setRow ?_ (by first | omega | (simp; done) | (simp; omega)) _ | refine Below.drewN ?_ _))⟩
          rw [e'.out]
          simp [results, Try.results29, go_sem, retOne, k0, k1, k2, k3]
        · have g2 : decide (6 < (j : Int)) = false := by simp; omega
          have e' := e.out
          rw [if_neg h6] at e'
          replace e' := Lib.hid e'
          go_wp2_with fail
          refine (nn.out _ (by omega)).mono ?_
          rintro e1 w2 ⟨rfl, rfl⟩
          go_wp2
          refine bodyPost_ret (v := retOne (one s)) ?_ rfl ⟨rfl, (by repeat (first | exact Below.refl _ _ | assumption | refine Below.n _ ?_ (by first | omega | (simp; done) | (simp; omega)) | refine Below.alloc ?_ (by first | omega | (simp; done) | (simp; omega)) _ | refine Below.setCell ?_ (by first | omega | (simp; done) | (simp; omega)) _ | refine Below.drew ?_ | refine Below.setRow ?_ (by first | omega | (simp; done) | (simp; omega)) _ | refine Below.drewN ?_ _))⟩
          rw [e'.out]
          simp [results, Try.results29, go_sem, retOne, k0, k1, k2, k3]
      · have cx := fun W => wdigit x.toNat W
        rw [hdx] at cx
        replace cx := Lib.hid cx
        have hbx := bAt_of hx
        clear hx hdx
        by_cases h6 : 6 < j
        · have g2 : decide (6 < (j : Int)) = true := by simp; omega
          have e' := e.out
          rw [if_pos h6] at e'
          replace e' := Lib.hid e'
          go_wp2_with fail
          refine (cx.out _).mono ?_
          rintro e1 w2 ⟨rfl, rfl⟩
          go_wp2
          refine bodyPost_ret (v := retOne (one s)) ?_ rfl ⟨rfl, (by repeat (first | exact Below.refl _ _ | assumption | refine Below.n _ ?_ (by first | omega | (simp; done) | (simp; omega)) | refine Below.alloc ?_ (by first | omega | (simp; done) | (simp; omega)) _ | refine Below.setCell ?_ (by first | omega | (simp; done) | (simp; omega)) _ | refine Below.drew ?_ | refine Below.setRow ?_ (by first | omega | (simp; done) | (simp; omega)) _ | refine Below.drewN ?_ _))⟩
          rw [e'.out]
          simp [results, Try.results29, go_sem, retOne, k0, k1, k2, k3]
        · have g2 : decide (6 < (j : Int)) = false := by simp; omega
          have e' := e.out
          rw [if_neg h6] at e'
          replace e' := Lib.hid e'
          go_wp2_with fail
          refine (cx.out _).mono ?_
          rintro e1 w2 ⟨rfl, rfl⟩
          go_wp2_with fail
          refine (nn.out _ (by omega)).mono ?_
          rintro e1 w2 ⟨rfl, rfl⟩
          go_wp2
          refine bodyPost_ret (v := retOne (one s)) ?_ rfl ⟨rfl, (by repeat (first | exact Below.refl _ _ | assumption | refine Below.n _ ?_ (by first | omega | (simp; done) | (simp; omega)) | refine Below.alloc ?_ (by first | omega | (simp; done) | (simp; omega)) _ | refine Below.setCell ?_ (by first | omega | (simp; done) | (simp; omega)) _ | refine Below.drew ?_ | refine Below.setRow ?_ (by first | omega | (simp; done) | (simp; omega)) _ | refine Below.drewN ?_ _))⟩
          rw [e'.out]
          simp [results, Try.results29, go_sem, retOne, k0, k1, k2, k3]

end Lx
end Go.Proofs.Ytbcgcpcjepigeaa
