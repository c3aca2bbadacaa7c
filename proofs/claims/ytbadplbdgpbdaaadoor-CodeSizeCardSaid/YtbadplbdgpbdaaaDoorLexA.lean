/- The walk of lex.one. The walk of lex.one: times, numbers, names, signs. The walk of lex.one: names, signs. The walk of lex.one: signs, and what is none; all of it. The walk of lex.Lex. How many tokens a text has, and how long their texts are. No walk. The walk of slotlaw3's alive. -/
import Derived.Test.YtbadplbdgpbdaaaDoorLexN
import Derived.Test.YtbadplbdgpbdaaaDoorCivN
import Derived.Test.YtbadplbdgpbdaaaDoorShelf
import Derived.Lib.IndexLaws
import Derived.Deep.RegionWith
import Derived.Test.YtbadplbdgpbdaaaDoorLexL
import Derived.Test.YtbadplbdgpbdaaaDoorApp
namespace Go.Proofs.YtbadplbdgpbdaaaDoor
open Go.RowKit
namespace Lx
open Sl (strV)

theorem Number_day (y m d : Int) (w : World) :
    Calls Tryd.prog 115 #[.agg #[.int .i64 y, .int .i64 m, .int .i64 d]] w fun e w' => e = .returned (.tuple #[.int .i64 (dayOf y m d).1, .int .i64 (dayOf y m d).2]) ∧ Below w.heap.size w w' := by
  by_cases h : 1 ≤ d ∧ d ≤ Civ.lenI y m
  · unfold dayOf; rw [if_pos h]; exact Civ.Number_yes y m d w h
  · unfold dayOf; rw [if_neg h]; exact Civ.Number_no y m d w h
theorem okAt_d {c : UInt8} : okAt c 100 = digit c.toNat := rfl
/-- digits of a text that begins as a shape does -/
theorem shape_digits {s sh : List UInt8} (h : shapeGo s sh = true) (a b : Nat) (hb : b ≤ sh.length) (hsh : ∀ i, a ≤ i → i < b → sh[i]? = some 100) : ∀ c ∈ (s.take b).drop a, digit c.toNat = true := fun c hc => by
  obtain ⟨h1, h2⟩ := shapeGo_iff.1 h
  obtain ⟨i, hi, rfl⟩ := List.getElem_of_mem hc
  rw [List.length_drop, List.length_take] at hi
  rw [List.getElem_drop, List.getElem_take]
  rw [← okAt_d]
  exact h2 (a + i) _ 100 (List.getElem?_eq_getElem (by omega)) (hsh _ (by omega) (by omega))
theorem bytes_lit {a b : Nat} {sh : List UInt8} (h : (List.range b).all (fun i => decide (i < a) || sh[i]? == some 100) = true) : ∀ i, a ≤ i → i < b → sh[i]? = some 100 := fun i h1 h2 => by
  have := List.all_eq_true.1 h i (by simpa using h2)
  simpa [show ¬ i < a by omega] using this
/-- what one answers -/
def retOne (x : Tok × Int × Int) : Value := .tuple #[.agg #[.int .i64 x.1.1, .int .i64 x.1.2.1, .int .i64 x.1.2.2.1, strV x.1.2.2.2], .int .i64 x.2.1, .int .i64 x.2.2]
def OnePost (s : List UInt8) (w : World) (e : Ending) (w' : World) : Prop := e = .returned (retOne (one s)) ∧ Below w.heap.size w w'

set_option maxHeartbeats 2000000 in
set_option maxRecDepth 100000 in
theorem one_date (s : List UInt8) (w : World) (hl : s.length ≤ 6000) (h : shapeGo s dateS = true) : Calls Tryd.prog 108 #[strV s] w (OnePost s w) := by
  have hlen := shapeGo_len h
  have hlen' : 10 ≤ (s.length : Int) := by have : dateS.length = 10 := rfl; omega
  have h10 : 10 ≤ s.length := by omega
  have c1 := fun W => shape_any s dateS W (by omega) (by decide)
  rw [h] at c1
  have n1 := fun W => num_any (s.take 4) W (by rw [List.length_take]; omega) (shape_digits h 0 4 (by decide) (bytes_lit (by decide)))
  have n2 := fun W => num_any ((s.take 7).drop 5) W (by rw [List.length_drop, List.length_take]; omega) (shape_digits h 5 7 (by decide) (bytes_lit (by decide)))
  have n3 := fun W => num_any ((s.take 10).drop 8) W (by rw [List.length_drop, List.length_take]; omega) (shape_digits h 8 10 (by decide) (bytes_lit (by decide)))
  have nd := fun W => Number_day (num (s.take 4)) (num ((s.take 7).drop 5)) (num ((s.take 10).drop 8)) W
  have e : one s = ((5, (dayOf (num (s.take 4)) (num ((s.take 7).drop 5)) (num ((s.take 10).drop 8))).1, 0, []), 10, (dayOf (num (s.take 4)) (num ((s.take 7).drop 5)) (num ((s.take 10).drop 8))).2) := by unfold one; rw [if_pos h]
  generalize dayOf (num (s.take 4)) (num ((s.take 7).drop 5)) (num ((s.take 10).drop 8)) = r at *
  replace c1 := Lib.hid c1
  replace n1 := Lib.hid n1
  replace n2 := Lib.hid n2
  replace n3 := Lib.hid n3
  replace nd := Lib.hid nd
  replace e := Lib.hid e
  clear h hlen
  go_enter Tryd.func108, Tryd.ntmps108
  go_wp2_with fail
  refine (c1.out _).mono ?_
  rintro e1 w1 ⟨rfl, hb1⟩
  obtain ⟨m1, rfl⟩ := After.of hb1
  have z1 := m1.size
  simp at z1
  have B0 := (Blk.new w 152 #[.int .i64 0, .int .i64 0, .int .i64 0, strV []]).after m1 (by simp)
  go_wp2_with fail
  refine wp_region_below (m1.w.heap.size) _ (Below.refl _ _) (by kernel_rfl) (by kernel_rfl) ?_
  repeat (go_big_quiet_step ((first | (go_at_call 116; first | with_reducible exact quiet_same (n1.out _) | with_reducible exact quiet_same (n2.out _) | with_reducible exact quiet_same (n3.out _)) | (go_at_call 115; with_reducible exact quiet_below (Nat.le_refl _) (nd.out _)))))
  refine wpQuiet_nil ?_
  rintro _ ⟨m2, rfl⟩
  have z2 := m2.size
  have B1 := B0.after m2 (by omega)
  have f0 : ∀ j, m2.w.frozen? ⟨w.heap.size, j, none⟩ = false := fun j => B1.frozen j
  have k0 : m2.w.cell? ⟨w.heap.size, 0, none⟩ = some (.int .i64 0) := B1.cell 0
  have k1 : m2.w.cell? ⟨w.heap.size, 1, none⟩ = some (.int .i64 0) := B1.cell 1
  have k2 : m2.w.cell? ⟨w.heap.size, 2, none⟩ = some (.int .i64 0) := B1.cell 2
  have k3 : m2.w.cell? ⟨w.heap.size, 3, none⟩ = some (strV []) := B1.cell 3
  go_wp2
  refine bodyPost_ret (v := retOne (one s)) ?_ rfl ⟨rfl, (by repeat (first | exact Below.refl _ _ | assumption | refine Below.n _ ?_ (by first | omega | (simp; done) | (simp; omega)) | refine Below.alloc ?_ (by first | omega | (simp; done) | (simp; omega)) _ | refine Below.setCell ?_ (by first | omega | (simp; done) | (simp; omega)) _ | refine Below.drew ?_ | refine Below.setRow ?_ (by first | omega | (simp; done) | (simp; omega)) _ | refine Below.drewN ?_ _))⟩
  rw [e.out]
  simp [results, Tryd.results108, go_sem, retOne, k0, k1, k2, k3]

end Lx
end Go.Proofs.YtbadplbdgpbdaaaDoor

namespace Go.Proofs.YtbadplbdgpbdaaaDoor
open Go.RowKit
namespace Lx
open Sl (strV)

theorem num_lt {s : List UInt8} (hd : ∀ c ∈ s, digit c.toNat = true) (h : s.length ≤ 6) : 0 ≤ num s ∧ num s < 1000000 := by
  obtain ⟨h1, h2⟩ := num_bd hd s.length (Nat.le_refl _)
  rw [List.take_length] at h1 h2
  refine ⟨h1, ?_⟩
  have : s.length = 0 ∨ s.length = 1 ∨ s.length = 2 ∨ s.length = 3 ∨ s.length = 4 ∨ s.length = 5 ∨ s.length = 6 := by omega
  rcases this with e | e | e | e | e | e | e <;> rw [e] at h2 <;> omega

set_option maxHeartbeats 2000000 in
set_option maxRecDepth 100000 in
theorem one_time (s : List UInt8) (w : World) (hl : s.length ≤ 6000) (h0 : shapeGo s dateS = false) (h : shapeGo s timeS = true) : Calls Tryd.prog 108 #[strV s] w (OnePost s w) := by
  have hlen := shapeGo_len h
  have hlen' : 5 ≤ (s.length : Int) := by have : timeS.length = 5 := rfl; omega
  have h5 : 5 ≤ s.length := by omega
  have c1 := fun W => shape_any s dateS W (by omega) (by decide)
  rw [h0] at c1
  have c2 := fun W => shape_any s timeS W (by omega) (by decide)
  rw [h] at c2
  have d1 := shape_digits h 0 2 (by decide) (bytes_lit (by decide))
  have d2 := shape_digits h 3 5 (by decide) (bytes_lit (by decide))
  rw [List.drop_zero] at d1
  have l1 : (s.take 2).length ≤ 6 := by rw [List.length_take]; omega
  have l2 : ((s.take 5).drop 3).length ≤ 6 := by rw [List.length_drop, List.length_take]; omega
  have n1 := fun W => num_any (s.take 2) W l1 d1
  have n2 := fun W => num_any ((s.take 5).drop 3) W l2 d2
  obtain ⟨a1, a2⟩ := num_lt d1 l1
  obtain ⟨b1, b2⟩ := num_lt d2 l2
  have e : one s = if 59 < num ((s.take 5).drop 3) ∨ 1440 < 60 * num (s.take 2) + num ((s.take 5).drop 3) then ((0, 0, 0, []), 5, 3) else ((4, 60 * num (s.take 2) + num ((s.take 5).drop 3), 0, []), 5, 0) := by
    unfold one; rw [if_neg (by rw [h0]; simp), if_pos h]
  generalize hx : num (s.take 2) = x at *
  generalize hy : num ((s.take 5).drop 3) = y at *
  have q1 : IntKind.i64.wrap (60 * x) = 60 * x := IntWalk.i64_in _ (by omega)
  have q2 : IntKind.i64.wrap (60 * x + y) = 60 * x + y := IntWalk.i64_in _ (by omega)
  have hcase : (decide (59 < y) = true ∧ one s = ((0, 0, 0, []), 5, 3)) ∨ (decide (59 < y) = false ∧ decide (1440 < 60 * x + y) = true ∧ one s = ((0, 0, 0, []), 5, 3)) ∨ (decide (59 < y) = false ∧ decide (1440 < 60 * x + y) = false ∧ one s = ((4, 60 * x + y, 0, []), 5, 0)) := by
    by_cases h1 : 59 < y
    · exact .inl ⟨by simpa using h1, by rw [e, if_pos (.inl h1)]⟩
    · by_cases h2 : 1440 < 60 * x + y
      · exact .inr (.inl ⟨by simpa using h1, by simpa using h2, by rw [e, if_pos (.inr h2)]⟩)
      · exact .inr (.inr ⟨by simpa using h1, by simpa using h2, by rw [e, if_neg (by omega)]⟩)
  clear e d1 d2 l1 l2 h0 h hlen hx hy
  replace c1 := Lib.hid c1
  replace c2 := Lib.hid c2
  replace n1 := Lib.hid n1
  replace n2 := Lib.hid n2
  rcases hcase with ⟨g1, e⟩ | ⟨g1, g2, e⟩ | ⟨g1, g2, e⟩
  all_goals
    replace e := Lib.hid e
    go_enter Tryd.func108, Tryd.ntmps108
    go_wp2_with fail
    refine (c1.out _).mono ?_
    rintro e1 w1 ⟨rfl, hb1⟩
    obtain ⟨m1, rfl⟩ := After.of hb1
    have z1 := m1.size
    simp at z1
    have B0 := (Blk.new w 152 #[.int .i64 0, .int .i64 0, .int .i64 0, strV []]).after m1 (by simp)
    go_wp2_with fail
    refine (c2.out _).mono ?_
    rintro e1 w2 ⟨rfl, hb2⟩
    obtain ⟨m2, rfl⟩ := After.of hb2
    have z2 := m2.size
    have B1 := B0.after m2 (by omega)
    go_wp2_with fail
    refine wp_region_below (m2.w.heap.size) _ (Below.refl _ _) (by kernel_rfl) (by kernel_rfl) ?_
    repeat (go_big_quiet_step ((go_at_call 116; first | with_reducible exact quiet_same (n1.out _) | with_reducible exact quiet_same (n2.out _))))
    refine wpQuiet_nil ?_
    rintro _ ⟨m3, rfl⟩
    have z3 := m3.size
    have B2 := B1.after m3 (by omega)
    go_wp2_with fail
    refine (n2.out _).mono ?_
    rintro e1 w3 ⟨rfl, rfl⟩
    have f0 : ∀ j, m3.w.frozen? ⟨w.heap.size, j, none⟩ = false := fun j => B2.frozen j
    have k0 : m3.w.cell? ⟨w.heap.size, 0, none⟩ = some (.int .i64 0) := B2.cell 0
    have k1 : m3.w.cell? ⟨w.heap.size, 1, none⟩ = some (.int .i64 0) := B2.cell 1
    have k2 : m3.w.cell? ⟨w.heap.size, 2, none⟩ = some (.int .i64 0) := B2.cell 2
    have k3 : m3.w.cell? ⟨w.heap.size, 3, none⟩ = some (strV []) := B2.cell 3
    go_wp2
    refine bodyPost_ret (v := retOne (one s)) ?_ rfl ⟨rfl, (by repeat (first | exact Below.refl _ _ | assumption | refine Below.n _ ?_ (by first | omega | (simp; done) | (simp; omega)) | refine Below.alloc ?_ (by first | omega | (simp; done) | (simp; omega)) _ | refine Below.setCell ?_ (by first | omega | (simp; done) | (simp; omega)) _ | refine Below.drew ?_ | refine Below.setRow ?_ (by first | omega | (simp; done) | (simp; omega)) _ | refine Below.drewN ?_ _))⟩
    rw [e.out]
    simp [results, Tryd.results108, go_sem, retOne, k0, k1, k2, k3]

set_option maxHeartbeats 2000000 in
set_option maxRecDepth 100000 in
theorem one_number (s : List UInt8) (c : UInt8) (w : World) (hl : s.length ≤ 6000) (h0 : shapeGo s dateS = false) (h1 : shapeGo s timeS = false) (hc : s[0]? = some c) (hd : digit c.toNat = true) : Calls Tryd.prog 108 #[strV s] w (OnePost s w) := by
  have hlen : 1 ≤ s.length := (List.getElem?_eq_some_iff.1 hc).1
  have hlen' : 1 ≤ (s.length : Int) := by omega
  have c1 := fun W => shape_any s dateS W (by omega) (by decide)
  rw [h0] at c1
  have c2 := fun W => shape_any s timeS W (by omega) (by decide)
  rw [h1] at c2
  have cd := fun W => wdigit c.toNat W
  rw [hd] at cd
  have hb0 := bAt_of hc
  have hrl := run_le digit s
  have hry := Lib.hid (fun i c (h : i < run digit s) (hc : s[i]? = some c) => run_yes (f := digit) h hc)
  have hrn := Lib.hid (fun c (hc : s[run digit s]? = some c) => run_no (f := digit) hc)
  have e : one s = if 6 < run digit s then ((0, 0, 0, []), (run digit s : Int), 3) else ((6, num (s.take (run digit s)), 0, []), (run digit s : Int), 0) := by
    unfold one
    rw [if_neg (by rw [h0]; simp), if_neg (by rw [h1]; simp)]
    cases s with
    | nil => simp at hc
    | cons x xs => simp at hc; subst hc; simp only; rw [if_pos hd]
  have nn := fun W (h : run digit s ≤ 6) => num_any (s.take (run digit s)) W (by rw [List.length_take]; omega) (run_take digit s)
  generalize hR : run digit s = R at *
  replace c1 := Lib.hid c1
  replace c2 := Lib.hid c2
  replace cd := Lib.hid cd
  replace nn := Lib.hid nn
  replace e := Lib.hid e
  clear hc hd hR h0 h1
  go_enter Tryd.func108, Tryd.ntmps108
  go_wp2_with fail
  refine (c1.out _).mono ?_
  rintro e1 w1 ⟨rfl, hb1⟩
  obtain ⟨m1, rfl⟩ := After.of hb1
  have z1 := m1.size
  simp at z1
  have B0 := (Blk.new w 152 #[.int .i64 0, .int .i64 0, .int .i64 0, strV []]).after m1 (by simp)
  go_wp2_with fail
  refine (c2.out _).mono ?_
  rintro e1 w2 ⟨rfl, hb2⟩
  obtain ⟨m2, rfl⟩ := After.of hb2
  have z2 := m2.size
  have B1 := B0.after m2 (by omega)
  have hbw : Below w.heap.size w m2.w := (by repeat (first | exact Below.refl _ _ | assumption | refine Below.n _ ?_ (by first | omega | (simp; done) | (simp; omega)) | refine Below.alloc ?_ (by first | omega | (simp; done) | (simp; omega)) _ | refine Below.setCell ?_ (by first | omega | (simp; done) | (simp; omega)) _ | refine Below.drew ?_ | refine Below.setRow ?_ (by first | omega | (simp; done) | (simp; omega)) _ | refine Below.drewN ?_ _))
  clear B0 hb1 hb2
  go_wp2_with fail
  refine (cd.out _).mono ?_
  rintro e1 w2 ⟨rfl, rfl⟩
  clear hb0
  generalize m2.w = wm at *
  clear m2 z1 z2
  go_wp2_with fail
  go_loopg [8] R (fun q k wr => ∃ j : Nat, j ≤ R ∧ q = R - j ∧ k = .int .i64 j ∧ wr = wm)
  case atStart => exact ⟨0, by omega, rfl, rfl, rfl⟩
  case round =>
    obtain ⟨j, hj, hq, rfl, rfl⟩ := hrel
    replace hq := Lib.hid hq
    by_cases hlt : j < R
    · obtain ⟨x, hx⟩ : ∃ x, s[j]? = some x := ⟨_, List.getElem?_eq_getElem (by omega)⟩
      have cx := fun W => wdigit x.toNat W
      rw [hry.out j x hlt hx] at cx
      replace cx := Lib.hid cx
      have hbx := bAt_of hx
      have g1 : decide ((j : Int) < (s.length : Int)) = true := by simp; omega
      have g1' : decide (j < s.length) = true := by simp; omega
      clear hx
      go_wp2_with fail
      refine (cx.out _).mono ?_
      rintro e1 w2 ⟨rfl, rfl⟩
      go_wp2
      go_roundg (R - (j + 1))
      case measure => rw [hq.out]; omega
      case rel => exact ⟨j + 1, by omega, rfl, by go_num, rfl⟩
    · obtain rfl : j = R := by omega
      have f0 : ∀ j, wr.frozen? ⟨w.heap.size, j, none⟩ = false := fun j => B1.frozen j
      have k0 : wr.cell? ⟨w.heap.size, 0, none⟩ = some (.int .i64 0) := B1.cell 0
      have k1 : wr.cell? ⟨w.heap.size, 1, none⟩ = some (.int .i64 0) := B1.cell 1
      have k2 : wr.cell? ⟨w.heap.size, 2, none⟩ = some (.int .i64 0) := B1.cell 2
      have k3 : wr.cell? ⟨w.heap.size, 3, none⟩ = some (strV []) := B1.cell 3
      have hend : decide ((j : Int) < (s.length : Int)) = false ∧ decide (j < s.length) = false ∨ decide ((j : Int) < (s.length : Int)) = true ∧ decide (j < s.length) = true ∧ (j : Int) < s.length ∧ j < s.length ∧ ∃ x, s[j]? = some x ∧ digit x.toNat = false := by
        by_cases h : j < s.length
        · exact .inr ⟨by simp; omega, by simp; omega, by omega, h, _, List.getElem?_eq_getElem h, hrn.out _ (List.getElem?_eq_getElem h)⟩
        · exact .inl ⟨by simp; omega, by simp; omega⟩
      rcases hend with ⟨g1, g1'⟩ | ⟨g1, g1', hjI, hjs, x, hx, hdx⟩
      · by_cases h6 : 6 < j
        · have g2 : decide (6 < (j : Int)) = true := by simp; omega
          have e' := e.out
          rw [if_pos h6] at e'
          replace e' := Lib.hid e'
          go_wp2
          refine bodyPost_ret (v := retOne (one s)) ?_ rfl ⟨rfl, (by repeat (first | exact Below.refl _ _ | assumption | refine Below.n _ ?_ (by first | omega | (simp; done) | (simp; omega)) | refine Below.alloc ?_ (by first | omega | (simp; done) | (simp; omega)) _ | refine Below.setCell ?_ (by first | omega | (simp; done) | (simp; omega)) _ | refine Below.drew ?_ | refine Below.setRow ?_ (by first | omega | (simp; done) | (simp; omega)) _ | refine Below.drewN ?_ _))⟩
          rw [e'.out]
          simp [results, Tryd.results108, go_sem, retOne, k0, k1, k2, k3]
        · have g2 : decide (6 < (j : Int)) = false := by simp; omega
          have e' := e.out
          rw [if_neg h6] at e'
          replace e' := Lib.hid e'
          go_wp2_with fail
          refine (nn.out _ (by omega)).mono ?_
          rintro e1 w2 ⟨rfl, rfl⟩
          go_wp2
          refine bodyPost_ret (v := retOne (one s)) ?_ rfl ⟨rfl, (by repeat (first | exact Below.refl _ _ | assumption | refine Below.n _ ?_ (by first | omega | (simp; done) | (simp; omega)) | refine Below.alloc ?_ (by first | omega | (simp; done) | (simp; omega)) _ | refine Below.setCell ?_ (by first | omega | (simp; done) | (simp; omega)) _ | refine Below.drew ?_ | refine Below.setRow ?_ (by first | omega | (simp; done) | (simp; omega)) _ | refine Below.drewN ?_ _))⟩
          rw [e'.out]
          simp [results, Tryd.results108, go_sem, retOne, k0, k1, k2, k3]
      · have cx := fun W => wdigit x.toNat W
        rw [hdx] at cx
        replace cx := Lib.hid cx
        have hbx := bAt_of hx
        clear hx hdx
        by_cases h6 : 6 < j
        · have g2 : decide (6 < (j : Int)) = true := by simp; omega
          have e' := e.out
          rw [if_pos h6] at e'
          replace e' := Lib.hid e'
          go_wp2_with fail
          refine (cx.out _).mono ?_
          rintro e1 w2 ⟨rfl, rfl⟩
          go_wp2
          refine bodyPost_ret (v := retOne (one s)) ?_ rfl ⟨rfl, (by repeat (first | exact Below.refl _ _ | assumption | refine Below.n _ ?_ (by first | omega | (simp; done) | (simp; omega)) | refine Below.alloc ?_ (by first | omega | (simp; done) | (simp; omega)) _ | refine Below.setCell ?_ (by first | omega | (simp; done) | (simp; omega)) _ | refine Below.drew ?_ | refine Below.setRow ?_ (by first | omega | (simp; done) | (simp; omega)) _ | refine Below.drewN ?_ _))⟩
          rw [e'.out]
          simp [results, Tryd.results108, go_sem, retOne, k0, k1, k2, k3]
        · have g2 : decide (6 < (j : Int)) = false := by simp; omega
          have e' := e.out
          rw [if_neg h6] at e'
          replace e' := Lib.hid e'
          go_wp2_with fail
          refine (cx.out _).mono ?_
          rintro e1 w2 ⟨rfl, rfl⟩
          go_wp2_with fail
          refine (nn.out _ (by omega)).mono ?_
          rintro e1 w2 ⟨rfl, rfl⟩
          go_wp2
          refine bodyPost_ret (v := retOne (one s)) ?_ rfl ⟨rfl, (by repeat (first | exact Below.refl _ _ | assumption | refine Below.n _ ?_ (by first | omega | (simp; done) | (simp; omega)) | refine Below.alloc ?_ (by first | omega | (simp; done) | (simp; omega)) _ | refine Below.setCell ?_ (by first | omega | (simp; done) | (simp; omega)) _ | refine Below.drew ?_ | refine Below.setRow ?_ (by first | omega | (simp; done) | (simp; omega)) _ | refine Below.drewN ?_ _))⟩
          rw [e'.out]
          simp [results, Tryd.results108, go_sem, retOne, k0, k1, k2, k3]

end Lx
end Go.Proofs.YtbadplbdgpbdaaaDoor

namespace Go.Proofs.YtbadplbdgpbdaaaDoor
open Go.RowKit
namespace Lx
open Sl (strV)

theorem small_digit {n : Nat} (h : small n = true) : digit n = false := by
  have := small_iff.1 h
  cases hd : digit n
  · rfl
  · have := digit_iff.1 hd; omega

set_option maxHeartbeats 4000000 in
set_option maxRecDepth 100000 in
theorem one_name (s : List UInt8) (c : UInt8) (w : World) (hl : s.length ≤ 6000) (h0 : shapeGo s dateS = false) (h1 : shapeGo s timeS = false) (hc : s[0]? = some c) (hsm : small c.toNat = true) : Calls Tryd.prog 108 #[strV s] w (OnePost s w) := by
  have hlen : 1 ≤ s.length := (List.getElem?_eq_some_iff.1 hc).1
  have hlen' : 1 ≤ (s.length : Int) := by omega
  have hd := small_digit hsm
  have c1 := fun W => shape_any s dateS W (by omega) (by decide)
  rw [h0] at c1
  have c2 := fun W => shape_any s timeS W (by omega) (by decide)
  rw [h1] at c2
  have cd := fun W => wdigit c.toNat W
  rw [hd] at cd
  have cs := fun W => wsmall c.toNat W
  rw [hsm] at cs
  have hb0 := bAt_of hc
  have hrl := run_le nameC s
  have hry := Lib.hid (fun i c (h : i < run nameC s) (hc : s[i]? = some c) => run_yes (f := nameC) h hc)
  have hrn := Lib.hid (fun c (hc : s[run nameC s]? = some c) => run_no (f := nameC) hc)
  have e : one s = if 20 < run nameC s then ((0, 0, 0, []), (run nameC s : Int), 7) else ((if wordsL.contains (s.take (run nameC s)) = true then 2 else 1, 0, 0, s.take (run nameC s)), (run nameC s : Int), 0) := by
    unfold one
    rw [if_neg (by rw [h0]; simp), if_neg (by rw [h1]; simp)]
    cases s with
    | nil => simp at hc
    | cons x xs => simp at hc; subst hc; simp only; rw [if_neg (by rw [hd]; simp), if_pos hsm]
  generalize hR : run nameC s = R at *
  replace c1 := Lib.hid c1
  replace c2 := Lib.hid c2
  replace cd := Lib.hid cd
  replace cs := Lib.hid cs
  replace e := Lib.hid e
  clear hc hd hR h0 h1 hsm
  go_enter Tryd.func108, Tryd.ntmps108
  go_wp2_with fail
  refine (c1.out _).mono ?_
  rintro e1 w1 ⟨rfl, hb1⟩
  obtain ⟨m1, rfl⟩ := After.of hb1
  have z1 := m1.size
  simp at z1
  have B0 := (Blk.new w 152 #[.int .i64 0, .int .i64 0, .int .i64 0, strV []]).after m1 (by simp)
  go_wp2_with fail
  refine (c2.out _).mono ?_
  rintro e1 w2 ⟨rfl, hb2⟩
  obtain ⟨m2, rfl⟩ := After.of hb2
  have z2 := m2.size
  have B1 := B0.after m2 (by omega)
  have hbw : Below w.heap.size w m2.w := (by repeat (first | exact Below.refl _ _ | assumption | refine Below.n _ ?_ (by first | omega | (simp; done) | (simp; omega)) | refine Below.alloc ?_ (by first | omega | (simp; done) | (simp; omega)) _ | refine Below.setCell ?_ (by first | omega | (simp; done) | (simp; omega)) _ | refine Below.drew ?_ | refine Below.setRow ?_ (by first | omega | (simp; done) | (simp; omega)) _ | refine Below.drewN ?_ _))
  clear B0 hb1 hb2
  go_wp2_with fail
  refine (cd.out _).mono ?_
  rintro e1 w2 ⟨rfl, rfl⟩
  go_wp2_with fail
  refine (cs.out _).mono ?_
  rintro e1 w2 ⟨rfl, rfl⟩
  clear hb0
  generalize m2.w = wm at *
  clear m2 z1 z2 cd cs c1 c2
  go_wp2_with fail
  go_loopg [9] R (fun q k wr => ∃ j : Nat, j ≤ R ∧ q = R - j ∧ k = .int .i64 j ∧ wr = wm)
  case atStart => exact ⟨0, by omega, rfl, rfl, rfl⟩
  case round =>
    obtain ⟨j, hj, hq, rfl, rfl⟩ := hrel
    replace hq := Lib.hid hq
    by_cases hlt : j < R
    · obtain ⟨x, hx⟩ : ∃ x, s[j]? = some x := ⟨_, List.getElem?_eq_getElem (by omega)⟩
      have hnx := hry.out j x hlt hx
      have cx := fun W => wsmall x.toNat W
      have cy := fun W => wdigit x.toNat W
      have hbx := bAt_of hx
      have g1 : decide ((j : Int) < (s.length : Int)) = true := by simp; omega
      have g1' : decide (j < s.length) = true := by simp; omega
      have hjs : j < s.length := by omega
      have hjI : (j : Int) < s.length := by omega
      clear hx
      cases hsx : small x.toNat with
      | true =>
        rw [hsx] at cx
        replace cx := Lib.hid cx
        clear hsx hnx
        go_wp2_with fail
        refine (cx.out _).mono ?_
        rintro e1 w2 ⟨rfl, rfl⟩
        go_wp2
        go_roundg (R - (j + 1))
        case measure => rw [hq.out]; omega
        case rel => exact ⟨j + 1, by omega, rfl, by go_num, rfl⟩
      | false =>
        rw [hsx] at cx
        replace cx := Lib.hid cx
        cases hdx : digit x.toNat with
        | true =>
          rw [hdx] at cy
          replace cy := Lib.hid cy
          clear hsx hnx hdx
          go_wp2_with fail
          refine (cx.out _).mono ?_
          rintro e1 w2 ⟨rfl, rfl⟩
          go_wp2_with fail
          refine (cy.out _).mono ?_
          rintro e1 w2 ⟨rfl, rfl⟩
          go_wp2
          go_roundg (R - (j + 1))
          case measure => rw [hq.out]; omega
          case rel => exact ⟨j + 1, by omega, rfl, by go_num, rfl⟩
        | false =>
          rw [hdx] at cy
          replace cy := Lib.hid cy
          have g95 : (((x.toNat : Nat) : Int) == 95) = true := by
            unfold nameC at hnx
            rw [hsx, hdx] at hnx
            simp at hnx
            rw [beq_iff_eq]; omega
          clear hsx hnx hdx
          go_wp2_with fail
          refine (cx.out _).mono ?_
          rintro e1 w2 ⟨rfl, rfl⟩
          go_wp2_with fail
          refine (cy.out _).mono ?_
          rintro e1 w2 ⟨rfl, rfl⟩
          go_wp2
          go_roundg (R - (j + 1))
          case measure => rw [hq.out]; omega
          case rel => exact ⟨j + 1, by omega, rfl, by go_num, rfl⟩
    · obtain rfl : j = R := by omega
      have f0 : ∀ j, wr.frozen? ⟨w.heap.size, j, none⟩ = false := fun j => B1.frozen j
      have k0 : wr.cell? ⟨w.heap.size, 0, none⟩ = some (.int .i64 0) := B1.cell 0
      have k1 : wr.cell? ⟨w.heap.size, 1, none⟩ = some (.int .i64 0) := B1.cell 1
      have k2 : wr.cell? ⟨w.heap.size, 2, none⟩ = some (.int .i64 0) := B1.cell 2
      have k3 : wr.cell? ⟨w.heap.size, 3, none⟩ = some (strV []) := B1.cell 3
      have zw := B1.lt
      have hend : decide ((j : Int) < (s.length : Int)) = false ∧ decide (j < s.length) = false ∨ decide ((j : Int) < (s.length : Int)) = true ∧ decide (j < s.length) = true ∧ (j : Int) < s.length ∧ j < s.length ∧ ∃ x, s[j]? = some x ∧ nameC x.toNat = false := by
        by_cases h : j < s.length
        · exact .inr ⟨by simp; omega, by simp; omega, by omega, h, _, List.getElem?_eq_getElem h, hrn.out _ (List.getElem?_eq_getElem h)⟩
        · exact .inl ⟨by simp; omega, by simp; omega⟩
      have hfin : (decide (20 < (j : Int)) = true ∧ one s = ((0, 0, 0, []), (j : Int), 7)) ∨ (decide (20 < (j : Int)) = false ∧ wordsL.contains (s.take j) = true ∧ one s = ((2, 0, 0, s.take j), (j : Int), 0)) ∨ (decide (20 < (j : Int)) = false ∧ wordsL.contains (s.take j) = false ∧ one s = ((1, 0, 0, s.take j), (j : Int), 0)) := by
        have e' := e.out
        by_cases h : 20 < j
        · rw [if_pos h] at e'; exact .inl ⟨by simp; omega, e'⟩
        · rw [if_neg h] at e'
          cases hw : wordsL.contains (s.take j) with
          | true => rw [hw] at e'; exact .inr (.inl ⟨by simp; omega, rfl, by simpa using e'⟩)
          | false => rw [hw] at e'; exact .inr (.inr ⟨by simp; omega, rfl, by simpa using e'⟩)
      clear e hry hrn
      have cC := Lib.hid (fun v W B (h : Sl.StrsV W B v wordsL) => Sl.ContainsS_any v wordsL (s.take j) W B h)
      rcases hend with ⟨g1, g1'⟩ | ⟨g1, g1', hjI, hjs, x, hx, hdx⟩
      · rcases hfin with ⟨g2, e'⟩ | ⟨g2, hw, e'⟩ | ⟨g2, hw, e'⟩
        · replace e' := Lib.hid e'
          go_wp2
          refine bodyPost_ret (v := retOne (one s)) ?_ rfl ⟨rfl, (by repeat (first | exact Below.refl _ _ | assumption | refine Below.n _ ?_ (by first | omega | (simp; done) | (simp; omega)) | refine Below.alloc ?_ (by first | omega | (simp; done) | (simp; omega)) _ | refine Below.setCell ?_ (by first | omega | (simp; done) | (simp; omega)) _ | refine Below.drew ?_ | refine Below.setRow ?_ (by first | omega | (simp; done) | (simp; omega)) _ | refine Below.drewN ?_ _))⟩
          rw [e'.out]
          simp [results, Tryd.results108, go_sem, retOne, k0, k1, k2, k3]
        all_goals
          replace e' := Lib.hid e'
          rw [hw] at cC
          clear hw
          go_wp2_with fail
          go_region_with (first
            | (go_at_call 102; (with_reducible refine (Words_row _).mono ?_); rintro e1 w2 ⟨v, rfl, hb2, hv⟩; obtain ⟨n, rfl⟩ := After.of hb2; have zn := n.size; simp at zn; replace hv := Lib.hid hv)
            | (go_at_call 101; (with_reducible refine (cC.out _ _ _ hv.out).mono ?_); rintro e1 w2 ⟨rfl, rfl⟩))
          all_goals
            have Br : Blk n.w w.heap.size 152 #[.int .i64 0, .int .i64 0, .int .i64 0, strV []] := Blk.after (w := (wr.alloc (.cells #[.int .i64 1, .int .i64 0, .int .i64 0, strV (s.take j)] 152)).drew) (B1.alloc _) n (by simp; omega)
            have q0 : n.w.cell? ⟨w.heap.size, 0, none⟩ = some (.int .i64 0) := Br.cell 0
            have q1 : n.w.cell? ⟨w.heap.size, 1, none⟩ = some (.int .i64 0) := Br.cell 1
            have q2 : n.w.cell? ⟨w.heap.size, 2, none⟩ = some (.int .i64 0) := Br.cell 2
            have q3 : n.w.cell? ⟨w.heap.size, 3, none⟩ = some (strV []) := Br.cell 3
            have hne : ¬ wr.heap.size = w.heap.size := by omega
            go_wp2
            refine bodyPost_ret (v := retOne (one s)) ?_ rfl ⟨rfl, (by repeat (first | exact Below.refl _ _ | assumption | refine Below.n _ ?_ (by first | omega | (simp; done) | (simp; omega)) | refine Below.alloc ?_ (by first | omega | (simp; done) | (simp; omega)) _ | refine Below.setCell ?_ (by first | omega | (simp; done) | (simp; omega)) _ | refine Below.drew ?_ | refine Below.setRow ?_ (by first | omega | (simp; done) | (simp; omega)) _ | refine Below.drewN ?_ _))⟩
            rw [e'.out]
            simp [results, Tryd.results108, go_sem, retOne, q0, q1, q2, q3]
      · have cx := fun W => wsmall x.toNat W
        have cy := fun W => wdigit x.toNat W
        have hbx := bAt_of hx
        have g95 : (((x.toNat : Nat) : Int) == 95) = false := by
          unfold nameC at hdx
          simp at hdx
          rw [beq_eq_false_iff_ne]; omega
        rw [show small x.toNat = false by unfold nameC at hdx; simp at hdx; exact hdx.1] at cx
        rw [show digit x.toNat = false by unfold nameC at hdx; simp at hdx; exact hdx.2.1] at cy
        replace cx := Lib.hid cx
        replace cy := Lib.hid cy
        clear hx hdx
        rcases hfin with ⟨g2, e'⟩ | ⟨g2, hw, e'⟩ | ⟨g2, hw, e'⟩
        · replace e' := Lib.hid e'
          go_wp2_with fail
          refine (cx.out _).mono ?_
          rintro e1 w2 ⟨rfl, rfl⟩
          go_wp2_with fail
          refine (cy.out _).mono ?_
          rintro e1 w2 ⟨rfl, rfl⟩
          go_wp2
          refine bodyPost_ret (v := retOne (one s)) ?_ rfl ⟨rfl, (by repeat (first | exact Below.refl _ _ | assumption | refine Below.n _ ?_ (by first | omega | (simp; done) | (simp; omega)) | refine Below.alloc ?_ (by first | omega | (simp; done) | (simp; omega)) _ | refine Below.setCell ?_ (by first | omega | (simp; done) | (simp; omega)) _ | refine Below.drew ?_ | refine Below.setRow ?_ (by first | omega | (simp; done) | (simp; omega)) _ | refine Below.drewN ?_ _))⟩
          rw [e'.out]
          simp [results, Tryd.results108, go_sem, retOne, k0, k1, k2, k3]
        all_goals
          replace e' := Lib.hid e'
          rw [hw] at cC
          clear hw
          go_wp2_with fail
          refine (cx.out _).mono ?_
          rintro e1 w2 ⟨rfl, rfl⟩
          go_wp2_with fail
          refine (cy.out _).mono ?_
          rintro e1 w2 ⟨rfl, rfl⟩
          go_wp2_with fail
          go_region_with (first
            | (go_at_call 102; (with_reducible refine (Words_row _).mono ?_); rintro e1 w2 ⟨v, rfl, hb2, hv⟩; obtain ⟨n, rfl⟩ := After.of hb2; have zn := n.size; simp at zn; replace hv := Lib.hid hv)
            | (go_at_call 101; (with_reducible refine (cC.out _ _ _ hv.out).mono ?_); rintro e1 w2 ⟨rfl, rfl⟩))
          all_goals
            have Br : Blk n.w w.heap.size 152 #[.int .i64 0, .int .i64 0, .int .i64 0, strV []] := Blk.after (w := (wr.alloc (.cells #[.int .i64 1, .int .i64 0, .int .i64 0, strV (s.take j)] 152)).drew) (B1.alloc _) n (by simp; omega)
            have q0 : n.w.cell? ⟨w.heap.size, 0, none⟩ = some (.int .i64 0) := Br.cell 0
            have q1 : n.w.cell? ⟨w.heap.size, 1, none⟩ = some (.int .i64 0) := Br.cell 1
            have q2 : n.w.cell? ⟨w.heap.size, 2, none⟩ = some (.int .i64 0) := Br.cell 2
            have q3 : n.w.cell? ⟨w.heap.size, 3, none⟩ = some (strV []) := Br.cell 3
            have hne : ¬ wr.heap.size = w.heap.size := by omega
            go_wp2
            refine bodyPost_ret (v := retOne (one s)) ?_ rfl ⟨rfl, (by repeat (first | exact Below.refl _ _ | assumption | refine Below.n _ ?_ (by first | omega | (simp; done) | (simp; omega)) | refine Below.alloc ?_ (by first | omega | (simp; done) | (simp; omega)) _ | refine Below.setCell ?_ (by first | omega | (simp; done) | (simp; omega)) _ | refine Below.drew ?_ | refine Below.setRow ?_ (by first | omega | (simp; done) | (simp; omega)) _ | refine Below.drewN ?_ _))⟩
            rw [e'.out]
            simp [results, Tryd.results108, go_sem, retOne, q0, q1, q2, q3]

end Lx
end Go.Proofs.YtbadplbdgpbdaaaDoor

namespace Go.Proofs.YtbadplbdgpbdaaaDoor
open Go.RowKit
namespace Lx
open Sl (strV)

theorem indexByte_mem : ∀ (l : List UInt8) (c : UInt8), decide (0 ≤ Lib.indexByte l c) = l.contains c
  | [], c => by simp [Lib.indexByte]
  | b :: l, c => by
    have ih := indexByte_mem l c
    have hg := Lib.indexByte_ge l c
    unfold Lib.indexByte
    by_cases h : b = c
    · subst h; simp
    · have hb : (b == c) = false := by simpa using h
      have hc : (c == b) = false := by simpa using fun e => h e.symm
      rw [hb, List.contains_cons, hc, Bool.false_or, ← ih]
      simp only [Bool.false_eq_true, if_false]
      by_cases h1 : Lib.indexByte l c = -1
      · simp [h1]
      · rw [if_neg (by simpa using h1)]
        rw [decide_eq_decide]; omega
set_option maxHeartbeats 2000000 in
set_option maxRecDepth 100000 in
theorem one_sign (s : List UInt8) (c : UInt8) (w : World) (hl : s.length ≤ 6000) (h0 : shapeGo s dateS = false) (h1 : shapeGo s timeS = false) (hc : s[0]? = some c) (hd : digit c.toNat = false) (hsm : small c.toNat = false) : Calls Tryd.prog 108 #[strV s] w (OnePost s w) := by
  have hlen : 1 ≤ s.length := (List.getElem?_eq_some_iff.1 hc).1
  have hlen' : 1 ≤ (s.length : Int) := by omega
  have c1 := fun W => shape_any s dateS W (by omega) (by decide)
  rw [h0] at c1
  have c2 := fun W => shape_any s timeS W (by omega) (by decide)
  rw [h1] at c2
  have cd := fun W => wdigit c.toNat W
  rw [hd] at cd
  have cs := fun W => wsmall c.toNat W
  rw [hsm] at cs
  have hb0 := bAt_of hc
  have cp := fun W => HasPrefix_any s [46, 46] W (by omega) (by decide)
  have ci := fun W => (Go.Proofs.Tryd.strings_IndexByte ⟨signs.toArray⟩ (c.toNat : Int) W)
  have hct : ((c.toNat : Int)).toNat.toUInt8 = c := by rw [Int.toNat_natCast]; exact UInt8.ofNat_toNat
  rw [hct] at ci
  have e : one s = if s.take 2 = [46, 46] then ((3, 0, 0, [46, 46]), 2, 0) else if signs.contains c = true then ((3, 0, 0, [c]), 1, 0) else ((0, 0, 0, []), 0, 2) := by
    unfold one
    rw [if_neg (by rw [h0]; simp), if_neg (by rw [h1]; simp)]
    cases s with
    | nil => simp at hc
    | cons x xs => simp at hc; subst hc; simp only; rw [if_neg (by rw [hd]; simp), if_neg (by rw [hsm]; simp)]
  have et : s.take 1 = [c] := by
    cases s with
    | nil => simp at hc
    | cons x xs => simp at hc; subst hc; rfl
  have hcase : (isPre [46, 46] s = true ∧ one s = ((3, 0, 0, [46, 46]), 2, 0)) ∨ (isPre [46, 46] s = false ∧ decide (0 ≤ Lib.indexByte signs c) = true ∧ one s = ((3, 0, 0, s.take 1), 1, 0)) ∨ (isPre [46, 46] s = false ∧ decide (0 ≤ Lib.indexByte signs c) = false ∧ one s = ((0, 0, 0, []), 0, 2)) := by
    rw [indexByte_mem]
    by_cases h : s.take 2 = [46, 46]
    · rw [if_pos h] at e; exact .inl ⟨by simpa [isPre] using h, e⟩
    · rw [if_neg h] at e
      cases hs : signs.contains c with
      | true => rw [hs, if_pos rfl] at e; exact .inr (.inl ⟨by simpa [isPre] using h, rfl, by rw [et]; exact e⟩)
      | false => rw [hs, if_neg (by simp)] at e; exact .inr (.inr ⟨by simpa [isPre] using h, rfl, e⟩)
  replace c1 := Lib.hid c1
  replace c2 := Lib.hid c2
  replace cd := Lib.hid cd
  replace cs := Lib.hid cs
  clear e et hct hc hd h0 h1 hsm
  rcases hcase with ⟨g1, e⟩ | ⟨g1, g2, e⟩ | ⟨g1, g2, e⟩
  all_goals
    rw [g1] at cp
    replace cp := Lib.hid cp
    clear g1
    generalize Lib.indexByte signs c = ix at *
    replace ci := Lib.hid ci
    replace e := Lib.hid e
    go_enter Tryd.func108, Tryd.ntmps108
    go_wp2_with fail
    refine (c1.out _).mono ?_
    rintro e1 w1 ⟨rfl, hb1⟩
    obtain ⟨m1, rfl⟩ := After.of hb1
    have z1 := m1.size
    simp at z1
    have B0 := (Blk.new w 152 #[.int .i64 0, .int .i64 0, .int .i64 0, strV []]).after m1 (by simp)
    go_wp2_with fail
    refine (c2.out _).mono ?_
    rintro e1 w2 ⟨rfl, hb2⟩
    obtain ⟨m2, rfl⟩ := After.of hb2
    have z2 := m2.size
    have B1 := B0.after m2 (by omega)
    have f0 : ∀ j, m2.w.frozen? ⟨w.heap.size, j, none⟩ = false := fun j => B1.frozen j
    have k0 : m2.w.cell? ⟨w.heap.size, 0, none⟩ = some (.int .i64 0) := B1.cell 0
    have k1 : m2.w.cell? ⟨w.heap.size, 1, none⟩ = some (.int .i64 0) := B1.cell 1
    have k2 : m2.w.cell? ⟨w.heap.size, 2, none⟩ = some (.int .i64 0) := B1.cell 2
    have k3 : m2.w.cell? ⟨w.heap.size, 3, none⟩ = some (strV []) := B1.cell 3
    go_wp2_with fail
    refine (cd.out _).mono ?_
    rintro e1 w2 ⟨rfl, rfl⟩
    go_wp2_with fail
    refine (cs.out _).mono ?_
    rintro e1 w2 ⟨rfl, rfl⟩
    go_wp2_with fail
    refine (cp.out _).mono ?_
    rintro e1 w2 ⟨rfl, rfl⟩
    go_wp2_with (go_at_call 118; refine (ci.out _).mono ?_; rintro e1 w2 ⟨rfl, rfl⟩)
    refine bodyPost_ret (v := retOne (one s)) ?_ rfl ⟨rfl, (by repeat (first | exact Below.refl _ _ | assumption | refine Below.n _ ?_ (by first | omega | (simp; done) | (simp; omega)) | refine Below.alloc ?_ (by first | omega | (simp; done) | (simp; omega)) _ | refine Below.setCell ?_ (by first | omega | (simp; done) | (simp; omega)) _ | refine Below.drew ?_ | refine Below.setRow ?_ (by first | omega | (simp; done) | (simp; omega)) _ | refine Below.drewN ?_ _))⟩
    rw [e.out]
    simp [results, Tryd.results108, go_sem, retOne, k0, k1, k2, k3]

theorem one_any (s : List UInt8) (w : World) (h0 : 1 ≤ s.length) (hl : s.length ≤ 6000) : Calls Tryd.prog 108 #[strV s] w (OnePost s w) := by
  obtain ⟨c, hc⟩ : ∃ c, s[0]? = some c := ⟨_, List.getElem?_eq_getElem (by omega)⟩
  cases h1 : shapeGo s dateS with
  | true => exact one_date s w hl h1
  | false =>
    cases h2 : shapeGo s timeS with
    | true => exact one_time s w hl h1 h2
    | false =>
      cases h3 : digit c.toNat with
      | true => exact one_number s c w hl h1 h2 hc h3
      | false =>
        cases h4 : small c.toNat with
        | true => exact one_name s c w hl h1 h2 hc h4
        | false => exact one_sign s c w hl h1 h2 hc h3 h4

end Lx
end Go.Proofs.YtbadplbdgpbdaaaDoor

namespace Go.Proofs.YtbadplbdgpbdaaaDoor
open Go.RowKit
namespace Lx
open Sl (strV)

theorem el_tok : El Tryd.prog 141 152 4 40 := El.mk' Tryd.underlying141 (by kernel_rfl) (by omega)
/-- a token's cells -/
def tokC (t : Tok) : List Value := [.int .i64 t.1, .int .i64 t.2.1, .int .i64 t.2.2.1, strV t.2.2.2]
def toksC (l : List Tok) : List Value := l.flatMap tokC
theorem toksC_snoc (l : List Tok) (t : Tok) : toksC l ++ tokC t = toksC (l ++ [t]) := by simp [toksC]
/-- what is answered of a text -/
def LexPost (s : List UInt8) (w : World) (e : Ending) (w' : World) : Prop :=
  ∃ v, e = .returned (.tuple #[v, .agg #[.int .i64 (lexV s).2.1, .int .i64 (lexV s).2.2]]) ∧ Below w.heap.size w w' ∧ w'.ownsRow w.heap.size 152 4 v (lexV s).1.length (toksC (lexV s).1)

set_option maxHeartbeats 400000 in
theorem Lex_much (s : List UInt8) (w : World) (hl : 6000 < s.length) (hl2 : s.length ≤ 9223372036854775807) : Calls Tryd.prog 89 #[strV s] w (LexPost s w) := by
  have e : lexV s = ([], 4, 0) := by unfold lexV; rw [if_pos hl]
  unfold LexPost
  rw [e]
  clear e
  go_enter Tryd.func89, Tryd.ntmps89
  go_wp2
  refine bodyPost_ret (v := .tuple #[.slice none 0 0, .agg #[.int .i64 4, .int .i64 0]]) ?_ rfl ⟨_, rfl, (by repeat (first | exact Below.refl _ _ | assumption | refine Below.n _ ?_ (by first | omega | (simp; done) | (simp; omega)) | refine Below.alloc ?_ (by first | omega | (simp; done) | (simp; omega)) _ | refine Below.setCell ?_ (by first | omega | (simp; done) | (simp; omega)) _ | refine Below.drew ?_ | refine Below.setRow ?_ (by first | omega | (simp; done) | (simp; omega)) _ | refine Below.drewN ?_ _)), World.ownsRow_nil _ _ _ _⟩
  simp [results, Tryd.results89, go_sem]

set_option maxHeartbeats 2000000 in
set_option maxRecDepth 100000 in
theorem Lex_fits (s : List UInt8) (w : World) (hl : s.length ≤ 6000) : Calls Tryd.prog 89 #[strV s] w (LexPost s w) := by
  have e0 : lexV s = lexR s.length s 0 := by unfold lexV; rw [if_neg (by omega)]
  have e0 := Lib.hid e0
  unfold LexPost
  go_enter Tryd.func89, Tryd.ntmps89
  go_wp2_with fail
  go_loopg [4, 5] s.length (fun q v k wr => ∃ (a f : Nat) (acc : List Tok), a ≤ s.length ∧ q = s.length - a ∧ k = .int .i64 a ∧ q ≤ f ∧ acc.length ≤ a ∧ Hid (lexV s = fin acc (lexR f (s.drop a) a)) ∧ wr.ownsRow (w.heap.size + 1) 152 4 v acc.length (toksC acc) ∧
    Below w.heap.size w wr ∧ w.heap.size + 1 ≤ wr.heap.size ∧ Blk wr w.heap.size 26 #[.int .i64 0, .int .i64 0])
  case atStart => exact ⟨0, s.length, [], by omega, rfl, rfl, by omega, by simp, Lib.hid (by rw [e0.out, List.drop_zero, fin_nil _ (lexR_form _ _ _).1 (lexR_form _ _ _).2]), World.ownsRow_nil _ _ _ _, (by repeat (first | exact Below.refl _ _ | assumption | refine Below.n _ ?_ (by first | omega | (simp; done) | (simp; omega)) | refine Below.alloc ?_ (by first | omega | (simp; done) | (simp; omega)) _ | refine Below.setCell ?_ (by first | omega | (simp; done) | (simp; omega)) _ | refine Below.drew ?_ | refine Below.setRow ?_ (by first | omega | (simp; done) | (simp; omega)) _ | refine Below.drewN ?_ _)), by simp, Blk.new _ _ _⟩
  case round =>
    obtain ⟨a, f, acc, ha, hq, rfl, hf, hacc, hlx, ho, hb, hsz, B⟩ := hrel
    replace hq := Lib.hid hq
    clear e0
    by_cases hlt : a < s.length
    · obtain ⟨c, hc⟩ : ∃ c, s[a]? = some c := ⟨_, List.getElem?_eq_getElem hlt⟩
      obtain ⟨f, rfl⟩ : ∃ f', f = f' + 1 := ⟨f - 1, by have := hq.out; omega⟩
      have hbx := bAt_of hc
      have hltI : (a : Int) < s.length := by omega
      have e32 := beqI (c := c) (x := 32)
      have e10 := beqI (c := c) (x := 10)
      have e9 := beqI (c := c) (x := 9)
      have e35 := beqI (c := c) (x := 35)
      simp only [show ((32 : UInt8).toNat : Int) = 32 from rfl, show ((10 : UInt8).toNat : Int) = 10 from rfl, show ((9 : UInt8).toNat : Int) = 9 from rfl, show ((35 : UInt8).toNat : Int) = 35 from rfl] at e32 e10 e9 e35
      cases hs : spc c with
      | true =>
        have hl2 := Lib.hid (lexR_sp (f := f) hc hs)
        have h3 := spc_cases hs
        clear hs hc e35
        rcases h3 with h | ⟨h, h'⟩ | ⟨h, h', h''⟩
        · rw [h] at e32; clear e10 e9
          go_wp2
          go_roundg (s.length - (a + 1))
          case measure => rw [hq.out]; omega
          case rel => exact ⟨a + 1, f, acc, by omega, rfl, by go_num, by have := hq.out; omega, by omega, Lib.hid (by rw [hlx.out, hl2.out]), ho, hb, hsz, B⟩
        · rw [h] at e32; rw [h'] at e10; clear e9
          go_wp2
          go_roundg (s.length - (a + 1))
          case measure => rw [hq.out]; omega
          case rel => exact ⟨a + 1, f, acc, by omega, rfl, by go_num, by have := hq.out; omega, by omega, Lib.hid (by rw [hlx.out, hl2.out]), ho, hb, hsz, B⟩
        · rw [h] at e32; rw [h'] at e10; rw [h''] at e9
          go_wp2
          go_roundg (s.length - (a + 1))
          case measure => rw [hq.out]; omega
          case rel => exact ⟨a + 1, f, acc, by omega, rfl, by go_num, by have := hq.out; omega, by omega, Lib.hid (by rw [hlx.out, hl2.out]), ho, hb, hsz, B⟩
      | false =>
        obtain ⟨n1, n2, n3⟩ := spc_no hs
        rw [n1] at e32
        rw [n2] at e10
        rw [n3] at e9
        clear n1 n2 n3
        cases h35 : (c == 35) with
        | true =>
          obtain rfl : c = 35 := by simpa using h35
          rw [h35] at e35
          have hl2 := Lib.hid (lexR_note (f := f) hc)
          have hR := run_le notNl (s.drop a)
          rw [List.length_drop] at hR
          have hR1 : 1 ≤ run notNl (s.drop a) := by rw [drop_at hc]; unfold run; rw [if_pos (by decide)]; omega
          have hry := Lib.hid (fun i x (h : i < run notNl (s.drop a)) (hx : s[a + i]? = some x) => run_yes (f := notNl) h (c := x) (by rw [List.getElem?_drop]; exact hx))
          have hrn := Lib.hid (fun x (hx : s[a + run notNl (s.drop a)]? = some x) => run_no (f := notNl) (s := s.drop a) (c := x) (by rw [List.getElem?_drop]; exact hx))
          generalize run notNl (s.drop a) = R at *
          clear hc hs h35
          go_wp2_with fail
          obtain ⟨wo, rfl⟩ : ∃ wo : World, wo = wr := ⟨_, rfl⟩
          clear hltI hlt hbx e32 e10 e9 e35
          go_loopg [5] R (fun q k wr2 => ∃ b : Nat, a ≤ b ∧ b ≤ a + R ∧ q = a + R - b ∧ k = .int .i64 b ∧ wr2 = wo)
          case atStart => exact ⟨a, by omega, by omega, by omega, rfl, rfl⟩
          case round =>
            obtain ⟨b, hab, hj, hk, rfl, rfl⟩ := hrel
            replace hk := Lib.hid hk
            by_cases hlt : b < a + R
            · obtain ⟨x, hx⟩ : ∃ x, s[b]? = some x := ⟨_, List.getElem?_eq_getElem (by omega)⟩
              have hnx := hry.out (b - a) x (by omega) (by rw [show a + (b - a) = b by omega]; exact hx)
              have hbx := bAt_of hx
              have e10 := bneI (c := x) (x := 10)
              simp only [show ((10 : UInt8).toNat : Int) = 10 from rfl] at e10
              rw [nl_ne hnx] at e10
              have hbI : (b : Int) < s.length := by omega
              clear hx hnx
              go_wp2
              go_roundg (a + R - (b + 1))
              case measure => rw [hk.out]; omega
              case rel => exact ⟨b + 1, by omega, by omega, rfl, by go_num, rfl⟩
            · obtain rfl : b = a + R := by omega
              obtain ⟨z, hz⟩ : ∃ z, a + R = z := ⟨_, rfl⟩
              rw [hz] at hl2 hrn hj
              by_cases hend : z < s.length
              · obtain ⟨x, hx⟩ : ∃ x, s[z]? = some x := ⟨_, List.getElem?_eq_getElem hend⟩
                have hnx := hrn.out x hx
                have hbx := bAt_of hx
                have e10 := bneI (c := x) (x := 10)
                simp only [show ((10 : UInt8).toNat : Int) = 10 from rfl] at e10
                rw [nl_eq hnx] at e10
                have hbI : (z : Int) < s.length := by omega
                rw [hz]
                replace hz := Lib.hid hz
                clear hx hnx
                go_wp2
                go_roundg (s.length - z)
                case measure => rw [hq.out]; have := hz.out; omega
                case rel => exact ⟨z, f, acc, by omega, rfl, rfl, by have := hq.out; have := hz.out; omega, by have := hz.out; omega, Lib.hid (by rw [hlx.out, hl2.out]), ho, hb, hsz, B⟩
              · obtain rfl : z = s.length := by omega
                rw [hz]
                replace hz := Lib.hid hz
                go_wp2
                go_roundg (s.length - s.length)
                case measure => rw [hq.out]; have := hz.out; omega
                case rel => exact ⟨s.length, f, acc, by omega, rfl, rfl, by have := hq.out; have := hz.out; omega, by have := hz.out; omega, Lib.hid (by rw [hlx.out, hl2.out]), ho, hb, hsz, B⟩
        | false =>
          rw [h35] at e35
          have hne : c ≠ 35 := by simpa using h35
          have hpos : s.drop a ≠ [] := by rw [drop_at hc]; simp
          have cO := one_any (s.drop a)
          have hol := Lib.hid (fun h => one_len hpos h)
          have htk := Lib.hid (fun h => lexR_tok (f := f) hc hs hne h)
          have hbd := Lib.hid (fun h => lexR_bad (f := f) hc hs hne h)
          have hld : (s.drop a).length = s.length - a := by simp
          obtain ⟨⟨⟨t1, t2, t3, t4⟩, tn, te⟩, ho1⟩ : ∃ x, one (s.drop a) = x := ⟨_, rfl⟩
          unfold OnePost retOne at cO
          rw [ho1] at cO hol htk hbd
          dsimp only at cO
          have cO1 := Lib.hid (fun W => cO W (by rw [hld]; omega) (by rw [hld]; omega))
          clear cO hc hs h35 hne hpos
          go_wp2_with fail
          refine (cO1.out _).mono ?_
          rintro e1 w1 ⟨rfl, hb1⟩
          have B1 := B.below hb1 (by omega)
          have z1 := hb1.size
          have ho2 := Lib.hid (own_keep ho hb1 (Nat.le_refl _))
          have hbw := hb.trans (hb1.mono (by omega))
          have k0 : w1.cell? ⟨w.heap.size, 0, none⟩ = some (.int .i64 0) := B1.cell 0
          have k1 : w1.cell? ⟨w.heap.size, 1, none⟩ = some (.int .i64 0) := B1.cell 1
          have f0 : ∀ j, w1.frozen? ⟨w.heap.size, j, none⟩ = false := fun j => B1.frozen j
          clear B hb hb1 ho cO1
          by_cases hte : te = 0
          · subst hte
            have htk2 := Lib.hid (htk.out rfl)
            obtain ⟨hn1, hn2⟩ := hol.out rfl
            obtain ⟨n, rfl⟩ : ∃ n : Nat, tn = n := ⟨tn.toNat, by omega⟩
            clear hbd htk hol
            have hnew := Lib.hid (show ∀ u ∈ (#[.int .i64 t1, .int .i64 t2, .int .i64 (a : Int), strV t4] : Array Value).toList, u.oneCell' = true from fun u hu => by simp at hu; rcases hu with rfl | rfl | rfl | rfl <;> rfl)
            have hz1 : w.heap.size + 1 ≤ w1.heap.size := by omega
            go_wp2_with (at_builtin; refine wpList_append_lit el_tok rfl (.tmp 68) (.tmp 70) rfl (w.heap.size + 1) u4 acc.length (toksC acc) (ho2.out.alloc _) #[.int .i64 t1, .int .i64 t2, .int .i64 (a : Int), strV t4] 152 rfl (by rw [World.size_alloc]; rfl) rfl hnew.out (by simp only [maxLen]; omega) (by omega) (Nat.le_trans hz1 ((Below.refl w1.heap.size w1).alloc (Nat.le_refl _) _).size) ?_; intro v' w5 hown5 hb5 hs5)
            have hm : Below (w.heap.size + 1) w1 w5 := ((Below.refl _ _).alloc hz1 _).trans hb5
            have hz5 := hb5.size
            simp only [World.size_alloc] at hz5
            go_roundg (s.length - (a + n))
            case measure => rw [hq.out]; omega
            case rel => exact ⟨a + n, f, acc ++ [(t1, t2, (a : Int), t4)], by omega, rfl, by go_num, by have := hq.out; omega, by simp; omega, Lib.hid (by rw [hlx.out, htk2.out, fin_fin]; rfl), by rw [List.length_append, ← toksC_snoc]; exact hown5, hbw.trans (hm.mono (by omega)), by omega, B1.below hm (by omega)⟩
          · have hbd2 := Lib.hid (hbd.out hte)
            have gte : (te == 0) = false := by simpa using hte
            clear htk hbd hol hte
            go_wp2
            have e := hlx.out
            rw [hbd2.out] at e
            simp only [fin] at e
            rw [if_neg (by simpa using gte)] at e
            refine bodyPost_ret (v := .tuple #[.slice none 0 0, .agg #[.int .i64 te, .int .i64 (a : Int)]]) ?_ rfl (by rw [e]; exact ⟨_, rfl, (((hbw.alloc (by omega) _).setCell (by first | omega | (simp; done) | (simp; omega)) _).setCell (by first | omega | (simp; done) | (simp; omega)) _), World.ownsRow_nil _ _ _ _⟩)
            have hw : w.heap.size < w1.heap.size := by omega
            simp [results, Tryd.results89, go_sem, k0, k1, hw]
    · obtain rfl : a = s.length := by omega
      have e := hlx.out
      rw [lexR_end (Nat.le_refl _)] at e
      have k0 : wr.cell? ⟨w.heap.size, 0, none⟩ = some (.int .i64 0) := B.cell 0
      have k1 : wr.cell? ⟨w.heap.size, 1, none⟩ = some (.int .i64 0) := B.cell 1
      have f0 : ∀ j, wr.frozen? ⟨w.heap.size, j, none⟩ = false := fun j => B.frozen j
      go_wp2
      refine bodyPost_ret (v := .tuple #[u4, .agg #[.int .i64 0, .int .i64 0]]) ?_ rfl (by rw [e]; simp only [fin, if_true, List.append_nil]; exact ⟨_, rfl, (hb.setCell (by first | omega | (simp; done) | (simp; omega)) _).setCell (by first | omega | (simp; done) | (simp; omega)) _, own_mono (own_far (own_far ho (by first | omega | (simp; done) | (simp; omega)) _) (by first | omega | (simp; done) | (simp; omega)) _) (by omega)⟩)
      simp [results, Tryd.results89, go_sem, k0, k1]

end Lx
end Go.Proofs.YtbadplbdgpbdaaaDoor

namespace Go.Proofs.YtbadplbdgpbdaaaDoor
open Go.RowKit
namespace Lx

theorem one_text (s : List UInt8) : (one s).1.2.2.2.length ≤ 20 := by
  unfold one
  split
  · simp
  split
  · split <;> simp
  split
  · simp
  split
  · split <;> simp
  split
  · split
    · simp
    · rename_i h
      simp only [List.length_take]
      omega
  split
  · simp
  split <;> simp
theorem lexR_len : ∀ (f : Nat) (r : List UInt8) (a : Nat), (lexR f r a).1.length ≤ f ∧ ∀ t ∈ (lexR f r a).1, t.2.2.2.length ≤ 20
  | 0, _, _ => by simp [lexR]
  | _ + 1, [], _ => by simp [lexR]
  | f + 1, c :: r, a => by
    rw [lexR]
    split
    · have := lexR_len f r (a + 1)
      exact ⟨by omega, this.2⟩
    split
    · have := lexR_len f ((c :: r).drop (run notNl (c :: r))) (a + run notNl (c :: r))
      exact ⟨by omega, this.2⟩
    split
    · have h := lexR_len f ((c :: r).drop (one (c :: r)).2.1.toNat) (a + (one (c :: r)).2.1.toNat)
      have h1 := one_text (c :: r)
      unfold fin
      split
      · refine ⟨by simp; omega, fun t ht => ?_⟩
        rcases List.mem_append.1 ht with ht | ht
        · rw [List.mem_singleton] at ht
          subst ht
          exact h1
        · exact h.2 t ht
      · simp
    · simp
theorem lexV_len (s : List UInt8) : (lexV s).1.length ≤ 6000 ∧ ∀ t ∈ (lexV s).1, t.2.2.2.length ≤ 20 := by
  unfold lexV
  split
  · simp
  · have := lexR_len s.length s 0
    exact ⟨by omega, this.2⟩

end Lx
end Go.Proofs.YtbadplbdgpbdaaaDoor

namespace Go.Proofs.YtbadplbdgpbdaaaDoor
open Go.RowKit
namespace Lx
open Sl (strV)

theorem Lex_any (s : List UInt8) (w : World) (hl : s.length ≤ 9223372036854775807) : Calls Tryd.prog 89 #[strV s] w (LexPost s w) := by
  by_cases h : s.length ≤ 6000
  · exact Lex_fits s w h
  · exact Lex_much s w (by omega) hl
/-- an element's cells of a row of tokens -/
theorem toks_at {w : World} {base : Nat} {v : Value} {l : List Tok} (h : w.ownsRow base 152 4 v l.length (toksC l)) {i : Nat} {t : Tok} (hi : l[i]? = some t) :
    ∃ g cap, v = .slice (some ⟨g, 0, none⟩) l.length cap ∧ base ≤ g ∧ g < w.heap.size ∧ w.cell? ⟨g, i * 4, none⟩ = some (.int .i64 t.1) ∧ w.cell? ⟨g, i * 4 + 1, none⟩ = some (.int .i64 t.2.1) ∧ w.cell? ⟨g, i * 4 + 2, none⟩ = some (.int .i64 t.2.2.1) ∧ w.cell? ⟨g, i * 4 + 3, none⟩ = some (strV t.2.2.2) := by
  obtain ⟨g, cap, h1, h2, h3, h4⟩ := own_at (F := tokC) h (fun _ => rfl) hi
  exact ⟨g, cap, h1, h2, h3, h4 0 _ rfl, h4 1 _ rfl, h4 2 _ rfl, h4 3 _ rfl⟩












































end Lx
end Go.Proofs.YtbadplbdgpbdaaaDoor
