/- The walk of lex.one: names, signs. -/
import Derived.Test.YtbcgcpcjepigeaaLexP
namespace Go.Proofs.Ytbcgcpcjepigeaa
open Go.RowKit
namespace Lx
open Sl (strV)

theorem small_digit {n : Nat} (h : small n = true) : digit n = false := by
  have := small_iff.1 h
  cases hd : digit n
  · rfl
  · have := digit_iff.1 hd; omega

set_option maxHeartbeats 4000000 in
set_option maxRecDepth 100000 in
theorem one_name (s : List UInt8) (c : UInt8) (w : World) (hl : s.length ≤ 6000) (h0 : shapeGo s dateS = false) (h1 : shapeGo s timeS = false) (hc : s[0]? = some c) (hsm : small c.toNat = true) : Calls Try.prog 29 #[strV s] w (OnePost s w) := by
  have hlen : 1 ≤ s.length := (List.getElem?_eq_some_iff.1 hc).1
  have hlen' : 1 ≤ (s.length : Int) := by omega
  have hd := small_digit hsm
  have c1 := fun W => shape_any s dateS W (by omega) (by decide)
  rw [h0] at c1
  have c2 := fun W => shape_any s timeS W (by omega) (by decide)
  rw [h1] at c2
  have cd := fun W => wdigit c.toNat W
  rw [hd] at cd
  have cs := fun W => wsmall c.toNat W
  rw [hsm] at cs
  have hb0 := bAt_of hc
  have hrl := run_le nameC s
  have hry := Lib.hid (fun i c (h : i < run nameC s) (hc : s[i]? = some c) => run_yes (f := nameC) h hc)
  have hrn := Lib.hid (fun c (hc : s[run nameC s]? = some c) => run_no (f := nameC) hc)
  have e : one s = if 20 < run nameC s then ((0, 0, 0, []), (run nameC s : Int), 7) else ((if wordsL.contains (s.take (run nameC s)) = true then 2 else 1, 0, 0, s.take (run nameC s)), (run nameC s : Int), 0) := by
    unfold one
    rw [if_neg (by rw [h0]; simp), if_neg (by rw [h1]; simp)]
    cases s with
    | nil => simp at hc
    | cons x xs => simp at hc; subst hc; simp only; rw [if_neg (by rw [hd]; simp), if_pos hsm]
  generalize hR : run nameC s = R at *
  replace c1 := Lib.hid c1
  replace c2 := Lib.hid c2
  replace cd := Lib.hid cd
  replace cs := Lib.hid cs
  replace e := Lib.hid e
  clear hc hd hR h0 h1 hsm
  go_enter Try.func29, Try.ntmps29
  go_wp2_with fail
  refine (c1.out _).mono ?_
  rintro e1 w1 ⟨rfl, hb1⟩
  obtain ⟨m1, rfl⟩ := After.of hb1
  have z1 := m1.size
  simp at z1
  have B0 := (Blk.new w 34 #[.int .i64 0, .int .i64 0, .int .i64 0, strV []]).after m1 (by simp)
  go_wp2_with fail
  refine (c2.out _).mono ?_
  rintro e1 w2 ⟨rfl, hb2⟩
  obtain ⟨m2, rfl⟩ := After.of hb2
  have z2 := m2.size
  have B1 := B0.after m2 (by omega)
  have hbw : Below w.heap.size w m2.w := (by repeat (first | exact Below.refl _ _ | assumption | refine Below.n _ ?_ (by first | omega | (simp; done) | (simp; omega)) | refine Below.alloc ?_ (by first | omega | (simp; done) | (simp; omega)) _ | refine Below.setCell ?_ (by first | omega | (simp; done) | (simp; omega)) _ | refine Below.drew ?_ | refine Below.setRow ?_ (by first | omega | (simp; done) | (simp; omega)) _ | refine Below.drewN ?_ _))
  clear B0 hb1 hb2
  go_wp2_with fail
  refine (cd.out _).mono ?_
  rintro e1 w2 ⟨rfl, rfl⟩
  go_wp2_with fail
  refine (cs.out _).mono ?_
  rintro e1 w2 ⟨rfl, rfl⟩
  clear hb0
  generalize m2.w = wm at *
  clear m2 z1 z2 cd cs c1 c2
  go_wp2_with fail
  go_loopg [9] R (fun q k wr => ∃ j : Nat, j ≤ R ∧ q = R - j ∧ k = .int .i64 j ∧ wr = wm)
  case atStart => exact ⟨0, by omega, rfl, rfl, rfl⟩
  case round =>
    obtain ⟨j, hj, hq, rfl, rfl⟩ := hrel
    replace hq := Lib.hid hq
    by_cases hlt : j < R
    · obtain ⟨x, hx⟩ : ∃ x, s[j]? = some x := ⟨_, List.getElem?_eq_getElem (by omega)⟩
      have hnx := hry.out j x hlt hx
      have cx := fun W => wsmall x.toNat W
      have cy := fun W => wdigit x.toNat W
      have hbx := bAt_of hx
      have g1 : decide ((j : Int) < (s.length : Int)) = true := by simp; omega
      have g1' : decide (j < s.length) = true := by simp; omega
      have hjs : j < s.length := by omega
      have hjI : (j : Int) < s.length := by omega
      clear hx
      cases hsx : small x.toNat with
      | true =>
        rw [hsx] at cx
        replace cx := Lib.hid cx
        clear hsx hnx
        go_wp2_with fail
        refine (cx.out _).mono ?_
        rintro e1 w2 ⟨rfl, rfl⟩
        go_wp2
        go_roundg (R - (j + 1))
        case measure => rw [hq.out]; omega
        case rel => exact ⟨j + 1, by omega, rfl, by go_num, rfl⟩
      | false =>
        rw [hsx] at cx
        replace cx := Lib.hid cx
        cases hdx : digit x.toNat with
        | true =>
          rw [hdx] at cy
          replace cy := Lib.hid cy
          clear hsx hnx hdx
          go_wp2_with fail
          refine (cx.out _).mono ?_
          rintro e1 w2 ⟨rfl, rfl⟩
          go_wp2_with fail
          refine (cy.out _).mono ?_
          rintro e1 w2 ⟨rfl, rfl⟩
          go_wp2
          go_roundg (R - (j + 1))
          case measure => rw [hq.out]; omega
          case rel => exact ⟨j + 1, by omega, rfl, by go_num, rfl⟩
        | false =>
          rw [hdx] at cy
          replace cy := Lib.hid cy
          have g95 : (((x.toNat : Nat) : Int) == 95) = true := by
            unfold nameC at hnx
            rw [hsx, hdx] at hnx
            simp at hnx
            rw [beq_iff_eq]; omega
          clear hsx hnx hdx
          go_wp2_with fail
          refine (cx.out _).mono ?_
          rintro e1 w2 ⟨rfl, rfl⟩
          go_wp2_with fail
          refine (cy.out _).mono ?_
          rintro e1 w2 ⟨rfl, rfl⟩
          go_wp2
          go_roundg (R - (j + 1))
          case measure => rw [hq.out]; omega
          case rel => exact ⟨j + 1, by omega, rfl, by go_num, rfl⟩
    · obtain rfl : j = R := by omega
      have f0 : ∀ j, wr.frozen? ⟨w.heap.size, j, none⟩ = false := fun j => B1.frozen j
      have k0 : wr.cell? ⟨w.heap.size, 0, none⟩ = some (.int .i64 0) := B1.cell 0
      have k1 : wr.cell? ⟨w.heap.size, 1, none⟩ = some (.int .i64 0) := B1.cell 1
      have k2 : wr.cell? ⟨w.heap.size, 2, none⟩ = some (.int .i64 0) := B1.cell 2
      have k3 : wr.cell? ⟨w.heap.size, 3, none⟩ = some (strV []) := B1.cell 3
      have zw := B1.lt
      have hend : decide ((j : Int) < (s.length : Int)) = false ∧ decide (j < s.length) = false ∨ decide ((j : Int) < (s.length : Int)) = true ∧ decide (j < s.length) = true ∧ (j : Int) < s.length ∧ j < s.length ∧ ∃ x, s[j]? = some x ∧ nameC x.toNat = false := by
        by_cases h : j < s.length
        · exact .inr ⟨by simp; omega, by simp; omega, by omega, h, _, List.getElem?_eq_getElem h, hrn.out _ (List.getElem?_eq_getElem h)⟩
        · exact .inl ⟨by simp; omega, by simp; omega⟩
      have hfin : (decide (20 < (j : Int)) = true ∧ one s = ((0, 0, 0, []), (j : Int), 7)) ∨ (decide (20 < (j : Int)) = false ∧ wordsL.contains (s.take j) = true ∧ one s = ((2, 0, 0, s.take j), (j : Int), 0)) ∨ (decide (20 < (j : Int)) = false ∧ wordsL.contains (s.take j) = false ∧ one s = ((1, 0, 0, s.take j), (j : Int), 0)) := by
        have e' := e.out
        by_cases h : 20 < j
        · rw [if_pos h] at e'; exact .inl ⟨by simp; omega, e'⟩
        · rw [if_neg h] at e'
          cases hw : wordsL.contains (s.take j) with
          | true => rw [hw] at e'; exact .inr (.inl ⟨by simp; omega, rfl, by simpa using e'⟩)
          | false => rw [hw] at e'; exact .inr (.inr ⟨by simp; omega, rfl, by simpa using e'⟩)
      clear e hry hrn
      have cC := Lib.hid (fun v W B (h : Sl.StrsV W B v wordsL) => Sl.ContainsS_any v wordsL (s.take j) W B h)
      rcases hend with ⟨g1, g1'⟩ | ⟨g1, g1', hjI, hjs, x, hx, hdx⟩
      · rcases hfin with ⟨g2, e'⟩ | ⟨g2, hw, e'⟩ | ⟨g2, hw, e'⟩
        · replace e' := Lib.hid e'
          go_wp2
          refine bodyPost_ret (v := retOne (one s)) ?_ rfl ⟨rfl, (by repeat (first | exact Below.refl _ _ | assumption | refine Below.n _ ?_ (by first | omega | (simp; done) | (simp; omega)) | refine Below.alloc ?_ (by first | omega | (simp; done) | (simp; omega)) _ | refine Below.setCell ?_ (by first | omega | (simp; done) | (simp; omega)) _ | refine Below.drew ?_ | refine Below.setRow ?_ (by first | omega | (simp; done) | (simp; omega)) _ | refine Below.drewN ?_ _))⟩
          rw [e'.out]
          simp [results, Try.results29, go_sem, retOne, k0, k1, k2, k3]
        all_goals
          replace e' := Lib.hid e'
          rw [hw] at cC
          clear hw
          go_wp2_with fail
          go_region_with (first
            | (go_at_call 15; (with_reducible refine (Words_row _).mono ?_); rintro e1 w2 ⟨v, rfl, hb2, hv⟩; obtain ⟨n, rfl⟩ := After.of hb2; have zn := n.size; simp at zn; replace hv := Lib.hid hv)
            | (go_at_call 32; (with_reducible refine (cC.out _ _ _ hv.out).mono ?_); rintro e1 w2 ⟨rfl, rfl⟩))
          all_goals
            have Br : Blk n.w w.heap.size 34 #[.int .i64 0, .int .i64 0, .int .i64 0, strV []] := Blk.after (w := (wr.alloc (.cells #[.int .i64 1, .int .i64 0, .int .i64 0, strV (s.take j)] 34)).drew) (B1.alloc _) n (by simp; omega)
            have q0 : n.w.cell? ⟨w.heap.size, 0, none⟩ = some (.int .i64 0) := Br.cell 0
            have q1 : n.w.cell? ⟨w.heap.size, 1, none⟩ = some (.int .i64 0) := Br.cell 1
            have q2 : n.w.cell? ⟨w.heap.size, 2, none⟩ = some (.int .i64 0) := Br.cell 2
            have q3 : n.w.cell? ⟨w.heap.size, 3, none⟩ = some (strV []) := Br.cell 3
            have hne : ¬ wr.heap.size = w.heap.size := by omega
            go_wp2
            refine bodyPost_ret (v := retOne (one s)) ?_ rfl ⟨rfl, (by repeat (first | exact Below.refl _ _ | assumption | refine Below.n _ ?_ (by first | omega | (simp; done) | (simp; omega)) | refine Below.alloc ?_ (by first | omega | (simp; done) | (simp; omega)) _ | refine Below.setCell ?_ (by first | omega | (simp; done) | (simp; omega)) _ | refine Below.drew ?_ | refine Below.setRow ?_ (by first | omega | (simp; done) | (simp; omega)) _ | refine Below.drewN ?_ _))⟩
            rw [e'.out]
            simp [results, Try.results29, go_sem, retOne, q0, q1, q2, q3]
      · have cx := fun W => wsmall x.toNat W
        have cy := fun W => wdigit x.toNat W
        have hbx := bAt_of hx
        have g95 : (((x.toNat : Nat) : Int) == 95) = false := by
          unfold nameC at hdx
          simp at hdx
          rw [beq_eq_false_iff_ne]; omega
        rw [show small x.toNat = false by unfold nameC at hdx; simp at hdx; exact hdx.1] at cx
        rw [show digit x.toNat = false by unfold nameC at hdx; simp at hdx; exact hdx.2.1] at cy
        replace cx := Lib.hid cx
        replace cy := Lib.hid cy
        clear hx hdx
        rcases hfin with ⟨g2, e'⟩ | ⟨g2, hw, e'⟩ | ⟨g2, hw, e'⟩
        · replace e' := Lib.hid e'
          go_wp2_with fail
          refine (cx.out _).mono ?_
          rintro e1 w2 ⟨rfl, rfl⟩
          go_wp2_with fail
          refine (cy.out _).mono ?_
          rintro e1 w2 ⟨rfl, rfl⟩
          go_wp2
          refine bodyPost_ret (v := retOne (one s)) ?_ rfl ⟨rfl, (by repeat (first | exact Below.refl _ _ | assumption | refine Below.n _ ?_ (by first | omega | (simp; done) | (simp; omega)) | refine Below.alloc ?_ (by first | omega | (simp; done) | (simp; omega)) _ | refine Below.setCell ?_ (by first | omega | (simp; done) | (simp; omega)) _ | refine Below.drew ?_ | refine Below.setRow ?_ (by first | omega | (simp; done) | (simp; omega)) _ | refine Below.drewN ?_ _))⟩
          rw [e'.out]
          simp [results, Try.results29, go_sem, retOne, k0, k1, k2, k3]
        all_goals
          replace e' := Lib.hid e'
          rw [hw] at cC
          clear hw
          go_wp2_with fail
          refine (cx.out _).mono ?_
          rintro e1 w2 ⟨rfl, rfl⟩
          go_wp2_with fail
          refine (cy.out _).mono ?_
          rintro e1 w2 ⟨rfl, rfl⟩
          go_wp2_with fail
          go_region_with (first
            | (go_at_call 15; (with_reducible refine (Words_row _).mono ?_); rintro e1 w2 ⟨v, rfl, hb2, hv⟩; obtain ⟨n, rfl⟩ := After.of hb2; have zn := n.size; simp at zn; replace hv := Lib.hid hv)
            | (go_at_call 32; (with_reducible refine (cC.out _ _ _ hv.out).mono ?_); rintro e1 w2 ⟨rfl, rfl⟩))
          all_goals
            have Br : Blk n.w w.heap.size 34 #[.int .i64 0, .int .i64 0, .int .i64 0, strV []] := Blk.after (w := (wr.alloc (.cells #[.int .i64 1, .int .i64 0, .int .i64 0, strV (s.take j)] 34)).drew) (B1.alloc _) n (by simp; omega)
            have q0 : n.w.cell? ⟨w.heap.size, 0, none⟩ = some (.int .i64 0) := Br.cell 0
            have q1 : n.w.cell? ⟨w.heap.size, 1, none⟩ = some (.int .i64 0) := Br.cell 1
            have q2 : n.w.cell? ⟨w.heap.size, 2, none⟩ = some (.int .i64 0) := Br.cell 2
            have q3 : n.w.cell? ⟨w.heap.size, 3, none⟩ = some (strV []) := Br.cell 3
            have hne : ¬ wr.heap.size = w.heap.size := by omega
            go_wp2
            refine bodyPost_ret (v := retOne (one s)) ?_ rfl ⟨rfl, (by repeat (first | exact Below.refl _ _ | assumption | refine Below.n _ ?_ (by first | omega | (simp; done) | (simp; omega)) | refine Below.alloc ?_ (by first | omega | (simp; done) | (simp; omega)) _ | refine Below.setCell ?_ (by first | omega | (simp; done) | (simp; omega)) _ | refine Below.drew ?_ | refine Below.setRow ?_ (by first | omega | (simp; done) | (simp; omega)) _ | refine Below.drewN ?_ _))⟩
            rw [e'.out]
            simp [results, Try.results29, go_sem, retOne, q0, q1, q2, q3]

end Lx
end Go.Proofs.Ytbcgcpcjepigeaa
