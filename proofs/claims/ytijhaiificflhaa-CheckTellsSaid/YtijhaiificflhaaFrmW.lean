/- What is wrong with rules' form: parse.Wrong. -/
import Derived.Test.YtijhaiificflhaaFrmP
namespace Go.Proofs.Ytijhaiificflhaa
open Go.RowKit
namespace Ru
open Sl (strV Reads)
open Lx

def firstErr {α : Type} (f : Nat → α → Int) : Nat → List α → Int × Int
  | _, [] => (0, 0)
  | i, c :: cs => if f i c = 0 then firstErr f (i + 1) cs else (f i c, i)
theorem firstErr_at {α : Type} (f : Nat → α → Int) {l : List α} {j : Nat} {c : α} (h : l[j]? = some c) : firstErr f j (l.drop j) = if f j c = 0 then firstErr f (j + 1) (l.drop (j + 1)) else (f j c, (j : Int)) := by
  obtain ⟨hi, rfl⟩ := List.getElem?_eq_some_iff.1 h
  rw [List.drop_eq_getElem_cons hi, firstErr]
def faultV (p : Int × Int) : Value := .agg #[.int .i64 p.1, .int .i64 p.2]
/-- the first rule whose form is wrong -/
def wrongF (l : List Rule) : Int × Int := if 40 < l.length then (5, 0) else firstErr (fun _ => ruleErr isName) 0 l

theorem PWrong_many (v : Value) (l : List Rule) (w : World) (hr : RulesV w w.heap.size v l) (h40 : 40 < l.length) : Calls Try.prog 16 #[v] w fun e w' => e = .returned (faultV (wrongF l)) ∧ Below w.heap.size w w' := by
  obtain ⟨A, cap, rfl, hl, hc⟩ := hr
  have hw : wrongF l = (5, 0) := if_pos h40
  rw [hw]
  clear hw hc
  have g : decide ((40 : Int) < (l.length : Int)) = true := by simp; omega
  clear h40
  go_enter Try.func16, Try.ntmps16
  go_wp2
  exact bodyPost_ret (v := faultV (5, 0)) (by simp [results, Try.results16, go_sem, faultV]) rfl ⟨rfl, (by repeat (first | exact Below.refl _ _ | assumption | refine Below.n _ ?_ (by first | omega | (simp; done) | (simp; omega)) | refine Below.alloc ?_ (by first | omega | (simp; done) | (simp; omega)) _ | refine Below.setCell ?_ (by first | omega | (simp; done) | (simp; omega)) _ | refine Below.drew ?_ | refine Below.setRow ?_ (by first | omega | (simp; done) | (simp; omega)) _ | refine Below.drewN ?_ _))⟩

set_option maxRecDepth 100000 in
set_option maxHeartbeats 8000000 in
theorem PWrong_few (v : Value) (l : List Rule) (w : World) (hr : RulesV w w.heap.size v l) (h40 : l.length ≤ 40) : Calls Try.prog 16 #[v] w fun e w' => e = .returned (faultV (wrongF l)) ∧ Below w.heap.size w w' := by
  obtain ⟨A, cap, rfl, hl, hc⟩ := hr
  have hw : wrongF l = firstErr (fun _ => ruleErr isName) 0 l := if_neg (by omega)
  rw [hw]
  clear hw
  have g : decide ((40 : Int) < (l.length : Int)) = false := by simp; omega
  replace hc := Lib.hid hc
  go_enter Try.func16, Try.ntmps16
  go_wp2
  clear g
  go_loopg [11] l.length (fun n k wr => ∃ j : Nat, j ≤ l.length ∧ n = l.length - j ∧ k = .int .i64 j ∧ Hid (firstErr (fun _ => ruleErr isName) j (l.drop j) = firstErr (fun _ => ruleErr isName) 0 l) ∧ Below w.heap.size w wr ∧ Blk wr w.heap.size 26 #[.int .i64 0, .int .i64 0])
  case atStart => exact ⟨0, by omega, rfl, rfl, Lib.hid rfl, (by repeat (first | exact Below.refl _ _ | assumption | refine Below.n _ ?_ (by first | omega | (simp; done) | (simp; omega)) | refine Below.alloc ?_ (by first | omega | (simp; done) | (simp; omega)) _ | refine Below.setCell ?_ (by first | omega | (simp; done) | (simp; omega)) _ | refine Below.drew ?_ | refine Below.setRow ?_ (by first | omega | (simp; done) | (simp; omega)) _ | refine Below.drewN ?_ _)), Blk.new _ _ _⟩
  case round =>
    obtain ⟨j, hj, hn, rfl, hf, hb, B0⟩ := hrel
    replace hn := Lib.hid hn
    have zb := hb.size
    have zr := B0.lt
    have s0 : wr.cell? ⟨w.heap.size, 0, none⟩ = some (.int .i64 0) := B0.cell 0
    have s1 : wr.cell? ⟨w.heap.size, 1, none⟩ = some (.int .i64 0) := B0.cell 1
    have t0 : wr.frozen? ⟨w.heap.size, 0, none⟩ = false := B0.frozen 0
    have t1 : wr.frozen? ⟨w.heap.size, 1, none⟩ = false := B0.frozen 1
    by_cases hlt : j < l.length
    · obtain ⟨r, hx⟩ : ∃ r, l[j]? = some r := ⟨_, List.getElem?_eq_getElem hlt⟩
      obtain ⟨b, o, rfl, hbl, k0, hnl, hE⟩ := hc.out j r hx
      have d0 : wr.cell? ⟨b, o + j * 6, none⟩ = some (strV r.name) := (hb.cell (p := ⟨b, _, none⟩) hbl).trans k0
      have hst : firstErr (fun _ => ruleErr isName) 0 l = if ruleErr isName r = 0 then firstErr (fun _ => ruleErr isName) (j + 1) (l.drop (j + 1)) else (ruleErr isName r, (j : Int)) := hf.out.symm.trans (firstErr_at _ hx)
      have zbl : b < wr.heap.size := by omega
      have hN := Lib.hid (Named_any r.name wr hnl)
      replace hE := Lib.hid hE
      clear k0 hx
      cases hnm : isName r.name with
      | false =>
        have hre : ruleErr isName r = 7 := if_neg (by rw [hnm]; decide)
        rw [hre, if_neg (by decide)] at hst
        rw [hnm] at hN
        replace hst := Lib.hid hst
        clear hnm hre
        go_wp2_with (go_at_call 42; refine hN.out.mono ?_; rintro e w1 ⟨rfl, hb1⟩; obtain ⟨n1, rfl⟩ := After.of hb1; have z1 := n1.size)
        have E := ((B0.below n1.below zr).set 0 (.int .i64 7)).set 1 (.int .i64 j)
        have e0 := (E.cell 0).trans (show _ = some (Value.int .i64 7) from rfl)
        have e1 := (E.cell 1).trans (show _ = some (Value.int .i64 j) from rfl)
        exact bodyPost_ret (v := faultV (7, (j : Nat))) (by simp [results, Try.results16, e0, e1, go_sem, faultV]) rfl ⟨by rw [hst.out], (by repeat (first | exact Below.refl _ _ | assumption | refine Below.n _ ?_ (by first | omega | (simp; done) | (simp; omega)) | refine Below.alloc ?_ (by first | omega | (simp; done) | (simp; omega)) _ | refine Below.setCell ?_ (by first | omega | (simp; done) | (simp; omega)) _ | refine Below.drew ?_ | refine Below.setRow ?_ (by first | omega | (simp; done) | (simp; omega)) _ | refine Below.drewN ?_ _))⟩
      | true =>
        have hre : ruleErr isName r = (formE isName r.expr 1 0).1 := if_pos hnm
        rw [hre] at hst
        rw [hnm] at hN
        replace hst := Lib.hid hst
        clear hnm hre
        go_upto_region 8 with (go_at_call 42; refine hN.out.mono ?_; rintro e w1 ⟨rfl, hb1⟩; obtain ⟨n1, rfl⟩ := After.of hb1; have z1 := n1.size)
        have hS : Blk (n1.w.alloc (.cells #[.int .i64 0] 77)) n1.w.heap.size 77 #[.int .i64 ((0 : Nat) : Int)] := Blk.new _ _ _
        have hb2 : Below w.heap.size w (n1.w.alloc (.cells #[.int .i64 0] 77)) := (by repeat (first | exact Below.refl _ _ | assumption | refine Below.n _ ?_ (by first | omega | (simp; done) | (simp; omega)) | refine Below.alloc ?_ (by first | omega | (simp; done) | (simp; omega)) _ | refine Below.setCell ?_ (by first | omega | (simp; done) | (simp; omega)) _ | refine Below.drew ?_ | refine Below.setRow ?_ (by first | omega | (simp; done) | (simp; omega)) _ | refine Below.drewN ?_ _))
        have hcall := shaper_any (nodesE r.expr) r.expr (n1.w.alloc (.cells #[.int .i64 0] 77)) n1.w.heap.size b (o + j * 6 + 1) 1 0 (Nat.le_refl _) (hE.out.below hb2 (Nat.le_refl _) (by omega) hbl) (by omega) hS (by omega) (by omega)
        replace hcall := Lib.hid hcall
        by_cases h0 : (formE isName r.expr 1 0).1 = 0
        · have hf2 := Lib.hid (show firstErr (fun _ => ruleErr isName) (j + 1) (l.drop (j + 1)) = firstErr (fun _ => ruleErr isName) 0 l by rw [hst.out, if_pos h0])
          rw [h0] at hcall
          clear hst h0
          go_wp2_with (go_at_call 43; refine hcall.out.mono ?_; rintro e w5 ⟨rfl, _, hb5⟩)
          have z5 := hb5.size
          go_roundg (l.length - (j + 1))
          case measure => rw [hn.out]; omega
          case rel => exact ⟨j + 1, by omega, rfl, by go_num, hf2, hb2.trans (hb5.mono (by omega)), ((B0.below n1.below zr).alloc _).below hb5 (by omega)⟩
        · have hf2 := Lib.hid (show firstErr (fun _ => ruleErr isName) 0 l = ((formE isName r.expr 1 0).1, (j : Int)) by rw [hst.out, if_neg h0])
          have g : ((formE isName r.expr 1 0).1 != 0) = true := by simpa using h0
          clear hst h0
          generalize (formE isName r.expr 1 0).1 = er at *
          have B1 := (B0.below n1.below zr).alloc (.cells #[.int .i64 0] 77)
          have hzs : (n1.w.alloc (.cells #[.int .i64 0] 77)).heap.size = n1.w.heap.size + 1 := by simp
          go_wp2_with (go_at_call 43; refine hcall.out.mono ?_; rintro e w5 ⟨rfl, _, hb5⟩; have B5 := B1.below hb5 (by omega); have s50 : w5.cell? ⟨w.heap.size, 0, none⟩ = some (.int .i64 0) := B5.cell 0; have s51 : w5.cell? ⟨w.heap.size, 1, none⟩ = some (.int .i64 0) := B5.cell 1; have t50 : w5.frozen? ⟨w.heap.size, 0, none⟩ = false := B5.frozen 0; have t51 : w5.frozen? ⟨w.heap.size, 1, none⟩ = false := B5.frozen 1)
          have z5 := hb5.size
          have E := (B5.set 0 (.int .i64 er)).set 1 (.int .i64 j)
          have e0 := (E.cell 0).trans (show _ = some (Value.int .i64 er) from rfl)
          have e1 := (E.cell 1).trans (show _ = some (Value.int .i64 j) from rfl)
          have hb6 := hb2.trans (hb5.mono (show w.heap.size ≤ n1.w.heap.size by omega))
          exact bodyPost_ret (v := faultV (er, (j : Nat))) (by simp [results, Try.results16, e0, e1, go_sem, faultV]) rfl ⟨by rw [hf2.out], (by repeat (first | exact Below.refl _ _ | assumption | refine Below.n _ ?_ (by first | omega | (simp; done) | (simp; omega)) | refine Below.alloc ?_ (by first | omega | (simp; done) | (simp; omega)) _ | refine Below.setCell ?_ (by first | omega | (simp; done) | (simp; omega)) _ | refine Below.drew ?_ | refine Below.setRow ?_ (by first | omega | (simp; done) | (simp; omega)) _ | refine Below.drewN ?_ _))⟩
    · obtain rfl : j = l.length := by omega
      have hf2 := Lib.hid (show firstErr (fun _ => ruleErr isName) 0 l = (0, 0) by rw [← hf.out, List.drop_length]; rfl)
      go_wp2
      have E := (B0.set 0 (.int .i64 0)).set 1 (.int .i64 0)
      have e0 := (E.cell 0).trans (show _ = some (Value.int .i64 0) from rfl)
      have e1 := (E.cell 1).trans (show _ = some (Value.int .i64 0) from rfl)
      exact bodyPost_ret (v := faultV (0, 0)) (by simp [results, Try.results16, e0, e1, go_sem, faultV]) rfl ⟨by rw [hf2.out], (by repeat (first | exact Below.refl _ _ | assumption | refine Below.n _ ?_ (by first | omega | (simp; done) | (simp; omega)) | refine Below.alloc ?_ (by first | omega | (simp; done) | (simp; omega)) _ | refine Below.setCell ?_ (by first | omega | (simp; done) | (simp; omega)) _ | refine Below.drew ?_ | refine Below.setRow ?_ (by first | omega | (simp; done) | (simp; omega)) _ | refine Below.drewN ?_ _))⟩

theorem PWrong_any (v : Value) (l : List Rule) (w : World) (hr : RulesV w w.heap.size v l) : Calls Try.prog 16 #[v] w fun e w' => e = .returned (faultV (wrongF l)) ∧ Below w.heap.size w w' := by
  by_cases h40 : 40 < l.length
  · exact PWrong_many v l w hr h40
  · exact PWrong_few v l w hr (by omega)

end Ru
end Go.Proofs.Ytijhaiificflhaa
