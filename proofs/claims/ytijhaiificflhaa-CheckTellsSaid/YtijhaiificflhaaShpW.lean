/- What is wrong with rules' form: slotref4.Wrong. -/
import Derived.Test.YtijhaiificflhaaShp
namespace Go.Proofs.Ytijhaiificflhaa
open Go.RowKit
namespace Ru
open Sl (strV Reads)
open Lx

theorem RfWrong_many (v : Value) (l : List Rule) (w : World) (hr : RulesV w w.heap.size v l) (h40 : 40 < l.length) : Calls Try.prog 21 #[v] w fun e w' => e = .returned (faultV (wrongF l)) ∧ Below w.heap.size w w' := by
  obtain ⟨A, cap, rfl, hl, hc⟩ := hr
  have hw : wrongF l = (5, 0) := if_pos h40
  rw [hw]
  clear hw hc
  have g : decide ((40 : Int) < (l.length : Int)) = true := by simp; omega
  clear h40
  go_enter Try.func21, Try.ntmps21
  go_wp2
  exact bodyPost_ret (v := faultV (5, 0)) (by simp [results, Try.results21, go_sem, faultV]) rfl ⟨rfl, (by repeat (first | exact Below.refl _ _ | assumption | refine Below.n _ ?_ (by first | omega | (simp; done) | (simp; omega)) | refine Below.alloc ?_ (by first | omega | (simp; done) | (simp; omega)) _ | refine Below.setCell ?_ (by first | omega | (simp; done) | (simp; omega)) _ | refine Below.drew ?_ | refine Below.setRow ?_ (by first | omega | (simp; done) | (simp; omega)) _ | refine Below.drewN ?_ _))⟩

set_option maxRecDepth 100000 in
set_option maxHeartbeats 8000000 in
theorem RfWrong_few (v : Value) (l : List Rule) (w : World) (hr : RulesV w w.heap.size v l) (h40 : l.length ≤ 40) : Calls Try.prog 21 #[v] w fun e w' => e = .returned (faultV (wrongF l)) ∧ Below w.heap.size w w' := by
  obtain ⟨A, cap, rfl, hl, hc⟩ := hr
  have hw : wrongF l = firstErr (fun _ => ruleErr isName) 0 l := if_neg (by omega)
  rw [hw]
  clear hw
  have g : decide ((40 : Int) < (l.length : Int)) = false := by simp; omega
  replace hc := Lib.hid hc
  go_enter Try.func21, Try.ntmps21
  go_wp2
  clear g
  go_loopg [13] l.length (fun n k wr => ∃ j : Nat, j ≤ l.length ∧ n = l.length - j ∧ k = .int .i64 j ∧ Hid (firstErr (fun _ => ruleErr isName) j (l.drop j) = firstErr (fun _ => ruleErr isName) 0 l) ∧ Below w.heap.size w wr ∧ Blk wr w.heap.size 26 #[.int .i64 0, .int .i64 0])
  case atStart => exact ⟨0, by omega, rfl, rfl, Lib.hid rfl, (by repeat (first | exact Below.refl _ _ | assumption | refine Below.n _ ?_ (by first | omega | (simp; done) | (simp; omega)) | refine Below.alloc ?_ (by first | omega | (simp; done) | (simp; omega)) _ | refine Below.setCell ?_ (by first | omega | (simp; done) | (simp; omega)) _ | refine Below.drew ?_ | refine Below.setRow ?_ (by first | omega | (simp; done) | (simp; omega)) _ | refine Below.drewN ?_ _)), Blk.new _ _ _⟩
  case round =>
    obtain ⟨j, hj, hn, rfl, hf, hb, B0⟩ := hrel
    replace hn := Lib.hid hn
    have zb := hb.size
    have zr := B0.lt
    have s0 : wr.cell? ⟨w.heap.size, 0, none⟩ = some (.int .i64 0) := B0.cell 0
    have s1 : wr.cell? ⟨w.heap.size, 1, none⟩ = some (.int .i64 0) := B0.cell 1
    have t0 : wr.frozen? ⟨w.heap.size, 0, none⟩ = false := B0.frozen 0
    have t1 : wr.frozen? ⟨w.heap.size, 1, none⟩ = false := B0.frozen 1
    by_cases hlt : j < l.length
    · obtain ⟨r, hx⟩ : ∃ r, l[j]? = some r := ⟨_, List.getElem?_eq_getElem hlt⟩
      obtain ⟨b, o, rfl, hbl, k0, hnl, hE⟩ := hc.out j r hx
      have hst : firstErr (fun _ => ruleErr isName) 0 l = if ruleErr isName r = 0 then firstErr (fun _ => ruleErr isName) (j + 1) (l.drop (j + 1)) else (ruleErr isName r, (j : Int)) := hf.out.symm.trans (firstErr_at _ hx)
      have zbl : b < wr.heap.size := by omega
      obtain ⟨v0, v1, v2, v3, hnl1, A1, cap1, v4, hkl1, hkv1⟩ := (hE.below hb (Nat.le_refl _) (Nat.le_refl _) hbl).out
      have d0 : wr.cell? ⟨b, o + j * 6, none⟩ = some (strV r.name) := (hb.cell (p := ⟨b, _, none⟩) hbl).trans k0
      have d1 : wr.cell? ⟨b, o + j * 6 + 1, none⟩ = some (.int .i64 r.expr.kind) := v0
      have d2 : wr.cell? ⟨b, o + j * 6 + 2, none⟩ = some (.int .i64 r.expr.a) := v1
      have d3 : wr.cell? ⟨b, o + j * 6 + 3, none⟩ = some (.int .i64 r.expr.b) := v2
      have d4 : wr.cell? ⟨b, o + j * 6 + 4, none⟩ = some (strV r.expr.name) := v3
      have d5 : wr.cell? ⟨b, o + j * 6 + 5, none⟩ = some (.slice A1 r.expr.kids.length cap1) := v4
      obtain ⟨CR, hCR⟩ : ∃ c, c = #[strV r.name, .int .i64 r.expr.kind, .int .i64 r.expr.a, .int .i64 r.expr.b, strV r.expr.name, .slice A1 r.expr.kids.length cap1] := ⟨_, rfl⟩
      have BR : Blk (wr.alloc (.cells #[strV r.name, .int .i64 r.expr.kind, .int .i64 r.expr.a, .int .i64 r.expr.b, strV r.expr.name, .slice A1 r.expr.kids.length cap1] 49)) wr.heap.size 49 #[strV r.name, .int .i64 r.expr.kind, .int .i64 r.expr.a, .int .i64 r.expr.b, strV r.expr.name, .slice A1 r.expr.kids.length cap1] := Blk.new _ _ _
      have B1 := B0.alloc (.cells #[strV r.name, .int .i64 r.expr.kind, .int .i64 r.expr.a, .int .i64 r.expr.b, strV r.expr.name, .slice A1 r.expr.kids.length cap1] 49)
      have hbA : Below w.heap.size w (wr.alloc (.cells #[strV r.name, .int .i64 r.expr.kind, .int .i64 r.expr.a, .int .i64 r.expr.b, strV r.expr.name, .slice A1 r.expr.kids.length cap1] 49)) := hb.alloc zb _
      have hN := Lib.hid (RNamed_any r.name (wr.alloc (.cells #[strV r.name, .int .i64 r.expr.kind, .int .i64 r.expr.a, .int .i64 r.expr.b, strV r.expr.name, .slice A1 r.expr.kids.length cap1] 49)) hnl)
      have zA : (wr.alloc (.cells #[strV r.name, .int .i64 r.expr.kind, .int .i64 r.expr.a, .int .i64 r.expr.b, strV r.expr.name, .slice A1 r.expr.kids.length cap1] 49)).heap.size = wr.heap.size + 1 := by simp
      clear hCR CR v0 v1 v2 v3 v4 k0 hx hE
      replace hkv1 := Lib.hid hkv1
      cases hnm : isName r.name with
      | false =>
        have hre : ruleErr isName r = 7 := if_neg (by rw [hnm]; decide)
        rw [hre, if_neg (by decide)] at hst
        rw [hnm] at hN
        replace hst := Lib.hid hst
        clear hnm hre
        go_wp2_with (go_at_call 49; refine hN.out.mono ?_; rintro e w1 ⟨rfl, hb1⟩; have B5 := B1.below hb1 (by omega); have s50 : w1.cell? ⟨w.heap.size, 0, none⟩ = some (.int .i64 0) := B5.cell 0; have s51 : w1.cell? ⟨w.heap.size, 1, none⟩ = some (.int .i64 0) := B5.cell 1; have t50 : w1.frozen? ⟨w.heap.size, 0, none⟩ = false := B5.frozen 0; have t51 : w1.frozen? ⟨w.heap.size, 1, none⟩ = false := B5.frozen 1)
        have z1 := hb1.size
        have hb6 := hbA.trans (hb1.mono (show w.heap.size ≤ (wr.alloc (.cells #[strV r.name, .int .i64 r.expr.kind, .int .i64 r.expr.a, .int .i64 r.expr.b, strV r.expr.name, .slice A1 r.expr.kids.length cap1] 49)).heap.size by omega))
        have E := (B5.set 0 (.int .i64 7)).set 1 (.int .i64 j)
        have e0 := (E.cell 0).trans (show _ = some (Value.int .i64 7) from rfl)
        have e1 := (E.cell 1).trans (show _ = some (Value.int .i64 j) from rfl)
        exact bodyPost_ret (v := faultV (7, (j : Nat))) (by simp [results, Try.results21, e0, e1, go_sem, faultV]) rfl ⟨by rw [hst.out], (hb6.setCell (by simp) _).setCell (by simp) _⟩
      | true =>
        have hre : ruleErr isName r = (formE isName r.expr 1 0).1 := if_pos hnm
        rw [hre] at hst
        rw [hnm] at hN
        replace hst := Lib.hid hst
        clear hnm hre
        go_upto_region 8 with (go_at_call 49; refine hN.out.mono ?_; rintro e w1 ⟨rfl, hb1⟩)
        have z1 := hb1.size
        have B5 := B1.below hb1 (by omega)
        have BR5 := BR.below hb1 (by omega)
        have hb6 : Below w.heap.size w w1 := hbA.trans (hb1.mono (by omega))
        have m1 : w1.cell? ⟨wr.heap.size, 1, none⟩ = some (.int .i64 r.expr.kind) := BR5.cell 1
        have m2 : w1.cell? ⟨wr.heap.size, 2, none⟩ = some (.int .i64 r.expr.a) := BR5.cell 2
        have m3 : w1.cell? ⟨wr.heap.size, 3, none⟩ = some (.int .i64 r.expr.b) := BR5.cell 3
        have m4 : w1.cell? ⟨wr.heap.size, 4, none⟩ = some (strV r.expr.name) := BR5.cell 4
        have m5 : w1.cell? ⟨wr.heap.size, 5, none⟩ = some (.slice A1 r.expr.kids.length cap1) := BR5.cell 5
        have zm : wr.heap.size < w1.heap.size := by omega
        have hS : Blk (w1.alloc (.cells #[.int .i64 0] 3)) w1.heap.size 3 #[.int .i64 ((0 : Nat) : Int)] := Blk.new _ _ _
        have hb7 : Below w.heap.size w (w1.alloc (.cells #[.int .i64 0] 3)) := hb6.alloc (by omega) _
        have B7 := B5.alloc (.cells #[.int .i64 0] 3)
        have hk7 : Below w.heap.size wr (w1.alloc (.cells #[.int .i64 0] 3)) := (((Below.refl w.heap.size wr).alloc zb _).trans (hb1.mono (by omega))).alloc (by omega) _
        have hcall := shape_any (nodesE r.expr) r.expr (.agg #[.int .i64 r.expr.kind, .int .i64 r.expr.a, .int .i64 r.expr.b, strV r.expr.name, .slice A1 r.expr.kids.length cap1]) (w1.alloc (.cells #[.int .i64 0] 3)) w1.heap.size 1 0 (Nat.le_refl _) ⟨A1, cap1, rfl, hnl1, hkl1, hkv1.out.below hk7 (Nat.le_refl _) (by omega)⟩ hS (by omega) (by omega)
        replace hcall := Lib.hid hcall
        have hzs : (w1.alloc (.cells #[.int .i64 0] 3)).heap.size = w1.heap.size + 1 := by simp
        by_cases h0 : (formE isName r.expr 1 0).1 = 0
        · have hf2 := Lib.hid (show firstErr (fun _ => ruleErr isName) (j + 1) (l.drop (j + 1)) = firstErr (fun _ => ruleErr isName) 0 l by rw [hst.out, if_pos h0])
          rw [h0] at hcall
          clear hst h0
          go_wp2_with (go_at_call 50; refine hcall.out.mono ?_; rintro e w5 ⟨rfl, _, hb5⟩)
          have z5 := hb5.size
          go_roundg (l.length - (j + 1))
          case measure => rw [hn.out]; omega
          case rel => exact ⟨j + 1, by omega, rfl, by go_num, hf2, hb7.trans (hb5.mono (by omega)), B7.below hb5 (by omega)⟩
        · have hf2 := Lib.hid (show firstErr (fun _ => ruleErr isName) 0 l = ((formE isName r.expr 1 0).1, (j : Int)) by rw [hst.out, if_neg h0])
          have g : ((formE isName r.expr 1 0).1 != 0) = true := by simpa using h0
          clear hst h0
          generalize (formE isName r.expr 1 0).1 = er at *
          go_wp2_with (go_at_call 50; refine hcall.out.mono ?_; rintro e w5 ⟨rfl, _, hb5⟩; have B8 := B7.below hb5 (by omega); have s50 : w5.cell? ⟨w.heap.size, 0, none⟩ = some (.int .i64 0) := B8.cell 0; have s51 : w5.cell? ⟨w.heap.size, 1, none⟩ = some (.int .i64 0) := B8.cell 1; have t50 : w5.frozen? ⟨w.heap.size, 0, none⟩ = false := B8.frozen 0; have t51 : w5.frozen? ⟨w.heap.size, 1, none⟩ = false := B8.frozen 1)
          have z5 := hb5.size
          have E := (B8.set 0 (.int .i64 er)).set 1 (.int .i64 j)
          have e0 := (E.cell 0).trans (show _ = some (Value.int .i64 er) from rfl)
          have e1 := (E.cell 1).trans (show _ = some (Value.int .i64 j) from rfl)
          have hb8 := hb7.trans (hb5.mono (show w.heap.size ≤ w1.heap.size by omega))
          exact bodyPost_ret (v := faultV (er, (j : Nat))) (by simp [results, Try.results21, e0, e1, go_sem, faultV]) rfl ⟨by rw [hf2.out], (hb8.setCell (by simp) _).setCell (by simp) _⟩
    · obtain rfl : j = l.length := by omega
      have hf2 := Lib.hid (show firstErr (fun _ => ruleErr isName) 0 l = (0, 0) by rw [← hf.out, List.drop_length]; rfl)
      go_wp2
      have E := (B0.set 0 (.int .i64 0)).set 1 (.int .i64 0)
      have e0 := (E.cell 0).trans (show _ = some (Value.int .i64 0) from rfl)
      have e1 := (E.cell 1).trans (show _ = some (Value.int .i64 0) from rfl)
      exact bodyPost_ret (v := faultV (0, 0)) (by simp [results, Try.results21, e0, e1, go_sem, faultV]) rfl ⟨by rw [hf2.out], (by repeat (first | exact Below.refl _ _ | assumption | refine Below.n _ ?_ (by first | omega | (simp; done) | (simp; omega)) | refine Below.alloc ?_ (by first | omega | (simp; done) | (simp; omega)) _ | refine Below.setCell ?_ (by first | omega | (simp; done) | (simp; omega)) _ | refine Below.drew ?_ | refine Below.setRow ?_ (by first | omega | (simp; done) | (simp; omega)) _ | refine Below.drewN ?_ _))⟩

theorem RfWrong_any (v : Value) (l : List Rule) (w : World) (hr : RulesV w w.heap.size v l) : Calls Try.prog 21 #[v] w fun e w' => e = .returned (faultV (wrongF l)) ∧ Below w.heap.size w w' := by
  by_cases h40 : 40 < l.length
  · exact RfWrong_many v l w hr h40
  · exact RfWrong_few v l w hr (by omega)

end Ru
end Go.Proofs.Ytijhaiificflhaa
