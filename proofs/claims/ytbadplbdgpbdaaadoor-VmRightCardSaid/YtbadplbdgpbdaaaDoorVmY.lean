/- The walk of vm.Wrong. -/
import Derived.Test.YtbadplbdgpbdaaaDoorVmS
import Derived.Test.YtbadplbdgpbdaaaDoorVmU
import Derived.Test.YtbadplbdgpbdaaaDoorVmG
namespace Go.Proofs.YtbadplbdgpbdaaaDoor
open Go.RowKit
namespace Vm
open Msk Sl

def faultV (e : Int × Int) : Value := .agg #[.int .i64 e.1, .int .i64 e.2]
theorem hcodes {l : List Code} (h : (firstErr (fun _ => codeErr l.length) 0 l).1 = 0) : ∀ c : Code, c ∈ l → 1 ≤ c.ins.length ∧ c.ins.length ≤ 2000 ∧ 1 ≤ c.high ∧ c.high ≤ 100 ∧ 1 ≤ c.steps ∧ c.steps ≤ 20000 ∧ ∀ k x, c.ins[k]? = some x → insErr l.length c.ins.length k x = 0 := fun c hc => by
  obtain ⟨j, hj⟩ := List.getElem?_of_mem hc
  exact codeErr_zero (firstErr_zero _ _ _ h j c hj)

set_option maxHeartbeats 4000000 in
theorem Wrong_many (codeV : Value) (l : List Code) (w : World) (hl : CodesV w w.heap.size codeV l) (h40 : 40 < l.length) :
    Calls Tryd.prog 11 #[codeV] w fun e w' => e = .returned (faultV (wrongL l)) ∧ Below w.heap.size w w' := by
  have e : wrongL l = (5, 0) := by unfold wrongL; rw [if_pos h40]
  rw [e]
  obtain ⟨A, cap, rfl, hlen, hc⟩ := hl
  clear hc
  have g : decide ((40 : Int) < (l.length : Int)) = true := by simp; omega
  clear h40
  go_enter Tryd.func11, Tryd.ntmps11
  go_wp2
  exact bodyPost_ret (v := faultV (5, 0)) (by simp [results, Tryd.results11, go_sem, faultV]) rfl ⟨rfl, (by repeat (first | exact Below.refl _ _ | assumption | refine Below.n _ ?_ (by first | omega | (simp; done) | (simp; omega)) | refine Below.alloc ?_ (by first | omega | (simp; done) | (simp; omega)) _ | refine Below.setCell ?_ (by first | omega | (simp; done) | (simp; omega)) _ | refine Below.drew ?_ | refine Below.setRow ?_ (by first | omega | (simp; done) | (simp; omega)) _ | refine Below.drewN ?_ _))⟩

set_option maxRecDepth 100000 in
set_option maxHeartbeats 16000000 in
theorem Wrong_few (codeV : Value) (l : List Code) (w : World) (hl : CodesV w w.heap.size codeV l) (h40 : l.length ≤ 40) :
    Calls Tryd.prog 11 #[codeV] w fun e w' => e = .returned (faultV (wrongL l)) ∧ Below w.heap.size w w' := by
  have hw : wrongL l = if (firstErr (fun _ => codeErr l.length) 0 l).1 = 0 then firstErr (fitErr l) 0 l else firstErr (fun _ => codeErr l.length) 0 l := by unfold wrongL; rw [if_neg (by omega)]
  have hl' := Lib.hid hl
  obtain ⟨A, cap, rfl, hlen, hc⟩ := hl
  replace hc := Lib.hid hc
  have g : decide ((40 : Int) < (l.length : Int)) = false := by simp; omega
  replace h40 := Lib.hid h40
  replace hw := Lib.hid hw
  go_enter Tryd.func11, Tryd.ntmps11
  go_wp2
  clear g
  go_loopg [17] l.length (fun n k wr => ∃ j : Nat, j ≤ l.length ∧ n = l.length - j ∧ k = .int .i64 j ∧ Hid (firstErr (fun _ => codeErr l.length) j (l.drop j) = firstErr (fun _ => codeErr l.length) 0 l) ∧ Below w.heap.size w wr ∧ Blk wr w.heap.size 26 #[.int .i64 0, .int .i64 0])
  case atStart => exact ⟨0, by omega, rfl, rfl, Lib.hid rfl, (by repeat (first | exact Below.refl _ _ | assumption | refine Below.n _ ?_ (by first | omega | (simp; done) | (simp; omega)) | refine Below.alloc ?_ (by first | omega | (simp; done) | (simp; omega)) _ | refine Below.setCell ?_ (by first | omega | (simp; done) | (simp; omega)) _ | refine Below.drew ?_ | refine Below.setRow ?_ (by first | omega | (simp; done) | (simp; omega)) _ | refine Below.drewN ?_ _)), Blk.new _ _ _⟩
  case round =>
    obtain ⟨j, hj, hn, rfl, hf, hb, B0⟩ := hrel
    replace hn := Lib.hid hn
    have zb := hb.size
    have zr := B0.lt
    have t0 : wr.frozen? ⟨w.heap.size, 0, none⟩ = false := B0.frozen 0
    have t1 : wr.frozen? ⟨w.heap.size, 1, none⟩ = false := B0.frozen 1
    have s0 : wr.cell? ⟨w.heap.size, 0, none⟩ = some (.int .i64 0) := B0.cell 0
    have s1 : wr.cell? ⟨w.heap.size, 1, none⟩ = some (.int .i64 0) := B0.cell 1
    by_cases hlt : j < l.length
    · obtain ⟨c, hx⟩ : ∃ c, l[j]? = some c := ⟨_, List.getElem?_eq_getElem hlt⟩
      obtain ⟨b, o, rfl, hbl, ⟨u, k0, hI⟩, k1, k2⟩ := hc.out j c hx
      obtain ⟨A1, cap1, rfl, hlen1, hc1⟩ := hI
      have d0 : wr.cell? ⟨b, o + j * 3, none⟩ = some (.slice A1 c.ins.length cap1) := (hb.cell (p := ⟨b, _, none⟩) hbl).trans k0
      have d1 : wr.cell? ⟨b, o + j * 3 + 1, none⟩ = some (.int .i64 c.high) := (hb.cell (p := ⟨b, _, none⟩) hbl).trans k1
      have d2 : wr.cell? ⟨b, o + j * 3 + 2, none⟩ = some (.int .i64 c.steps) := (hb.cell (p := ⟨b, _, none⟩) hbl).trans k2
      have hst := firstErr_at (fun _ => codeErr l.length) hx
      rw [hf.out] at hst
      have zbl : b < wr.heap.size := by omega
      replace hc1 := Lib.hid hc1
      clear k0 k1 k2 hx
      have hce : codeErr l.length c = if c.ins.length < 1 ∨ 2000 < c.ins.length then 5 else if c.high < 1 ∨ 100 < c.high ∨ c.steps < 1 ∨ 20000 < c.steps then 4 else (firstErr (insErr l.length c.ins.length) 0 c.ins).1 := rfl
      by_cases c1 : c.ins.length < 1 ∨ 2000 < c.ins.length
      · rw [if_pos c1] at hce
        rw [hce, if_neg (by decide)] at hst
        have hz : wrongL l = (5, (j : Int)) := by rw [hw.out, if_neg (by rw [hst]; simp), hst]
        replace hz := Lib.hid hz
        clear hst
        have hq : decide ((c.ins.length : Int) < 1) = true ∨ decide ((c.ins.length : Int) < 1) = false ∧ decide (2000 < (c.ins.length : Int)) = true := by
          simp only [decide_eq_true_eq, decide_eq_false_iff_not]; omega
        clear c1 hce
        rcases hq with q1 | ⟨q1, q2⟩
        all_goals
          go_wp2
          have E := (B0.set 0 (.int .i64 5)).set 1 (.int .i64 (j : Nat))
          have e0 := (E.cell 0).trans (show _ = some (Value.int .i64 5) from rfl)
          have e1 := (E.cell 1).trans (show _ = some (Value.int .i64 (j : Nat)) from rfl)
          exact bodyPost_ret (v := faultV (5, (j : Nat))) (by simp [results, Tryd.results11, e0, e1, go_sem, faultV]) rfl ⟨by rw [hz.out], (by repeat (first | exact Below.refl _ _ | assumption | refine Below.n _ ?_ (by first | omega | (simp; done) | (simp; omega)) | refine Below.alloc ?_ (by first | omega | (simp; done) | (simp; omega)) _ | refine Below.setCell ?_ (by first | omega | (simp; done) | (simp; omega)) _ | refine Below.drew ?_ | refine Below.setRow ?_ (by first | omega | (simp; done) | (simp; omega)) _ | refine Below.drewN ?_ _))⟩
      rw [if_neg c1] at hce
      have g1 : decide ((c.ins.length : Int) < 1) = false := by simp; omega
      have g2 : decide (2000 < (c.ins.length : Int)) = false := by simp; omega
      have hln : c.ins.length ≤ 2000 := by omega
      clear c1
      by_cases c2 : c.high < 1 ∨ 100 < c.high ∨ c.steps < 1 ∨ 20000 < c.steps
      · rw [if_pos c2] at hce
        rw [hce, if_neg (by decide)] at hst
        have hz : wrongL l = (4, (j : Int)) := by rw [hw.out, if_neg (by rw [hst]; simp), hst]
        replace hz := Lib.hid hz
        clear hst
        have hq : decide (c.high < 1) = true ∨ decide (c.high < 1) = false ∧ decide (100 < c.high) = true ∨ decide (c.high < 1) = false ∧ decide (100 < c.high) = false ∧ decide (c.steps < 1) = true ∨ decide (c.high < 1) = false ∧ decide (100 < c.high) = false ∧ decide (c.steps < 1) = false ∧ decide (20000 < c.steps) = true := by
          simp only [decide_eq_true_eq, decide_eq_false_iff_not]; omega
        clear c2 hce
        rcases hq with q1 | ⟨q1, q2⟩ | ⟨q1, q2, q3⟩ | ⟨q1, q2, q3, q4⟩
        all_goals
          go_wp2
          have E := (B0.set 0 (.int .i64 4)).set 1 (.int .i64 (j : Nat))
          have e0 := (E.cell 0).trans (show _ = some (Value.int .i64 4) from rfl)
          have e1 := (E.cell 1).trans (show _ = some (Value.int .i64 (j : Nat)) from rfl)
          exact bodyPost_ret (v := faultV (4, (j : Nat))) (by simp [results, Tryd.results11, e0, e1, go_sem, faultV]) rfl ⟨by rw [hz.out], (by repeat (first | exact Below.refl _ _ | assumption | refine Below.n _ ?_ (by first | omega | (simp; done) | (simp; omega)) | refine Below.alloc ?_ (by first | omega | (simp; done) | (simp; omega)) _ | refine Below.setCell ?_ (by first | omega | (simp; done) | (simp; omega)) _ | refine Below.drew ?_ | refine Below.setRow ?_ (by first | omega | (simp; done) | (simp; omega)) _ | refine Below.drewN ?_ _))⟩
      rw [if_neg c2] at hce
      have g3 : decide (c.high < 1) = false := by simp; omega
      have g4 : decide (100 < c.high) = false := by simp; omega
      have g5 : decide (c.steps < 1) = false := by simp; omega
      have g6 : decide (20000 < c.steps) = false := by simp; omega
      clear c2
      replace hce := Lib.hid hce
      replace hst := Lib.hid hst
      go_wp2
      clear g1 g2 g3 g4 g5 g6 s0 s1 t0 t1
      obtain ⟨wo, rfl⟩ : ∃ wo : World, wo = wr := ⟨_, rfl⟩
      go_loopg [72] c.ins.length (fun n k wr => ∃ i : Nat, i ≤ c.ins.length ∧ n = c.ins.length - i ∧ k = .int .i64 i ∧ Hid (firstErr (insErr l.length c.ins.length) i (c.ins.drop i) = firstErr (insErr l.length c.ins.length) 0 c.ins) ∧ Below wo.heap.size wo wr)
      case atStart => exact ⟨0, by omega, rfl, rfl, Lib.hid rfl, Below.refl _ _⟩
      case round =>
        obtain ⟨i, hi, hq, rfl, hfi, hbi⟩ := hrel
        replace hq := Lib.hid hq
        have zi := hbi.size
        have Bi := B0.below hbi zr
        have t0 : wr.frozen? ⟨w.heap.size, 0, none⟩ = false := Bi.frozen 0
        have t1 : wr.frozen? ⟨w.heap.size, 1, none⟩ = false := Bi.frozen 1
        have s0 : wr.cell? ⟨w.heap.size, 0, none⟩ = some (.int .i64 0) := Bi.cell 0
        have s1 : wr.cell? ⟨w.heap.size, 1, none⟩ = some (.int .i64 0) := Bi.cell 1
        have e0' : wr.cell? ⟨b, o + j * 3, none⟩ = some (.slice A1 c.ins.length cap1) := (hbi.cell (p := ⟨b, _, none⟩) zbl).trans d0
        have zbl' : b < wr.heap.size := by omega
        by_cases hlt2 : i < c.ins.length
        · obtain ⟨x, hx⟩ : ∃ x, c.ins[i]? = some x := ⟨_, List.getElem?_eq_getElem hlt2⟩
          obtain ⟨b1, o1, rfl, hb1, hat⟩ := hc1.out i x hx
          have hsti := firstErr_at (insErr l.length c.ins.length) hx
          rw [hfi.out] at hsti
          have hcI := Lib.hid (fun (W : World) (h : Below wr.heap.size wr W) => ins_any (some ⟨b, o, none⟩) l.length cap i c.ins.length b1 (o1 + i * 5) x W (hat.below ((hb.trans (hbi.mono zb)).trans (h.mono (by omega))) hb1 (Nat.le_refl _) (by have := h.size; omega)) (by have := h.size; omega) (by omega))
          clear hat hx
          by_cases hz : insErr l.length c.ins.length i x = 0
          · rw [if_pos hz] at hsti
            replace hsti := Lib.hid hsti
            rw [hz] at hcI
            clear hz
            go_wp2
            refine wp_region_below (wr.heap.size) _ (Below.refl _ _) (by kernel_rfl) (by kernel_rfl) ?_
            repeat (go_big_quiet_step (((go_at_call 26; exact quiet_below (Nat.le_refl _) (hcI.out _ (After.below _))))))
            refine wpQuiet_nil ?_
            rintro _ ⟨n7, rfl⟩
            go_wp2
            go_roundg (c.ins.length - (i + 1))
            case measure => rw [hq.out]; omega
            case rel => exact ⟨i + 1, by omega, rfl, by go_num, Lib.hid hsti.out.symm, hbi.trans (n7.below.mono zi)⟩
          · rw [if_neg hz] at hsti
            have hz2 : codeErr l.length c = insErr l.length c.ins.length i x := by rw [hce.out, hsti]
            have hz3 : wrongL l = (insErr l.length c.ins.length i x, (j : Int)) := by
              have h3 := hst.out
              rw [hz2, if_neg hz] at h3
              rw [hw.out, if_neg (by rw [h3]; exact hz), h3]
            replace hz3 := Lib.hid hz3
            have gz : (insErr l.length c.ins.length i x != 0) = true := by simpa using hz
            clear hz hz2 hsti
            go_wp2
            refine wp_region_below (wr.heap.size) _ (Below.refl _ _) (by kernel_rfl) (by kernel_rfl) ?_
            repeat (go_big_quiet_step (((go_at_call 26; exact quiet_below (Nat.le_refl _) (hcI.out _ (After.below _))))))
            refine wpQuiet_nil ?_
            rintro _ ⟨n7, rfl⟩
            have Bn := Bi.after n7 (by omega)
            have hbw : Below w.heap.size w wr := hb.trans (hbi.mono zb)
            go_wp2
            have E := (Bn.set 0 (.int .i64 (insErr l.length c.ins.length i x))).set 1 (.int .i64 (j : Nat))
            have e0 := (E.cell 0).trans (show _ = some (Value.int .i64 (insErr l.length c.ins.length i x)) from rfl)
            have e1 := (E.cell 1).trans (show _ = some (Value.int .i64 (j : Nat)) from rfl)
            exact bodyPost_ret (v := faultV ((insErr l.length c.ins.length i x), (j : Nat))) (by simp [results, Tryd.results11, e0, e1, go_sem, faultV]) rfl ⟨by rw [hz3.out], (by repeat (first | exact Below.refl _ _ | assumption | refine Below.n _ ?_ (by first | omega | (simp; done) | (simp; omega)) | refine Below.alloc ?_ (by first | omega | (simp; done) | (simp; omega)) _ | refine Below.setCell ?_ (by first | omega | (simp; done) | (simp; omega)) _ | refine Below.drew ?_ | refine Below.setRow ?_ (by first | omega | (simp; done) | (simp; omega)) _ | refine Below.drewN ?_ _))⟩
        · obtain rfl : i = c.ins.length := by omega
          have hz0 : codeErr l.length c = 0 := by
            rw [hce.out, ← hfi.out, List.drop_length]; rfl
          have h3 := hst.out
          rw [hz0, if_pos rfl] at h3
          replace h3 := Lib.hid h3
          clear hz0
          go_wp2
          go_roundg (l.length - (j + 1))
          case measure => rw [hn.out]; omega
          case rel => exact ⟨j + 1, by omega, rfl, by go_num, Lib.hid h3.out.symm, hb.trans (hbi.mono zb), Bi⟩
    · obtain rfl : j = l.length := by omega
      have hf0 := hf.out
      rw [List.drop_length] at hf0
      have hz0 : (firstErr (fun _ => codeErr l.length) 0 l).1 = 0 := by rw [← hf0]; rfl
      have hw2 := Lib.hid (show wrongL l = firstErr (fitErr l) 0 l by rw [hw.out, if_pos hz0])
      have hall := Lib.hid (hcodes hz0)
      have hN := Lib.hid (show ∀ c ∈ l, ∀ x ∈ c.ins, x.op = 8 → 0 ≤ x.a ∧ x.a < l.length from fun c hc x hx h8 => by
        obtain ⟨k, hk⟩ := List.getElem?_of_mem hx
        have := ins_kinds ((hall.out c hc).2.2.2.2.2.2 k x hk)
        omega)
      have hR := Lib.hid (show ∀ c : Code, c ∈ l → 1 ≤ c.high ∧ c.high ≤ 100 ∧ 1 ≤ c.steps ∧ c.steps ≤ 20000 from fun c hc => by
        have := hall.out c hc
        omega)
      clear hf0 hz0 hw hf
      go_wp2
      clear s0 s1 t0 t1
      obtain ⟨wo, rfl⟩ : ∃ wo : World, wo = wr := ⟨_, rfl⟩
      go_loopg [98] l.length (fun n k wr => ∃ i : Nat, i ≤ l.length ∧ n = l.length - i ∧ k = .int .i64 i ∧ Hid (firstErr (fitErr l) i (l.drop i) = firstErr (fitErr l) 0 l) ∧ Below wo.heap.size wo wr)
      case atStart => exact ⟨0, by omega, rfl, rfl, Lib.hid rfl, Below.refl _ _⟩
      case round =>
        obtain ⟨i, hi, hq, rfl, hfi, hbi⟩ := hrel
        replace hq := Lib.hid hq
        have zi := hbi.size
        have Bi := B0.below hbi zr
        have hbw : Below w.heap.size w wr := hb.trans (hbi.mono zb)
        by_cases hlt2 : i < l.length
        · obtain ⟨c, hx⟩ : ∃ c, l[i]? = some c := ⟨_, List.getElem?_eq_getElem hlt2⟩
          obtain ⟨b, o, rfl, hbl, hat⟩ := hc.out i c hx
          have hcm := List.mem_of_getElem? hx
          have hsti := firstErr_at (fitErr l) hx
          rw [hfi.out] at hsti
          have hcw := hl'.out.below hbw (Nat.le_refl _) (show w.heap.size ≤ wr.heap.size by omega)
          have hring := rings_any _ l i wr hcw hlt2 hN.out h40.out
          have hcA := Lib.hid hat
          have hallc := hall.out c hcm
          clear hx hcm
          cases hr : ringsL l i with
          | true =>
            rw [hr] at hring
            replace hring := Lib.hid hring
            have hfe : fitErr l i c = 9 := by unfold fitErr; rw [if_pos hr]
            rw [hfe, if_neg (by decide)] at hsti
            have hz3 := Lib.hid (hw2.out.trans hsti)
            clear hsti hfe hr hallc hcw
            go_wp2_with (go_at_call 27; refine hring.out.mono ?_; rintro e w4 ⟨rfl, hb4⟩; obtain ⟨n4, rfl⟩ := After.of hb4; have z4 := n4.size; have Bn := Bi.after n4 (by omega); have t0 : n4.w.frozen? ⟨w.heap.size, 0, none⟩ = false := Bn.frozen 0; have t1 : n4.w.frozen? ⟨w.heap.size, 1, none⟩ = false := Bn.frozen 1; have s0 : n4.w.cell? ⟨w.heap.size, 0, none⟩ = some (.int .i64 0) := Bn.cell 0; have s1 : n4.w.cell? ⟨w.heap.size, 1, none⟩ = some (.int .i64 0) := Bn.cell 1)
            have E := (Bn.set 0 (.int .i64 9)).set 1 (.int .i64 (i : Nat))
            have e0 := (E.cell 0).trans (show _ = some (Value.int .i64 9) from rfl)
            have e1 := (E.cell 1).trans (show _ = some (Value.int .i64 (i : Nat)) from rfl)
            exact bodyPost_ret (v := faultV (9, (i : Nat))) (by simp [results, Tryd.results11, e0, e1, go_sem, faultV]) rfl ⟨by rw [hz3.out], (by repeat (first | exact Below.refl _ _ | assumption | refine Below.n _ ?_ (by first | omega | (simp; done) | (simp; omega)) | refine Below.alloc ?_ (by first | omega | (simp; done) | (simp; omega)) _ | refine Below.setCell ?_ (by first | omega | (simp; done) | (simp; omega)) _ | refine Below.drew ?_ | refine Below.setRow ?_ (by first | omega | (simp; done) | (simp; omega)) _ | refine Below.drewN ?_ _))⟩
          | false =>
            rw [hr] at hring
            replace hring := Lib.hid hring
            have hstk := Lib.hid (fun (W : World) (h : Below wr.heap.size wr W) => stack_any (.slice (some ⟨b, o, none⟩) l.length cap) l W (hl'.out.below (hbw.trans (h.mono (by omega))) (Nat.le_refl _) (by have := h.size; omega)) c hR.out hallc.2.2.2.2.2.2 hallc.2.1 b (o + i * 3) (hcA.out.below (hbw.trans (h.mono (by omega))) hbl (Nat.le_refl _) (by have := h.size; omega)) (by have := h.size; omega))
            have hfe : fitErr l i c = if stackL l c = (c.high, c.steps, true) then 0 else 8 := by unfold fitErr; rw [if_neg (by rw [hr]; decide)]
            obtain ⟨⟨_, _⟩, y1, y2⟩ := hcA.out
            have d1 : wr.cell? ⟨b, o + i * 3 + 1, none⟩ = some (.int .i64 c.high) := (hbw.cell (p := ⟨b, _, none⟩) hbl).trans y1
            have d2 : wr.cell? ⟨b, o + i * 3 + 2, none⟩ = some (.int .i64 c.steps) := (hbw.cell (p := ⟨b, _, none⟩) hbl).trans y2
            have zbl : b < wr.heap.size := by omega
            clear hr hallc hcw y1 y2
            rcases hS : stackL l c with ⟨sa, sb, sc⟩
            rw [hS] at hstk hfe
            by_cases hg : (sa, sb, sc) = (c.high, c.steps, true)
            · rw [if_pos hg] at hfe
              rw [hfe, if_pos rfl] at hsti
              replace hsti := Lib.hid hsti
              simp only [Prod.mk.injEq] at hg
              obtain ⟨rfl, rfl, rfl⟩ := hg
              clear hfe hS
              go_wp2_with (first
                | (go_at_call 27; (with_reducible refine hring.out.mono ?_); rintro e w4 ⟨rfl, hb4⟩; obtain ⟨n4, rfl⟩ := After.of hb4; have z4 := n4.size)
                | (go_at_call 28; refine (hstk.out _ n4.below).mono ?_; rintro e w5 ⟨rfl, hb5⟩; have hb6 : Below wr.heap.size wr w5 := n4.below.trans (hb5.mono z4); obtain ⟨n5, rfl⟩ := After.of hb6; have z5 := n5.size; unfold stackV))
              go_roundg (l.length - (i + 1))
              case measure => rw [hq.out]; omega
              case rel => exact ⟨i + 1, by omega, rfl, by go_num, Lib.hid hsti.out.symm, hbi.trans (n5.below.mono zi)⟩
            · rw [if_neg hg] at hfe
              rw [hfe, if_neg (by decide)] at hsti
              have hz3 := Lib.hid (hw2.out.trans hsti)
              have hcase : sc = false ∨ sc = true ∧ (sa != c.high) = true ∨ sc = true ∧ (sa != c.high) = false ∧ (sb != c.steps) = true := by
                cases sc with
                | false => exact .inl rfl
                | true =>
                  by_cases h1 : sa = c.high
                  · by_cases h2 : sb = c.steps
                    · exact absurd (by rw [h1, h2]) hg
                    · exact .inr (.inr ⟨rfl, by simpa using h1, by simpa using h2⟩)
                  · exact .inr (.inl ⟨rfl, by simpa using h1⟩)
              clear hsti hfe hS hg
              rcases hcase with rfl | ⟨rfl, q1⟩ | ⟨rfl, q1, q2⟩
              all_goals
                go_wp2_with (first
                  | (go_at_call 27; (with_reducible refine hring.out.mono ?_); rintro e w4 ⟨rfl, hb4⟩; obtain ⟨n4, rfl⟩ := After.of hb4; have z4 := n4.size)
                  | (go_at_call 28; refine (hstk.out _ n4.below).mono ?_; rintro e w5 ⟨rfl, hb5⟩; have hb6 : Below wr.heap.size wr w5 := n4.below.trans (hb5.mono z4); obtain ⟨n5, rfl⟩ := After.of hb6; have z5 := n5.size; have Bn := Bi.after n5 (by omega); have t0 : n5.w.frozen? ⟨w.heap.size, 0, none⟩ = false := Bn.frozen 0; have t1 : n5.w.frozen? ⟨w.heap.size, 1, none⟩ = false := Bn.frozen 1; have s0 : n5.w.cell? ⟨w.heap.size, 0, none⟩ = some (.int .i64 0) := Bn.cell 0; have s1 : n5.w.cell? ⟨w.heap.size, 1, none⟩ = some (.int .i64 0) := Bn.cell 1; unfold stackV))
                have E := (Bn.set 0 (.int .i64 8)).set 1 (.int .i64 (i : Nat))
                have e0 := (E.cell 0).trans (show _ = some (Value.int .i64 8) from rfl)
                have e1 := (E.cell 1).trans (show _ = some (Value.int .i64 (i : Nat)) from rfl)
                exact bodyPost_ret (v := faultV (8, (i : Nat))) (by simp [results, Tryd.results11, e0, e1, go_sem, faultV]) rfl ⟨by rw [hz3.out], (by repeat (first | exact Below.refl _ _ | assumption | refine Below.n _ ?_ (by first | omega | (simp; done) | (simp; omega)) | refine Below.alloc ?_ (by first | omega | (simp; done) | (simp; omega)) _ | refine Below.setCell ?_ (by first | omega | (simp; done) | (simp; omega)) _ | refine Below.drew ?_ | refine Below.setRow ?_ (by first | omega | (simp; done) | (simp; omega)) _ | refine Below.drewN ?_ _))⟩
        · obtain rfl : i = l.length := by omega
          have hfe := hfi.out
          rw [List.drop_length] at hfe
          have hz3 := Lib.hid (hw2.out.trans hfe.symm)
          have t0 : wr.frozen? ⟨w.heap.size, 0, none⟩ = false := Bi.frozen 0
          have t1 : wr.frozen? ⟨w.heap.size, 1, none⟩ = false := Bi.frozen 1
          have s0 : wr.cell? ⟨w.heap.size, 0, none⟩ = some (.int .i64 0) := Bi.cell 0
          have s1 : wr.cell? ⟨w.heap.size, 1, none⟩ = some (.int .i64 0) := Bi.cell 1
          clear hfe
          go_wp2
          have E := (Bi.set 0 (.int .i64 0)).set 1 (.int .i64 0)
          have e0 := (E.cell 0).trans (show _ = some (Value.int .i64 0) from rfl)
          have e1 := (E.cell 1).trans (show _ = some (Value.int .i64 0) from rfl)
          exact bodyPost_ret (v := faultV (0, 0)) (by simp [results, Tryd.results11, e0, e1, go_sem, faultV]) rfl ⟨by rw [hz3.out]; rfl, (by repeat (first | exact Below.refl _ _ | assumption | refine Below.n _ ?_ (by first | omega | (simp; done) | (simp; omega)) | refine Below.alloc ?_ (by first | omega | (simp; done) | (simp; omega)) _ | refine Below.setCell ?_ (by first | omega | (simp; done) | (simp; omega)) _ | refine Below.drew ?_ | refine Below.setRow ?_ (by first | omega | (simp; done) | (simp; omega)) _ | refine Below.drewN ?_ _))⟩

theorem Wrong_any (codeV : Value) (l : List Code) (w : World) (hl : CodesV w w.heap.size codeV l) :
    Calls Tryd.prog 11 #[codeV] w fun e w' => e = .returned (faultV (wrongL l)) ∧ Below w.heap.size w w' := by
  by_cases h : 40 < l.length
  · exact Wrong_many codeV l w hl h
  · exact Wrong_few codeV l w hl (by omega)

end Vm
end Go.Proofs.YtbadplbdgpbdaaaDoor
