/- The walk of slotlaw9.CacheRight. -/
import Derived.Test.YthdaeddaofickaaKpA
import Derived.Test.YthdaeddaofickaaEqF
namespace Go.Proofs.Ythdaeddaofickaa
open Go.RowKit
namespace Kp
open Msk Sl Vm

/-- what is asked: a rule, a day, a version -/
def AsksV (w : World) (B : Nat) (v : Value) (l : List Ask) : Prop := Reads B v l fun b o i x => w.cell? ⟨b, o + i * 3, none⟩ = some (.int .i64 x.1) ∧ w.cell? ⟨b, o + i * 3 + 1, none⟩ = some (.int .i64 x.2.1) ∧ w.cell? ⟨b, o + i * 3 + 2, none⟩ = some (.int .i64 x.2.2)
theorem AsksV.below {w w' : World} {B B' B'' : Nat} {v : Value} {l : List Ask} (h : AsksV w B v l) (hb : Below B' w w') (hB : B ≤ B') (hB2 : B ≤ B'') : AsksV w' B'' v l :=
  Reads.mono h hB2 fun b o i x hlt _ ⟨h1, h2, h3⟩ => ⟨(hb.cell (p := ⟨b, _, none⟩) (by simp; omega)).trans h1, (hb.cell (p := ⟨b, _, none⟩) (by simp; omega)).trans h2, (hb.cell (p := ⟨b, _, none⟩) (by simp; omega)).trans h3⟩
theorem same_self (p : Nat → Bool) : sameW (setW p) (setW p) = true := by simp [sameW]
/-- between two asks -/
def Going (w : World) (gc : Nat) (l : List Vm.Code) (asks : List Ask) (n : Nat) (i : Value) (wr : World) : Prop :=
  ∃ (j : Nat) (k : List Kept) (A : Option Addr) (cap : Nat) (runs : Int), j ≤ asks.length ∧ n = asks.length - j ∧ i = .int .i64 j ∧ Below w.heap.size w wr ∧ Blk wr gc 24 #[.slice A k.length cap, .int .i64 runs] ∧ KeptV wr wr.heap.size (.slice A k.length cap) k ∧ Made l k ∧ 0 ≤ runs ∧ runs ≤ j

set_option maxRecDepth 100000 in
set_option maxHeartbeats 4000000 in
theorem CacheRight_true (codeV askV : Value) (l : List Vm.Code) (asks : List Ask) (w : World) (hl : CodesV w w.heap.size codeV l) (ha : AsksV w w.heap.size askV asks) :
    Calls Try.prog 4 #[codeV, askV] w fun e w' => e = .returned (.bool true) ∧ Below w.heap.size w w' := by
  obtain ⟨B, bcap, rfl, hlen, hac⟩ := ha
  replace hac := Lib.hid hac
  have hl' := Lib.hid hl
  clear hl
  go_enter Try.func4, Try.ntmps4
  go_wp2_with (go_at_call 12; refine (alive9 _).mono ?_; rintro e w1 ⟨rfl, hb1⟩)
  have z1 := hb1.size
  go_loopg [18] asks.length (fun n i wr => Going w w1.heap.size l asks n i wr)
  case atStart => exact ⟨0, [], none, 0, 0, Nat.zero_le _, rfl, rfl, hb1.alloc z1 _, Blk.new _ _ _, ⟨none, 0, rfl, by simp, fun i x hx => by simp at hx⟩, Made.nil l, by omega, by omega⟩
  case round =>
    obtain ⟨j, k, A, cap, runs, hj, hn, rfl, hbw, hB, hk, hm, hr0, hr1⟩ := hrel
    replace hn := Lib.hid hn
    have z := hbw.size
    have zc := hB.lt
    have d0 := hB.cell 0
    have d1 := hB.cell 1
    have f0 := hB.frozen 0
    have f1 := hB.frozen 1
    simp only [List.getElem?_toArray, List.getElem?_cons_zero, List.getElem?_cons_succ] at d0 d1
    by_cases hlt : j < asks.length
    · obtain ⟨⟨rule, day, ver⟩, hx⟩ : ∃ x, asks[j]? = some x := ⟨_, List.getElem?_eq_getElem hlt⟩
      obtain ⟨b, o, rfl, hbl, c0, c1, c2⟩ := hac.out j _ hx
      have e0 : wr.cell? ⟨b, o + j * 3, none⟩ = some (.int .i64 rule) := (hbw.cell (p := ⟨b, _, none⟩) hbl).trans c0
      have e1 : wr.cell? ⟨b, o + j * 3 + 1, none⟩ = some (.int .i64 day) := (hbw.cell (p := ⟨b, _, none⟩) hbl).trans c1
      have e2 : wr.cell? ⟨b, o + j * 3 + 2, none⟩ = some (.int .i64 ver) := (hbw.cell (p := ⟨b, _, none⟩) hbl).trans c2
      clear hx c0 c1 c2
      generalize w1.heap.size = gc at *
      have hlr := Lib.hid (hl'.out.below hbw (Nat.le_refl _) z)
      rcases run_fun codeV l rule day with ⟨h1, h2⟩ | ⟨h1, _, p, c, h2, _, _, h3⟩
      · have h2' := Lib.hid (fun W (hW : CodesV W W.heap.size codeV l) => show Calls Try.prog 13 #[codeV, .int .i64 rule, .int .i64 day] W (fun e w' => e = .returned (.tuple #[.agg (maskA fun _ => 0), .int .i64 0, .agg #[.int .i64 (runErr l rule day).1, .int .i64 (runErr l rule day).2]]) ∧ Below W.heap.size W w') from by
          have := h2 W hW
          unfold resV faultV at this
          rwa [setA_noS] at this)
        have hG := Lib.hid (fun (W : World) (hW : Below wr.heap.size wr W) => Get_bad (.slice A k.length cap) codeV k l runs ver rule day W (hk.below hW (Nat.le_refl _) hW.size) hm (hlr.out.below hW (Nat.le_refl _) hW.size) h1)
        clear h2
        generalize (runErr l rule day).1 = ea at *
        generalize (runErr l rule day).2 = eb at *
        have g1 : (ea != 0) = true := by simpa using h1
        have g2 : (ea == 0) = false := by simpa using h1
        have g3 := eqF_self ea eb
        go_wp2_with fail
        refine (h2'.out _ (hlr.out.below (B' := wr.heap.size) (by repeat (first | exact Below.refl _ _ | assumption | refine Below.n _ ?_ (by first | omega | (simp; done) | (simp; omega)) | refine Below.alloc ?_ (by first | omega | (simp; done) | (simp; omega)) _ | refine Below.setCell ?_ (by first | omega | (simp; done) | (simp; omega)) _ | refine Below.drew ?_ | refine Below.setRow ?_ (by first | omega | (simp; done) | (simp; omega)) _ | refine Below.drewN ?_ _)) (Nat.le_refl _) (by first | (simp; done) | (simp; omega)))).mono ?_
        rintro e w2 ⟨rfl, hb2⟩
        have hbw2 : Below wr.heap.size wr w2 := Below.trans (by repeat (first | exact Below.refl _ _ | assumption | refine Below.n _ ?_ (by first | omega | (simp; done) | (simp; omega)) | refine Below.alloc ?_ (by first | omega | (simp; done) | (simp; omega)) _ | refine Below.setCell ?_ (by first | omega | (simp; done) | (simp; omega)) _ | refine Below.drew ?_ | refine Below.setRow ?_ (by first | omega | (simp; done) | (simp; omega)) _ | refine Below.drewN ?_ _)) (hb2.mono (by first | (simp; done) | (simp; omega)))
        have A2 := (Blk.new wr 39 #[.int .i64 rule, .int .i64 day, .int .i64 ver]).below hb2 (by simp)
        go_upto_region 8 with fail
        obtain ⟨W2, hW2⟩ : ∃ W2, W2 = (((((w2.alloc (.cells (maskA fun _ => 0) 28)).alloc (.cells #[.int .i64 0, .int .i64 0] 31)).setRow w2.heap.size (maskA fun _ => 0)).setCell ⟨w2.heap.size + 1, 0, none⟩ (.int .i64 ea)).setCell ⟨w2.heap.size + 1, 1, none⟩ (.int .i64 eb)) := ⟨_, rfl⟩
        rw [← hW2]
        obtain ⟨M2, F2, hb3, y3⟩ := run_kept (fun _ => 0) ea eb W2 hW2
        replace hW2 := Lib.hid hW2
        have hbW2 : Below wr.heap.size wr W2 := hbw2.trans (hb3.mono hbw2.size)
        replace A2 := A2.below hb3 A2.lt
        have z2 := hbw2.size
        have z9 := hbW2.size
        have s0 := A2.cell 0
        have s1 := A2.cell 1
        have s2 := A2.cell 2
        simp only [List.getElem?_toArray, List.getElem?_cons_zero, List.getElem?_cons_succ] at s0 s1 s2
        have x0 : W2.cell? ⟨gc, 0, none⟩ = some (.slice A k.length cap) := (hbW2.cell (p := ⟨gc, _, none⟩) zc).trans d0
        have x1 : W2.cell? ⟨gc, 1, none⟩ = some (.int .i64 runs) := (hbW2.cell (p := ⟨gc, _, none⟩) zc).trans d1
        generalize w2.heap.size = g2 at *
        generalize wr.heap.size = ga at *
        go_wp2_with fail
        refine (hG.out W2 hbW2).mono ?_
        rintro e w4 ⟨rfl, hb4⟩
        go_upto_region 9 with fail
        obtain ⟨W4, hW4⟩ : ∃ W4, W4 = ((((((((w4.alloc (.cells (maskA fun _ => 0) 28)).alloc (.cells #[.slice none 0 0, .int .i64 0] 24)).alloc (.cells #[.int .i64 0, .int .i64 0] 31)).setRow w4.heap.size (maskA fun _ => 0)).setCell ⟨w4.heap.size + 1, 0, none⟩ (.slice none 0 0)).setCell ⟨w4.heap.size + 1, 1, none⟩ (.int .i64 0)).setCell ⟨w4.heap.size + 1 + 1, 0, none⟩ (.int .i64 ea)).setCell ⟨w4.heap.size + 1 + 1, 1, none⟩ (.int .i64 eb)) := ⟨_, rfl⟩
        rw [← hW4]
        obtain ⟨M4, K4, F4, hb5, y5⟩ := got_store (fun _ => 0) (.slice none 0 0) (0) ea eb W4 hW4
        replace hW4 := Lib.hid hW4
        have z4 := hb4.size
        have hbW4 : Below W2.heap.size W2 W4 := hb4.trans (hb5.mono z4)
        have hbR : Below ga wr W4 := hbW2.trans (hbW4.mono (by omega))
        replace F2 := F2.below hbW4 F2.lt
        replace M2 := M2.below hbW4 M2.lt
        replace hB := hB.below hbR zc
        generalize w4.heap.size = g4 at *
        have p0 := F2.cell 0
        have p1 := F2.cell 1
        have p2 := F4.cell 0
        have p3 := F4.cell 1
        have p4 := K4.cell 0
        have p5 := K4.cell 1
        have p6 := hB.cell 0
        have p7 := hB.cell 1
        simp only [List.getElem?_toArray, List.getElem?_cons_zero, List.getElem?_cons_succ] at p0 p1 p2 p3 p4 p5 p6 p7
        have kk2 := blk_cells M2
        have kk4 := blk_cells M4
        have q0 := hB.frozen 0
        have q1 := hB.frozen 1
        clear s0 s1 s2 x0 x1 d0 d1 e0 e1 e2 hW4 hW2
        go_wp2_with fail
        go_roundg (asks.length - (j + 1))
        case measure => rw [hn.out]; omega
        case rel => exact ⟨j + 1, k, A, cap, runs, by omega, rfl, by go_num, hbw.trans (hbR.mono z), hB, hk.below hbR (Nat.le_refl _) (by have := hbW4.size; omega), hm, hr0, by omega⟩
      · have h3' := Lib.hid (fun W (hW : CodesV W W.heap.size codeV l) => show Calls Try.prog 13 #[codeV, .int .i64 rule, .int .i64 day] W (fun e w' => e = .returned (.tuple #[.agg (maskA (setW p)), .int .i64 (c : Nat), .agg #[.int .i64 0, .int .i64 0]]) ∧ Below W.heap.size W w') from h3 W hW)
        have hr63 : runs + 1 ≤ 9223372036854775807 := by omega
        have hG := Lib.hid (fun (W : World) (hW : Below wr.heap.size wr W) => Get_good (.slice A k.length cap) codeV k l runs ver rule day W (hk.below hW (Nat.le_refl _) hW.size) hm (hlr.out.below hW (Nat.le_refl _) hW.size) h1 p c h2)
        have hm4 := hm.after h1 h2 ver
        have hrt : runs ≤ runsThen k runs rule day ver ∧ runsThen k runs rule day ver ≤ runs + 1 := by
          unfold runsThen
          split
          · omega
          · rw [show wrap64 (runs + 1) = runs + 1 by unfold wrap64; omega]; omega
        have hsm := same_self p
        obtain ⟨rt, hrt2⟩ : ∃ rt, rt = runsThen k runs rule day ver := ⟨_, rfl⟩
        rw [← hrt2] at hrt hG
        obtain ⟨k4, hk4⟩ : ∃ k4, k4 = after k rule day ver (setW p) := ⟨_, rfl⟩
        rw [← hk4] at hm4 hG
        have hlen4 := hm4.1.2
        have h2' := h3'
        clear h3 h3'
        generalize setW p = m at *
        replace hrt2 := Lib.hid hrt2
        replace hk4 := Lib.hid hk4
        replace h1 := Lib.hid h1
        replace hm4 := Lib.hid hm4
        replace hm := Lib.hid hm
        obtain ⟨hrt0, hrt1⟩ := hrt
        have g3 := eqF_self 0 0
        have G1 : decide (64 < k4.length) = false := by simpa using hlen4
        have G2 : decide ((64 : Int) < (k4.length : Int)) = false := by simp; omega
        have G3 : decide (runs + 1 < rt) = false := by simp; omega
        have G4 : decide (rt < runs) = false := by simp; omega
        go_wp2_with fail
        refine (h2'.out _ (hlr.out.below (B' := wr.heap.size) (by repeat (first | exact Below.refl _ _ | assumption | refine Below.n _ ?_ (by first | omega | (simp; done) | (simp; omega)) | refine Below.alloc ?_ (by first | omega | (simp; done) | (simp; omega)) _ | refine Below.setCell ?_ (by first | omega | (simp; done) | (simp; omega)) _ | refine Below.drew ?_ | refine Below.setRow ?_ (by first | omega | (simp; done) | (simp; omega)) _ | refine Below.drewN ?_ _)) (Nat.le_refl _) (by first | (simp; done) | (simp; omega)))).mono ?_
        rintro e w2 ⟨rfl, hb2⟩
        have hbw2 : Below wr.heap.size wr w2 := Below.trans (by repeat (first | exact Below.refl _ _ | assumption | refine Below.n _ ?_ (by first | omega | (simp; done) | (simp; omega)) | refine Below.alloc ?_ (by first | omega | (simp; done) | (simp; omega)) _ | refine Below.setCell ?_ (by first | omega | (simp; done) | (simp; omega)) _ | refine Below.drew ?_ | refine Below.setRow ?_ (by first | omega | (simp; done) | (simp; omega)) _ | refine Below.drewN ?_ _)) (hb2.mono (by first | (simp; done) | (simp; omega)))
        have A2 := (Blk.new wr 39 #[.int .i64 rule, .int .i64 day, .int .i64 ver]).below hb2 (by simp)
        go_upto_region 8 with fail
        obtain ⟨W2, hW2⟩ : ∃ W2, W2 = (((((w2.alloc (.cells (maskA fun _ => 0) 28)).alloc (.cells #[.int .i64 0, .int .i64 0] 31)).setRow w2.heap.size (maskA m)).setCell ⟨w2.heap.size + 1, 0, none⟩ (.int .i64 0)).setCell ⟨w2.heap.size + 1, 1, none⟩ (.int .i64 0)) := ⟨_, rfl⟩
        rw [← hW2]
        obtain ⟨M2, F2, hb3, y3⟩ := run_kept (m) 0 0 W2 hW2
        replace hW2 := Lib.hid hW2
        have hbW2 : Below wr.heap.size wr W2 := hbw2.trans (hb3.mono hbw2.size)
        replace A2 := A2.below hb3 A2.lt
        have z2 := hbw2.size
        have z9 := hbW2.size
        have s0 := A2.cell 0
        have s1 := A2.cell 1
        have s2 := A2.cell 2
        simp only [List.getElem?_toArray, List.getElem?_cons_zero, List.getElem?_cons_succ] at s0 s1 s2
        have x0 : W2.cell? ⟨gc, 0, none⟩ = some (.slice A k.length cap) := (hbW2.cell (p := ⟨gc, _, none⟩) zc).trans d0
        have x1 : W2.cell? ⟨gc, 1, none⟩ = some (.int .i64 runs) := (hbW2.cell (p := ⟨gc, _, none⟩) zc).trans d1
        generalize w2.heap.size = g2 at *
        generalize wr.heap.size = ga at *
        go_wp2_with fail
        refine (hG.out W2 hbW2).mono ?_
        rintro e w4 ⟨v4, rfl, hb4, hk4v, hfar⟩
        obtain ⟨A4, cap4, rfl, hk4l, hk4r⟩ := hk4v
        have hk4v := Lib.hid (show KeptV w4 w4.heap.size (.slice A4 k4.length cap4) k4 from ⟨A4, cap4, rfl, hk4l, hk4r⟩)
        have hfg : (Value.slice A4 k4.length cap4).ownBlock ≠ some gc := fun e => by have := hfar gc e; omega
        clear hk4r hfar
        go_upto_region 9 with fail
        obtain ⟨W4, hW4⟩ : ∃ W4, W4 = ((((((((w4.alloc (.cells (maskA fun _ => 0) 28)).alloc (.cells #[.slice none 0 0, .int .i64 0] 24)).alloc (.cells #[.int .i64 0, .int .i64 0] 31)).setRow w4.heap.size (maskA m)).setCell ⟨w4.heap.size + 1, 0, none⟩ (.slice A4 k4.length cap4)).setCell ⟨w4.heap.size + 1, 1, none⟩ (.int .i64 rt)).setCell ⟨w4.heap.size + 1 + 1, 0, none⟩ (.int .i64 0)).setCell ⟨w4.heap.size + 1 + 1, 1, none⟩ (.int .i64 0)) := ⟨_, rfl⟩
        rw [← hW4]
        obtain ⟨M4, K4, F4, hb5, y5⟩ := got_store (m) (.slice A4 k4.length cap4) (rt) 0 0 W4 hW4
        replace hW4 := Lib.hid hW4
        have z4 := hb4.size
        have hbW4 : Below W2.heap.size W2 W4 := hb4.trans (hb5.mono z4)
        have hbR : Below ga wr W4 := hbW2.trans (hbW4.mono (by omega))
        replace F2 := F2.below hbW4 F2.lt
        replace M2 := M2.below hbW4 M2.lt
        replace hB := hB.below hbR zc
        generalize w4.heap.size = g4 at *
        have p0 := F2.cell 0
        have p1 := F2.cell 1
        have p2 := F4.cell 0
        have p3 := F4.cell 1
        have p4 := K4.cell 0
        have p5 := K4.cell 1
        have p6 := hB.cell 0
        have p7 := hB.cell 1
        simp only [List.getElem?_toArray, List.getElem?_cons_zero, List.getElem?_cons_succ] at p0 p1 p2 p3 p4 p5 p6 p7
        have kk2 := blk_cells M2
        have kk4 := blk_cells M4
        have q0 := hB.frozen 0
        have q1 := hB.frozen 1
        clear s0 s1 s2 x0 x1 d0 d1 e0 e1 e2 hW4 hW2
        go_wp2_with fail
        have hB9 := (hB.set 0 (.slice A4 k4.length cap4)).set 1 (.int .i64 rt)
        have hb9 : Below w.heap.size wr ((W4.setCell ⟨gc, 0, none⟩ (.slice A4 k4.length cap4)).setCell ⟨gc, 1, none⟩ (.int .i64 rt)) := ((hbR.mono z).setCell (p := ⟨gc, 0, none⟩) z1 _).setCell (p := ⟨gc, 1, none⟩) z1 _
        have hk9 : KeptV ((W4.setCell ⟨gc, 0, none⟩ (.slice A4 k4.length cap4)).setCell ⟨gc, 1, none⟩ (.int .i64 rt)) ((W4.setCell ⟨gc, 0, none⟩ (.slice A4 k4.length cap4)).setCell ⟨gc, 1, none⟩ (.int .i64 rt)).heap.size (.slice A4 k4.length cap4) k4 := by
          have := ((hk4v.out.below hb5 (Nat.le_refl _) (by omega : _ ≤ W4.heap.size)).far (p := ⟨gc, 0, none⟩) hfg (.slice A4 k4.length cap4)).far (p := ⟨gc, 1, none⟩) hfg (.int .i64 rt)
          simpa using this
        go_roundg (asks.length - (j + 1))
        case measure => rw [hn.out]; omega
        case rel => exact ⟨j + 1, k4, A4, cap4, rt, by omega, rfl, by go_num, hbw.trans hb9, hB9, hk9, hm4.out, by omega, by omega⟩
    · obtain rfl : j = asks.length := by omega
      go_wp2
      go_ret
      exact ⟨rfl, hbw⟩
end Kp
end Go.Proofs.Ythdaeddaofickaa
