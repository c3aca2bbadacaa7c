/- The walk of slotlaw9.CacheOnce. -/
import Derived.Test.YthdaeddaofickaaKpR
import Derived.Test.YthdaeddaofickaaAskR
import Derived.Deep.CutBlock
namespace Go.Proofs.Ythdaeddaofickaa
open Go.RowKit
namespace Kp
open Msk Sl Vm

/-- between two asks, with what was asked last -/
def Going2 (w : World) (gc : Nat) (l : List Vm.Code) (ask : List Ask) (n : Nat) (s6 i : Value) (wr : World) : Prop :=
  ∃ (j : Nat) (k : List Kept) (A : Option Addr) (cap : Nat) (runs : Int) (vl : Value), j ≤ ask.length ∧ n = ask.length - j ∧ i = .int .i64 j ∧ Below w.heap.size w wr ∧ Blk wr gc 24 #[.slice A k.length cap, .int .i64 runs] ∧ KeptV wr wr.heap.size (.slice A k.length cap) k ∧ Made l k ∧ 0 ≤ runs ∧ runs ≤ j ∧
    s6 = vl ∧ OffA wr (gc + 1) vl (asks k) ∧ ∀ g, vl.ownBlock = some g → (Value.slice A k.length cap).ownBlock ≠ some g

theorem KeptV.grown {w w' : World} {B B' : Nat} {r : Option Nat} {v : Value} {k : List Kept} (h : KeptV w B v k) (hg : w.grownBy w' r) (hB : B ≤ w.heap.size) (hB' : B ≤ B') (hr : ∀ g, v.ownBlock = some g → r ≠ some g) : KeptV w' B' v k := by
  obtain ⟨A, cap, rfl, hl, hc⟩ := h
  refine ⟨A, cap, rfl, hl, fun i x hx => ?_⟩
  obtain ⟨b, o, rfl, hb, h1, h2⟩ := hc i x hx
  exact ⟨b, o, rfl, by omega, (cellsAt_congr fun j _ => World.cell?_of_block (hg.block b (by omega) (fun e => hr b rfl e.symm))).trans h1, h2⟩
theorem placeA_at {L : List Ask} {rule day : Int} {i : Nat} {x : Ask} (h : L[i]? = some x) (hn : i ≤ placeA L rule day) : (decide (x.1 = rule) && decide (x.2.1 = day)) = true ↔ placeA L rule day = i := by
  obtain ⟨hi, rfl⟩ := List.getElem?_eq_some_iff.1 h
  constructor
  · intro hx
    have : placeA L rule day ≤ i := by
      rcases Nat.lt_or_ge i (placeA L rule day) with hlt | hge
      · have := List.not_of_lt_findIdx (xs := L) (p := fun x : Ask => decide (x.1 = rule) && decide (x.2.1 = day)) hlt
        rw [hx] at this
        simp at this
      · exact hge
    omega
  · rintro hx
    have hlt : List.findIdx (fun x : Ask => decide (x.1 = rule) && decide (x.2.1 = day)) L < L.length := by
      have : placeA L rule day < L.length := by rw [hx]; exact hi
      exact this
    have h2 := List.findIdx_getElem (xs := L) (p := fun x : Ask => decide (x.1 = rule) && decide (x.2.1 = day)) (w := hlt)
    have e : L[List.findIdx (fun x : Ask => decide (x.1 = rule) && decide (x.2.1 = day)) L] = L[i] := by
      congr 1
    rw [e] at h2
    exact h2
/-- behind the search: was it asked, and what was asked without it -/
def Searched (W4 : World) (base : Nat) (vl : Value) (L : List Ask) (rule day ver : Int) (s6 s12 : Value) (wx : World) : Prop :=
  s12 = .bool (hadA L rule day ver) ∧ Below W4.heap.size W4 wx ∧ OffA wx base s6 (L.eraseIdx (placeA L rule day)) ∧ ∀ g, s6.ownBlock = some g → vl.ownBlock = some g ∨ W4.heap.size ≤ g

/-- the cache stored behind a good answer -/
theorem stored_all {w w5 : World} {gc : Nat} {c0 c1 : Value} {A4 : Option Addr} {k4 : List Kept} {cap4 : Nat} {v5 v : Value} {L : List Ask} (hO : OffA w5 (gc + 1) v L) (h : Blk w5 gc 24 #[c0, c1] ∧ KeptV w5 w5.heap.size (.slice A4 k4.length cap4) k4 ∧ Below w.heap.size w w5 ∧ ∀ b, v5.ownBlock = some b → (Value.slice A4 k4.length cap4).ownBlock ≠ some b) (hgc : w.heap.size ≤ gc) (hfg : (Value.slice A4 k4.length cap4).ownBlock ≠ some gc) (hv : ∀ b, v.ownBlock = some b → v5.ownBlock = some b) (rt : Int) :
    Below w.heap.size w ((w5.setCell ⟨gc, 0, none⟩ (.slice A4 k4.length cap4)).setCell ⟨gc, 1, none⟩ (.int .i64 rt)) ∧
    Blk ((w5.setCell ⟨gc, 0, none⟩ (.slice A4 k4.length cap4)).setCell ⟨gc, 1, none⟩ (.int .i64 rt)) gc 24 #[.slice A4 k4.length cap4, .int .i64 rt] ∧
    KeptV ((w5.setCell ⟨gc, 0, none⟩ (.slice A4 k4.length cap4)).setCell ⟨gc, 1, none⟩ (.int .i64 rt)) ((w5.setCell ⟨gc, 0, none⟩ (.slice A4 k4.length cap4)).setCell ⟨gc, 1, none⟩ (.int .i64 rt)).heap.size (.slice A4 k4.length cap4) k4 ∧
    OffA ((w5.setCell ⟨gc, 0, none⟩ (.slice A4 k4.length cap4)).setCell ⟨gc, 1, none⟩ (.int .i64 rt)) (gc + 1) v L ∧
    ∀ g, v.ownBlock = some g → (Value.slice A4 k4.length cap4).ownBlock ≠ some g := by
  obtain ⟨hB, hk, hb, hn⟩ := h
  have hB1 : Blk ((w5.setCell ⟨gc, 0, none⟩ (.slice A4 k4.length cap4)).setCell ⟨gc, 1, none⟩ (.int .i64 rt)) gc 24 #[.slice A4 k4.length cap4, .int .i64 rt] := (hB.set 0 _).set 1 _
  have hg : w5.grownBy ((w5.setCell ⟨gc, 0, none⟩ (.slice A4 k4.length cap4)).setCell ⟨gc, 1, none⟩ (.int .i64 rt)) (some gc) :=
    ⟨rfl, rfl, rfl, by simp, fun r hr hne => by
      have hrg : r ≠ gc := fun e => hne (by rw [e])
      rw [Below.heap_setCell _ _ _ r hrg, Below.heap_setCell _ _ _ r hrg]⟩
  have hne : ∀ g, v.ownBlock = some g → g ≠ gc := fun g hg e => by have := (hO.lt hg).1; omega
  refine ⟨hb.trans ⟨rfl, rfl, rfl, by simp, fun r hr => hg.block r (by have := hb.size; omega) (fun e => by cases e; omega)⟩, hB1, ?_, ?_, fun g h => hn g (hv g h)⟩
  · exact hk.grown hg (Nat.le_refl _) (by simp) (fun g h e => hfg (by rw [h, e]))
  · exact hO.grown hg (fun g h e => hne g h (by cases e; rfl))

set_option maxRecDepth 100000 in
set_option maxHeartbeats 4000000 in
theorem CacheOnce_true (codeV askV : Value) (l : List Vm.Code) (ask : List Ask) (w : World) (hl : CodesV w w.heap.size codeV l) (ha : AsksV w w.heap.size askV ask) :
    Calls Try.prog 5 #[codeV, askV] w fun e w' => e = .returned (.bool true) ∧ Below w.heap.size w w' := by
  obtain ⟨B, bcap, rfl, hlen, hac⟩ := ha
  replace hac := Lib.hid hac
  have hl' := Lib.hid hl
  clear hl
  go_enter Try.func5, Try.ntmps5
  go_wp2_with (go_at_call 12; refine (alive9 _).mono ?_; rintro e w1 ⟨rfl, hb1⟩)
  have z1 := hb1.size
  go_loopg [6, 19] ask.length (fun n s6 i wr => Going2 w w1.heap.size l ask n s6 i wr)
  case atStart => exact ⟨0, [], none, 0, 0, .slice none 0 0, Nat.zero_le _, rfl, rfl, hb1.alloc z1 _, Blk.new _ _ _, ⟨none, 0, rfl, by simp, fun i x hx => by simp at hx⟩, Made.nil l, by omega, by omega, rfl, .inl ⟨rfl, rfl⟩, fun g hg => by cases hg⟩
  case round =>
    obtain ⟨j, k, A, cap, runs, vl, hj, hn, rfl, hbw, hB, hk, hm, hr0, hr1, rfl, hO, hap⟩ := hrel
    obtain ⟨AL, capL, rfl⟩ := hO.slice
    replace hn := Lib.hid hn
    have z := hbw.size
    have zc := hB.lt
    have d0 := hB.cell 0
    have d1 := hB.cell 1
    simp only [List.getElem?_toArray, List.getElem?_cons_zero, List.getElem?_cons_succ] at d0 d1
    by_cases hlt : j < ask.length
    · obtain ⟨⟨rule, day, ver⟩, hx⟩ : ∃ x, ask[j]? = some x := ⟨_, List.getElem?_eq_getElem hlt⟩
      obtain ⟨b, o, rfl, hbl, c0, c1, c2⟩ := hac.out j _ hx
      have e0 : wr.cell? ⟨b, o + j * 3, none⟩ = some (.int .i64 rule) := (hbw.cell (p := ⟨b, _, none⟩) hbl).trans c0
      have e1 : wr.cell? ⟨b, o + j * 3 + 1, none⟩ = some (.int .i64 day) := (hbw.cell (p := ⟨b, _, none⟩) hbl).trans c1
      have e2 : wr.cell? ⟨b, o + j * 3 + 2, none⟩ = some (.int .i64 ver) := (hbw.cell (p := ⟨b, _, none⟩) hbl).trans c2
      clear hx c0 c1 c2
      generalize w1.heap.size = gc at *
      have hlr := Lib.hid (hl'.out.below hbw (Nat.le_refl _) z)
      rcases run_fun codeV l rule day with ⟨h1, _⟩ | ⟨h1, _, p, c, h2, _, _, _⟩
      · have hG := Lib.hid (fun (W : World) (hW : Below wr.heap.size wr W) => Get_bad (.slice A k.length cap) codeV k l runs ver rule day W (hk.below hW (Nat.le_refl _) hW.size) hm (hlr.out.below hW (Nat.le_refl _) hW.size) h1)
        generalize (runErr l rule day).1 = ea at *
        generalize (runErr l rule day).2 = eb at *
        have g1 : (ea != 0) = true := by simpa using h1
        go_wp2_with fail
        refine (hG.out _ (by repeat (first | exact Below.refl _ _ | assumption | refine Below.n _ ?_ (by first | omega | (simp; done) | (simp; omega)) | refine Below.alloc ?_ (by first | omega | (simp; done) | (simp; omega)) _ | refine Below.setCell ?_ (by first | omega | (simp; done) | (simp; omega)) _ | refine Below.drew ?_ | refine Below.setRow ?_ (by first | omega | (simp; done) | (simp; omega)) _ | refine Below.drewN ?_ _))).mono ?_
        rintro e w4 ⟨rfl, hb4⟩
        have hbw4 : Below wr.heap.size wr w4 := Below.trans (by repeat (first | exact Below.refl _ _ | assumption | refine Below.n _ ?_ (by first | omega | (simp; done) | (simp; omega)) | refine Below.alloc ?_ (by first | omega | (simp; done) | (simp; omega)) _ | refine Below.setCell ?_ (by first | omega | (simp; done) | (simp; omega)) _ | refine Below.drew ?_ | refine Below.setRow ?_ (by first | omega | (simp; done) | (simp; omega)) _ | refine Below.drewN ?_ _)) (hb4.mono (by first | (simp; done) | (simp; omega)))
        have A4' := (Blk.new wr 39 #[.int .i64 rule, .int .i64 day, .int .i64 ver]).below hb4 (by simp)
        go_upto_region 9 with fail
        obtain ⟨W4, hW4⟩ : ∃ W4, W4 = ((((((((w4.alloc (.cells (maskA fun _ => 0) 28)).alloc (.cells #[.slice none 0 0, .int .i64 0] 24)).alloc (.cells #[.int .i64 0, .int .i64 0] 31)).setRow w4.heap.size (maskA (fun _ => 0))).setCell ⟨w4.heap.size + 1, 0, none⟩ (.slice none 0 0)).setCell ⟨w4.heap.size + 1, 1, none⟩ (.int .i64 0)).setCell ⟨w4.heap.size + 1 + 1, 0, none⟩ (.int .i64 ea)).setCell ⟨w4.heap.size + 1 + 1, 1, none⟩ (.int .i64 eb)) := ⟨_, rfl⟩
        rw [← hW4]
        obtain ⟨M4, K4, F4, hb5, y5⟩ := got_store (fun _ => 0) (.slice none 0 0) (0) ea eb W4 hW4
        replace hW4 := Lib.hid hW4
        have z4 := hbw4.size
        have hbR : Below wr.heap.size wr W4 := hbw4.trans (hb5.mono z4)
        have zR := hbR.size
        replace A4' := A4'.below hb5 A4'.lt
        replace hB := hB.below hbR zc
        have hgm : gc < w4.heap.size := by omega
        have hOR := Lib.hid (hO.below hbR (Nat.le_refl _))
        generalize w4.heap.size = g4 at *
        generalize wr.heap.size = ga at *
        have p2 := F4.cell 0
        have p3 := F4.cell 1
        have p4 := K4.cell 0
        have p5 := K4.cell 1
        have p6 := hB.cell 0
        have p7 := hB.cell 1
        simp only [List.getElem?_toArray, List.getElem?_cons_zero, List.getElem?_cons_succ] at p2 p3 p4 p5 p6 p7
        have q0 := hB.frozen 0
        have q1 := hB.frozen 1
        clear d0 d1 e0 e1 e2 hW4
        go_wp2_with fail
        go_roundg (ask.length - (j + 1))
        case measure => rw [hn.out]; omega
        case rel => exact ⟨j + 1, k, A, cap, runs, _, by omega, rfl, by go_num, hbw.trans (hbR.mono z), hB, hk.below hbR (Nat.le_refl _) (by omega), hm, hr0, by omega, rfl, hOR.out, hap⟩
      · have hr63 : runs + 1 ≤ 9223372036854775807 := by omega
        have hG := Lib.hid (fun (W : World) (hW : Below wr.heap.size wr W) => Get_good (.slice A k.length cap) codeV k l runs ver rule day W (hk.below hW (Nat.le_refl _) hW.size) hm (hlr.out.below hW (Nat.le_refl _) hW.size) h1 p c h2)
        have hm4 := hm.after h1 h2 ver
        have hrt : runs ≤ runsThen k runs rule day ver ∧ runsThen k runs rule day ver ≤ runs + 1 := by
          unfold runsThen
          split
          · omega
          · rw [show wrap64 (runs + 1) = runs + 1 by unfold wrap64; omega]; omega
        obtain ⟨rt, hrt2⟩ : ∃ rt, rt = runsThen k runs rule day ver := ⟨_, rfl⟩
        rw [← hrt2] at hrt hG
        have hlast := after_last k rule day ver (setW p)
        obtain ⟨k4, hk4⟩ : ∃ k4, k4 = after k rule day ver (setW p) := ⟨_, rfl⟩
        rw [← hk4] at hm4 hG hlast
        have hlen4 := hm4.1.2
        generalize setW p = m at *
        replace hrt2 := Lib.hid hrt2
        replace hk4 := Lib.hid hk4
        replace h1 := Lib.hid h1
        replace hm4 := Lib.hid hm4
        replace hm := Lib.hid hm
        replace hlast := Lib.hid hlast
        obtain ⟨hrt0, hrt1⟩ := hrt
        go_wp2_with fail
        refine (hG.out _ (by repeat (first | exact Below.refl _ _ | assumption | refine Below.n _ ?_ (by first | omega | (simp; done) | (simp; omega)) | refine Below.alloc ?_ (by first | omega | (simp; done) | (simp; omega)) _ | refine Below.setCell ?_ (by first | omega | (simp; done) | (simp; omega)) _ | refine Below.drew ?_ | refine Below.setRow ?_ (by first | omega | (simp; done) | (simp; omega)) _ | refine Below.drewN ?_ _))).mono ?_
        rintro e w4 ⟨v4, rfl, hb4, hk4v, hfar⟩
        obtain ⟨A4, cap4, rfl, hk4l, hk4r⟩ := hk4v
        have hk4v := Lib.hid (show KeptV w4 w4.heap.size (.slice A4 k4.length cap4) k4 from ⟨A4, cap4, rfl, hk4l, hk4r⟩)
        have hfg : (Value.slice A4 k4.length cap4).ownBlock ≠ some gc := fun e => by have := hfar gc e; simp at this; omega
        have hkb : ∀ g, (Value.slice A4 k4.length cap4).ownBlock = some g → wr.heap.size ≤ g ∧ g < w4.heap.size := fun g hg => by
          refine ⟨by have := hfar g hg; simp at this; omega, ?_⟩
          obtain ⟨l5, m5, hl5, _⟩ := hlast.out
          have h0 : 0 < k4.length := by rw [hl5]; simp
          obtain ⟨b', o', e', hb', _⟩ := hk4r 0 _ (List.getElem?_eq_getElem h0)
          rw [e'] at hg
          cases hg
          exact hb'
        replace hkb := Lib.hid hkb
        have hvo := Lib.hid (fun g (hg : (Value.slice AL (asks k).length capL).ownBlock = some g) => (hO.lt hg).2)
        clear hk4r hfar
        have hbw4 : Below wr.heap.size wr w4 := Below.trans (by repeat (first | exact Below.refl _ _ | assumption | refine Below.n _ ?_ (by first | omega | (simp; done) | (simp; omega)) | refine Below.alloc ?_ (by first | omega | (simp; done) | (simp; omega)) _ | refine Below.setCell ?_ (by first | omega | (simp; done) | (simp; omega)) _ | refine Below.drew ?_ | refine Below.setRow ?_ (by first | omega | (simp; done) | (simp; omega)) _ | refine Below.drewN ?_ _)) (hb4.mono (by first | (simp; done) | (simp; omega)))
        have A4' := (Blk.new wr 39 #[.int .i64 rule, .int .i64 day, .int .i64 ver]).below hb4 (by simp)
        go_upto_region 9 with fail
        obtain ⟨W4, hW4⟩ : ∃ W4, W4 = ((((((((w4.alloc (.cells (maskA fun _ => 0) 28)).alloc (.cells #[.slice none 0 0, .int .i64 0] 24)).alloc (.cells #[.int .i64 0, .int .i64 0] 31)).setRow w4.heap.size (maskA (m))).setCell ⟨w4.heap.size + 1, 0, none⟩ (.slice A4 k4.length cap4)).setCell ⟨w4.heap.size + 1, 1, none⟩ (.int .i64 rt)).setCell ⟨w4.heap.size + 1 + 1, 0, none⟩ (.int .i64 0)).setCell ⟨w4.heap.size + 1 + 1, 1, none⟩ (.int .i64 0)) := ⟨_, rfl⟩
        rw [← hW4]
        obtain ⟨M4, K4, F4, hb5, y5⟩ := got_store (m) (.slice A4 k4.length cap4) (rt) 0 0 W4 hW4
        replace hW4 := Lib.hid hW4
        have z4 := hbw4.size
        have hbR : Below wr.heap.size wr W4 := hbw4.trans (hb5.mono z4)
        have zR := hbR.size
        replace A4' := A4'.below hb5 A4'.lt
        replace hB := hB.below hbR zc
        have hgm : gc < w4.heap.size := by omega
        have hOR := Lib.hid (hO.below hbR (Nat.le_refl _))
        generalize w4.heap.size = g4 at *
        generalize wr.heap.size = ga at *
        have p2 := F4.cell 0
        have p3 := F4.cell 1
        have p4 := K4.cell 0
        have p5 := K4.cell 1
        have p6 := hB.cell 0
        have p7 := hB.cell 1
        simp only [List.getElem?_toArray, List.getElem?_cons_zero, List.getElem?_cons_succ] at p2 p3 p4 p5 p6 p7
        have q0 := hB.frozen 0
        have q1 := hB.frozen 1
        clear d0 d1 e0 e1 e2 hW4
        have hLk : (asks k).length ≤ 64 := by unfold asks; rw [List.length_map]; exact hm.out.1.2
        have hgW : gc + 1 ≤ W4.heap.size := by omega
        go_upto_block 2 with fail
        go_cut [6, 12, 39, 40] (fun s6 s12 s39 s40 wx => Searched W4 (gc + 1) (.slice AL (asks k).length capL) (asks k) rule day ver s6 s12 wx)
        case first =>
          generalize asks k = L at *
          clear hac hl' hlr hG hk hm
          go_wp2_with fail
          go_loopg [6, 12, 41] L.length (fun n s6 s12 i wr => ∃ q : Nat, q ≤ L.length ∧ n = L.length - q ∧ s6 = .slice AL L.length capL ∧ s12 = .bool false ∧ i = .int .i64 q ∧ Below W4.heap.size W4 wr ∧ q ≤ placeA L rule day)
          case atStart => exact ⟨0, Nat.zero_le _, rfl, rfl, rfl, rfl, Below.refl _ _, Nat.zero_le _⟩
          case round =>
            obtain ⟨q, hq, hnq, rfl, rfl, rfl, hbq, hpl⟩ := hrel
            replace hnq := Lib.hid hnq
            have zq := hbq.size
            have hOq := hOR.out.below hbq (Nat.le_refl _)
            have hAq := A4'.below hbq A4'.lt
            have v0 := hAq.cell 0
            have v1 := hAq.cell 1
            have v2 := hAq.cell 2
            have zA := hAq.lt
            simp only [List.getElem?_toArray, List.getElem?_cons_zero, List.getElem?_cons_succ] at v0 v1 v2
            by_cases hlq : q < L.length
            · obtain ⟨x, hx⟩ : ∃ x, L[q]? = some x := ⟨_, List.getElem?_eq_getElem hlq⟩
              obtain ⟨g6, o6, cap6, e6, hcap6, hb6, hlt6, y0, y1, y2⟩ := hOq.cells hx
              cases e6
              have hpa := placeA_at (rule := rule) (day := day) hx hpl
              by_cases hm1 : x.1 = rule ∧ x.2.1 = day
              · have hpq : placeA L rule day = q := hpa.1 (by simp [hm1])
                have hhad := Lib.hid (show hadA L rule day ver = decide (x.2.2 = ver) by unfold hadA; rw [hpq, hx])
                have k1 : (x.1 == rule) = true := by simp [hm1]
                have k2 : (x.2.1 == day) = true := by simp [hm1]
                have k3 : (x.2.2 == ver) = decide (x.2.2 = ver) := by rw [Bool.eq_iff_iff]; simp
                replace hpq := Lib.hid hpq
                clear hpa hm1 hx
                have hL64 : L.length ≤ 64 := hLk
                obtain ⟨cur6, B6, hcur⟩ := hOq.blk
                have hsl1 := askL_take L q
                have hsl2 := askL_drop L (q + 1)
                have n0l : ((L.take q).flatMap askL).length = q * 3 := by rw [askL_flat, List.length_take, Nat.min_eq_left (by omega)]
                have n1l : ((L.drop (q + 1)).flatMap askL).length = (L.length - (q + 1)) * 3 := by rw [askL_flat, List.length_drop]
                have hf0 : ∀ (V : World), Blk V g6 39 cur6 → ∀ j u, ((L.take q).flatMap askL)[j]? = some u → V.cell? ((⟨g6, o6, none⟩ : Addr).add j) = some u := fun V hV j u hu => by
                  rw [Addr.add_lit, hV.cell]
                  rw [hsl1, List.getElem?_take] at hu
                  split at hu
                  · exact hcur j u hu
                  · cases hu
                have hf1 : ∀ (V : World), Blk V g6 39 cur6 → ∀ j u, ((L.drop (q + 1)).flatMap askL)[j]? = some u → V.cell? ((⟨g6, o6 + (q + 1) * 3, none⟩ : Addr).add j) = some u := fun V hV j u hu => by
                  rw [Addr.add_lit, hV.cell]
                  rw [hsl2, List.getElem?_drop] at hu
                  have := hcur _ u hu
                  rwa [show o6 + (q + 1) * 3 + j = o6 + ((q + 1) * 3 + j) by omega]
                have herase : (L.take q).flatMap askL ++ (L.drop (q + 1)).flatMap askL = (L.eraseIdx q).flatMap askL := by rw [List.eraseIdx_eq_take_drop_succ, List.flatMap_append]
                have hel : q + (L.length - (q + 1)) = (L.eraseIdx q).length := by rw [List.length_eraseIdx, if_pos hlq]; omega
                go_upto_region 16 with fail
                obtain ⟨V0, hV0⟩ : ∃ V0, V0 = wr.alloc (.cells #[.int .i64 x.1, .int .i64 x.2.1, .int .i64 x.2.2] 39) := ⟨_, rfl⟩
                have hbV : Below W4.heap.size W4 V0 := by rw [hV0]; exact hbq.alloc zq _
                have B6V : Blk V0 g6 39 cur6 := by rw [hV0]; exact B6.alloc _
                rw [← hV0]
                replace hV0 := Lib.hid hV0
                have zV := hbV.size
                have hg6V := B6V.lt
                have B6W : Blk (V0.drew.alloc (.cells #[] 39)) g6 39 cur6 := Blk.alloc (show Blk V0.drew g6 _ _ from B6V) _
                have own0 := Lib.hid (show (V0.drew.alloc (.cells #[] 39)).ownsRow V0.heap.size 39 3 (.slice (some ⟨V0.heap.size, 0, none⟩) 0 0) 0 [] from World.ownsRow_lit V0.drew #[] 0 (Nat.le_refl _) (by simp) (by simp))
                have h00 := Lib.hid (hf0 _ B6W)
                have h10 := Lib.hid (askL_one (L.take q))
                have h11 := Lib.hid (askL_one (L.drop (q + 1)))
                have hq5 : 0 + q ≤ 100000 := by omega
                have hbs0 : V0.heap.size ≤ (V0.drew.alloc (.cells #[] 39)).heap.size := by rw [World.size_alloc]; exact Nat.le_succ _
                have hBf : ∀ (wa : World), (V0.drew.alloc (.cells #[] 39)).grownBy wa (some V0.heap.size) → Blk wa g6 39 cur6 := fun wa hga => blk_off B6W hga (by simp; omega)
                have hendf := Lib.hid (fun (Aa : Option Addr) (ca m1 : Nat) (news : List Value) (vb : Value) (wa wb : World) (hnw : (L.take q).flatMap askL ++ news = (L.eraseIdx q).flatMap askL) (hm1 : q + m1 = (L.eraseIdx q).length) (hoa : wa.ownsRow V0.heap.size 39 3 (.slice Aa q ca) q ((L.take q).flatMap askL)) (hga : (V0.drew.alloc (.cells #[] 39)).grownBy wa (some V0.heap.size)) (hob : wb.ownsRow V0.heap.size 39 3 vb (q + m1) ((L.take q).flatMap askL ++ news)) (hgb : wa.grownBy wb (Value.slice Aa q ca).ownBlock) =>
                  show Below W4.heap.size W4 wb ∧ OffA wb (gc + 1) vb (L.eraseIdx q) ∧ ∀ g, vb.ownBlock = some g → W4.heap.size ≤ g from by
                    have hb1 : Below V0.heap.size V0 wa := ((Below.refl _ _).drew.alloc (Nat.le_refl _) _).trans (own_below hbs0 own0.out hga)
                    have hb2 : Below V0.heap.size wa wb := own_below (Nat.le_trans hbs0 hga.size) hoa hgb
                    refine ⟨hbV.trans ((hb1.trans hb2).mono zV), ?_, fun g hg => Nat.le_trans zV (hob.lt g hg).1⟩
                    rw [hnw, hm1] at hob
                    exact (OffA.of_own hob).mono (by omega))
                replace n0l := Lib.hid n0l
                replace n1l := Lib.hid n1l
                replace hf0 := Lib.hid hf0
                replace hcur := Lib.hid hcur
                replace herase := Lib.hid herase
                replace hel := Lib.hid hel
                replace hsl1 := Lib.hid hsl1
                replace hsl2 := Lib.hid hsl2
                have hqL : (q : Int) ≤ (L.length : Int) := by omega
                have hqc : (q : Int) ≤ (capL : Int) := by omega
                have hq0 : (0 : Int) ≤ (q : Int) := by omega
                have hq1L : (q : Int) + 1 ≤ (L.length : Int) := by omega
                have hq1c : (L.length : Int) ≤ (capL : Int) := by omega
                have hq10 : (0 : Int) ≤ (q : Int) + 1 := by omega
                have htn : ((q : Int) + 1).toNat = q + 1 := by omega
                have hqq : (q : Int) ≤ (q : Int) + 1 := by omega
                by_cases hcap : capL = q + 1
                · subst hcap
                  have hLq : L.length = q + 1 := by omega
                  have hnw := Lib.hid (show (L.take q).flatMap askL ++ [] = (L.eraseIdx q).flatMap askL from by rw [← herase.out, show L.drop (q + 1) = [] from List.drop_eq_nil_of_le (by omega)]; simp)
                  have hm1 := Lib.hid (show q + 0 = (L.eraseIdx q).length from by rw [← hel.out, hLq]; omega)
                  have hq6 : q + 0 ≤ 100000 := by omega
                  have h1n : ∀ u ∈ ([] : List Value), u.oneCell' = true := fun u hu => by simp at hu
                  replace h1n := Lib.hid h1n
                  have h01 := Lib.hid (fun (wa : World) (hga : (V0.drew.alloc (.cells #[] 39)).grownBy wa (some V0.heap.size)) => show ∀ j u, (([] : List Value))[j]? = some u → wa.cell? ((⟨g6, o6, none⟩ : Addr).add j) = some u from fun j u hu => by simp at hu)
                  replace hBf := Lib.hid hBf
                  replace hf1 := Lib.hid hf1
                  have q5 : IntKind.i64.wrap ((q : Int) + 1) = (q : Int) + 1 := IntWalk.i64_in _ ⟨by omega, by omega⟩
                  go_region_law (first
                    | (refine step_asks own0.out ⟨g6, o6, none⟩ q _ ((L.take q).flatMap askL) n0l.out h00.out h10.out hq5 hbs0 rfl _ _ rfl rfl rfl ?_; intro va wa hoa hga; simp only [Nat.zero_add, List.nil_append] at hoa; obtain ⟨Aa, ca, rfl⟩ := own_slice hoa; have hca := h01.out wa hga; have hza := Nat.le_trans hbs0 hga.size; replace hoa := Lib.hid hoa; replace hga := Lib.hid hga)
                    | (refine step_asks hoa.out ⟨g6, o6, none⟩ 0 _ (([] : List Value)) rfl hca h1n.out hq6 hza rfl _ _ rfl rfl rfl ?_; intro vb wb hob hgb; have hend := hendf.out _ _ _ _ vb wa wb hnw.out hm1.out hoa.out hga.out hob hgb; obtain ⟨Ab, cb, rfl⟩ := own_slice hob; replace hend := Lib.hid hend; clear hob hgb))
                  all_goals
                    clear q5
                    go_wp2_with fail
                    go_meet
                    exact ⟨congrArg _ hhad.out.symm, hend.out.1, by rw [hpq.out]; exact hend.out.2.1, fun g hg => .inr (hend.out.2.2 g hg)⟩
                · have hnw := Lib.hid herase.out
                  have hm1 := Lib.hid hel.out
                  have hq6 : q + (L.length - (q + 1)) ≤ 100000 := by omega
                  have hcl : q + 1 < capL := by omega
                  have h01 := Lib.hid (fun (wa : World) (hga : (V0.drew.alloc (.cells #[] 39)).grownBy wa (some V0.heap.size)) => show ∀ j u, ((L.drop (q + 1)).flatMap askL)[j]? = some u → wa.cell? ((⟨g6, o6 + (q + 1) * 3, none⟩ : Addr).add j) = some u from hf1 wa (hBf wa hga))
                  replace hBf := Lib.hid hBf
                  replace hf1 := Lib.hid hf1
                  have q5 : IntKind.i64.wrap ((q : Int) + 1) = (q : Int) + 1 := IntWalk.i64_in _ ⟨by omega, by omega⟩
                  go_region_law (first
                    | (refine step_asks own0.out ⟨g6, o6, none⟩ q _ ((L.take q).flatMap askL) n0l.out h00.out h10.out hq5 hbs0 rfl _ _ rfl rfl rfl ?_; intro va wa hoa hga; simp only [Nat.zero_add, List.nil_append] at hoa; obtain ⟨Aa, ca, rfl⟩ := own_slice hoa; have hca := h01.out wa hga; have hza := Nat.le_trans hbs0 hga.size; replace hoa := Lib.hid hoa; replace hga := Lib.hid hga)
                    | (refine step_asks hoa.out ⟨g6, o6 + (q + 1) * 3, none⟩ (L.length - (q + 1)) _ ((L.drop (q + 1)).flatMap askL) n1l.out hca h11.out hq6 hza rfl _ _ rfl rfl rfl ?_; intro vb wb hob hgb; have hend := hendf.out _ _ _ _ vb wa wb hnw.out hm1.out hoa.out hga.out hob hgb; obtain ⟨Ab, cb, rfl⟩ := own_slice hob; replace hend := Lib.hid hend; clear hob hgb))
                  all_goals
                    clear q5
                    go_wp2_with fail
                    go_meet
                    exact ⟨congrArg _ hhad.out.symm, hend.out.1, by rw [hpq.out]; exact hend.out.2.1, fun g hg => .inr (hend.out.2.2 g hg)⟩
              · have hp1 : q + 1 ≤ placeA L rule day := by
                  rcases Nat.lt_or_ge q (placeA L rule day) with h | h
                  · exact h
                  · have := hpa.2 (by omega)
                    simp at this
                    exact absurd this hm1
                clear hpa hx
                by_cases k1 : x.1 = rule
                · have k1' : (x.1 == rule) = true := by simpa using k1
                  have k2' : (x.2.1 == day) = false := by simp; exact fun h => hm1 ⟨k1, h⟩
                  clear hm1 k1
                  go_wp2_with fail
                  go_roundg (L.length - (q + 1))
                  case measure => rw [hnq.out]; omega
                  case rel => exact ⟨q + 1, by omega, rfl, rfl, rfl, by go_num, (by repeat (first | exact Below.refl _ _ | assumption | refine Below.n _ ?_ (by first | omega | (simp; done) | (simp; omega)) | refine Below.alloc ?_ (by first | omega | (simp; done) | (simp; omega)) _ | refine Below.setCell ?_ (by first | omega | (simp; done) | (simp; omega)) _ | refine Below.drew ?_ | refine Below.setRow ?_ (by first | omega | (simp; done) | (simp; omega)) _ | refine Below.drewN ?_ _)), hp1⟩
                · have k1' : (x.1 == rule) = false := by simpa using k1
                  clear hm1 k1
                  go_wp2_with fail
                  go_roundg (L.length - (q + 1))
                  case measure => rw [hnq.out]; omega
                  case rel => exact ⟨q + 1, by omega, rfl, rfl, rfl, by go_num, (by repeat (first | exact Below.refl _ _ | assumption | refine Below.n _ ?_ (by first | omega | (simp; done) | (simp; omega)) | refine Below.alloc ?_ (by first | omega | (simp; done) | (simp; omega)) _ | refine Below.setCell ?_ (by first | omega | (simp; done) | (simp; omega)) _ | refine Below.drew ?_ | refine Below.setRow ?_ (by first | omega | (simp; done) | (simp; omega)) _ | refine Below.drewN ?_ _)), hp1⟩
            · obtain rfl : q = L.length := by omega
              have hpe : placeA L rule day = L.length := by
                have : placeA L rule day ≤ L.length := List.findIdx_le_length
                omega
              have hhad := Lib.hid (show hadA L rule day ver = false by unfold hadA; rw [hpe, List.getElem?_eq_none (Nat.le_refl _)])
              have her := Lib.hid (show L.eraseIdx (placeA L rule day) = L from by rw [hpe]; exact List.eraseIdx_of_length_le (Nat.le_refl _))
              replace hpe := Lib.hid hpe
              go_wp2_with fail
              go_meet
              exact ⟨congrArg _ hhad.out.symm, hbq, by rw [her.out]; exact hOq, fun g hg => .inl hg⟩
        case rest =>
          obtain ⟨rfl, hbx, hOx, hnx⟩ := hcut
          have hH : hadA (asks k) rule day ver = (rt == runs) := by
            rw [had_asks, hrt2.out]
            unfold runsThen
            cases hit k rule day ver with
            | true => simp
            | false =>
              rw [show wrap64 (runs + 1) = runs + 1 by unfold wrap64; omega]
              simp
              omega
          have haft := asks_after hm.out.1 rule day ver m
          rw [← hk4.out] at haft
          have hLe : ((asks k).eraseIdx (placeA (asks k) rule day)).length ≤ 64 := by
            have := List.length_eraseIdx_le (asks k) (placeA (asks k) rule day)
            omega
          unfold afterA at haft
          generalize (asks k).eraseIdx (placeA (asks k) rule day) = L1 at *
          rw [hH]
          replace hH := Lib.hid hH
          replace haft := Lib.hid haft
          obtain ⟨AX, capX, rfl⟩ := hOx.slice
          have zx := hbx.size
          have hAx := A4'.below hbx A4'.lt
          have hKx := K4.below hbx K4.lt
          have hBx := hB.below hbx hB.lt
          have x0 := hAx.cell 0
          have x1 := hAx.cell 1
          have x2 := hAx.cell 2
          have x3 := hKx.cell 0
          have x4 := hKx.cell 1
          have x5 := hBx.cell 0
          have x6 := hBx.cell 1
          simp only [List.getElem?_toArray, List.getElem?_cons_zero, List.getElem?_cons_succ] at x0 x1 x2 x3 x4 x5 x6
          have x7 := hBx.frozen 0
          have x8 := hBx.frozen 1
          have yg := hBx.lt
          have ya := hAx.lt
          have yk := hKx.lt
          clear p2 p3 p4 p5 p6 p7 q0 q1
          replace hOx := Lib.hid hOx
          replace hnx := Lib.hid hnx
          have hgx : gc + 1 ≤ wc.heap.size := by omega
          have hLm : L1.length < 1000000 := by omega
          obtain ⟨L2, hL2⟩ : ∃ L2, L2 = L1 ++ [((rule, day, ver) : Ask)] := ⟨_, rfl⟩
          have hL2l : L2.length = L1.length + 1 := by rw [hL2]; simp
          have hL2p : 0 < L2.length := by omega
          have hL2m : L2.length ≤ 65 := by omega
          have hgcw := Lib.hid (show w.heap.size ≤ gc by omega)
          have hap2 := Lib.hid (fun (v5 : Value) (hn5 : ∀ b, v5.ownBlock = some b → (Value.slice AX L1.length capX).ownBlock = some b ∨ wc.heap.size < b) => show ∀ b, v5.ownBlock = some b → (Value.slice A4 k4.length cap4).ownBlock ≠ some b from fun b hb e => by
            have h1 := hkb.out b e
            rcases hn5 b hb with h2 | h2
            · rcases hnx.out b h2 with h3 | h3
              · have := hvo.out b h3; omega
              · omega
            · omega)
          have hendf := Lib.hid (fun (v5 : Value) (w5 : World) (hg5 : (wc.alloc (.cells #[.int .i64 rule, .int .i64 day, .int .i64 ver] 39)).grownBy w5 (Value.slice AX L1.length capX).ownBlock) (hn5 : ∀ b, v5.ownBlock = some b → (Value.slice AX L1.length capX).ownBlock = some b ∨ wc.heap.size < b) =>
            show w5.cell? ⟨g4 + 1, 0, none⟩ = some (.slice A4 k4.length cap4) ∧ w5.cell? ⟨g4 + 1, 1, none⟩ = some (.int .i64 rt) ∧ w5.frozen? ⟨gc, 0, none⟩ = false ∧ w5.frozen? ⟨gc, 1, none⟩ = false ∧ w5.cell? ⟨gc, 0, none⟩ = some (.slice A k.length cap) ∧ w5.cell? ⟨gc, 1, none⟩ = some (.int .i64 runs) ∧ Hid (Blk w5 gc 24 #[.slice A k.length cap, .int .i64 runs] ∧ KeptV w5 w5.heap.size (.slice A4 k4.length cap4) k4 ∧ Below w.heap.size w w5 ∧ ∀ b, v5.ownBlock = some b → (Value.slice A4 k4.length cap4).ownBlock ≠ some b) from by
              have hne : ∀ r, (Value.slice AX L1.length capX).ownBlock = some r → gc + 1 ≤ r := fun r hr => (hOx.out.lt hr).1
              have hB5 := blk_off (hBx.alloc (.cells #[.int .i64 rule, .int .i64 day, .int .i64 ver] 39)) hg5 (fun e => by have := hne gc e; omega)
              have hK5 := blk_off (hKx.alloc (.cells #[.int .i64 rule, .int .i64 day, .int .i64 ver] 39)) hg5 (fun e => by
                rcases hnx.out _ e with h3 | h3
                · have := hvo.out _ h3; omega
                · omega)
              have hkx := (hk4v.out.below hb5 (Nat.le_refl _) (by omega : _ ≤ W4.heap.size)).below hbx (Nat.le_refl _) zx
              have hk5 := (KeptV.grown (hkx.below ((Below.refl wc.heap.size wc).alloc (Nat.le_refl _) (.cells #[.int .i64 rule, .int .i64 day, .int .i64 ver] 39)) (Nat.le_refl _) (by rw [World.size_alloc]; omega)) hg5 (Nat.le_refl _) hg5.size (fun g hg e => by
                rcases hnx.out _ e with h3 | h3
                · have h4 := hvo.out _ h3
                  have := hkb.out g hg
                  omega
                · have := hkb.out g hg
                  omega))
              have hbw5 : Below w.heap.size w w5 := (((hbw.trans (hbR.mono z)).trans (hbx.mono (by omega))).alloc (by omega) _).trans ⟨hg5.os, hg5.tape, hg5.output, hg5.size, fun r hr => hg5.block r (by rw [World.size_alloc]; omega) (fun e => by have := hne r e.symm; omega)⟩
              exact ⟨hK5.cell 0, hK5.cell 1, hB5.frozen 0, hB5.frozen 1, hB5.cell 0, hB5.cell 1, Lib.hid ⟨hB5, hk5, hbw5, hap2.out v5 hn5⟩⟩)
          have haft := Lib.hid (hL2 ▸ haft.out)
          by_cases h64 : 64 < L2.length
          · have hcut := Lib.hid (show asks k4 = L2.drop 1 by rw [haft.out]; unfold cutA; rw [if_pos h64])
            go_wp2_with (at_builtin; refine wp_ask hOx.out (rule, day, ver) rfl (.tmp 81) (.tmp 83) rfl rfl rfl hgx hLm ?_; intro v5 w5 hO5 hg5 hn5; rw [← hL2] at hO5; obtain ⟨g5, o5, cap5, rfl, hcap5⟩ := hO5.nonempty hL2p; obtain ⟨f0, f1, f2, f3, f4, f5, hend⟩ := hendf.out _ w5 hg5 hn5; replace hO5 := Lib.hid hO5; clear hg5 hn5)
            obtain ⟨r0, r1, r2, r3, r4⟩ := stored_all (hO5.out.tail2 hL2l) hend.out hgcw.out hfg (fun b hb => hb) rt
            go_roundg (ask.length - (j + 1))
            case measure => rw [hn.out]; omega
            case rel => exact ⟨j + 1, k4, A4, cap4, rt, _, by omega, rfl, by go_num, r0, r1, r2, hm4.out, by omega, by omega, rfl, by rw [hcut.out]; exact r3, r4⟩
          · have hcut := Lib.hid (show asks k4 = L2 by rw [haft.out]; unfold cutA; rw [if_neg h64])
            go_wp2_with (at_builtin; refine wp_ask hOx.out (rule, day, ver) rfl (.tmp 81) (.tmp 83) rfl rfl rfl hgx hLm ?_; intro v5 w5 hO5 hg5 hn5; rw [← hL2] at hO5; obtain ⟨g5, o5, cap5, rfl, hcap5⟩ := hO5.nonempty hL2p; obtain ⟨f0, f1, f2, f3, f4, f5, hend⟩ := hendf.out _ w5 hg5 hn5; replace hO5 := Lib.hid hO5; clear hg5 hn5)
            obtain ⟨r0, r1, r2, r3, r4⟩ := stored_all hO5.out hend.out hgcw.out hfg (fun b hb => hb) rt
            go_roundg (ask.length - (j + 1))
            case measure => rw [hn.out]; omega
            case rel => exact ⟨j + 1, k4, A4, cap4, rt, _, by omega, rfl, by go_num, r0, r1, r2, hm4.out, by omega, by omega, rfl, by rw [hcut.out]; rw [hL2l] at r3; exact r3, r4⟩
    · obtain rfl : j = ask.length := by omega
      go_wp2
      go_ret
      exact ⟨rfl, hbw⟩

end Kp
end Go.Proofs.Ythdaeddaofickaa
