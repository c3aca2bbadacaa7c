/- The walk of slotlaw9.CacheSize. -/
import Derived.Test.YthdaeddaofickaaKpR
import Derived.Test.YthdaeddaofickaaMap
import Derived.DeepKeys4
namespace Go.Proofs.Ythdaeddaofickaa
open Go.RowKit Go.Maps
namespace Kp
open Msk Sl Vm

/-- a rule and a day as a key -/
def keyV (a b : Int) : Value := .agg #[.int .i64 a, .int .i64 b]
def keyL (a b : Int) : Lit := .string (keyBytes [.int .i64 a, .int .i64 b])
theorem key_keyed : Keyed Try.prog 46 := Keyed.of_law (deep_law_laid (by kernel_rfl) (m := 2) (by omega) (of_decide_eq_true (by kernel_rfl)) (by kernel_rfl) (by kernel_rfl))
theorem keyOf_key {a b : Int} (ha : (Lit.int .i64 a).wf = true) (hb : (Lit.int .i64 b).wf = true) : keyOf Try.prog 46 (keyV a b) = some (keyL a b) := by
  obtain ⟨d, hd⟩ : ∃ d, Try.prog.types.size = d + 1 := ⟨Try.prog.types.size - 1, by kernel_rfl⟩
  have hu := Try.underlying46
  have hi := Try.underlying3
  have hc : Try.prog.cellsOf 46 = 2 := by kernel_rfl
  have hc1 : Try.prog.cellsOf 3 = 1 := by kernel_rfl
  have hk : Try.prog.keyType 46 = true := by kernel_rfl
  have hf : (keyV a b).formed Try.prog 46 = true := by simp [Value.formed, hu, hc, keyV]
  unfold keyOf
  rw [hu]
  simp only [hk, hf, Bool.and_self, if_true]
  simp [hd, Program.keyLits, hu, hi, hc, hc1, keyV, Value.cells, ha, hb, keyL, List.range, List.range.loop]
theorem keyL_inj {a b c d : Int} (ha : (Lit.int .i64 a).wf = true) (hb : (Lit.int .i64 b).wf = true) (hc : (Lit.int .i64 c).wf = true) (hd : (Lit.int .i64 d).wf = true) (h : keyL a b = keyL c d) : a = c ∧ b = d := by
  have := key_keyed.inj (keyOf_key ha hb) (h ▸ keyOf_key hc hd)
  simp [keyV] at this
  exact this

theorem said_bounds {l : List Vm.Code} {rule day : Int} (h : runErr l rule day = (0, 0)) : 0 ≤ rule ∧ rule < 1000 ∧ 0 ≤ day ∧ day < 146097 := by
  unfold runErr at h
  split at h
  · rename_i h1; rw [h] at h1; exact absurd rfl h1
  · split at h
    · cases h
    · split at h
      · cases h
      · rename_i h1 h2 h3
        have := (wrongL_right (by simpa using h1)).few
        omega
theorem wf_small {x : Int} (h : 0 ≤ x) (h2 : x < 1000000) : (Lit.int .i64 x).wf = true := by
  rw [← IntWalk.i64_in x ⟨by omega, by omega⟩]
  exact wf_wrap _ _
/-- the keys that were seen -/
def HadF (S : List (Int × Int)) (F : Lit → Option Value) : Prop := ∀ a b, (Lit.int .i64 a).wf = true → (Lit.int .i64 b).wf = true → F (keyL a b) = if (a, b) ∈ S then some (.bool true) else none
theorem HadF.nil : HadF [] (fun _ => none) := fun _ _ _ _ => rfl
theorem HadF.put {S : List (Int × Int)} {F : Lit → Option Value} (h : HadF S F) {a b : Int} (ha : (Lit.int .i64 a).wf = true) (hb : (Lit.int .i64 b).wf = true) : HadF (S ++ [(a, b)]) (Mp.put F (keyL a b) (.bool true)) := by
  intro c d hc hd
  unfold Mp.put
  cases e : (keyL c d).sameKey (keyL a b) with
  | true =>
    have := WideAt.sameKey_eq e
    obtain ⟨rfl, rfl⟩ := keyL_inj hc hd ha hb this
    simp
  | false =>
    have hne : ¬ ((c, d) = (a, b)) := fun h => by
      cases h
      rw [WideAt.sameKey_self (key_keyed.key (keyOf_key hc hd))] at e
      cases e
    simp only [Bool.false_eq_true, if_false, List.mem_append, List.mem_singleton]
    rw [h c d hc hd]
    simp [hne]

theorem once_new {k : List Kept} (h : (k.map key).Nodup) {q : Nat} {x : Kept} (hx : k[q]? = some x) : (x.rule, x.day) ∉ (k.take q).map key := by
  intro hm
  obtain ⟨y, hy, e⟩ := List.mem_map.1 hm
  obtain ⟨i, hi⟩ := List.getElem?_of_mem hy
  have hiq : i < q := by
    have := (List.getElem?_eq_some_iff.1 hi).1
    rw [List.length_take] at this
    omega
  rw [List.getElem?_take, if_pos hiq] at hi
  have h1 : (k.map key)[i]? = some (key y) := by rw [List.getElem?_map, hi]; rfl
  have h2 : (k.map key)[q]? = some (key y) := by rw [List.getElem?_map, hx, e]; rfl
  have := (List.getElem?_inj (by rw [List.length_map]; exact (List.getElem?_eq_some_iff.1 hi).1) h).1 (h1.trans h2.symm)
  omega
theorem take_key {k : List Kept} {q : Nat} {x : Kept} (hx : k[q]? = some x) : (k.take (q + 1)).map key = (k.take q).map key ++ [(x.rule, x.day)] := by
  obtain ⟨hi, rfl⟩ := List.getElem?_eq_some_iff.1 hx
  rw [List.take_succ_eq_append_getElem hi, List.map_append]
  rfl
/-- so far no rule's day was met twice -/
def Looking (W9 : World) (k4 : List Kept) (n : Nat) (i : Value) (wr : World) : Prop :=
  ∃ (q c : Nat) (F : Lit → Option Value), q ≤ k4.length ∧ n = k4.length - q ∧ i = .int .i64 q ∧ Below W9.heap.size W9 wr ∧ Mp.Is wr Try.prog 46 W9.heap.size q c F ∧ HadF ((k4.take q).map key) F

theorem zero_bool (w : World) : (zeroValue 4).run Try.prog w = .ok (.bool false) w := by kernel_rfl
theorem had_look {w : World} {mb n c : Nat} {F : Lit → Option Value} {S : List (Int × Int)} (hM : Mp.Is w Try.prog 46 mb n c F) (hF : HadF S F) {a b : Int} (ha : (Lit.int .i64 a).wf = true) (hb : (Lit.int .i64 b).wf = true) (hn : (a, b) ∉ S) :
    (Instr.lookup 43 (.map (some mb)) (.agg #[.int .i64 a, .int .i64 b]) false).run Try.prog w = .ok (.bool false) w := by
  have := hM.look key_keyed Try.underlying43 (zero_bool w) (keyOf_key ha hb)
  rw [hF a b ha hb, if_neg hn] at this
  exact this
theorem had_store {w : World} {mb n c : Nat} {F : Lit → Option Value} {S : List (Int × Int)} (hM : Mp.Is w Try.prog 46 mb n c F) (hF : HadF S F) {a b : Int} (ha : (Lit.int .i64 a).wf = true) (hb : (Lit.int .i64 b).wf = true) (hn : n < 1000000) :
    ∃ w', (Instr.mapUpdate 43 (.map (some mb)) (.agg #[.int .i64 a, .int .i64 b]) (.bool true)).run Try.prog w = .ok () w' ∧ (∃ c' F', Mp.Is w' Try.prog 46 mb (n + 1) c' F' ∧ HadF (S ++ [(a, b)]) F') ∧ w.grownBy w' (some mb) := by
  obtain ⟨w', hr, hI, hg⟩ := hM.store (val := .bool true) key_keyed Try.underlying43 (by simp only [maxLen]; omega) (keyOf_key ha hb)
  exact ⟨w', hr, ⟨_, _, hI, hF.put ha hb⟩, hg⟩

set_option maxRecDepth 100000 in
set_option maxHeartbeats 4000000 in
theorem CacheSize_true (codeV askV : Value) (l : List Vm.Code) (asks : List Ask) (w : World) (hl : CodesV w w.heap.size codeV l) (ha : AsksV w w.heap.size askV asks) :
    Calls Try.prog 6 #[codeV, askV] w fun e w' => e = .returned (.bool true) ∧ Below w.heap.size w w' := by
  obtain ⟨B, bcap, rfl, hlen, hac⟩ := ha
  replace hac := Lib.hid hac
  have hl' := Lib.hid hl
  clear hl
  go_enter Try.func6, Try.ntmps6
  go_wp2_with (go_at_call 12; refine (alive9 _).mono ?_; rintro e w1 ⟨rfl, hb1⟩)
  have z1 := hb1.size
  go_loopg [19] asks.length (fun n i wr => Going w w1.heap.size l asks n i wr)
  case atStart => exact ⟨0, [], none, 0, 0, Nat.zero_le _, rfl, rfl, hb1.alloc z1 _, Blk.new _ _ _, ⟨none, 0, rfl, by simp, fun i x hx => by simp at hx⟩, Made.nil l, by omega, by omega⟩
  case round =>
    obtain ⟨j, k, A, cap, runs, hj, hn, rfl, hbw, hB, hk, hm, hr0, hr1⟩ := hrel
    replace hn := Lib.hid hn
    have z := hbw.size
    have zc := hB.lt
    have d0 := hB.cell 0
    have d1 := hB.cell 1
    simp only [List.getElem?_toArray, List.getElem?_cons_zero, List.getElem?_cons_succ] at d0 d1
    by_cases hlt : j < asks.length
    · obtain ⟨⟨rule, day, ver⟩, hx⟩ : ∃ x, asks[j]? = some x := ⟨_, List.getElem?_eq_getElem hlt⟩
      obtain ⟨b, o, rfl, hbl, c0, c1, c2⟩ := hac.out j _ hx
      have e0 : wr.cell? ⟨b, o + j * 3, none⟩ = some (.int .i64 rule) := (hbw.cell (p := ⟨b, _, none⟩) hbl).trans c0
      have e1 : wr.cell? ⟨b, o + j * 3 + 1, none⟩ = some (.int .i64 day) := (hbw.cell (p := ⟨b, _, none⟩) hbl).trans c1
      have e2 : wr.cell? ⟨b, o + j * 3 + 2, none⟩ = some (.int .i64 ver) := (hbw.cell (p := ⟨b, _, none⟩) hbl).trans c2
      clear hx c0 c1 c2
      generalize w1.heap.size = gc at *
      have hlr := Lib.hid (hl'.out.below hbw (Nat.le_refl _) z)
      rcases run_fun codeV l rule day with ⟨h1, _⟩ | ⟨h1, _, p, c, h2, _, _, _⟩
      · have hG := Lib.hid (fun (W : World) (hW : Below wr.heap.size wr W) => Get_bad (.slice A k.length cap) codeV k l runs ver rule day W (hk.below hW (Nat.le_refl _) hW.size) hm (hlr.out.below hW (Nat.le_refl _) hW.size) h1)
        generalize (runErr l rule day).1 = ea at *
        generalize (runErr l rule day).2 = eb at *
        have g1 : (ea != 0) = true := by simpa using h1
        go_wp2_with fail
        refine (hG.out _ (by repeat (first | exact Below.refl _ _ | assumption | refine Below.n _ ?_ (by first | omega | (simp; done) | (simp; omega)) | refine Below.alloc ?_ (by first | omega | (simp; done) | (simp; omega)) _ | refine Below.setCell ?_ (by first | omega | (simp; done) | (simp; omega)) _ | refine Below.drew ?_ | refine Below.setRow ?_ (by first | omega | (simp; done) | (simp; omega)) _ | refine Below.drewN ?_ _))).mono ?_
        rintro e w4 ⟨rfl, hb4⟩
        have hbw4 : Below wr.heap.size wr w4 := Below.trans (by repeat (first | exact Below.refl _ _ | assumption | refine Below.n _ ?_ (by first | omega | (simp; done) | (simp; omega)) | refine Below.alloc ?_ (by first | omega | (simp; done) | (simp; omega)) _ | refine Below.setCell ?_ (by first | omega | (simp; done) | (simp; omega)) _ | refine Below.drew ?_ | refine Below.setRow ?_ (by first | omega | (simp; done) | (simp; omega)) _ | refine Below.drewN ?_ _)) (hb4.mono (by first | (simp; done) | (simp; omega)))
        have A4' := (Blk.new wr 39 #[.int .i64 rule, .int .i64 day, .int .i64 ver]).below hb4 (by simp)
        go_upto_region 8 with fail
        obtain ⟨W4, hW4⟩ : ∃ W4, W4 = ((((((((w4.alloc (.cells (maskA fun _ => 0) 28)).alloc (.cells #[.slice none 0 0, .int .i64 0] 24)).alloc (.cells #[.int .i64 0, .int .i64 0] 31)).setRow w4.heap.size (maskA (fun _ => 0))).setCell ⟨w4.heap.size + 1, 0, none⟩ (.slice none 0 0)).setCell ⟨w4.heap.size + 1, 1, none⟩ (.int .i64 0)).setCell ⟨w4.heap.size + 1 + 1, 0, none⟩ (.int .i64 ea)).setCell ⟨w4.heap.size + 1 + 1, 1, none⟩ (.int .i64 eb)) := ⟨_, rfl⟩
        rw [← hW4]
        obtain ⟨M4, K4, F4, hb5, y5⟩ := got_store (fun _ => 0) (.slice none 0 0) (0) ea eb W4 hW4
        replace hW4 := Lib.hid hW4
        have z4 := hbw4.size
        have hbR : Below wr.heap.size wr W4 := hbw4.trans (hb5.mono z4)
        have zR := hbR.size
        replace A4' := A4'.below hb5 A4'.lt
        replace hB := hB.below hbR zc
        have hgm : gc < w4.heap.size := by omega
        generalize w4.heap.size = g4 at *
        generalize wr.heap.size = ga at *
        have p2 := F4.cell 0
        have p3 := F4.cell 1
        have p4 := K4.cell 0
        have p5 := K4.cell 1
        have p6 := hB.cell 0
        have p7 := hB.cell 1
        simp only [List.getElem?_toArray, List.getElem?_cons_zero, List.getElem?_cons_succ] at p2 p3 p4 p5 p6 p7
        have q0 := hB.frozen 0
        have q1 := hB.frozen 1
        clear d0 d1 e0 e1 e2 hW4
        go_wp2_with fail
        go_roundg (asks.length - (j + 1))
        case measure => rw [hn.out]; omega
        case rel => exact ⟨j + 1, k, A, cap, runs, by omega, rfl, by go_num, hbw.trans (hbR.mono z), hB, hk.below hbR (Nat.le_refl _) (by omega), hm, hr0, by omega⟩
      · have hr63 : runs + 1 ≤ 9223372036854775807 := by omega
        have hG := Lib.hid (fun (W : World) (hW : Below wr.heap.size wr W) => Get_good (.slice A k.length cap) codeV k l runs ver rule day W (hk.below hW (Nat.le_refl _) hW.size) hm (hlr.out.below hW (Nat.le_refl _) hW.size) h1 p c h2)
        have hm4 := hm.after h1 h2 ver
        have hrt : runs ≤ runsThen k runs rule day ver ∧ runsThen k runs rule day ver ≤ runs + 1 := by
          unfold runsThen
          split
          · omega
          · rw [show wrap64 (runs + 1) = runs + 1 by unfold wrap64; omega]; omega
        obtain ⟨rt, hrt2⟩ : ∃ rt, rt = runsThen k runs rule day ver := ⟨_, rfl⟩
        rw [← hrt2] at hrt hG
        have hlast := after_last k rule day ver (setW p)
        obtain ⟨k4, hk4⟩ : ∃ k4, k4 = after k rule day ver (setW p) := ⟨_, rfl⟩
        rw [← hk4] at hm4 hG hlast
        have hlen4 := hm4.1.2
        generalize setW p = m at *
        replace hrt2 := Lib.hid hrt2
        replace hk4 := Lib.hid hk4
        replace h1 := Lib.hid h1
        replace hm4 := Lib.hid hm4
        replace hm := Lib.hid hm
        replace hlast := Lib.hid hlast
        obtain ⟨hrt0, hrt1⟩ := hrt
        go_wp2_with fail
        refine (hG.out _ (by repeat (first | exact Below.refl _ _ | assumption | refine Below.n _ ?_ (by first | omega | (simp; done) | (simp; omega)) | refine Below.alloc ?_ (by first | omega | (simp; done) | (simp; omega)) _ | refine Below.setCell ?_ (by first | omega | (simp; done) | (simp; omega)) _ | refine Below.drew ?_ | refine Below.setRow ?_ (by first | omega | (simp; done) | (simp; omega)) _ | refine Below.drewN ?_ _))).mono ?_
        rintro e w4 ⟨v4, rfl, hb4, hk4v, hfar⟩
        obtain ⟨A4, cap4, rfl, hk4l, hk4r⟩ := hk4v
        have hk4v := Lib.hid (show KeptV w4 w4.heap.size (.slice A4 k4.length cap4) k4 from ⟨A4, cap4, rfl, hk4l, hk4r⟩)
        have hfg : (Value.slice A4 k4.length cap4).ownBlock ≠ some gc := fun e => by have := hfar gc e; simp at this; omega
        clear hk4r hfar
        have hbw4 : Below wr.heap.size wr w4 := Below.trans (by repeat (first | exact Below.refl _ _ | assumption | refine Below.n _ ?_ (by first | omega | (simp; done) | (simp; omega)) | refine Below.alloc ?_ (by first | omega | (simp; done) | (simp; omega)) _ | refine Below.setCell ?_ (by first | omega | (simp; done) | (simp; omega)) _ | refine Below.drew ?_ | refine Below.setRow ?_ (by first | omega | (simp; done) | (simp; omega)) _ | refine Below.drewN ?_ _)) (hb4.mono (by first | (simp; done) | (simp; omega)))
        have A4' := (Blk.new wr 39 #[.int .i64 rule, .int .i64 day, .int .i64 ver]).below hb4 (by simp)
        go_upto_region 8 with fail
        obtain ⟨W4, hW4⟩ : ∃ W4, W4 = ((((((((w4.alloc (.cells (maskA fun _ => 0) 28)).alloc (.cells #[.slice none 0 0, .int .i64 0] 24)).alloc (.cells #[.int .i64 0, .int .i64 0] 31)).setRow w4.heap.size (maskA (m))).setCell ⟨w4.heap.size + 1, 0, none⟩ (.slice A4 k4.length cap4)).setCell ⟨w4.heap.size + 1, 1, none⟩ (.int .i64 rt)).setCell ⟨w4.heap.size + 1 + 1, 0, none⟩ (.int .i64 0)).setCell ⟨w4.heap.size + 1 + 1, 1, none⟩ (.int .i64 0)) := ⟨_, rfl⟩
        rw [← hW4]
        obtain ⟨M4, K4, F4, hb5, y5⟩ := got_store (m) (.slice A4 k4.length cap4) (rt) 0 0 W4 hW4
        replace hW4 := Lib.hid hW4
        have z4 := hbw4.size
        have hbR : Below wr.heap.size wr W4 := hbw4.trans (hb5.mono z4)
        have zR := hbR.size
        replace A4' := A4'.below hb5 A4'.lt
        replace hB := hB.below hbR zc
        have hgm : gc < w4.heap.size := by omega
        generalize w4.heap.size = g4 at *
        generalize wr.heap.size = ga at *
        have p2 := F4.cell 0
        have p3 := F4.cell 1
        have p4 := K4.cell 0
        have p5 := K4.cell 1
        have p6 := hB.cell 0
        have p7 := hB.cell 1
        simp only [List.getElem?_toArray, List.getElem?_cons_zero, List.getElem?_cons_succ] at p2 p3 p4 p5 p6 p7
        have q0 := hB.frozen 0
        have q1 := hB.frozen 1
        clear d0 d1 e0 e1 e2 hW4
        have hB9 := (hB.set 0 (.slice A4 k4.length cap4)).set 1 (.int .i64 rt)
        have hb9 : Below ga wr W4 := hbR
        have hk9 := ((hk4v.out.below hb5 (Nat.le_refl _) (by omega : _ ≤ W4.heap.size)).far (p := ⟨gc, 0, none⟩) hfg (.slice A4 k4.length cap4)).far (p := ⟨gc, 1, none⟩) hfg (.int .i64 rt)
        replace hk9 := Lib.hid hk9
        have A9 := (A4'.far (p := ⟨gc, 0, none⟩) (show ga ≠ gc by omega) (.slice A4 k4.length cap4)).far (p := ⟨gc, 1, none⟩) (show ga ≠ gc by omega) (.int .i64 rt)
        go_upto_region 10 with fail
        obtain ⟨W9, hW9⟩ : ∃ W9, W9 = (W4.setCell ⟨gc, 0, none⟩ (.slice A4 k4.length cap4)).setCell ⟨gc, 1, none⟩ (.int .i64 rt) := ⟨_, rfl⟩
        have hbW : Below w.heap.size w W9 := by rw [hW9]; exact ((hbw.trans (hb9.mono z)).setCell (p := ⟨gc, 0, none⟩) z1 _).setCell (p := ⟨gc, 1, none⟩) z1 _
        have hs9 : W4.heap.size = W9.heap.size := by rw [hW9]; simp
        rw [hs9] at hk9
        rw [← hW9] at hB9 hk9 A9 ⊢
        replace hW9 := Lib.hid hW9
        have hgc9 := hB9.lt
        have hga9 := A9.lt
        have y0 : W9.cell? ⟨gc, 0, none⟩ = some (.slice A4 k4.length cap4) := hB9.cell 0
        have y1 := A9.cell 0
        have y2 := A9.cell 1
        have y3 := A9.cell 2
        simp only [List.getElem?_toArray, List.getElem?_cons_zero, List.getElem?_cons_succ] at y1 y2 y3
        have hk9' := hk9
        obtain ⟨A4', cap4', e9, hlen9, hc9⟩ := hk9'.out
        cases e9
        replace hc9 := Lib.hid hc9
        clear p2 p3 p4 p5 p6 p7 q0 q1 hB A4' hbR hb9 hk9' M4 K4 F4 hb5 hs9
        have hmm := @run_makeMap Try.prog
        go_wp2_with fail
        clear hmm
        go_loopg [44] k4.length (fun n i wr2 => Looking W9 k4 n i wr2)
        case atStart => exact ⟨0, 0, _, Nat.zero_le _, rfl, rfl, (Below.refl _ _).alloc (Nat.le_refl _) _, Mp.Is.made W9 Try.prog 46, HadF.nil⟩
        case round =>
          obtain ⟨q, cq, F, hq, hnq, rfl, hb2, hM, hF⟩ := hrel
          replace hnq := Lib.hid hnq
          have zq := hb2.size
          have v0 : wr.cell? ⟨gc, 0, none⟩ = some (.slice A4 k4.length cap4) := (hb2.cell (p := ⟨gc, _, none⟩) hgc9).trans y0
          have v1 : wr.cell? ⟨ga, 0, none⟩ = some (.int .i64 rule) := (hb2.cell (p := ⟨ga, _, none⟩) hga9).trans y1
          have v2 : wr.cell? ⟨ga, 1, none⟩ = some (.int .i64 day) := (hb2.cell (p := ⟨ga, _, none⟩) hga9).trans y2
          have v3 : wr.cell? ⟨ga, 2, none⟩ = some (.int .i64 ver) := (hb2.cell (p := ⟨ga, _, none⟩) hga9).trans y3
          have zg : gc < wr.heap.size := by omega
          have zga : ga < wr.heap.size := by omega
          by_cases hlq : q < k4.length
          · obtain ⟨x, hx⟩ : ∃ x, k4[q]? = some x := ⟨_, List.getElem?_eq_getElem hlq⟩
            obtain ⟨bq, oq, rfl, hbq, c5, _⟩ := hc9.out q x hx
            have zb : bq < wr.heap.size := by omega
            replace c5 : cellsAt wr bq (oq + q * 26) 26 = some (keptA x) := (cellsAt_congr fun i _ => hb2.cell (p := ⟨bq, _, none⟩) hbq).trans c5
            have hsz := Lib.hid (keptA_size x)
            have hone := Lib.hid (keptA_one x)
            have u0 := keptA_0 x
            have u1 := keptA_1 x
            obtain ⟨_, hsr⟩ := hm4.out.2 x (List.mem_of_getElem? hx)
            have hbd := said_bounds (hm4.out.2 x (List.mem_of_getElem? hx)).1
            clear hsr
            have wf1 := wf_small (x := x.rule) (by omega) (by omega)
            have wf2 := wf_small (x := x.day) (by omega) (by omega)
            have hnew := once_new hm4.out.1.1 hx
            have htk := Lib.hid (take_key hx)
            obtain ⟨cs, hxs⟩ : ∃ cs, cs = keptA x := ⟨_, rfl⟩
            rw [← hxs] at hsz hone c5 u0 u1
            replace hxs := Lib.hid hxs
            have hst := fun (W : World) (b : Nat) => run_storeRow (P := Try.prog) W b 26 cs hsz.out hone.out
            generalize x.rule = xr at *
            generalize x.day = xd at *
            clear hx
            go_upto_region 14 with fail
            obtain ⟨V, hV⟩ : ∃ V, V = ((wr.alloc (.cells #[.int .i64 0, .int .i64 0, .int .i64 0, .int .u64 0, .int .u64 0, .int .u64 0, .int .u64 0, .int .u64 0, .int .u64 0, .int .u64 0, .int .u64 0, .int .u64 0, .int .u64 0, .int .u64 0, .int .u64 0, .int .u64 0, .int .u64 0, .int .u64 0, .int .u64 0, .int .u64 0, .int .u64 0, .int .u64 0, .int .u64 0, .int .u64 0, .int .u64 0, .int .u64 0] 45)).setRow wr.heap.size cs) := ⟨_, rfl⟩
            rw [← hV]
            have BV : Blk V wr.heap.size 45 cs := by rw [hV]; exact (Blk.new _ _ _).setRow cs
            have hbV : Below wr.heap.size wr V := by rw [hV]; exact Below.setRow ((Below.refl _ _).alloc (Nat.le_refl _) _) (Nat.le_refl _) _
            replace hV := Lib.hid hV
            have hMV := hM.below hbV hM.lt
            have r0 : V.cell? ⟨wr.heap.size, 0, none⟩ = some (.int .i64 xr) := (BV.cell 0).trans u0
            have r1 : V.cell? ⟨wr.heap.size, 1, none⟩ = some (.int .i64 xd) := (BV.cell 1).trans u1
            have hlook := had_look hMV hF wf1 wf2 hnew
            obtain ⟨ws, hrun, ⟨c', F', hI, hF'⟩, hgr⟩ := had_store hMV hF wf1 wf2 (by omega)
            replace hI := Lib.hid hI
            replace hF' := Lib.hid hF'
            replace hgr := Lib.hid hgr
            replace hF := Lib.hid hF
            replace hMV := Lib.hid hMV
            replace hM := Lib.hid hM
            clear hst c5 hnew
            go_wp2_with fail
            go_roundg (k4.length - (q + 1))
            case measure => rw [hnq.out]; omega
            case rel => exact ⟨q + 1, c', F', by omega, rfl, by go_num, (hb2.trans (hbV.mono zq)).trans (below_row (Below.refl W9.heap.size V) hgr.out (Nat.le_refl _) (by have := hbV.size; omega)), hI.out, by rw [htk.out]; exact hF'.out⟩
          · obtain rfl : q = k4.length := by omega
            obtain ⟨l5, m5, hl5, _⟩ := hlast.out
            have hL : k4.length = l5.length + 1 := by rw [hl5]; simp
            have hx : k4[l5.length]? = some ⟨rule, day, ver, m5⟩ := by rw [hl5]; simp
            obtain ⟨bq, oq, rfl, hbq, c5, _⟩ := hc9.out _ _ hx
            have zb : bq < wr.heap.size := by omega
            have c6 := cellsAt_some.1 ((cellsAt_congr fun i _ => hb2.cell (p := ⟨bq, _, none⟩) hbq).trans c5)
            have t0 : wr.cell? ⟨bq, oq + l5.length * 26, none⟩ = some (.int .i64 rule) := (c6.2 0 (by omega)).trans (keptA_0 _)
            have t1 : wr.cell? ⟨bq, oq + l5.length * 26 + 1, none⟩ = some (.int .i64 day) := (c6.2 1 (by omega)).trans (keptA_1 _)
            have t2 : wr.cell? ⟨bq, oq + l5.length * 26 + 2, none⟩ = some (.int .i64 ver) := (c6.2 2 (by omega)).trans (keptA_2 _)
            have hk8 := hk9.out.below hb2 (Nat.le_refl _) zq
            have hB8 := hB9.below hb2 hgc9
            replace hk8 := Lib.hid hk8
            have hfin : Below w.heap.size w wr := hbW.trans (hb2.mono hbW.size)
            clear c6 c5 hx hl5
            have hL64 : l5.length < 64 := by omega
            rw [hL] at v0
            rw [hL]
            replace hL := Lib.hid hL
            generalize l5.length = L at *
            have g1 : decide ((L : Int) + 1 < 1) = false := by simp; omega
            have g1b : decide (((L + 1 : Nat) : Int) < 1) = false := by simp; omega
            have g2 : decide ((64 : Int) < (L : Int) + 1) = false := by simp; omega
            have g2b : decide ((64 : Int) < ((L + 1 : Nat) : Int)) = false := by simp; omega
            have g2c : decide (64 < L + 1) = false := by simp; omega
            have g4' : (0 : Int) ≤ (L : Int) := by omega
            have g5 : (L : Int) < (L : Int) + 1 := by omega
            have hmF := Lib.hid hM
            clear hM hF hmF
            go_upto_region 19 with fail
            have g3 : IntKind.i64.wrap ((L : Int) + 1 - 1) = (L : Int) := by rw [show (L : Int) + 1 - 1 = L by omega]; exact IntWalk.i64_in _ ⟨by omega, by omega⟩
            refine wp_region_below (wr.heap.size) _ (Below.refl _ _) (by kernel_rfl) (by kernel_rfl) ?_
            repeat (go_big_quiet_step ((fail)))
            refine wpQuiet_nil ?_
            rintro _ ⟨n9, rfl⟩
            clear g3
            have hk7 := Lib.hid (hk8.out.below n9.below (Nat.le_refl _) n9.size)
            have hB7 := hB8.below n9.below zg
            have hfin7 : Below w.heap.size w n9.w := hfin.trans (n9.below.mono hfin.size)
            go_wp2_with fail
            go_roundg (asks.length - (j + 1))
            case measure => rw [hn.out]; omega
            case rel => exact ⟨j + 1, k4, some ⟨bq, oq, none⟩, cap4, rt, by omega, rfl, by go_num, hfin7, hB7, hk7.out, hm4.out, by omega, by omega⟩
    · obtain rfl : j = asks.length := by omega
      go_wp2
      go_ret
      exact ⟨rfl, hbw⟩

end Kp
end Go.Proofs.Ythdaeddaofickaa
