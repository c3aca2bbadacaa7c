/- What is wrong with rules: slotref5.Wrong. -/
import Derived.Test.YtijhaiificflhaaShpW
import Derived.Test.YtijhaiificflhaaRch
import Derived.Test.YtijhaiificflhaaFrmN
namespace Go.Proofs.Ytijhaiificflhaa
open Go.RowKit
namespace Ru
open Vm (TabB)
open Sl (strV Reads)

def ringErr (l : List Rule) (i : Nat) : Int := if Wal.wal (stepB (directR l)) l.length i i = true then 9 else 0
/-- what is wrong with rules -/
def wrongR (l : List Rule) : Int × Int :=
  if (wrongF l).1 = 0 then
    if (firstErr (dupErr l) 0 l).1 = 0 then
      if (firstErr (fun i _ => noneErr l i) 0 l).1 = 0 then firstErr (fun i _ => ringErr l i) 0 l
      else firstErr (fun i _ => noneErr l i) 0 l
    else firstErr (dupErr l) 0 l
  else wrongF l

theorem noneErr_at {l : List Rule} {i : Nat} {r : Rule} (h : l[i]? = some r) : noneErr l i = if unknownE l r.expr = true then 6 else 0 := by
  unfold noneErr directR
  rw [h, unknown_names]
  rfl

set_option maxRecDepth 100000 in
set_option maxHeartbeats 4000000 in
theorem RWrong_form (v : Value) (l : List Rule) (w : World) (hr : RulesV w w.heap.size v l) (hf : (wrongF l).1 ≠ 0) : Calls Try.prog 9 #[v] w fun e w' => e = .returned (faultV (wrongR l)) ∧ Below w.heap.size w w' := by
  have hw : wrongR l = wrongF l := if_neg hf
  rw [hw]
  clear hw
  have hbA : Below w.heap.size w (w.alloc (.cells #[.int .i64 0, .int .i64 0] 26)) := (Below.refl _ _).alloc (Nat.le_refl _) _
  have hP := Lib.hid (RfWrong_any v l (w.alloc (.cells #[.int .i64 0, .int .i64 0] 26)) (hr.below hbA (Nat.le_refl _) (by simp)))
  have B0 := Blk.new w 26 #[.int .i64 0, .int .i64 0]
  obtain ⟨A, cap, rfl, _⟩ := hr
  have g : ((wrongF l).1 != 0) = true := by simpa using hf
  generalize wrongF l = q at *
  obtain ⟨q1, q2⟩ := q
  unfold faultV at hP ⊢
  simp only at g hP ⊢
  clear hf
  go_enter Try.func9, Try.ntmps9
  go_wp2_with (go_at_call 21; refine hP.out.mono ?_; rintro e w1 ⟨rfl, hb1⟩; have hz1 := hb1.size; simp at hz1; have B1 := B0.below hb1 (by simp); have s0 : w1.cell? ⟨w.heap.size, 0, none⟩ = some (.int .i64 0) := B1.cell 0; have s1 : w1.cell? ⟨w.heap.size, 1, none⟩ = some (.int .i64 0) := B1.cell 1; have t0 : w1.frozen? ⟨w.heap.size, 0, none⟩ = false := B1.frozen 0; have t1 : w1.frozen? ⟨w.heap.size, 1, none⟩ = false := B1.frozen 1)
  have hb2 : Below w.heap.size w w1 := hbA.trans (hb1.mono (by simp))
  have hlw : w.heap.size < w1.heap.size := by omega
  exact bodyPost_ret (v := .agg #[.int .i64 q1, .int .i64 q2]) (by simp [results, Try.results9, s0, s1, hlw, go_sem]) rfl ⟨rfl, ((hb2.alloc (by omega) _).setCell (by simp) _).setCell (by simp) _⟩

set_option maxRecDepth 100000 in
set_option maxHeartbeats 8000000 in
theorem RWrong_right (v : Value) (l : List Rule) (w : World) (hr : RulesV w w.heap.size v l) (hf : (wrongF l).1 = 0) : Calls Try.prog 9 #[v] w fun e w' => e = .returned (faultV (wrongR l)) ∧ Below w.heap.size w w' := by
  have hw : wrongR l = if (firstErr (dupErr l) 0 l).1 = 0 then if (firstErr (fun i _ => noneErr l i) 0 l).1 = 0 then firstErr (fun i _ => ringErr l i) 0 l else firstErr (fun i _ => noneErr l i) 0 l else firstErr (dupErr l) 0 l := if_pos hf
  have hbA : Below w.heap.size w (w.alloc (.cells #[.int .i64 0, .int .i64 0] 26)) := (Below.refl _ _).alloc (Nat.le_refl _) _
  have hP := Lib.hid (RfWrong_any v l (w.alloc (.cells #[.int .i64 0, .int .i64 0] 26)) (hr.below hbA (Nat.le_refl _) (by simp)))
  have B0 := Blk.new w 26 #[.int .i64 0, .int .i64 0]
  have hrr := Lib.hid hr
  obtain ⟨h40, hrx⟩ := form_right hf
  obtain ⟨A, cap, rfl, hlen, hc⟩ := hr
  generalize wrongF l = q at *
  obtain ⟨q1, q2⟩ := q
  unfold faultV at hP
  simp only at hf hP
  subst hf
  replace hc := Lib.hid hc
  replace hrx := Lib.hid hrx
  replace hw := Lib.hid hw
  go_enter Try.func9, Try.ntmps9
  go_wp2_with (go_at_call 21; refine hP.out.mono ?_; rintro e w1 ⟨rfl, hb1⟩; have hz1 := hb1.size; simp at hz1; have B1 := B0.below hb1 (by simp))
  have hb2 : Below w.heap.size w w1 := hbA.trans (hb1.mono (by simp))
  go_loopg [18] l.length (fun n k wr => ∃ j : Nat, j ≤ l.length ∧ n = l.length - j ∧ k = .int .i64 j ∧ Hid (firstErr (dupErr l) j (l.drop j) = firstErr (dupErr l) 0 l) ∧ Below w.heap.size w wr ∧ Blk wr w.heap.size 26 #[.int .i64 0, .int .i64 0])
  case atStart => exact ⟨0, by omega, rfl, rfl, Lib.hid rfl, hb2.alloc (by omega) _, B1.alloc _⟩
  case round =>
    obtain ⟨j, hj, hn, rfl, hf, hb, B2⟩ := hrel
    replace hn := Lib.hid hn
    have zb := hb.size
    have zr := B2.lt
    by_cases hlt : j < l.length
    · obtain ⟨r, hx⟩ : ∃ r, l[j]? = some r := ⟨_, List.getElem?_eq_getElem hlt⟩
      obtain ⟨b, o, rfl, hbl, k0, hnl, hE⟩ := hc.out j r hx
      have hst : firstErr (dupErr l) 0 l = if dupErr l j r = 0 then firstErr (dupErr l) (j + 1) (l.drop (j + 1)) else (dupErr l j r, (j : Int)) := hf.out.symm.trans (firstErr_at _ hx)
      rw [dup_place hx] at hst
      have zbl : b < wr.heap.size := by omega
      obtain ⟨v0, v1, v2, v3, hnl1, A1, cap1, v4, hkl1, hkv1⟩ := (hE.below hb (Nat.le_refl _) (Nat.le_refl _) hbl).out
      have d0 : wr.cell? ⟨b, o + j * 6, none⟩ = some (strV r.name) := (hb.cell (p := ⟨b, _, none⟩) hbl).trans k0
      have d1 : wr.cell? ⟨b, o + j * 6 + 1, none⟩ = some (.int .i64 r.expr.kind) := v0
      have d2 : wr.cell? ⟨b, o + j * 6 + 2, none⟩ = some (.int .i64 r.expr.a) := v1
      have d3 : wr.cell? ⟨b, o + j * 6 + 3, none⟩ = some (.int .i64 r.expr.b) := v2
      have d4 : wr.cell? ⟨b, o + j * 6 + 4, none⟩ = some (strV r.expr.name) := v3
      have d5 : wr.cell? ⟨b, o + j * 6 + 5, none⟩ = some (.slice A1 r.expr.kids.length cap1) := v4
      have B3 := B2.alloc (.cells #[strV r.name, .int .i64 r.expr.kind, .int .i64 r.expr.a, .int .i64 r.expr.b, strV r.expr.name, .slice A1 r.expr.kids.length cap1] 49)
      have hb3 : Below w.heap.size w (wr.alloc (.cells #[strV r.name, .int .i64 r.expr.kind, .int .i64 r.expr.a, .int .i64 r.expr.b, strV r.expr.name, .slice A1 r.expr.kids.length cap1] 49)) := hb.alloc zb _
      have hA := Lib.hid (At_any _ l r.name (wr.alloc (.cells #[strV r.name, .int .i64 r.expr.kind, .int .i64 r.expr.a, .int .i64 r.expr.b, strV r.expr.name, .slice A1 r.expr.kids.length cap1] 49)) (hrr.out.below hb3 (Nat.le_refl _) (by simp; omega)))
      clear v0 v1 v2 v3 v4 k0 hx hE hkv1
      by_cases hfi : findI l r.name = j
      · rw [if_pos hfi, if_pos rfl] at hst
        rw [hfi] at hA
        replace hst := Lib.hid hst
        clear hfi
        go_wp2_with (go_at_call 22; refine hA.out.mono ?_; rintro e w5 ⟨rfl, hb5⟩)
        have hz5 := hb5.size
        simp at hz5
        go_roundg (l.length - (j + 1))
        case measure => rw [hn.out]; omega
        case rel => exact ⟨j + 1, by omega, rfl, by go_num, Lib.hid hst.out.symm, hb3.trans (hb5.mono (by simp; omega)), B3.below hb5 (by simp; omega)⟩
      · rw [if_neg hfi, if_neg (by decide)] at hst
        have hw2 := Lib.hid (show wrongR l = (7, (j : Int)) by rw [hw.out, if_neg (by rw [hst]; simp), hst])
        have g : (findI l r.name != (j : Int)) = true := by simpa using hfi
        generalize findI l r.name = fi at *
        clear hfi hst
        go_wp2_with (go_at_call 22; refine hA.out.mono ?_; rintro e w5 ⟨rfl, hb5⟩; have hz5 := hb5.size; simp at hz5; have B5 := B3.below hb5 (by simp; omega); have s0 : w5.cell? ⟨w.heap.size, 0, none⟩ = some (.int .i64 0) := B5.cell 0; have s1 : w5.cell? ⟨w.heap.size, 1, none⟩ = some (.int .i64 0) := B5.cell 1; have t0 : w5.frozen? ⟨w.heap.size, 0, none⟩ = false := B5.frozen 0; have t1 : w5.frozen? ⟨w.heap.size, 1, none⟩ = false := B5.frozen 1)
        have hb6 : Below w.heap.size w w5 := hb3.trans (hb5.mono (by simp; omega))
        have E := (B5.set 0 (.int .i64 7)).set 1 (.int .i64 j)
        have e0 := (E.cell 0).trans (show _ = some (Value.int .i64 7) from rfl)
        have e1 := (E.cell 1).trans (show _ = some (Value.int .i64 j) from rfl)
        exact bodyPost_ret (v := faultV (7, (j : Nat))) (by simp [results, Try.results9, e0, e1, go_sem, faultV]) rfl ⟨by rw [hw2.out], (hb6.setCell (by simp) _).setCell (by simp) _⟩
    · obtain rfl : j = l.length := by omega
      have hz0 : (firstErr (dupErr l) 0 l).1 = 0 := by rw [← hf.out, List.drop_length]; rfl
      have hw3 : wrongR l = if (firstErr (fun i _ => noneErr l i) 0 l).1 = 0 then firstErr (fun i _ => ringErr l i) 0 l else firstErr (fun i _ => noneErr l i) 0 l := by rw [hw.out, if_pos hz0]
      replace hw3 := Lib.hid hw3
      clear hz0 hf hn hw zb zr
      obtain ⟨w2, hw2⟩ : ∃ w2 : World, w2 = wr := ⟨_, rfl⟩
      subst hw2
      go_wp2
      go_loopg [34] l.length (fun n k wr => ∃ j : Nat, j ≤ l.length ∧ n = l.length - j ∧ k = .int .i64 j ∧ Hid (firstErr (fun i _ => noneErr l i) j (l.drop j) = firstErr (fun i _ => noneErr l i) 0 l) ∧ Below w.heap.size w wr ∧ Blk wr w.heap.size 26 #[.int .i64 0, .int .i64 0])
      case atStart => exact ⟨0, by omega, rfl, rfl, Lib.hid rfl, hb, B2⟩
      case round =>
        clear hb B2
        obtain ⟨j, hj, hn, rfl, hf, hb, B2⟩ := hrel
        replace hn := Lib.hid hn
        have zb := hb.size
        have zr := B2.lt
        by_cases hlt : j < l.length
        · obtain ⟨r, hx⟩ : ∃ r, l[j]? = some r := ⟨_, List.getElem?_eq_getElem hlt⟩
          obtain ⟨b, o, rfl, hbl, k0, hnl, hE⟩ := hc.out j r hx
          have hst : firstErr (fun i _ => noneErr l i) 0 l = if noneErr l j = 0 then firstErr (fun i _ => noneErr l i) (j + 1) (l.drop (j + 1)) else (noneErr l j, (j : Int)) := hf.out.symm.trans (firstErr_at _ hx)
          rw [noneErr_at hx] at hst
          have zbl : b < wr.heap.size := by omega
          obtain ⟨v0, v1, v2, v3, hnl1, A1, cap1, v4, hkl1, hkv1⟩ := (hE.below hb (Nat.le_refl _) (Nat.le_refl _) hbl).out
          have d0 : wr.cell? ⟨b, o + j * 6, none⟩ = some (strV r.name) := (hb.cell (p := ⟨b, _, none⟩) hbl).trans k0
          have d1 : wr.cell? ⟨b, o + j * 6 + 1, none⟩ = some (.int .i64 r.expr.kind) := v0
          have d2 : wr.cell? ⟨b, o + j * 6 + 2, none⟩ = some (.int .i64 r.expr.a) := v1
          have d3 : wr.cell? ⟨b, o + j * 6 + 3, none⟩ = some (.int .i64 r.expr.b) := v2
          have d4 : wr.cell? ⟨b, o + j * 6 + 4, none⟩ = some (strV r.expr.name) := v3
          have d5 : wr.cell? ⟨b, o + j * 6 + 5, none⟩ = some (.slice A1 r.expr.kids.length cap1) := v4
          have B3 := B2.alloc (.cells #[strV r.name, .int .i64 r.expr.kind, .int .i64 r.expr.a, .int .i64 r.expr.b, strV r.expr.name, .slice A1 r.expr.kids.length cap1] 49)
          have hb3 : Below w.heap.size w (wr.alloc (.cells #[strV r.name, .int .i64 r.expr.kind, .int .i64 r.expr.a, .int .i64 r.expr.b, strV r.expr.name, .slice A1 r.expr.kids.length cap1] 49)) := hb.alloc zb _
          have hwr3 : Below w.heap.size wr (wr.alloc (.cells #[strV r.name, .int .i64 r.expr.kind, .int .i64 r.expr.a, .int .i64 r.expr.b, strV r.expr.name, .slice A1 r.expr.kids.length cap1] 49)) := (Below.refl _ _).alloc zb _
          have hA := Lib.hid (Unknown_any l (nodesE r.expr) r.expr (.agg #[.int .i64 r.expr.kind, .int .i64 r.expr.a, .int .i64 r.expr.b, strV r.expr.name, .slice A1 r.expr.kids.length cap1]) _ (wr.alloc (.cells #[strV r.name, .int .i64 r.expr.kind, .int .i64 r.expr.a, .int .i64 r.expr.b, strV r.expr.name, .slice A1 r.expr.kids.length cap1] 49)) w.heap.size (Nat.le_refl _) ⟨A1, cap1, rfl, hnl1, hkl1, hkv1.below hwr3 (Nat.le_refl _) (Nat.le_refl _)⟩ (by simp; omega) (hrr.out.below hb3 (Nat.le_refl _) (Nat.le_refl _)))
          clear v0 v1 v2 v3 v4 k0 hx hE hkv1
          cases hu : unknownE l r.expr with
          | false =>
            rw [hu, if_pos (show (if (false = true) then (6 : Int) else 0) = 0 from rfl)] at hst
            rw [hu] at hA
            replace hst := Lib.hid hst
            clear hu
            go_wp2_with (go_at_call 23; refine hA.out.mono ?_; rintro e w5 ⟨rfl, hb5⟩)
            have hz5 := hb5.size
            simp at hz5
            go_roundg (l.length - (j + 1))
            case measure => rw [hn.out]; omega
            case rel => exact ⟨j + 1, by omega, rfl, by go_num, Lib.hid hst.out.symm, hb3.trans (hb5.mono (by simp; omega)), B3.below hb5 (by simp; omega)⟩
          | true =>
            rw [hu, if_neg (show ¬ (if (true = true) then (6 : Int) else 0) = 0 by decide), if_pos rfl] at hst
            rw [hu] at hA
            have hw2 := Lib.hid (show wrongR l = (6, (j : Int)) by rw [hw3.out, if_neg (by rw [hst]; simp), hst])
            clear hu hst
            go_wp2_with (go_at_call 23; refine hA.out.mono ?_; rintro e w5 ⟨rfl, hb5⟩; have hz5 := hb5.size; simp at hz5; have B5 := B3.below hb5 (by simp; omega); have s0 : w5.cell? ⟨w.heap.size, 0, none⟩ = some (.int .i64 0) := B5.cell 0; have s1 : w5.cell? ⟨w.heap.size, 1, none⟩ = some (.int .i64 0) := B5.cell 1; have t0 : w5.frozen? ⟨w.heap.size, 0, none⟩ = false := B5.frozen 0; have t1 : w5.frozen? ⟨w.heap.size, 1, none⟩ = false := B5.frozen 1)
            have hb6 : Below w.heap.size w w5 := hb3.trans (hb5.mono (by simp; omega))
            have E := (B5.set 0 (.int .i64 6)).set 1 (.int .i64 j)
            have e0 := (E.cell 0).trans (show _ = some (Value.int .i64 6) from rfl)
            have e1 := (E.cell 1).trans (show _ = some (Value.int .i64 j) from rfl)
            exact bodyPost_ret (v := faultV (6, (j : Nat))) (by simp [results, Try.results9, e0, e1, go_sem, faultV]) rfl ⟨by rw [hw2.out], (hb6.setCell (by simp) _).setCell (by simp) _⟩
        · obtain rfl : j = l.length := by omega
          have hz0 : (firstErr (fun i _ => noneErr l i) 0 l).1 = 0 := by rw [← hf.out, List.drop_length]; rfl
          have hw4 : wrongR l = firstErr (fun i _ => ringErr l i) 0 l := by rw [hw3.out, if_pos hz0]
          replace hw4 := Lib.hid hw4
          clear hz0 hf hn hw3
          have hR := Lib.hid (Reach_any _ l wr (hrr.out.below hb (Nat.le_refl _) zb) h40)
          obtain ⟨w2, hw2⟩ : ∃ w2 : World, w2 = wr := ⟨_, rfl⟩
          subst hw2
          go_wp2_with (go_at_call 24; refine hR.out.mono ?_; rintro e w5 ⟨g, G, rfl, hg, hT, hb5⟩; have hz5 := hb5.size)
          replace hT := Lib.hid hT
          have hb6 : Below w.heap.size w w5 := hb.trans (hb5.mono zb)
          have B6 := B2.below hb5 zr
          go_loopg [49] l.length (fun n k wr => ∃ j : Nat, j ≤ l.length ∧ n = l.length - j ∧ k = .int .i64 j ∧ Hid (firstErr (fun i _ => ringErr l i) j (l.drop j) = firstErr (fun i _ => ringErr l i) 0 l) ∧ wr = w5)
          case atStart => exact ⟨0, by omega, rfl, rfl, Lib.hid rfl, rfl⟩
          case round =>
            obtain ⟨j, hj, hn, rfl, hf, rfl⟩ := hrel
            replace hn := Lib.hid hn
            have s0 : wr.cell? ⟨w.heap.size, 0, none⟩ = some (.int .i64 0) := B6.cell 0
            have s1 : wr.cell? ⟨w.heap.size, 1, none⟩ = some (.int .i64 0) := B6.cell 1
            have t0 : wr.frozen? ⟨w.heap.size, 0, none⟩ = false := B6.frozen 0
            have t1 : wr.frozen? ⟨w.heap.size, 1, none⟩ = false := B6.frozen 1
            by_cases hlt : j < l.length
            · obtain ⟨r, hx⟩ : ∃ r, l[j]? = some r := ⟨_, List.getElem?_eq_getElem hlt⟩
              have hst : firstErr (fun i _ => ringErr l i) 0 l = if ringErr l j = 0 then firstErr (fun i _ => ringErr l i) (j + 1) (l.drop (j + 1)) else (ringErr l j, (j : Int)) := hf.out.symm.trans (firstErr_at _ hx)
              obtain ⟨r0, _⟩ := hT.out.row hlt
              obtain ⟨r1, _⟩ := hT.out.at hlt hlt
              have hre : ringErr l j = if Wal.wal (stepB (directR l)) l.length j j = true then 9 else 0 := rfl
              rw [hre] at hst
              clear hre hx
              generalize G j = gj at *
              cases hu : Wal.wal (stepB (directR l)) l.length j j with
              | false =>
                rw [hu, if_pos (show (if (false = true) then (9 : Int) else 0) = 0 from rfl)] at hst
                rw [hu] at r1
                replace hst := Lib.hid hst
                clear hu
                go_wp2
                go_roundg (l.length - (j + 1))
                case measure => rw [hn.out]; omega
                case rel => exact ⟨j + 1, by omega, rfl, by go_num, Lib.hid hst.out.symm, rfl⟩
              | true =>
                rw [hu, if_neg (show ¬ (if (true = true) then (9 : Int) else 0) = 0 by decide), if_pos rfl] at hst
                rw [hu] at r1
                have hw2 := Lib.hid (show wrongR l = (9, (j : Int)) by rw [hw4.out, hst])
                clear hu hst
                go_wp2
                have E := (B6.set 0 (.int .i64 9)).set 1 (.int .i64 j)
                have e0 := (E.cell 0).trans (show _ = some (Value.int .i64 9) from rfl)
                have e1 := (E.cell 1).trans (show _ = some (Value.int .i64 j) from rfl)
                exact bodyPost_ret (v := faultV (9, (j : Nat))) (by simp [results, Try.results9, e0, e1, go_sem, faultV]) rfl ⟨by rw [hw2.out], (hb6.setCell (by simp) _).setCell (by simp) _⟩
            · obtain rfl : j = l.length := by omega
              have hw2 := Lib.hid (show wrongR l = (0, 0) by rw [hw4.out, ← hf.out, List.drop_length]; rfl)
              clear hn hf
              go_wp2
              have E := (B6.set 0 (.int .i64 0)).set 1 (.int .i64 0)
              have e0 := (E.cell 0).trans (show _ = some (Value.int .i64 0) from rfl)
              have e1 := (E.cell 1).trans (show _ = some (Value.int .i64 0) from rfl)
              exact bodyPost_ret (v := faultV (0, 0)) (by simp [results, Try.results9, e0, e1, go_sem, faultV]) rfl ⟨by rw [hw2.out], (hb6.setCell (by simp) _).setCell (by simp) _⟩

theorem RWrong_any (v : Value) (l : List Rule) (w : World) (hr : RulesV w w.heap.size v l) : Calls Try.prog 9 #[v] w fun e w' => e = .returned (faultV (wrongR l)) ∧ Below w.heap.size w w' := by
  by_cases hf : (wrongF l).1 = 0
  · exact RWrong_right v l w hr hf
  · exact RWrong_form v l w hr hf

end Ru
end Go.Proofs.Ytijhaiificflhaa
