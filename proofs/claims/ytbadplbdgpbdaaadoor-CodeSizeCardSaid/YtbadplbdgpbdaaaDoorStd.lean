/- slotref7.Steady, walked. -/
import Derived.Test.YtbadplbdgpbdaaaDoorRme
import Derived.Test.YtbadplbdgpbdaaaDoorCnw
namespace Go.Proofs.YtbadplbdgpbdaaaDoor
open Go.RowKit Go.Maps Go.ChangeShapes
namespace Ru
open Msk Vm
open Sl (strV Reads)

theorem const_day {k x y : Int} {nm : List UInt8} {kids : List Expr} (h : k = 4 ∨ k = 5 ∨ k = 10) : constE (.mk k x y nm kids) = none := by
  rw [constE]
  cases constL kids with
  | none => rfl
  | some ps => simp only [if_pos h]
theorem good_ok {e : Expr} (h : GoodE e) : okE Lx.isName e := by
  obtain ⟨deep, n, h⟩ := h
  exact form_okE _ _ _ h

set_option maxRecDepth 100000 in
set_option maxHeartbeats 8000000 in
theorem Steady_any : ∀ (N : Nat) (e : Expr) (v : Value) (w : World) (B : Nat), nodesE e ≤ N → GoodE e → ExprVal w B v e → B ≤ w.heap.size → Calls Tryd.prog 16 #[v] w (ConstPost e w) := by
  intro N
  induction N with
  | zero => intro e v w B hN; have := nodesE_pos e; omega
  | succ N ih =>
    intro e v w B hN hg he hB
    have hMn := Lib.hid (fun (W : World) (hb : Below w.heap.size w W) (hnn : namesE e = []) => RMean_any 5 0 (by omega) (by omega) rfl [] (fun _ => false) (fun _ => noS) (nodesE e) e v (.slice none 0 0) (.slice none 0 0) (.slice none 0 0) W W.heap.size 0 0 (Nat.le_refl _) hg (fun nm hn => by rw [hnn] at hn; cases hn)
      (by
        obtain ⟨A, cap, h1, h2, h3, h4⟩ := he
        exact ⟨A, cap, h1, h2, h3, h4.below hb hB (by have := hb.size; omega)⟩) (Nat.le_refl _) ⟨none, 0, rfl, by show 0 ≤ _; omega, fun i r h => by simp at h⟩ (fun h => absurd hnn h))
    obtain ⟨A, cap, rfl, hnl, hkl, hkw⟩ := he
    have hnod : nodesL e.kids ≤ N := by cases e; rw [nodesE] at hN; simp only [Expr.kids]; omega
    have hkg := Lib.hid (fun (i : Nat) (k : Expr) (h : e.kids[i]? = some k) => hg.kid h)
    obtain ⟨k, x, y, enm, kids⟩ := e
    simp only [Expr.kind, Expr.a, Expr.b, Expr.name, Expr.kids] at hnl hkl hkw hnod hkg hMn ⊢
    replace ih := Lib.hid ih
    replace hkw := Lib.hid hkw
    have hbA : Below w.heap.size w ((w.alloc (.cells #[.int .i64 k, .int .i64 x, .int .i64 y, strV enm, .slice A kids.length cap] 48)).alloc (.cells (maskA fun _ => 0) 38)) := ((Below.refl _ _).alloc (Nat.le_refl _) _).alloc (by simp) _
    have BX := (Blk.new w 48 #[.int .i64 k, .int .i64 x, .int .i64 y, strV enm, .slice A kids.length cap]).alloc (.cells (maskA fun _ => 0) 38)
    have BR := Blk.new (w.alloc (.cells #[.int .i64 k, .int .i64 x, .int .i64 y, strV enm, .slice A kids.length cap] 48)) 38 (maskA fun _ => 0)
    rw [World.size_alloc] at BR
    unfold ConstPost
    obtain ⟨w0, hw0⟩ : ∃ w0, w0 = (w.alloc (.cells #[.int .i64 k, .int .i64 x, .int .i64 y, strV enm, .slice A kids.length cap] 48)).alloc (.cells (maskA fun _ => 0) 38) := ⟨_, rfl⟩
    have e9 : maskA (setW noS) = maskA (fun _ => 0) := zero_set
    clear hN hg
    go_enter Tryd.func16, Tryd.ntmps16
    go_upto_region 1 with fail
    rw [← hw0]
    rw [← hw0] at hbA BX BR
    have hz0 : w0.heap.size = w.heap.size + 1 + 1 := by rw [hw0, World.size_alloc, World.size_alloc]
    clear hw0
    have x0 : w0.cell? ⟨w.heap.size, 0, none⟩ = some (.int .i64 k) := BX.cell 0
    have x4 : w0.cell? ⟨w.heap.size, 4, none⟩ = some (.slice A kids.length cap) := BX.cell 4
    by_cases hk : k = 4 ∨ k = 5 ∨ k = 10
    · have hc := Lib.hid (const_day (x := x) (y := y) (nm := enm) (kids := kids) hk)
      have k7 := blk_free BR
      have k8 := mask_put _ noS BR
      rw [e9] at k8
      have hbz := Below.setRow hbA (show w.heap.size ≤ w.heap.size + 1 by omega) (maskA fun _ => 0)
      replace hMn := trivial
      replace hkg := trivial
      rcases hk with rfl | rfl | rfl
      all_goals
        go_wp2
        refine bodyPost_ret (v := .tuple #[.agg (maskA fun _ => 0), .bool false]) ?_ rfl ⟨?_, hbz⟩
        · simp [results, Tryd.results16, go_sem, k8]
        · unfold constV
          rw [hc.out, ← e9]
          rfl
    · have g4 : (k == 4) = false := by simp; omega
      have g5 : (k == 5) = false := by simp; omega
      have g10 : (k == 10) = false := by simp; omega
      have hce := Lib.hid (show constE (.mk k x y enm kids) = match constL kids with
        | none => none
        | some ms => some (meanK 0 0 k x y noS ms) by
          rw [constE]
          cases constL kids with
          | none => rfl
          | some ps => simp only [if_neg hk])
      replace hz0 := Lib.hid hz0
      replace hnod := Lib.hid hnod
      go_upto_region 4 with fail
      go_loopg [5, 6, 7, 25] kids.length (fun m _ _ _ v25 wr => ∃ (j : Nat) (ps : List (Nat → Bool)), j ≤ kids.length ∧ m = kids.length - j ∧ v25 = .int .i64 j ∧ Hid (constL (kids.take j) = some ps) ∧ Below w0.heap.size w0 wr)
      case atStart => exact ⟨0, [], by omega, rfl, rfl, Lib.hid rfl, Below.refl _ _⟩
      case round =>
        obtain ⟨j, ps, hj, hm, rfl, hps, hbq⟩ := hrel
        replace hm := Lib.hid hm
        have zq := hbq.size
        have zz := hz0.out
        have hbw : Below w.heap.size w wr := hbA.trans (hbq.mono (by omega))
        have BX2 := BX.below hbq (by omega)
        have BR2 := BR.below hbq (by omega)
        by_cases hlt : j < kids.length
        · obtain ⟨e1, hx⟩ : ∃ d, kids[j]? = some d := ⟨_, List.getElem?_eq_getElem hlt⟩
          obtain ⟨kb, ko, rfl, hkb, hke⟩ := hkw.out.at' hx
          have hkr := hke.below hbw hB (Nat.le_refl _) (by omega)
          obtain ⟨v0, v1, v2, v3, hnl1, A1, cap1, v4, hkl1, hkv1⟩ := hkr.out
          have hzz : kb < wr.heap.size := by omega
          have hbe : Below wr.heap.size wr (wr.alloc (.cells #[.int .i64 e1.kind, .int .i64 e1.a, .int .i64 e1.b, strV e1.name, .slice A1 e1.kids.length cap1] 48)) := (Below.refl _ _).alloc (Nat.le_refl _) _
          have hcall := Lib.hid (ih.out e1 (.agg #[.int .i64 e1.kind, .int .i64 e1.a, .int .i64 e1.b, strV e1.name, .slice A1 e1.kids.length cap1]) (wr.alloc (.cells #[.int .i64 e1.kind, .int .i64 e1.a, .int .i64 e1.b, strV e1.name, .slice A1 e1.kids.length cap1] 48)) B (by have := nodesE_kid hx; have := hnod.out; omega) (hkg.out j e1 hx)
            ⟨A1, cap1, rfl, hnl1, hkl1, hkv1.below (hbe.mono (by omega)) (Nat.le_refl _) (Nat.le_refl _)⟩ (by simp; omega))
          have htk := constL_take hx
          rw [hps.out] at htk
          have BR3 := BR2.alloc (.cells #[.int .i64 e1.kind, .int .i64 e1.a, .int .i64 e1.b, strV e1.name, .slice A1 e1.kids.length cap1] 48)
          unfold ConstPost at hcall
          clear hke hkv1 hkr hkl1 hnl1 x0 x4 g4 g5 g10
          go_wp2_with fail
          refine hcall.out.mono ?_
          rintro e5 w5 ⟨rfl, hb5⟩
          have z5 := hb5.size
          simp at z5
          have hb6 := Below.setRow ((Below.refl w5.heap.size w5).alloc (Nat.le_refl _) (.cells (maskA fun _ => 0) 38)) (Nat.le_refl _) (maskA (setW (constV e1)))
          have hb7 := (hbe.trans (hb5.mono (by simp))).trans (hb6.mono (by omega))
          have B6 := (BR3.below hb5 (by simp; omega)).below hb6 (by omega)
          obtain ⟨w6, hw6⟩ : ∃ W, W = (w5.alloc (.cells (maskA fun _ => 0) 38)).setRow w5.heap.size (maskA (setW (constV e1))) := ⟨_, rfl⟩
          cases hc1 : constE e1 with
          | none =>
            have hcn := Lib.hid (show constE (.mk k x y enm kids) = none by rw [hce.out, constL_none hx hc1])
            replace hx := Lib.hid hx
            go_upto_region 7 with fail
            rw [← hw6] at hb7 B6 ⊢
            clear hw6 hb6
            have k7 := blk_free B6
            have k8 := mask_put _ noS B6
            rw [e9] at k8
            have zB6 := B6.lt
            go_wp2
            refine bodyPost_ret (v := .tuple #[.agg (maskA fun _ => 0), .bool false]) ?_ rfl ⟨?_, Below.setRow (hbw.trans (hb7.mono (by omega))) (by omega) _⟩
            · simp [results, Tryd.results16, go_sem, k8]
            · unfold constV
              rw [hcn.out, ← e9]
              rfl
          | some p =>
            rw [hc1] at htk
            go_upto_region 7 with fail
            rw [← hw6] at hb7 B6 ⊢
            clear hw6 hb6
            go_wp2_with fail
            go_roundg (kids.length - (j + 1))
            case measure => rw [hm.out]; omega
            case rel => exact ⟨j + 1, ps ++ [p], by omega, rfl, by go_num, Lib.hid htk, hbq.trans (hb7.mono (by omega))⟩
        · obtain rfl : j = kids.length := by omega
          have hps2 : constL kids = some ps := by have := hps.out; rwa [List.take_length] at this
          have hcs := hce.out
          rw [hps2] at hcs
          simp only at hcs
          obtain ⟨p, hp⟩ : ∃ p, p = meanK 0 0 k x y noS ps := ⟨_, rfl⟩
          rw [← hp] at hcs
          have hnn := const_names (.mk k x y enm kids) (by rw [hcs]; simp)
          have hmm := const_mean 5 0 (fun nm => (fun _ => noS) (placeR [] nm)) _ p hcs
          have hM := Lib.hid (hMn.out wr hbw hnn)
          unfold RMeanPost at hM
          have hokk : okKE [] (fun _ => false) (.mk k x y enm kids) = true := by unfold okKE; rw [hnn]; rfl
          rw [hokk] at hM
          rw [hmm] at hM
          have y0 : wr.cell? ⟨w.heap.size, 0, none⟩ = some (.int .i64 k) := BX2.cell 0
          have y1 : wr.cell? ⟨w.heap.size, 1, none⟩ = some (.int .i64 x) := BX2.cell 1
          have y2 : wr.cell? ⟨w.heap.size, 2, none⟩ = some (.int .i64 y) := BX2.cell 2
          have y3 : wr.cell? ⟨w.heap.size, 3, none⟩ = some (strV enm) := BX2.cell 3
          have y4 : wr.cell? ⟨w.heap.size, 4, none⟩ = some (.slice A kids.length cap) := BX2.cell 4
          replace hcs := Lib.hid hcs
          replace hp := trivial
          replace hmm := trivial
          replace hnn := trivial
          replace hokk := trivial
          clear hps hps2 hce x0 x4
          go_wp2_with fail
          refine hM.out.mono ?_
          rintro e5 w5 ⟨q, rfl, hq, hb5⟩
          obtain rfl := hq trivial
          have B5 := BR2.below hb5 (by omega)
          have k7 := blk_free B5
          have k8 := mask_put _ q B5
          have z5 := hb5.size
          go_wp2
          refine bodyPost_ret (v := .tuple #[.agg (maskA (setW q)), .bool true]) ?_ rfl ⟨?_, Below.setRow (hbw.trans (hb5.mono (by omega))) (by omega) _⟩
          · simp [results, Tryd.results16, go_sem, k8]
          · unfold constV
            rw [hcs.out]
            rfl

end Ru
end Go.Proofs.YtbadplbdgpbdaaaDoor
