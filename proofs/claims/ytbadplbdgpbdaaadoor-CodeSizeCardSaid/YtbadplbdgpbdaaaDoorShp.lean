/- What is wrong with rules' form: slotref4.Shape. What is wrong with rules' form: slotref4.Wrong. -/
import Derived.Test.YtbadplbdgpbdaaaDoorFrmW
import Derived.Test.YtbadplbdgpbdaaaDoorLexY
import Derived.Test.YtbadplbdgpbdaaaDoorMpI
namespace Go.Proofs.YtbadplbdgpbdaaaDoor
open Go.RowKit
namespace Ru
open Sl (strV Reads)
open Lx


theorem want_made (w : World) : ∃ w1 w2 w3 w4 w5 w6 w7 w8 w9 w10 : World, (Instr.mapUpdate 102 (.map (some w.heap.size)) (.int .i64 1) (.int .i64 0)).run Tryd.prog (w.alloc (.map #[] 0)) = .ok () w1 ∧
    (Instr.mapUpdate 102 (.map (some w.heap.size)) (.int .i64 2) (.int .i64 0)).run Tryd.prog w1 = .ok () w2 ∧
    (Instr.mapUpdate 102 (.map (some w.heap.size)) (.int .i64 3) (.int .i64 0)).run Tryd.prog w2 = .ok () w3 ∧
    (Instr.mapUpdate 102 (.map (some w.heap.size)) (.int .i64 10) (.int .i64 0)).run Tryd.prog w3 = .ok () w4 ∧
    (Instr.mapUpdate 102 (.map (some w.heap.size)) (.int .i64 4) (.int .i64 1)).run Tryd.prog w4 = .ok () w5 ∧
    (Instr.mapUpdate 102 (.map (some w.heap.size)) (.int .i64 5) (.int .i64 1)).run Tryd.prog w5 = .ok () w6 ∧
    (Instr.mapUpdate 102 (.map (some w.heap.size)) (.int .i64 9) (.int .i64 1)).run Tryd.prog w6 = .ok () w7 ∧
    (Instr.mapUpdate 102 (.map (some w.heap.size)) (.int .i64 6) (.int .i64 2)).run Tryd.prog w7 = .ok () w8 ∧
    (Instr.mapUpdate 102 (.map (some w.heap.size)) (.int .i64 7) (.int .i64 2)).run Tryd.prog w8 = .ok () w9 ∧
    (Instr.mapUpdate 102 (.map (some w.heap.size)) (.int .i64 8) (.int .i64 2)).run Tryd.prog w9 = .ok () w10 ∧
    Below w.heap.size w w10 ∧ w.heap.size < w10.heap.size ∧ ∀ k : Int, -9223372036854775808 ≤ k → k ≤ 9223372036854775807 → (Instr.lookup 102 (.map (some w.heap.size)) (.int .i64 k) true).run Tryd.prog w10 = .ok (.tuple (if k < 1 ∨ 10 < k then #[.int .i64 0, .bool false] else #[.int .i64 (kidsOf k : Nat), .bool true])) w10 := by
  have e0 : (fun _ => none : Lit → Option Value) = litF (fun _ => none) := by funext x; unfold litF; split <;> rfl
  have I0 := Mp.Is.made w Tryd.prog 3
  rw [e0] at I0
  have B0 : Below w.heap.size w (w.alloc (.map #[] 0)) := (Below.refl w.heap.size w).alloc (Nat.le_refl _) (.map #[] 0)
  have z0 : w.heap.size < (w.alloc (.map #[] 0)).heap.size := by simp
  obtain ⟨w1, r1, I1, g1⟩ := store_int (i := 1) (h := 0) I0 (by omega) (by omega) (by omega)
  have B1 := below_row B0 g1 (Nat.le_refl _) (by omega)
  have z1 : w.heap.size < w1.heap.size := by have := g1.size; omega
  obtain ⟨w2, r2, I2, g2⟩ := store_int (i := 2) (h := 0) I1 (by omega) (by omega) (by omega)
  have B2 := below_row B1 g2 (Nat.le_refl _) (by omega)
  have z2 : w.heap.size < w2.heap.size := by have := g2.size; omega
  obtain ⟨w3, r3, I3, g3⟩ := store_int (i := 3) (h := 0) I2 (by omega) (by omega) (by omega)
  have B3 := below_row B2 g3 (Nat.le_refl _) (by omega)
  have z3 : w.heap.size < w3.heap.size := by have := g3.size; omega
  obtain ⟨w4, r4, I4, g4⟩ := store_int (i := 10) (h := 0) I3 (by omega) (by omega) (by omega)
  have B4 := below_row B3 g4 (Nat.le_refl _) (by omega)
  have z4 : w.heap.size < w4.heap.size := by have := g4.size; omega
  obtain ⟨w5, r5, I5, g5⟩ := store_int (i := 4) (h := 1) I4 (by omega) (by omega) (by omega)
  have B5 := below_row B4 g5 (Nat.le_refl _) (by omega)
  have z5 : w.heap.size < w5.heap.size := by have := g5.size; omega
  obtain ⟨w6, r6, I6, g6⟩ := store_int (i := 5) (h := 1) I5 (by omega) (by omega) (by omega)
  have B6 := below_row B5 g6 (Nat.le_refl _) (by omega)
  have z6 : w.heap.size < w6.heap.size := by have := g6.size; omega
  obtain ⟨w7, r7, I7, g7⟩ := store_int (i := 9) (h := 1) I6 (by omega) (by omega) (by omega)
  have B7 := below_row B6 g7 (Nat.le_refl _) (by omega)
  have z7 : w.heap.size < w7.heap.size := by have := g7.size; omega
  obtain ⟨w8, r8, I8, g8⟩ := store_int (i := 6) (h := 2) I7 (by omega) (by omega) (by omega)
  have B8 := below_row B7 g8 (Nat.le_refl _) (by omega)
  have z8 : w.heap.size < w8.heap.size := by have := g8.size; omega
  obtain ⟨w9, r9, I9, g9⟩ := store_int (i := 7) (h := 2) I8 (by omega) (by omega) (by omega)
  have B9 := below_row B8 g9 (Nat.le_refl _) (by omega)
  have z9 : w.heap.size < w9.heap.size := by have := g9.size; omega
  obtain ⟨w10, r10, I10, g10⟩ := store_int (i := 8) (h := 2) I9 (by omega) (by omega) (by omega)
  have B10 := below_row B9 g10 (Nat.le_refl _) (by omega)
  have z10 : w.heap.size < w10.heap.size := by have := g10.size; omega
  refine ⟨w1, w2, w3, w4, w5, w6, w7, w8, w9, w10, r1, r2, r3, r4, r5, r6, r7, r8, r9, r10, B10, z10, fun k h1 h2 => ?_⟩
  rw [look_int I10 h1 h2]
  by_cases hk : k < 1 ∨ 10 < k
  · rw [if_pos hk]
    simp only [putF]
    rw [if_neg (show ¬ k = 8 by omega), if_neg (show ¬ k = 7 by omega), if_neg (show ¬ k = 6 by omega), if_neg (show ¬ k = 9 by omega), if_neg (show ¬ k = 5 by omega), if_neg (show ¬ k = 4 by omega), if_neg (show ¬ k = 10 by omega), if_neg (show ¬ k = 3 by omega), if_neg (show ¬ k = 2 by omega), if_neg (show ¬ k = 1 by omega)]
    rfl
  · rw [if_neg hk]
    have : k = 1 ∨ k = 2 ∨ k = 3 ∨ k = 4 ∨ k = 5 ∨ k = 6 ∨ k = 7 ∨ k = 8 ∨ k = 9 ∨ k = 10 := by omega
    rcases this with rfl | rfl | rfl | rfl | rfl | rfl | rfl | rfl | rfl | rfl <;> rfl


/-- an expression handed over as a value -/
def ExprVal (w : World) (B : Nat) (v : Value) (e : Expr) : Prop := ∃ A cap, v = .agg #[.int .i64 e.kind, .int .i64 e.a, .int .i64 e.b, strV e.name, .slice A e.kids.length cap] ∧ (e.name.length ≤ 9223372036854775807 ∧ -9223372036854775808 ≤ e.kind ∧ e.kind ≤ 9223372036854775807) ∧ e.kids.length ≤ 9223372036854775807 ∧ KidsV w B A e.kids


set_option maxRecDepth 100000 in
set_option maxHeartbeats 8000000 in
theorem shape_any : ∀ (N : Nat) (e : Expr) (v : Value) (w : World) (gs deep n : Nat), nodesE e ≤ N → ExprVal w gs v e → Blk w gs 3 #[.int .i64 (n : Nat)] → deep ≤ 41 → n ≤ 600 →
    Calls Tryd.prog 83 #[v, .int .i64 (deep : Nat), .pointer (some ⟨gs, 0, none⟩)] w fun r w' => r = .returned (.int .i64 (formE isName e deep n).1) ∧ Blk w' gs 3 #[.int .i64 ((formE isName e deep n).2 : Nat)] ∧ Below gs w w' := by
  intro N
  induction N with
  | zero => intro e v w gs deep n hN; have := nodesE_pos e; omega
  | succ N ih =>
    intro e v w gs deep n hN he hB hd hn
    obtain ⟨A, cap, rfl, hnl, hkl, hkw⟩ := he
    have hform := formE_eq isName e deep n
    have hnod : nodesL e.kids ≤ N := by cases e; rw [nodesE] at hN; simp only [Expr.kids]; omega
    obtain ⟨k, x, y, nm, kids⟩ := e
    simp only [Expr.kind, Expr.a, Expr.b, Expr.name, Expr.kids] at hnl hkl hkw hform hnod ⊢
    have hlt := hB.lt
    have g0 : w.cell? ⟨gs, 0, none⟩ = some (.int .i64 (n : Nat)) := hB.cell 0
    have g1 : w.frozen? ⟨gs, 0, none⟩ = false := hB.frozen 0
    have hne : w.heap.size ≠ gs := by omega
    have hB1 : Blk ((w.setCell ⟨gs, 0, none⟩ (.int .i64 ((n : Int) + 1))).alloc (.cells #[.int .i64 k, .int .i64 x, .int .i64 y, strV nm, .slice A kids.length cap] 48)) gs 3 #[.int .i64 ((n + 1 : Nat) : Int)] := by simpa using (hB.set 0 (.int .i64 ((n : Int) + 1))).alloc _
    have hP1 : Blk ((w.setCell ⟨gs, 0, none⟩ (.int .i64 ((n : Int) + 1))).alloc (.cells #[.int .i64 k, .int .i64 x, .int .i64 y, strV nm, .slice A kids.length cap] 48)) w.heap.size 48 #[.int .i64 k, .int .i64 x, .int .i64 y, strV nm, .slice A kids.length cap] := by simpa using Blk.new (w.setCell ⟨gs, 0, none⟩ (.int .i64 ((n : Int) + 1))) 48 #[.int .i64 k, .int .i64 x, .int .i64 y, strV nm, .slice A kids.length cap]
    have hb1 : Below gs w ((w.setCell ⟨gs, 0, none⟩ (.int .i64 ((n : Int) + 1))).alloc (.cells #[.int .i64 k, .int .i64 x, .int .i64 y, strV nm, .slice A kids.length cap] 48)) := ((Below.refl gs w).setCell (p := ⟨gs, 0, none⟩) (Nat.le_refl _) _).alloc (by simp; omega) _
    replace ih := Lib.hid ih
    replace hkw := Lib.hid hkw
    replace hnod := Lib.hid hnod
    clear hN
    by_cases hov : 600 < n + 1 ∨ 40 < deep
    · rw [if_pos hov] at hform
      have hq : decide (600 < (n : Int) + 1) = true ∨ decide (600 < (n : Int) + 1) = false ∧ decide (40 < (deep : Int)) = true := by
        simp only [decide_eq_true_eq, decide_eq_false_iff_not]; omega
      rw [hform]
      clear hform hov hB
      rcases hq with q1 | ⟨q1, q2⟩
      all_goals
        go_enter Tryd.func83, Tryd.ntmps83
        go_wp2
        go_ret
        exact ⟨rfl, hB1, hb1⟩
    · rw [if_neg hov] at hform
      have q1 : decide (600 < (n : Int) + 1) = false := by simp; omega
      have q2 : decide (40 < (deep : Int)) = false := by simp; omega
      have hd40 : deep ≤ 40 := by omega
      have hn6 := Lib.hid (show n + 1 ≤ 600 by omega)
      clear hov hB
      go_enter Tryd.func83, Tryd.ntmps83
      go_upto_region 4 with fail
      generalize hW1 : ((w.setCell ⟨gs, 0, none⟩ (.int .i64 ((n : Int) + 1))).alloc (.cells #[.int .i64 k, .int .i64 x, .int .i64 y, strV nm, .slice A kids.length cap] 48)) = W1 at *
      have hlt1 := hB1.lt
      have hpl := hP1.lt
      clear hW1 g0 g1 q1 q2
      obtain ⟨w1, w2, w3, w4, w5, w6, w7, w8, w9, W2, r1, r2, r3, r4, r5, r6, r7, r8, r9, r10, hbw, zw, hlook⟩ := want_made W1
      have hlk := hlook k hnl.2.1 hnl.2.2
      clear hlook
      have hmm := @run_makeMap Tryd.prog
      have hB2 := Lib.hid (hB1.below hbw hlt1)
      have hb2 := Lib.hid (hb1.trans (hbw.mono (show gs ≤ W1.heap.size by omega)))
      have hP2 := hP1.below hbw hpl
      have p0 : W2.cell? ⟨w.heap.size, 0, none⟩ = some (.int .i64 k) := hP2.cell 0
      have p1 : W2.cell? ⟨w.heap.size, 1, none⟩ = some (.int .i64 x) := hP2.cell 1
      have p2 : W2.cell? ⟨w.heap.size, 2, none⟩ = some (.int .i64 y) := hP2.cell 2
      have p3 : W2.cell? ⟨w.heap.size, 3, none⟩ = some (strV nm) := hP2.cell 3
      have p4 : W2.cell? ⟨w.heap.size, 4, none⟩ = some (.slice A kids.length cap) := hP2.cell 4
      have zp2 : w.heap.size < W2.heap.size := by omega
      clear hP2 hP1 hB1 hb1 hbw
      by_cases hk : k < 1 ∨ 10 < k
      · have hown : ownErr isName (.mk k x y nm kids) = 1 := by rw [ownErr_mk, if_pos hk]
        rw [hown, if_neg (by decide)] at hform
        replace hform := Lib.hid hform
        rw [if_pos hk] at hlk
        clear hown hk
        go_wp2
        go_ret
        exact ⟨by rw [hform.out]; rfl, by rw [hform.out]; exact hB2.out, hb2.out⟩
      · rw [if_neg hk] at hlk
        have hown0 := ownErr_mk isName k x y nm kids
        rw [if_neg hk] at hown0
        have hk2 : 1 ≤ k ∧ k ≤ 10 := by omega
        clear hk
        by_cases hlen : kids.length ≠ kidsOf k
        · rw [if_pos hlen] at hown0
          rw [hown0, if_neg (by decide)] at hform
          replace hform := Lib.hid hform
          have gg : ((kids.length : Int) != (kidsOf k : Int)) = true := by simp; omega
          clear hown0 hlen
          go_wp2
          go_ret
          exact ⟨by rw [hform.out]; rfl, by rw [hform.out]; exact hB2.out, hb2.out⟩
        · rw [if_neg hlen] at hown0
          have gg : ((kids.length : Int) != (kidsOf k : Int)) = false := by simp; omega
          clear hlen
          replace hform := Lib.hid hform
          go_upto_region 11 with fail
          clear r1 r2 r3 r4 r5 r6 r7 r8 r9 r10 hlk gg hmm zw w1 w2 w3 w4 w5 w6 w7 w8 w9
          have hk : k = 3 ∨ k = 4 ∨ k = 5 ∨ k = 9 ∨ k = 10 ∨ (k ≠ 3 ∧ k ≠ 4 ∧ k ≠ 5 ∧ k ≠ 9 ∧ k ≠ 10) := by omega
          rcases hk with hk | hk | hk | hk | hk | hk
          · as_aux_lemma =>
              subst hk
              clear hk2
              have hq : decide (x < 0) = true ∨ decide (x < 0) = false ∧ decide (1440 < y) = true ∨ decide (x < 0) = false ∧ decide (1440 < y) = false ∧ decide (y ≤ x) = true ∨ decide (x < 0) = false ∧ decide (1440 < y) = false ∧ decide (y ≤ x) = false := by
                simp only [decide_eq_true_eq, decide_eq_false_iff_not]; omega
              rcases hq with q1 | ⟨q1, q2⟩ | ⟨q1, q2, q3⟩ | ⟨q1, q2, q3⟩
              · have hown : ownErr isName (.mk 3 x y nm kids) = 3 := by
                  rw [hown0]
                  simp only [decide_eq_true_eq] at q1
                  exact (if_pos rfl).trans (if_pos (by omega))
                have hf := Lib.hid (show formE isName (.mk 3 x y nm kids) deep n = (3, n + 1) by rw [hform.out, hown, if_neg (by decide)])
                clear hown hown0
                go_wp2
                go_ret
                exact ⟨by rw [hf.out]; rfl, by rw [hf.out]; exact hB2.out, hb2.out⟩
              · have hown : ownErr isName (.mk 3 x y nm kids) = 3 := by
                  rw [hown0]
                  simp only [decide_eq_true_eq, decide_eq_false_iff_not] at q1 q2
                  exact (if_pos rfl).trans (if_pos (by omega))
                have hf := Lib.hid (show formE isName (.mk 3 x y nm kids) deep n = (3, n + 1) by rw [hform.out, hown, if_neg (by decide)])
                clear hown hown0
                go_wp2
                go_ret
                exact ⟨by rw [hf.out]; rfl, by rw [hf.out]; exact hB2.out, hb2.out⟩
              · have hown : ownErr isName (.mk 3 x y nm kids) = 3 := by
                  rw [hown0]
                  simp only [decide_eq_true_eq, decide_eq_false_iff_not] at q1 q2 q3
                  exact (if_pos rfl).trans (if_pos (by omega))
                have hf := Lib.hid (show formE isName (.mk 3 x y nm kids) deep n = (3, n + 1) by rw [hform.out, hown, if_neg (by decide)])
                clear hown hown0
                go_wp2
                go_ret
                exact ⟨by rw [hf.out]; rfl, by rw [hf.out]; exact hB2.out, hb2.out⟩
              · have hown : ownErr isName (.mk 3 x y nm kids) = 0 := by
                  rw [hown0]
                  simp only [decide_eq_false_iff_not] at q1 q2 q3
                  exact (if_pos rfl).trans (if_neg (by omega))
                go_upto_region 25 with fail
                have hmid := Lib.hid (show Blk W2 gs 3 #[.int .i64 ((n + 1 : Nat) : Int)] ∧ Below gs w W2 from ⟨hB2.out, hb2.out⟩)
                replace hform := Lib.hid (show formE isName (.mk 3 x y nm kids) deep n = formL isName kids (deep + 1) (n + 1) by rw [hform.out, hown, if_pos rfl])
                clear hown hown0
                go_wp2
                go_loopg [115] kids.length (fun m kv wr => ∃ j c : Nat, j ≤ kids.length ∧ m = kids.length - j ∧ kv = .int .i64 j ∧ formL isName (kids.drop j) (deep + 1) c = formE isName (.mk 3 x y nm kids) deep n ∧ c ≤ 600 ∧ Below gs w wr ∧ Blk wr gs 3 #[.int .i64 (c : Nat)])
                case atStart => exact ⟨0, n + 1, by omega, rfl, rfl, by rw [hform.out]; rfl, hn6.out, hmid.out.2, hmid.out.1⟩
                case round =>
                  obtain ⟨j, c, hj, hm, rfl, hfl, hc6, hbr, hBr⟩ := hrel
                  replace hm := Lib.hid hm
                  replace hfl := Lib.hid hfl
                  have zr := hBr.lt
                  by_cases hlt : j < kids.length
                  · obtain ⟨e1, hx⟩ : ∃ d, kids[j]? = some d := ⟨_, List.getElem?_eq_getElem hlt⟩
                    obtain ⟨kb, ko, rfl, hkb, hke⟩ := hkw.out.at' hx
                    have hst := Lib.hid (formL_at isName hx (deep + 1) c)
                    have hle := (formE_le isName e1 (deep + 1) c).2.2
                    have hkr := hke.below hbr (Nat.le_refl _) (Nat.le_refl _) hkb
                    obtain ⟨v0, v1, v2, v3, hnl1, A1, cap1, v4, hkl1, hkv1⟩ := hkr.out
                    have hzz : kb < wr.heap.size := by omega
                    have hbz : Below gs w (wr.alloc (.cells #[.int .i64 e1.kind, .int .i64 e1.a, .int .i64 e1.b, strV e1.name, .slice A1 e1.kids.length cap1] 48)) := hbr.alloc (by omega) _
                    have hcall := ih.out e1 (.agg #[.int .i64 e1.kind, .int .i64 e1.a, .int .i64 e1.b, strV e1.name, .slice A1 e1.kids.length cap1]) (wr.alloc (.cells #[.int .i64 e1.kind, .int .i64 e1.a, .int .i64 e1.b, strV e1.name, .slice A1 e1.kids.length cap1] 48)) gs (deep + 1) c (by have := nodesE_kid hx; have := hnod.out; omega) ⟨A1, cap1, rfl, hnl1, hkl1, hkv1.below ((Below.refl gs wr).alloc (by omega) _) (Nat.le_refl _) (Nat.le_refl _)⟩ (hBr.alloc _) (by omega) hc6
                    rw [show ((deep + 1 : Nat) : Int) = (deep : Int) + 1 by omega] at hcall
                    replace hcall := Lib.hid hcall
                    clear hx hke hkv1 hkr hkl1 hnl1
                    by_cases h0 : (formE isName e1 (deep + 1) c).1 = 0
                    · have hc7 : (formE isName e1 (deep + 1) c).2 ≤ 600 := by have := hle h0; omega
                      have hfl2 := Lib.hid (show formL isName (kids.drop (j + 1)) (deep + 1) (formE isName e1 (deep + 1) c).2 = formE isName (.mk 3 x y nm kids) deep n by rw [← hfl.out, hst.out, if_pos h0])
                      rw [h0] at hcall
                      clear hle h0 hst
                      generalize hc8 : (formE isName e1 (deep + 1) c).2 = c8 at *
                      clear hc8
                      go_wp2_with (go_at_call 83; refine hcall.out.mono ?_; rintro e w5 ⟨rfl, hB5, hb5⟩)
                      go_roundg (kids.length - (j + 1))
                      case measure => rw [hm.out]; omega
                      case rel => exact ⟨j + 1, c8, by omega, rfl, by go_num, hfl2.out, hc7, hbz.trans hb5, hB5⟩
                    · have hfl2 := Lib.hid (show formE isName (.mk 3 x y nm kids) deep n = formE isName e1 (deep + 1) c by rw [← hfl.out, hst.out, if_neg h0])
                      have g : ((formE isName e1 (deep + 1) c).1 != 0) = true := by simpa using h0
                      clear hle h0 hst
                      go_wp2_with (go_at_call 83; refine hcall.out.mono ?_; rintro e w5 ⟨rfl, hB5, hb5⟩)
                      go_ret
                      exact ⟨by rw [hfl2.out]; rfl, by rw [hfl2.out]; exact hB5, hbz.trans hb5⟩
                  · obtain rfl : j = kids.length := by omega
                    have hf0 := Lib.hid (show formE isName (.mk 3 x y nm kids) deep n = (0, c) by rw [← hfl.out, List.drop_length]; rfl)
                    go_wp2
                    go_ret
                    exact ⟨by rw [hf0.out]; rfl, by rw [hf0.out]; exact hBr, hbr⟩
          · as_aux_lemma =>
              subst hk
              clear hk2
              have hq : decide (x < 1) = true ∨ decide (x < 1) = false ∧ decide (127 < x) = true ∨ decide (x < 1) = false ∧ decide (127 < x) = false := by
                simp only [decide_eq_true_eq, decide_eq_false_iff_not]; omega
              rcases hq with q1 | ⟨q1, q2⟩ | ⟨q1, q2⟩
              · have hown : ownErr isName (.mk 4 x y nm kids) = 3 := by
                  rw [hown0]
                  simp only [decide_eq_true_eq] at q1
                  exact (if_neg (by decide)).trans ((if_pos rfl).trans (if_pos (by omega)))
                have hf := Lib.hid (show formE isName (.mk 4 x y nm kids) deep n = (3, n + 1) by rw [hform.out, hown, if_neg (by decide)])
                clear hown hown0
                go_wp2
                go_ret
                exact ⟨by rw [hf.out]; rfl, by rw [hf.out]; exact hB2.out, hb2.out⟩
              · have hown : ownErr isName (.mk 4 x y nm kids) = 3 := by
                  rw [hown0]
                  simp only [decide_eq_true_eq, decide_eq_false_iff_not] at q1 q2
                  exact (if_neg (by decide)).trans ((if_pos rfl).trans (if_pos (by omega)))
                have hf := Lib.hid (show formE isName (.mk 4 x y nm kids) deep n = (3, n + 1) by rw [hform.out, hown, if_neg (by decide)])
                clear hown hown0
                go_wp2
                go_ret
                exact ⟨by rw [hf.out]; rfl, by rw [hf.out]; exact hB2.out, hb2.out⟩
              · have hown : ownErr isName (.mk 4 x y nm kids) = 0 := by
                  rw [hown0]
                  simp only [decide_eq_false_iff_not] at q1 q2
                  exact (if_neg (by decide)).trans ((if_pos rfl).trans (if_neg (by omega)))
                go_upto_region 25 with fail
                have hmid := Lib.hid (show Blk W2 gs 3 #[.int .i64 ((n + 1 : Nat) : Int)] ∧ Below gs w W2 from ⟨hB2.out, hb2.out⟩)
                replace hform := Lib.hid (show formE isName (.mk 4 x y nm kids) deep n = formL isName kids (deep + 1) (n + 1) by rw [hform.out, hown, if_pos rfl])
                clear hown hown0
                go_wp2
                go_loopg [115] kids.length (fun m kv wr => ∃ j c : Nat, j ≤ kids.length ∧ m = kids.length - j ∧ kv = .int .i64 j ∧ formL isName (kids.drop j) (deep + 1) c = formE isName (.mk 4 x y nm kids) deep n ∧ c ≤ 600 ∧ Below gs w wr ∧ Blk wr gs 3 #[.int .i64 (c : Nat)])
                case atStart => exact ⟨0, n + 1, by omega, rfl, rfl, by rw [hform.out]; rfl, hn6.out, hmid.out.2, hmid.out.1⟩
                case round =>
                  obtain ⟨j, c, hj, hm, rfl, hfl, hc6, hbr, hBr⟩ := hrel
                  replace hm := Lib.hid hm
                  replace hfl := Lib.hid hfl
                  have zr := hBr.lt
                  by_cases hlt : j < kids.length
                  · obtain ⟨e1, hx⟩ : ∃ d, kids[j]? = some d := ⟨_, List.getElem?_eq_getElem hlt⟩
                    obtain ⟨kb, ko, rfl, hkb, hke⟩ := hkw.out.at' hx
                    have hst := Lib.hid (formL_at isName hx (deep + 1) c)
                    have hle := (formE_le isName e1 (deep + 1) c).2.2
                    have hkr := hke.below hbr (Nat.le_refl _) (Nat.le_refl _) hkb
                    obtain ⟨v0, v1, v2, v3, hnl1, A1, cap1, v4, hkl1, hkv1⟩ := hkr.out
                    have hzz : kb < wr.heap.size := by omega
                    have hbz : Below gs w (wr.alloc (.cells #[.int .i64 e1.kind, .int .i64 e1.a, .int .i64 e1.b, strV e1.name, .slice A1 e1.kids.length cap1] 48)) := hbr.alloc (by omega) _
                    have hcall := ih.out e1 (.agg #[.int .i64 e1.kind, .int .i64 e1.a, .int .i64 e1.b, strV e1.name, .slice A1 e1.kids.length cap1]) (wr.alloc (.cells #[.int .i64 e1.kind, .int .i64 e1.a, .int .i64 e1.b, strV e1.name, .slice A1 e1.kids.length cap1] 48)) gs (deep + 1) c (by have := nodesE_kid hx; have := hnod.out; omega) ⟨A1, cap1, rfl, hnl1, hkl1, hkv1.below ((Below.refl gs wr).alloc (by omega) _) (Nat.le_refl _) (Nat.le_refl _)⟩ (hBr.alloc _) (by omega) hc6
                    rw [show ((deep + 1 : Nat) : Int) = (deep : Int) + 1 by omega] at hcall
                    replace hcall := Lib.hid hcall
                    clear hx hke hkv1 hkr hkl1 hnl1
                    by_cases h0 : (formE isName e1 (deep + 1) c).1 = 0
                    · have hc7 : (formE isName e1 (deep + 1) c).2 ≤ 600 := by have := hle h0; omega
                      have hfl2 := Lib.hid (show formL isName (kids.drop (j + 1)) (deep + 1) (formE isName e1 (deep + 1) c).2 = formE isName (.mk 4 x y nm kids) deep n by rw [← hfl.out, hst.out, if_pos h0])
                      rw [h0] at hcall
                      clear hle h0 hst
                      generalize hc8 : (formE isName e1 (deep + 1) c).2 = c8 at *
                      clear hc8
                      go_wp2_with (go_at_call 83; refine hcall.out.mono ?_; rintro e w5 ⟨rfl, hB5, hb5⟩)
                      go_roundg (kids.length - (j + 1))
                      case measure => rw [hm.out]; omega
                      case rel => exact ⟨j + 1, c8, by omega, rfl, by go_num, hfl2.out, hc7, hbz.trans hb5, hB5⟩
                    · have hfl2 := Lib.hid (show formE isName (.mk 4 x y nm kids) deep n = formE isName e1 (deep + 1) c by rw [← hfl.out, hst.out, if_neg h0])
                      have g : ((formE isName e1 (deep + 1) c).1 != 0) = true := by simpa using h0
                      clear hle h0 hst
                      go_wp2_with (go_at_call 83; refine hcall.out.mono ?_; rintro e w5 ⟨rfl, hB5, hb5⟩)
                      go_ret
                      exact ⟨by rw [hfl2.out]; rfl, by rw [hfl2.out]; exact hB5, hbz.trans hb5⟩
                  · obtain rfl : j = kids.length := by omega
                    have hf0 := Lib.hid (show formE isName (.mk 4 x y nm kids) deep n = (0, c) by rw [← hfl.out, List.drop_length]; rfl)
                    go_wp2
                    go_ret
                    exact ⟨by rw [hf0.out]; rfl, by rw [hf0.out]; exact hBr, hbr⟩
          · as_aux_lemma =>
              subst hk
              clear hk2
              have hq : decide (x < 0) = true ∨ decide (x < 0) = false ∧ decide (146097 ≤ y) = true ∨ decide (x < 0) = false ∧ decide (146097 ≤ y) = false ∧ decide (y < x) = true ∨ decide (x < 0) = false ∧ decide (146097 ≤ y) = false ∧ decide (y < x) = false := by
                simp only [decide_eq_true_eq, decide_eq_false_iff_not]; omega
              rcases hq with q1 | ⟨q1, q2⟩ | ⟨q1, q2, q3⟩ | ⟨q1, q2, q3⟩
              · have hown : ownErr isName (.mk 5 x y nm kids) = 3 := by
                  rw [hown0]
                  simp only [decide_eq_true_eq] at q1
                  exact (if_neg (by decide)).trans ((if_neg (by decide)).trans ((if_pos rfl).trans (if_pos (by omega))))
                have hf := Lib.hid (show formE isName (.mk 5 x y nm kids) deep n = (3, n + 1) by rw [hform.out, hown, if_neg (by decide)])
                clear hown hown0
                go_wp2
                go_ret
                exact ⟨by rw [hf.out]; rfl, by rw [hf.out]; exact hB2.out, hb2.out⟩
              · have hown : ownErr isName (.mk 5 x y nm kids) = 3 := by
                  rw [hown0]
                  simp only [decide_eq_true_eq, decide_eq_false_iff_not] at q1 q2
                  exact (if_neg (by decide)).trans ((if_neg (by decide)).trans ((if_pos rfl).trans (if_pos (by omega))))
                have hf := Lib.hid (show formE isName (.mk 5 x y nm kids) deep n = (3, n + 1) by rw [hform.out, hown, if_neg (by decide)])
                clear hown hown0
                go_wp2
                go_ret
                exact ⟨by rw [hf.out]; rfl, by rw [hf.out]; exact hB2.out, hb2.out⟩
              · have hown : ownErr isName (.mk 5 x y nm kids) = 3 := by
                  rw [hown0]
                  simp only [decide_eq_true_eq, decide_eq_false_iff_not] at q1 q2 q3
                  exact (if_neg (by decide)).trans ((if_neg (by decide)).trans ((if_pos rfl).trans (if_pos (by omega))))
                have hf := Lib.hid (show formE isName (.mk 5 x y nm kids) deep n = (3, n + 1) by rw [hform.out, hown, if_neg (by decide)])
                clear hown hown0
                go_wp2
                go_ret
                exact ⟨by rw [hf.out]; rfl, by rw [hf.out]; exact hB2.out, hb2.out⟩
              · have hown : ownErr isName (.mk 5 x y nm kids) = 0 := by
                  rw [hown0]
                  simp only [decide_eq_false_iff_not] at q1 q2 q3
                  exact (if_neg (by decide)).trans ((if_neg (by decide)).trans ((if_pos rfl).trans (if_neg (by omega))))
                go_upto_region 25 with fail
                have hmid := Lib.hid (show Blk W2 gs 3 #[.int .i64 ((n + 1 : Nat) : Int)] ∧ Below gs w W2 from ⟨hB2.out, hb2.out⟩)
                replace hform := Lib.hid (show formE isName (.mk 5 x y nm kids) deep n = formL isName kids (deep + 1) (n + 1) by rw [hform.out, hown, if_pos rfl])
                clear hown hown0
                go_wp2
                go_loopg [115] kids.length (fun m kv wr => ∃ j c : Nat, j ≤ kids.length ∧ m = kids.length - j ∧ kv = .int .i64 j ∧ formL isName (kids.drop j) (deep + 1) c = formE isName (.mk 5 x y nm kids) deep n ∧ c ≤ 600 ∧ Below gs w wr ∧ Blk wr gs 3 #[.int .i64 (c : Nat)])
                case atStart => exact ⟨0, n + 1, by omega, rfl, rfl, by rw [hform.out]; rfl, hn6.out, hmid.out.2, hmid.out.1⟩
                case round =>
                  obtain ⟨j, c, hj, hm, rfl, hfl, hc6, hbr, hBr⟩ := hrel
                  replace hm := Lib.hid hm
                  replace hfl := Lib.hid hfl
                  have zr := hBr.lt
                  by_cases hlt : j < kids.length
                  · obtain ⟨e1, hx⟩ : ∃ d, kids[j]? = some d := ⟨_, List.getElem?_eq_getElem hlt⟩
                    obtain ⟨kb, ko, rfl, hkb, hke⟩ := hkw.out.at' hx
                    have hst := Lib.hid (formL_at isName hx (deep + 1) c)
                    have hle := (formE_le isName e1 (deep + 1) c).2.2
                    have hkr := hke.below hbr (Nat.le_refl _) (Nat.le_refl _) hkb
                    obtain ⟨v0, v1, v2, v3, hnl1, A1, cap1, v4, hkl1, hkv1⟩ := hkr.out
                    have hzz : kb < wr.heap.size := by omega
                    have hbz : Below gs w (wr.alloc (.cells #[.int .i64 e1.kind, .int .i64 e1.a, .int .i64 e1.b, strV e1.name, .slice A1 e1.kids.length cap1] 48)) := hbr.alloc (by omega) _
                    have hcall := ih.out e1 (.agg #[.int .i64 e1.kind, .int .i64 e1.a, .int .i64 e1.b, strV e1.name, .slice A1 e1.kids.length cap1]) (wr.alloc (.cells #[.int .i64 e1.kind, .int .i64 e1.a, .int .i64 e1.b, strV e1.name, .slice A1 e1.kids.length cap1] 48)) gs (deep + 1) c (by have := nodesE_kid hx; have := hnod.out; omega) ⟨A1, cap1, rfl, hnl1, hkl1, hkv1.below ((Below.refl gs wr).alloc (by omega) _) (Nat.le_refl _) (Nat.le_refl _)⟩ (hBr.alloc _) (by omega) hc6
                    rw [show ((deep + 1 : Nat) : Int) = (deep : Int) + 1 by omega] at hcall
                    replace hcall := Lib.hid hcall
                    clear hx hke hkv1 hkr hkl1 hnl1
                    by_cases h0 : (formE isName e1 (deep + 1) c).1 = 0
                    · have hc7 : (formE isName e1 (deep + 1) c).2 ≤ 600 := by have := hle h0; omega
                      have hfl2 := Lib.hid (show formL isName (kids.drop (j + 1)) (deep + 1) (formE isName e1 (deep + 1) c).2 = formE isName (.mk 5 x y nm kids) deep n by rw [← hfl.out, hst.out, if_pos h0])
                      rw [h0] at hcall
                      clear hle h0 hst
                      generalize hc8 : (formE isName e1 (deep + 1) c).2 = c8 at *
                      clear hc8
                      go_wp2_with (go_at_call 83; refine hcall.out.mono ?_; rintro e w5 ⟨rfl, hB5, hb5⟩)
                      go_roundg (kids.length - (j + 1))
                      case measure => rw [hm.out]; omega
                      case rel => exact ⟨j + 1, c8, by omega, rfl, by go_num, hfl2.out, hc7, hbz.trans hb5, hB5⟩
                    · have hfl2 := Lib.hid (show formE isName (.mk 5 x y nm kids) deep n = formE isName e1 (deep + 1) c by rw [← hfl.out, hst.out, if_neg h0])
                      have g : ((formE isName e1 (deep + 1) c).1 != 0) = true := by simpa using h0
                      clear hle h0 hst
                      go_wp2_with (go_at_call 83; refine hcall.out.mono ?_; rintro e w5 ⟨rfl, hB5, hb5⟩)
                      go_ret
                      exact ⟨by rw [hfl2.out]; rfl, by rw [hfl2.out]; exact hB5, hbz.trans hb5⟩
                  · obtain rfl : j = kids.length := by omega
                    have hf0 := Lib.hid (show formE isName (.mk 5 x y nm kids) deep n = (0, c) by rw [← hfl.out, List.drop_length]; rfl)
                    go_wp2
                    go_ret
                    exact ⟨by rw [hf0.out]; rfl, by rw [hf0.out]; exact hBr, hbr⟩
          · as_aux_lemma =>
              subst hk
              clear hk2
              have hq : (x == 0) = true ∨ (x == 0) = false ∧ decide (1439 < x) = true ∨ (x == 0) = false ∧ decide (1439 < x) = false ∧ decide (x < -1439) = true ∨ (x == 0) = false ∧ decide (1439 < x) = false ∧ decide (x < -1439) = false := by
                simp only [decide_eq_true_eq, decide_eq_false_iff_not, beq_iff_eq, beq_eq_false_iff_ne]; omega
              rcases hq with q1 | ⟨q1, q2⟩ | ⟨q1, q2, q3⟩ | ⟨q1, q2, q3⟩
              · have hown : ownErr isName (.mk 9 x y nm kids) = 3 := by
                  rw [hown0]
                  simp only [beq_iff_eq] at q1
                  exact (if_neg (by decide)).trans ((if_neg (by decide)).trans ((if_neg (by decide)).trans ((if_pos rfl).trans (if_pos (by omega)))))
                have hf := Lib.hid (show formE isName (.mk 9 x y nm kids) deep n = (3, n + 1) by rw [hform.out, hown, if_neg (by decide)])
                clear hown hown0
                go_wp2
                go_ret
                exact ⟨by rw [hf.out]; rfl, by rw [hf.out]; exact hB2.out, hb2.out⟩
              · have hown : ownErr isName (.mk 9 x y nm kids) = 3 := by
                  rw [hown0]
                  simp only [decide_eq_true_eq, beq_eq_false_iff_ne] at q1 q2
                  exact (if_neg (by decide)).trans ((if_neg (by decide)).trans ((if_neg (by decide)).trans ((if_pos rfl).trans (if_pos (by omega)))))
                have hf := Lib.hid (show formE isName (.mk 9 x y nm kids) deep n = (3, n + 1) by rw [hform.out, hown, if_neg (by decide)])
                clear hown hown0
                go_wp2
                go_ret
                exact ⟨by rw [hf.out]; rfl, by rw [hf.out]; exact hB2.out, hb2.out⟩
              · have hown : ownErr isName (.mk 9 x y nm kids) = 3 := by
                  rw [hown0]
                  simp only [decide_eq_true_eq, decide_eq_false_iff_not, beq_eq_false_iff_ne] at q1 q2 q3
                  exact (if_neg (by decide)).trans ((if_neg (by decide)).trans ((if_neg (by decide)).trans ((if_pos rfl).trans (if_pos (by omega)))))
                have hf := Lib.hid (show formE isName (.mk 9 x y nm kids) deep n = (3, n + 1) by rw [hform.out, hown, if_neg (by decide)])
                clear hown hown0
                go_wp2
                go_ret
                exact ⟨by rw [hf.out]; rfl, by rw [hf.out]; exact hB2.out, hb2.out⟩
              · have hown : ownErr isName (.mk 9 x y nm kids) = 0 := by
                  rw [hown0]
                  simp only [decide_eq_false_iff_not, beq_eq_false_iff_ne] at q1 q2 q3
                  exact (if_neg (by decide)).trans ((if_neg (by decide)).trans ((if_neg (by decide)).trans ((if_pos rfl).trans (if_neg (by omega)))))
                go_upto_region 25 with fail
                have hmid := Lib.hid (show Blk W2 gs 3 #[.int .i64 ((n + 1 : Nat) : Int)] ∧ Below gs w W2 from ⟨hB2.out, hb2.out⟩)
                replace hform := Lib.hid (show formE isName (.mk 9 x y nm kids) deep n = formL isName kids (deep + 1) (n + 1) by rw [hform.out, hown, if_pos rfl])
                clear hown hown0
                go_wp2
                go_loopg [115] kids.length (fun m kv wr => ∃ j c : Nat, j ≤ kids.length ∧ m = kids.length - j ∧ kv = .int .i64 j ∧ formL isName (kids.drop j) (deep + 1) c = formE isName (.mk 9 x y nm kids) deep n ∧ c ≤ 600 ∧ Below gs w wr ∧ Blk wr gs 3 #[.int .i64 (c : Nat)])
                case atStart => exact ⟨0, n + 1, by omega, rfl, rfl, by rw [hform.out]; rfl, hn6.out, hmid.out.2, hmid.out.1⟩
                case round =>
                  obtain ⟨j, c, hj, hm, rfl, hfl, hc6, hbr, hBr⟩ := hrel
                  replace hm := Lib.hid hm
                  replace hfl := Lib.hid hfl
                  have zr := hBr.lt
                  by_cases hlt : j < kids.length
                  · obtain ⟨e1, hx⟩ : ∃ d, kids[j]? = some d := ⟨_, List.getElem?_eq_getElem hlt⟩
                    obtain ⟨kb, ko, rfl, hkb, hke⟩ := hkw.out.at' hx
                    have hst := Lib.hid (formL_at isName hx (deep + 1) c)
                    have hle := (formE_le isName e1 (deep + 1) c).2.2
                    have hkr := hke.below hbr (Nat.le_refl _) (Nat.le_refl _) hkb
                    obtain ⟨v0, v1, v2, v3, hnl1, A1, cap1, v4, hkl1, hkv1⟩ := hkr.out
                    have hzz : kb < wr.heap.size := by omega
                    have hbz : Below gs w (wr.alloc (.cells #[.int .i64 e1.kind, .int .i64 e1.a, .int .i64 e1.b, strV e1.name, .slice A1 e1.kids.length cap1] 48)) := hbr.alloc (by omega) _
                    have hcall := ih.out e1 (.agg #[.int .i64 e1.kind, .int .i64 e1.a, .int .i64 e1.b, strV e1.name, .slice A1 e1.kids.length cap1]) (wr.alloc (.cells #[.int .i64 e1.kind, .int .i64 e1.a, .int .i64 e1.b, strV e1.name, .slice A1 e1.kids.length cap1] 48)) gs (deep + 1) c (by have := nodesE_kid hx; have := hnod.out; omega) ⟨A1, cap1, rfl, hnl1, hkl1, hkv1.below ((Below.refl gs wr).alloc (by omega) _) (Nat.le_refl _) (Nat.le_refl _)⟩ (hBr.alloc _) (by omega) hc6
                    rw [show ((deep + 1 : Nat) : Int) = (deep : Int) + 1 by omega] at hcall
                    replace hcall := Lib.hid hcall
                    clear hx hke hkv1 hkr hkl1 hnl1
                    by_cases h0 : (formE isName e1 (deep + 1) c).1 = 0
                    · have hc7 : (formE isName e1 (deep + 1) c).2 ≤ 600 := by have := hle h0; omega
                      have hfl2 := Lib.hid (show formL isName (kids.drop (j + 1)) (deep + 1) (formE isName e1 (deep + 1) c).2 = formE isName (.mk 9 x y nm kids) deep n by rw [← hfl.out, hst.out, if_pos h0])
                      rw [h0] at hcall
                      clear hle h0 hst
                      generalize hc8 : (formE isName e1 (deep + 1) c).2 = c8 at *
                      clear hc8
                      go_wp2_with (go_at_call 83; refine hcall.out.mono ?_; rintro e w5 ⟨rfl, hB5, hb5⟩)
                      go_roundg (kids.length - (j + 1))
                      case measure => rw [hm.out]; omega
                      case rel => exact ⟨j + 1, c8, by omega, rfl, by go_num, hfl2.out, hc7, hbz.trans hb5, hB5⟩
                    · have hfl2 := Lib.hid (show formE isName (.mk 9 x y nm kids) deep n = formE isName e1 (deep + 1) c by rw [← hfl.out, hst.out, if_neg h0])
                      have g : ((formE isName e1 (deep + 1) c).1 != 0) = true := by simpa using h0
                      clear hle h0 hst
                      go_wp2_with (go_at_call 83; refine hcall.out.mono ?_; rintro e w5 ⟨rfl, hB5, hb5⟩)
                      go_ret
                      exact ⟨by rw [hfl2.out]; rfl, by rw [hfl2.out]; exact hB5, hbz.trans hb5⟩
                  · obtain rfl : j = kids.length := by omega
                    have hf0 := Lib.hid (show formE isName (.mk 9 x y nm kids) deep n = (0, c) by rw [← hfl.out, List.drop_length]; rfl)
                    go_wp2
                    go_ret
                    exact ⟨by rw [hf0.out]; rfl, by rw [hf0.out]; exact hBr, hbr⟩
          · as_aux_lemma =>
              subst hk
              clear hk2
              have z2g : gs < W2.heap.size := hB2.out.lt
              cases hnm : isName nm with
              | true =>
                have hown : ownErr isName (.mk 10 x y nm kids) = 0 := by rw [hown0, hnm]; rfl
                have hN := Lib.hid (RNamed_any nm W2 hnl.1)
                rw [hnm] at hN
                clear hnm
                go_upto_region 25 with (go_at_call 82; refine hN.out.mono ?_; rintro e w5 ⟨rfl, hb5⟩; obtain ⟨n5, rfl⟩ := After.of hb5)
                have hmid := Lib.hid (show Blk n5.w gs 3 #[.int .i64 ((n + 1 : Nat) : Int)] ∧ Below gs w n5.w from ⟨hB2.out.below n5.below z2g, hb2.out.trans (n5.below.mono (by omega))⟩)
                replace hform := Lib.hid (show formE isName (.mk 10 x y nm kids) deep n = formL isName kids (deep + 1) (n + 1) by rw [hform.out, hown, if_pos rfl])
                clear hown hown0
                go_wp2
                go_loopg [115] kids.length (fun m kv wr => ∃ j c : Nat, j ≤ kids.length ∧ m = kids.length - j ∧ kv = .int .i64 j ∧ formL isName (kids.drop j) (deep + 1) c = formE isName (.mk 10 x y nm kids) deep n ∧ c ≤ 600 ∧ Below gs w wr ∧ Blk wr gs 3 #[.int .i64 (c : Nat)])
                case atStart => exact ⟨0, n + 1, by omega, rfl, rfl, by rw [hform.out]; rfl, hn6.out, hmid.out.2, hmid.out.1⟩
                case round =>
                  obtain ⟨j, c, hj, hm, rfl, hfl, hc6, hbr, hBr⟩ := hrel
                  replace hm := Lib.hid hm
                  replace hfl := Lib.hid hfl
                  have zr := hBr.lt
                  by_cases hlt : j < kids.length
                  · obtain ⟨e1, hx⟩ : ∃ d, kids[j]? = some d := ⟨_, List.getElem?_eq_getElem hlt⟩
                    obtain ⟨kb, ko, rfl, hkb, hke⟩ := hkw.out.at' hx
                    have hst := Lib.hid (formL_at isName hx (deep + 1) c)
                    have hle := (formE_le isName e1 (deep + 1) c).2.2
                    have hkr := hke.below hbr (Nat.le_refl _) (Nat.le_refl _) hkb
                    obtain ⟨v0, v1, v2, v3, hnl1, A1, cap1, v4, hkl1, hkv1⟩ := hkr.out
                    have hzz : kb < wr.heap.size := by omega
                    have hbz : Below gs w (wr.alloc (.cells #[.int .i64 e1.kind, .int .i64 e1.a, .int .i64 e1.b, strV e1.name, .slice A1 e1.kids.length cap1] 48)) := hbr.alloc (by omega) _
                    have hcall := ih.out e1 (.agg #[.int .i64 e1.kind, .int .i64 e1.a, .int .i64 e1.b, strV e1.name, .slice A1 e1.kids.length cap1]) (wr.alloc (.cells #[.int .i64 e1.kind, .int .i64 e1.a, .int .i64 e1.b, strV e1.name, .slice A1 e1.kids.length cap1] 48)) gs (deep + 1) c (by have := nodesE_kid hx; have := hnod.out; omega) ⟨A1, cap1, rfl, hnl1, hkl1, hkv1.below ((Below.refl gs wr).alloc (by omega) _) (Nat.le_refl _) (Nat.le_refl _)⟩ (hBr.alloc _) (by omega) hc6
                    rw [show ((deep + 1 : Nat) : Int) = (deep : Int) + 1 by omega] at hcall
                    replace hcall := Lib.hid hcall
                    clear hx hke hkv1 hkr hkl1 hnl1
                    by_cases h0 : (formE isName e1 (deep + 1) c).1 = 0
                    · have hc7 : (formE isName e1 (deep + 1) c).2 ≤ 600 := by have := hle h0; omega
                      have hfl2 := Lib.hid (show formL isName (kids.drop (j + 1)) (deep + 1) (formE isName e1 (deep + 1) c).2 = formE isName (.mk 10 x y nm kids) deep n by rw [← hfl.out, hst.out, if_pos h0])
                      rw [h0] at hcall
                      clear hle h0 hst
                      generalize hc8 : (formE isName e1 (deep + 1) c).2 = c8 at *
                      clear hc8
                      go_wp2_with (go_at_call 83; refine hcall.out.mono ?_; rintro e w5 ⟨rfl, hB5, hb5⟩)
                      go_roundg (kids.length - (j + 1))
                      case measure => rw [hm.out]; omega
                      case rel => exact ⟨j + 1, c8, by omega, rfl, by go_num, hfl2.out, hc7, hbz.trans hb5, hB5⟩
                    · have hfl2 := Lib.hid (show formE isName (.mk 10 x y nm kids) deep n = formE isName e1 (deep + 1) c by rw [← hfl.out, hst.out, if_neg h0])
                      have g : ((formE isName e1 (deep + 1) c).1 != 0) = true := by simpa using h0
                      clear hle h0 hst
                      go_wp2_with (go_at_call 83; refine hcall.out.mono ?_; rintro e w5 ⟨rfl, hB5, hb5⟩)
                      go_ret
                      exact ⟨by rw [hfl2.out]; rfl, by rw [hfl2.out]; exact hB5, hbz.trans hb5⟩
                  · obtain rfl : j = kids.length := by omega
                    have hf0 := Lib.hid (show formE isName (.mk 10 x y nm kids) deep n = (0, c) by rw [← hfl.out, List.drop_length]; rfl)
                    go_wp2
                    go_ret
                    exact ⟨by rw [hf0.out]; rfl, by rw [hf0.out]; exact hBr, hbr⟩
              | false =>
                have hown : ownErr isName (.mk 10 x y nm kids) = 7 := by rw [hown0, hnm]; rfl
                have hf := Lib.hid (show formE isName (.mk 10 x y nm kids) deep n = (7, n + 1) by rw [hform.out, hown, if_neg (by decide)])
                have hN := Lib.hid (RNamed_any nm W2 hnl.1)
                rw [hnm] at hN
                clear hnm
                go_wp2_with (go_at_call 82; refine hN.out.mono ?_; rintro e w5 ⟨rfl, hb5⟩)
                go_ret
                exact ⟨by rw [hf.out]; rfl, by rw [hf.out]; exact hB2.out.below hb5 z2g, hb2.out.trans (hb5.mono (by omega))⟩
          · as_aux_lemma =>
              obtain ⟨h3, h4, h5, h9, h10⟩ := hk
              have b3 : (k == 3) = false := by simpa using h3
              have b4 : (k == 4) = false := by simpa using h4
              have b5 : (k == 5) = false := by simpa using h5
              have b9 : (k == 9) = false := by simpa using h9
              have b10 : (k == 10) = false := by simpa using h10
              have hown : ownErr isName (.mk k x y nm kids) = 0 := by rw [hown0, if_neg h3, if_neg h4, if_neg h5, if_neg h9, if_neg h10]
              clear h3 h4 h5 h9 h10
              go_upto_region 25 with fail
              have hmid := Lib.hid (show Blk W2 gs 3 #[.int .i64 ((n + 1 : Nat) : Int)] ∧ Below gs w W2 from ⟨hB2.out, hb2.out⟩)
              replace hform := Lib.hid (show formE isName (.mk k x y nm kids) deep n = formL isName kids (deep + 1) (n + 1) by rw [hform.out, hown, if_pos rfl])
              clear hown hown0
              go_wp2
              go_loopg [115] kids.length (fun m kv wr => ∃ j c : Nat, j ≤ kids.length ∧ m = kids.length - j ∧ kv = .int .i64 j ∧ formL isName (kids.drop j) (deep + 1) c = formE isName (.mk k x y nm kids) deep n ∧ c ≤ 600 ∧ Below gs w wr ∧ Blk wr gs 3 #[.int .i64 (c : Nat)])
              case atStart => exact ⟨0, n + 1, by omega, rfl, rfl, by rw [hform.out]; rfl, hn6.out, hmid.out.2, hmid.out.1⟩
              case round =>
                obtain ⟨j, c, hj, hm, rfl, hfl, hc6, hbr, hBr⟩ := hrel
                replace hm := Lib.hid hm
                replace hfl := Lib.hid hfl
                have zr := hBr.lt
                by_cases hlt : j < kids.length
                · obtain ⟨e1, hx⟩ : ∃ d, kids[j]? = some d := ⟨_, List.getElem?_eq_getElem hlt⟩
                  obtain ⟨kb, ko, rfl, hkb, hke⟩ := hkw.out.at' hx
                  have hst := Lib.hid (formL_at isName hx (deep + 1) c)
                  have hle := (formE_le isName e1 (deep + 1) c).2.2
                  have hkr := hke.below hbr (Nat.le_refl _) (Nat.le_refl _) hkb
                  obtain ⟨v0, v1, v2, v3, hnl1, A1, cap1, v4, hkl1, hkv1⟩ := hkr.out
                  have hzz : kb < wr.heap.size := by omega
                  have hbz : Below gs w (wr.alloc (.cells #[.int .i64 e1.kind, .int .i64 e1.a, .int .i64 e1.b, strV e1.name, .slice A1 e1.kids.length cap1] 48)) := hbr.alloc (by omega) _
                  have hcall := ih.out e1 (.agg #[.int .i64 e1.kind, .int .i64 e1.a, .int .i64 e1.b, strV e1.name, .slice A1 e1.kids.length cap1]) (wr.alloc (.cells #[.int .i64 e1.kind, .int .i64 e1.a, .int .i64 e1.b, strV e1.name, .slice A1 e1.kids.length cap1] 48)) gs (deep + 1) c (by have := nodesE_kid hx; have := hnod.out; omega) ⟨A1, cap1, rfl, hnl1, hkl1, hkv1.below ((Below.refl gs wr).alloc (by omega) _) (Nat.le_refl _) (Nat.le_refl _)⟩ (hBr.alloc _) (by omega) hc6
                  rw [show ((deep + 1 : Nat) : Int) = (deep : Int) + 1 by omega] at hcall
                  replace hcall := Lib.hid hcall
                  clear hx hke hkv1 hkr hkl1 hnl1
                  by_cases h0 : (formE isName e1 (deep + 1) c).1 = 0
                  · have hc7 : (formE isName e1 (deep + 1) c).2 ≤ 600 := by have := hle h0; omega
                    have hfl2 := Lib.hid (show formL isName (kids.drop (j + 1)) (deep + 1) (formE isName e1 (deep + 1) c).2 = formE isName (.mk k x y nm kids) deep n by rw [← hfl.out, hst.out, if_pos h0])
                    rw [h0] at hcall
                    clear hle h0 hst
                    generalize hc8 : (formE isName e1 (deep + 1) c).2 = c8 at *
                    clear hc8
                    go_wp2_with (go_at_call 83; refine hcall.out.mono ?_; rintro e w5 ⟨rfl, hB5, hb5⟩)
                    go_roundg (kids.length - (j + 1))
                    case measure => rw [hm.out]; omega
                    case rel => exact ⟨j + 1, c8, by omega, rfl, by go_num, hfl2.out, hc7, hbz.trans hb5, hB5⟩
                  · have hfl2 := Lib.hid (show formE isName (.mk k x y nm kids) deep n = formE isName e1 (deep + 1) c by rw [← hfl.out, hst.out, if_neg h0])
                    have g : ((formE isName e1 (deep + 1) c).1 != 0) = true := by simpa using h0
                    clear hle h0 hst
                    go_wp2_with (go_at_call 83; refine hcall.out.mono ?_; rintro e w5 ⟨rfl, hB5, hb5⟩)
                    go_ret
                    exact ⟨by rw [hfl2.out]; rfl, by rw [hfl2.out]; exact hB5, hbz.trans hb5⟩
                · obtain rfl : j = kids.length := by omega
                  have hf0 := Lib.hid (show formE isName (.mk k x y nm kids) deep n = (0, c) by rw [← hfl.out, List.drop_length]; rfl)
                  go_wp2
                  go_ret
                  exact ⟨by rw [hf0.out]; rfl, by rw [hf0.out]; exact hBr, hbr⟩


end Ru
end Go.Proofs.YtbadplbdgpbdaaaDoor

namespace Go.Proofs.YtbadplbdgpbdaaaDoor
open Go.RowKit
namespace Ru
open Sl (strV Reads)
open Lx


theorem RfWrong_many (v : Value) (l : List Rule) (w : World) (hr : RulesV w w.heap.size v l) (h40 : 40 < l.length) : Calls Tryd.prog 44 #[v] w fun e w' => e = .returned (faultV (wrongF l)) ∧ Below w.heap.size w w' := by
  obtain ⟨A, cap, rfl, hl, hc⟩ := hr
  have hw : wrongF l = (5, 0) := if_pos h40
  rw [hw]
  clear hw hc
  have g : decide ((40 : Int) < (l.length : Int)) = true := by simp; omega
  clear h40
  go_enter Tryd.func44, Tryd.ntmps44
  go_wp2
  exact bodyPost_ret (v := faultV (5, 0)) (by simp [results, Tryd.results44, go_sem, faultV]) rfl ⟨rfl, (by repeat (first | exact Below.refl _ _ | assumption | refine Below.n _ ?_ (by first | omega | (simp; done) | (simp; omega)) | refine Below.alloc ?_ (by first | omega | (simp; done) | (simp; omega)) _ | refine Below.setCell ?_ (by first | omega | (simp; done) | (simp; omega)) _ | refine Below.drew ?_ | refine Below.setRow ?_ (by first | omega | (simp; done) | (simp; omega)) _ | refine Below.drewN ?_ _))⟩

set_option maxRecDepth 100000 in
set_option maxHeartbeats 8000000 in
theorem RfWrong_few (v : Value) (l : List Rule) (w : World) (hr : RulesV w w.heap.size v l) (h40 : l.length ≤ 40) : Calls Tryd.prog 44 #[v] w fun e w' => e = .returned (faultV (wrongF l)) ∧ Below w.heap.size w w' := by
  obtain ⟨A, cap, rfl, hl, hc⟩ := hr
  have hw : wrongF l = firstErr (fun _ => ruleErr isName) 0 l := if_neg (by omega)
  rw [hw]
  clear hw
  have g : decide ((40 : Int) < (l.length : Int)) = false := by simp; omega
  replace hc := Lib.hid hc
  go_enter Tryd.func44, Tryd.ntmps44
  go_wp2
  clear g
  go_loopg [13] l.length (fun n k wr => ∃ j : Nat, j ≤ l.length ∧ n = l.length - j ∧ k = .int .i64 j ∧ Hid (firstErr (fun _ => ruleErr isName) j (l.drop j) = firstErr (fun _ => ruleErr isName) 0 l) ∧ Below w.heap.size w wr ∧ Blk wr w.heap.size 26 #[.int .i64 0, .int .i64 0])
  case atStart => exact ⟨0, by omega, rfl, rfl, Lib.hid rfl, (by repeat (first | exact Below.refl _ _ | assumption | refine Below.n _ ?_ (by first | omega | (simp; done) | (simp; omega)) | refine Below.alloc ?_ (by first | omega | (simp; done) | (simp; omega)) _ | refine Below.setCell ?_ (by first | omega | (simp; done) | (simp; omega)) _ | refine Below.drew ?_ | refine Below.setRow ?_ (by first | omega | (simp; done) | (simp; omega)) _ | refine Below.drewN ?_ _)), Blk.new _ _ _⟩
  case round =>
    obtain ⟨j, hj, hn, rfl, hf, hb, B0⟩ := hrel
    replace hn := Lib.hid hn
    have zb := hb.size
    have zr := B0.lt
    have s0 : wr.cell? ⟨w.heap.size, 0, none⟩ = some (.int .i64 0) := B0.cell 0
    have s1 : wr.cell? ⟨w.heap.size, 1, none⟩ = some (.int .i64 0) := B0.cell 1
    have t0 : wr.frozen? ⟨w.heap.size, 0, none⟩ = false := B0.frozen 0
    have t1 : wr.frozen? ⟨w.heap.size, 1, none⟩ = false := B0.frozen 1
    by_cases hlt : j < l.length
    · obtain ⟨r, hx⟩ : ∃ r, l[j]? = some r := ⟨_, List.getElem?_eq_getElem hlt⟩
      obtain ⟨b, o, rfl, hbl, k0, hnl, hE⟩ := hc.out j r hx
      have hst : firstErr (fun _ => ruleErr isName) 0 l = if ruleErr isName r = 0 then firstErr (fun _ => ruleErr isName) (j + 1) (l.drop (j + 1)) else (ruleErr isName r, (j : Int)) := hf.out.symm.trans (firstErr_at _ hx)
      have zbl : b < wr.heap.size := by omega
      obtain ⟨v0, v1, v2, v3, hnl1, A1, cap1, v4, hkl1, hkv1⟩ := (hE.below hb (Nat.le_refl _) (Nat.le_refl _) hbl).out
      have d0 : wr.cell? ⟨b, o + j * 6, none⟩ = some (strV r.name) := (hb.cell (p := ⟨b, _, none⟩) hbl).trans k0
      have d1 : wr.cell? ⟨b, o + j * 6 + 1, none⟩ = some (.int .i64 r.expr.kind) := v0
      have d2 : wr.cell? ⟨b, o + j * 6 + 2, none⟩ = some (.int .i64 r.expr.a) := v1
      have d3 : wr.cell? ⟨b, o + j * 6 + 3, none⟩ = some (.int .i64 r.expr.b) := v2
      have d4 : wr.cell? ⟨b, o + j * 6 + 4, none⟩ = some (strV r.expr.name) := v3
      have d5 : wr.cell? ⟨b, o + j * 6 + 5, none⟩ = some (.slice A1 r.expr.kids.length cap1) := v4
      obtain ⟨CR, hCR⟩ : ∃ c, c = #[strV r.name, .int .i64 r.expr.kind, .int .i64 r.expr.a, .int .i64 r.expr.b, strV r.expr.name, .slice A1 r.expr.kids.length cap1] := ⟨_, rfl⟩
      have BR : Blk (wr.alloc (.cells #[strV r.name, .int .i64 r.expr.kind, .int .i64 r.expr.a, .int .i64 r.expr.b, strV r.expr.name, .slice A1 r.expr.kids.length cap1] 50)) wr.heap.size 50 #[strV r.name, .int .i64 r.expr.kind, .int .i64 r.expr.a, .int .i64 r.expr.b, strV r.expr.name, .slice A1 r.expr.kids.length cap1] := Blk.new _ _ _
      have B1 := B0.alloc (.cells #[strV r.name, .int .i64 r.expr.kind, .int .i64 r.expr.a, .int .i64 r.expr.b, strV r.expr.name, .slice A1 r.expr.kids.length cap1] 50)
      have hbA : Below w.heap.size w (wr.alloc (.cells #[strV r.name, .int .i64 r.expr.kind, .int .i64 r.expr.a, .int .i64 r.expr.b, strV r.expr.name, .slice A1 r.expr.kids.length cap1] 50)) := hb.alloc zb _
      have hN := Lib.hid (RNamed_any r.name (wr.alloc (.cells #[strV r.name, .int .i64 r.expr.kind, .int .i64 r.expr.a, .int .i64 r.expr.b, strV r.expr.name, .slice A1 r.expr.kids.length cap1] 50)) hnl)
      have zA : (wr.alloc (.cells #[strV r.name, .int .i64 r.expr.kind, .int .i64 r.expr.a, .int .i64 r.expr.b, strV r.expr.name, .slice A1 r.expr.kids.length cap1] 50)).heap.size = wr.heap.size + 1 := by simp
      clear hCR CR v0 v1 v2 v3 v4 k0 hx hE
      replace hkv1 := Lib.hid hkv1
      cases hnm : isName r.name with
      | false =>
        have hre : ruleErr isName r = 7 := if_neg (by rw [hnm]; decide)
        rw [hre, if_neg (by decide)] at hst
        rw [hnm] at hN
        replace hst := Lib.hid hst
        clear hnm hre
        go_wp2_with (go_at_call 82; refine hN.out.mono ?_; rintro e w1 ⟨rfl, hb1⟩; have B5 := B1.below hb1 (by omega); have s50 : w1.cell? ⟨w.heap.size, 0, none⟩ = some (.int .i64 0) := B5.cell 0; have s51 : w1.cell? ⟨w.heap.size, 1, none⟩ = some (.int .i64 0) := B5.cell 1; have t50 : w1.frozen? ⟨w.heap.size, 0, none⟩ = false := B5.frozen 0; have t51 : w1.frozen? ⟨w.heap.size, 1, none⟩ = false := B5.frozen 1)
        have z1 := hb1.size
        have hb6 := hbA.trans (hb1.mono (show w.heap.size ≤ (wr.alloc (.cells #[strV r.name, .int .i64 r.expr.kind, .int .i64 r.expr.a, .int .i64 r.expr.b, strV r.expr.name, .slice A1 r.expr.kids.length cap1] 50)).heap.size by omega))
        have E := (B5.set 0 (.int .i64 7)).set 1 (.int .i64 j)
        have e0 := (E.cell 0).trans (show _ = some (Value.int .i64 7) from rfl)
        have e1 := (E.cell 1).trans (show _ = some (Value.int .i64 j) from rfl)
        exact bodyPost_ret (v := faultV (7, (j : Nat))) (by simp [results, Tryd.results44, e0, e1, go_sem, faultV]) rfl ⟨by rw [hst.out], (hb6.setCell (by simp) _).setCell (by simp) _⟩
      | true =>
        have hre : ruleErr isName r = (formE isName r.expr 1 0).1 := if_pos hnm
        rw [hre] at hst
        rw [hnm] at hN
        replace hst := Lib.hid hst
        clear hnm hre
        go_upto_region 8 with (go_at_call 82; refine hN.out.mono ?_; rintro e w1 ⟨rfl, hb1⟩)
        have z1 := hb1.size
        have B5 := B1.below hb1 (by omega)
        have BR5 := BR.below hb1 (by omega)
        have hb6 : Below w.heap.size w w1 := hbA.trans (hb1.mono (by omega))
        have m1 : w1.cell? ⟨wr.heap.size, 1, none⟩ = some (.int .i64 r.expr.kind) := BR5.cell 1
        have m2 : w1.cell? ⟨wr.heap.size, 2, none⟩ = some (.int .i64 r.expr.a) := BR5.cell 2
        have m3 : w1.cell? ⟨wr.heap.size, 3, none⟩ = some (.int .i64 r.expr.b) := BR5.cell 3
        have m4 : w1.cell? ⟨wr.heap.size, 4, none⟩ = some (strV r.expr.name) := BR5.cell 4
        have m5 : w1.cell? ⟨wr.heap.size, 5, none⟩ = some (.slice A1 r.expr.kids.length cap1) := BR5.cell 5
        have zm : wr.heap.size < w1.heap.size := by omega
        have hS : Blk (w1.alloc (.cells #[.int .i64 0] 3)) w1.heap.size 3 #[.int .i64 ((0 : Nat) : Int)] := Blk.new _ _ _
        have hb7 : Below w.heap.size w (w1.alloc (.cells #[.int .i64 0] 3)) := hb6.alloc (by omega) _
        have B7 := B5.alloc (.cells #[.int .i64 0] 3)
        have hk7 : Below w.heap.size wr (w1.alloc (.cells #[.int .i64 0] 3)) := (((Below.refl w.heap.size wr).alloc zb _).trans (hb1.mono (by omega))).alloc (by omega) _
        have hcall := shape_any (nodesE r.expr) r.expr (.agg #[.int .i64 r.expr.kind, .int .i64 r.expr.a, .int .i64 r.expr.b, strV r.expr.name, .slice A1 r.expr.kids.length cap1]) (w1.alloc (.cells #[.int .i64 0] 3)) w1.heap.size 1 0 (Nat.le_refl _) ⟨A1, cap1, rfl, hnl1, hkl1, hkv1.out.below hk7 (Nat.le_refl _) (by omega)⟩ hS (by omega) (by omega)
        replace hcall := Lib.hid hcall
        have hzs : (w1.alloc (.cells #[.int .i64 0] 3)).heap.size = w1.heap.size + 1 := by simp
        by_cases h0 : (formE isName r.expr 1 0).1 = 0
        · have hf2 := Lib.hid (show firstErr (fun _ => ruleErr isName) (j + 1) (l.drop (j + 1)) = firstErr (fun _ => ruleErr isName) 0 l by rw [hst.out, if_pos h0])
          rw [h0] at hcall
          clear hst h0
          go_wp2_with (go_at_call 83; refine hcall.out.mono ?_; rintro e w5 ⟨rfl, _, hb5⟩)
          have z5 := hb5.size
          go_roundg (l.length - (j + 1))
          case measure => rw [hn.out]; omega
          case rel => exact ⟨j + 1, by omega, rfl, by go_num, hf2, hb7.trans (hb5.mono (by omega)), B7.below hb5 (by omega)⟩
        · have hf2 := Lib.hid (show firstErr (fun _ => ruleErr isName) 0 l = ((formE isName r.expr 1 0).1, (j : Int)) by rw [hst.out, if_neg h0])
          have g : ((formE isName r.expr 1 0).1 != 0) = true := by simpa using h0
          clear hst h0
          generalize (formE isName r.expr 1 0).1 = er at *
          go_wp2_with (go_at_call 83; refine hcall.out.mono ?_; rintro e w5 ⟨rfl, _, hb5⟩; have B8 := B7.below hb5 (by omega); have s50 : w5.cell? ⟨w.heap.size, 0, none⟩ = some (.int .i64 0) := B8.cell 0; have s51 : w5.cell? ⟨w.heap.size, 1, none⟩ = some (.int .i64 0) := B8.cell 1; have t50 : w5.frozen? ⟨w.heap.size, 0, none⟩ = false := B8.frozen 0; have t51 : w5.frozen? ⟨w.heap.size, 1, none⟩ = false := B8.frozen 1)
          have z5 := hb5.size
          have E := (B8.set 0 (.int .i64 er)).set 1 (.int .i64 j)
          have e0 := (E.cell 0).trans (show _ = some (Value.int .i64 er) from rfl)
          have e1 := (E.cell 1).trans (show _ = some (Value.int .i64 j) from rfl)
          have hb8 := hb7.trans (hb5.mono (show w.heap.size ≤ w1.heap.size by omega))
          exact bodyPost_ret (v := faultV (er, (j : Nat))) (by simp [results, Tryd.results44, e0, e1, go_sem, faultV]) rfl ⟨by rw [hf2.out], (hb8.setCell (by simp) _).setCell (by simp) _⟩
    · obtain rfl : j = l.length := by omega
      have hf2 := Lib.hid (show firstErr (fun _ => ruleErr isName) 0 l = (0, 0) by rw [← hf.out, List.drop_length]; rfl)
      go_wp2
      have E := (B0.set 0 (.int .i64 0)).set 1 (.int .i64 0)
      have e0 := (E.cell 0).trans (show _ = some (Value.int .i64 0) from rfl)
      have e1 := (E.cell 1).trans (show _ = some (Value.int .i64 0) from rfl)
      exact bodyPost_ret (v := faultV (0, 0)) (by simp [results, Tryd.results44, e0, e1, go_sem, faultV]) rfl ⟨by rw [hf2.out], (by repeat (first | exact Below.refl _ _ | assumption | refine Below.n _ ?_ (by first | omega | (simp; done) | (simp; omega)) | refine Below.alloc ?_ (by first | omega | (simp; done) | (simp; omega)) _ | refine Below.setCell ?_ (by first | omega | (simp; done) | (simp; omega)) _ | refine Below.drew ?_ | refine Below.setRow ?_ (by first | omega | (simp; done) | (simp; omega)) _ | refine Below.drewN ?_ _))⟩

theorem RfWrong_any (v : Value) (l : List Rule) (w : World) (hr : RulesV w w.heap.size v l) : Calls Tryd.prog 44 #[v] w fun e w' => e = .returned (faultV (wrongF l)) ∧ Below w.heap.size w w' := by
  by_cases h40 : 40 < l.length
  · exact RfWrong_many v l w hr h40
  · exact RfWrong_few v l w hr (by omega)


end Ru
end Go.Proofs.YtbadplbdgpbdaaaDoor
