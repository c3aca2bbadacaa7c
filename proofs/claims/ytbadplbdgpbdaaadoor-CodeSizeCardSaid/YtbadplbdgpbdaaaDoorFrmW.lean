/- What is wrong with rules' form: the walks of parse.kids, the shaper, parse.Wrong. What is wrong with rules' form: parse.Wrong. What a right form tells: few nodes, right names. No walk. -/
import Derived.Test.YtbadplbdgpbdaaaDoorMea
import Derived.Test.YtbadplbdgpbdaaaDoorLexN
import Derived.Outline
import Derived.Deep.DeepCutAuto
import Derived.Deep.QuietTactic
namespace Go.Proofs.YtbadplbdgpbdaaaDoor
open Go.RowKit
namespace Ru
open Sl (strV Reads)
open Lx

theorem dec (p : Prop) [Decidable p] : decide p = true ∧ p ∨ decide p = false ∧ ¬ p := by
  by_cases h : p
  · exact .inl ⟨by simpa using h, h⟩
  · exact .inr ⟨by simpa using h, h⟩

set_option maxHeartbeats 1000000 in
theorem kids_any (k : Int) (w : World) : Calls Tryd.prog 104 #[.int .i64 k] w fun e w' => e = .returned (.int .i64 (kidsOf k)) ∧ w = w' := by
  by_cases h4 : k = 4
  · subst h4
    go_enter Tryd.func104, Tryd.ntmps104
    go_wp2
    go_ret
    exact ⟨rfl, rfl⟩
  by_cases h5 : k = 5
  · subst h5
    go_enter Tryd.func104, Tryd.ntmps104
    go_wp2
    go_ret
    exact ⟨rfl, rfl⟩
  by_cases h9 : k = 9
  · subst h9
    go_enter Tryd.func104, Tryd.ntmps104
    go_wp2
    go_ret
    exact ⟨rfl, rfl⟩
  by_cases h6 : k = 6
  · subst h6
    go_enter Tryd.func104, Tryd.ntmps104
    go_wp2
    go_ret
    exact ⟨rfl, rfl⟩
  by_cases h7 : k = 7
  · subst h7
    go_enter Tryd.func104, Tryd.ntmps104
    go_wp2
    go_ret
    exact ⟨rfl, rfl⟩
  by_cases h8 : k = 8
  · subst h8
    go_enter Tryd.func104, Tryd.ntmps104
    go_wp2
    go_ret
    exact ⟨rfl, rfl⟩
  have e : kidsOf k = 0 := by unfold kidsOf; rw [if_neg (by omega), if_neg (by omega)]
  have b4 : (k == 4) = false := by simpa using h4
  have b5 : (k == 5) = false := by simpa using h5
  have b6 : (k == 6) = false := by simpa using h6
  have b7 : (k == 7) = false := by simpa using h7
  have b8 : (k == 8) = false := by simpa using h8
  have b9 : (k == 9) = false := by simpa using h9
  rw [e]
  clear e h4 h5 h6 h7 h8 h9
  go_enter Tryd.func104, Tryd.ntmps104
  go_wp2
  go_ret
  exact ⟨rfl, rfl⟩

set_option maxRecDepth 100000 in
set_option maxHeartbeats 8000000 in
theorem shaper_any : ∀ (N : Nat) (e : Expr) (w : World) (gs b o deep n : Nat), nodesE e ≤ N → ExprAt w gs b o e → b < gs → Blk w gs 126 #[.int .i64 (n : Nat)] → deep ≤ 41 → n ≤ 600 →
    Calls Tryd.prog 74 #[.pointer (some ⟨gs, 0, none⟩), .pointer (some ⟨b, o, none⟩), .int .i64 (deep : Nat)] w fun r w' => r = .returned (.int .i64 (formE isName e deep n).1) ∧ Blk w' gs 126 #[.int .i64 ((formE isName e deep n).2 : Nat)] ∧ Below gs w w' := by
  intro N
  induction N with
  | zero => intro e w gs b o deep n hN; have := nodesE_pos e; omega
  | succ N ih =>
    intro e w gs b o deep n hN he hb hB hd hn
    obtain ⟨k0, k1, k2, k3, hnl, A, cap, k4, hkl, hkv⟩ := he.out
    have hform := formE_eq isName e deep n
    have hbg := Lib.hid ‹b < gs›
    have hnod : nodesL e.kids ≤ N := by cases e; rw [nodesE] at hN; simp only [Expr.kids]; omega
    have hlt := hB.lt
    obtain ⟨A0, cap0, kw4, hkw⟩ : ∃ A cap, w.cell? ⟨b, o + 4, none⟩ = some (.slice A e.kids.length cap) ∧ KidsV w gs A e.kids := ⟨A, cap, k4, hkv⟩
    have zb : b < w.heap.size := by omega
    have g0 := hB.cell 0
    have g1 := hB.frozen 0
    simp only [List.getElem?_toArray, List.getElem?_cons_zero] at g0
    have hB1 := hB.set 0 (.int .i64 ((n : Int) + 1))
    have hB1 : Blk (w.setCell ⟨gs, 0, none⟩ (.int .i64 ((n : Int) + 1))) gs 126 #[.int .i64 ((n + 1 : Nat) : Int)] := by simpa using hB1
    have hb1 : Below gs w (w.setCell ⟨gs, 0, none⟩ (.int .i64 ((n : Int) + 1))) := (Below.refl _ _).setCell (p := ⟨gs, 0, none⟩) (Nat.le_refl _) _
    replace ih := Lib.hid ih
    have he1 := Lib.hid (he.below hb1 (Nat.le_refl _) (Nat.le_refl _) hb)
    clear he hN
    have hne : gs ≠ b := by omega
    by_cases hov : 600 < n + 1 ∨ 40 < deep
    · rw [if_pos hov] at hform
      have hq : decide (600 < (n : Int) + 1) = true ∨ decide (600 < (n : Int) + 1) = false ∧ decide (40 < (deep : Int)) = true := by
        simp only [decide_eq_true_eq, decide_eq_false_iff_not]; omega
      rw [hform]
      clear hform hov
      rcases hq with q1 | ⟨q1, q2⟩
      all_goals
        go_enter Tryd.func74, Tryd.ntmps74
        go_wp2
        go_ret
        exact ⟨rfl, hB1, hb1⟩
    · rw [if_neg hov] at hform
      have q1 : decide (600 < (n : Int) + 1) = false := by simp; omega
      have q2 : decide (40 < (deep : Int)) = false := by simp; omega
      have hd40 : deep ≤ 40 := by omega
      have hn600 : n + 1 ≤ 600 := by omega
      clear hov
      go_enter Tryd.func74, Tryd.ntmps74
      go_upto_region 4 with fail
      generalize (w.setCell ⟨gs, 0, none⟩ (.int .i64 ((n : Int) + 1))) = W1 at *
      obtain ⟨k0, k1, k2, k3, _, A, cap, k4, _, hkv⟩ := he1.out.out
      have hlt1 := hB1.lt
      have zb1 : b < W1.heap.size := by omega
      clear he1 g0 g1 q1 q2 hB
      obtain ⟨k, x, y, nm, kids⟩ := e
      simp only [Expr.kind, Expr.a, Expr.b, Expr.name, Expr.kids] at k0 k1 k2 k3 k4 hkv hform hnl hkl hnod kw4 hkw
      replace kw4 := Lib.hid kw4
      replace hkw := Lib.hid hkw
      have hn6 := Lib.hid hn600
      clear hn600
      by_cases hk : k < 1 ∨ 10 < k
      · have hown : ownErr isName (.mk k x y nm kids) = 1 := by rw [ownErr_mk, if_pos hk]
        rw [hown, if_neg (by decide)] at hform
        replace hform := Lib.hid hform
        have hq : decide (k < 1) = true ∨ decide (k < 1) = false ∧ decide (10 < k) = true := by
          simp only [decide_eq_true_eq, decide_eq_false_iff_not]; omega
        clear hown hk
        rcases hq with q1 | ⟨q1, q2⟩
        all_goals
          go_wp2
          go_ret
          exact ⟨by rw [hform.out]; rfl, by rw [hform.out]; exact hB1, hb1⟩
      · have q1 : decide (k < 1) = false := by simp; omega
        have q2 : decide (10 < k) = false := by simp; omega
        have hown0 := ownErr_mk isName k x y nm kids
        rw [if_neg hk] at hown0
        have hk2 : 1 ≤ k ∧ k ≤ 10 := by omega
        clear hk
        by_cases hlen : kids.length ≠ kidsOf k
        · rw [if_pos hlen] at hown0
          rw [hown0, if_neg (by decide)] at hform
          replace hform := Lib.hid hform
          have g1 : ((kids.length : Int) != (kidsOf k : Int)) = true := by simp; omega
          clear hown0 hlen
          go_wp2
          refine wp_region_below (W1.heap.size) _ (Below.refl _ _) (by kernel_rfl) (by kernel_rfl) ?_
          repeat (go_big_quiet_step (((go_at_call 104; exact quiet_same (kids_any _ _)))))
          refine wpQuiet_nil ?_
          rintro _ ⟨n1, rfl⟩
          have hb2 := n1.below
          go_wp2
          go_ret
          exact ⟨by rw [hform.out]; rfl, by rw [hform.out]; exact hB1.below hb2 hlt1, hb1.trans (hb2.mono (by omega))⟩
        · rw [if_neg hlen] at hown0
          have g1 : ((kids.length : Int) != (kidsOf k : Int)) = false := by simp; omega
          have hlen2 : kids.length = kidsOf k := by omega
          clear hlen
          go_wp2_with fail
          refine wp_region_below (W1.heap.size) _ (Below.refl _ _) (by kernel_rfl) (by kernel_rfl) ?_
          repeat (go_big_quiet_step (((go_at_call 104; exact quiet_same (kids_any _ _)))))
          refine wpQuiet_nil ?_
          rintro _ ⟨n1, rfl⟩
          have hb2 := n1.below
          go_upto_region 8 with fail
          have k0' : n1.w.cell? ⟨b, o, none⟩ = some (.int .i64 k) := (hb2.cell (p := ⟨b, _, none⟩) zb1).trans k0
          have k1' : n1.w.cell? ⟨b, o + 1, none⟩ = some (.int .i64 x) := (hb2.cell (p := ⟨b, _, none⟩) zb1).trans k1
          have k2' : n1.w.cell? ⟨b, o + 2, none⟩ = some (.int .i64 y) := (hb2.cell (p := ⟨b, _, none⟩) zb1).trans k2
          have k3' : n1.w.cell? ⟨b, o + 3, none⟩ = some (strV nm) := (hb2.cell (p := ⟨b, _, none⟩) zb1).trans k3
          have z2 := hb2.size
          replace hform := Lib.hid hform
          replace hlen2 := Lib.hid hlen2
          replace hnod := Lib.hid hnod
          clear k0 k1 k2 k3 k4 hkv
          have hk : k = 3 ∨ k = 4 ∨ k = 5 ∨ k = 9 ∨ k = 10 ∨ (k ≠ 3 ∧ k ≠ 4 ∧ k ≠ 5 ∧ k ≠ 9 ∧ k ≠ 10) := by omega
          clear g1
          rcases hk with hk | hk | hk | hk | hk | hk
          · as_aux_lemma =>
              subst hk
              clear q1 q2 hk2
              have hq : decide (x < 0) = true ∨ decide (x < 0) = false ∧ decide (1440 < y) = true ∨ decide (x < 0) = false ∧ decide (1440 < y) = false ∧ decide (y ≤ x) = true ∨ decide (x < 0) = false ∧ decide (1440 < y) = false ∧ decide (y ≤ x) = false := by
                simp only [decide_eq_true_eq, decide_eq_false_iff_not]; omega
              rcases hq with q1 | ⟨q1, q2⟩ | ⟨q1, q2, q3⟩ | ⟨q1, q2, q3⟩
              · have hown : ownErr isName (.mk 3 x y nm kids) = 3 := by
                  rw [hown0]
                  simp only [decide_eq_true_eq] at q1
                  exact (if_pos rfl).trans (if_pos (by omega))
                have hf := Lib.hid (show formE isName (.mk 3 x y nm kids) deep n = (3, n + 1) by rw [hform.out, hown, if_neg (by decide)])
                go_wp2
                refine wp_region_below (n1.w.heap.size) _ (Below.refl _ _) (by kernel_rfl) (by kernel_rfl) ?_
                repeat (go_big_quiet_step ((fail)))
                refine wpQuiet_nil ?_
                rintro _ ⟨n2, rfl⟩
                have hb3 := n2.below
                go_wp2
                go_ret
                exact ⟨by rw [hf.out]; rfl, by rw [hf.out]; exact (hB1.below hb2 hlt1).below hb3 (by omega), hb1.trans ((hb2.mono (by omega)).trans (hb3.mono (by omega)))⟩
              · have hown : ownErr isName (.mk 3 x y nm kids) = 3 := by
                  rw [hown0]
                  simp only [decide_eq_true_eq, decide_eq_false_iff_not] at q1 q2
                  exact (if_pos rfl).trans (if_pos (by omega))
                have hf := Lib.hid (show formE isName (.mk 3 x y nm kids) deep n = (3, n + 1) by rw [hform.out, hown, if_neg (by decide)])
                go_wp2
                refine wp_region_below (n1.w.heap.size) _ (Below.refl _ _) (by kernel_rfl) (by kernel_rfl) ?_
                repeat (go_big_quiet_step ((fail)))
                refine wpQuiet_nil ?_
                rintro _ ⟨n2, rfl⟩
                have hb3 := n2.below
                go_wp2
                go_ret
                exact ⟨by rw [hf.out]; rfl, by rw [hf.out]; exact (hB1.below hb2 hlt1).below hb3 (by omega), hb1.trans ((hb2.mono (by omega)).trans (hb3.mono (by omega)))⟩
              · have hown : ownErr isName (.mk 3 x y nm kids) = 3 := by
                  rw [hown0]
                  simp only [decide_eq_true_eq, decide_eq_false_iff_not] at q1 q2 q3
                  exact (if_pos rfl).trans (if_pos (by omega))
                have hf := Lib.hid (show formE isName (.mk 3 x y nm kids) deep n = (3, n + 1) by rw [hform.out, hown, if_neg (by decide)])
                go_wp2
                refine wp_region_below (n1.w.heap.size) _ (Below.refl _ _) (by kernel_rfl) (by kernel_rfl) ?_
                repeat (go_big_quiet_step ((fail)))
                refine wpQuiet_nil ?_
                rintro _ ⟨n2, rfl⟩
                have hb3 := n2.below
                go_wp2
                go_ret
                exact ⟨by rw [hf.out]; rfl, by rw [hf.out]; exact (hB1.below hb2 hlt1).below hb3 (by omega), hb1.trans ((hb2.mono (by omega)).trans (hb3.mono (by omega)))⟩
              · have hown : ownErr isName (.mk 3 x y nm kids) = 0 := by
                  rw [hown0]
                  simp only [decide_eq_false_iff_not] at q1 q2 q3
                  exact (if_pos rfl).trans (if_neg (by omega))
                go_wp2
                refine wp_region_below (n1.w.heap.size) _ (Below.refl _ _) (by kernel_rfl) (by kernel_rfl) ?_
                repeat (go_big_quiet_step ((fail)))
                refine wpQuiet_nil ?_
                rintro _ ⟨n2, rfl⟩
                have hb3 := n2.below
                go_upto_region 24 with fail
                have hmid := Lib.hid (show Blk n2.w gs 126 #[.int .i64 ((n + 1 : Nat) : Int)] ∧ Below gs w n2.w from ⟨(hB1.below hb2 hlt1).below hb3 (by omega), hb1.trans ((hb2.mono (by omega)).trans (hb3.mono (by omega)))⟩)
                replace hform := Lib.hid (show formE isName (.mk 3 x y nm kids) deep n = formL isName kids (deep + 1) (n + 1) by rw [hform.out, hown, if_pos rfl])
                have c4 : n2.w.cell? ⟨b, o + 4, none⟩ = some (.slice A0 kids.length cap0) := (hmid.out.2.cell (p := ⟨b, _, none⟩) hbg.out).trans kw4.out
                clear hown hown0
                go_wp2
                go_loopg [150] kids.length (fun m kv wr => ∃ j c : Nat, j ≤ kids.length ∧ m = kids.length - j ∧ kv = .int .i64 j ∧ formL isName (kids.drop j) (deep + 1) c = formE isName (.mk 3 x y nm kids) deep n ∧ c ≤ 600 ∧ Below gs w wr ∧ Blk wr gs 126 #[.int .i64 (c : Nat)])
                case atStart => exact ⟨0, n + 1, by omega, rfl, rfl, by rw [hform.out]; rfl, hn6.out, hmid.out.2, hmid.out.1⟩
                case round =>
                  clear c4 hmid
                  obtain ⟨j, c, hj, hm, rfl, hfl, hc6, hbr, hBr⟩ := hrel
                  replace hm := Lib.hid hm
                  replace hfl := Lib.hid hfl
                  have c4 : wr.cell? ⟨b, o + 4, none⟩ = some (.slice A0 kids.length cap0) := (hbr.cell (p := ⟨b, _, none⟩) hbg.out).trans kw4.out
                  have zr := hBr.lt
                  by_cases hlt : j < kids.length
                  · obtain ⟨e1, hx⟩ : ∃ d, kids[j]? = some d := ⟨_, List.getElem?_eq_getElem hlt⟩
                    obtain ⟨kb, ko, rfl, hkb, hke⟩ := hkw.out.at' hx
                    have hst := Lib.hid (formL_at isName hx (deep + 1) c)
                    have hle := (formE_le isName e1 (deep + 1) c).2.2
                    have hcall := ih.out e1 wr gs kb (ko + j * 5) (deep + 1) c (by have := nodesE_kid hx; have := hnod.out; omega) (hke.below hbr (Nat.le_refl _) (Nat.le_refl _) hkb) hkb hBr (by omega) hc6
                    rw [show ((deep + 1 : Nat) : Int) = (deep : Int) + 1 by omega] at hcall
                    replace hcall := Lib.hid hcall
                    clear hx hke
                    by_cases h0 : (formE isName e1 (deep + 1) c).1 = 0
                    · have hc7 : (formE isName e1 (deep + 1) c).2 ≤ 600 := by have := hle h0; omega
                      have hfl2 := Lib.hid (show formL isName (kids.drop (j + 1)) (deep + 1) (formE isName e1 (deep + 1) c).2 = formE isName (.mk 3 x y nm kids) deep n by rw [← hfl.out, hst.out, if_pos h0])
                      rw [h0] at hcall
                      clear hle h0 hst
                      generalize hc8 : (formE isName e1 (deep + 1) c).2 = c8 at *
                      clear hc8
                      go_wp2_with (go_at_call 74; refine hcall.out.mono ?_; rintro e w5 ⟨rfl, hB5, hb5⟩)
                      go_roundg (kids.length - (j + 1))
                      case measure => rw [hm.out]; omega
                      case rel => exact ⟨j + 1, c8, by omega, rfl, by go_num, hfl2.out, hc7, hbr.trans hb5, hB5⟩
                    · have hfl2 := Lib.hid (show formE isName (.mk 3 x y nm kids) deep n = formE isName e1 (deep + 1) c by rw [← hfl.out, hst.out, if_neg h0])
                      have g : ((formE isName e1 (deep + 1) c).1 != 0) = true := by simpa using h0
                      clear hle h0 hst
                      go_wp2_with (go_at_call 74; refine hcall.out.mono ?_; rintro e w5 ⟨rfl, hB5, hb5⟩)
                      go_ret
                      exact ⟨by rw [hfl2.out]; rfl, by rw [hfl2.out]; exact hB5, hbr.trans hb5⟩
                  · obtain rfl : j = kids.length := by omega
                    have hf0 := Lib.hid (show formE isName (.mk 3 x y nm kids) deep n = (0, c) by rw [← hfl.out, List.drop_length]; rfl)
                    go_wp2
                    go_ret
                    exact ⟨by rw [hf0.out]; rfl, by rw [hf0.out]; exact hBr, hbr⟩
          · as_aux_lemma =>
              subst hk
              clear q1 q2 hk2
              have hq : decide (x < 1) = true ∨ decide (x < 1) = false ∧ decide (127 < x) = true ∨ decide (x < 1) = false ∧ decide (127 < x) = false := by
                simp only [decide_eq_true_eq, decide_eq_false_iff_not]; omega
              rcases hq with q1 | ⟨q1, q2⟩ | ⟨q1, q2⟩
              · have hown : ownErr isName (.mk 4 x y nm kids) = 3 := by
                  rw [hown0]
                  simp only [decide_eq_true_eq] at q1
                  exact (if_neg (by decide)).trans ((if_pos rfl).trans (if_pos (by omega)))
                have hf := Lib.hid (show formE isName (.mk 4 x y nm kids) deep n = (3, n + 1) by rw [hform.out, hown, if_neg (by decide)])
                go_wp2
                go_ret
                exact ⟨by rw [hf.out]; rfl, by rw [hf.out]; exact hB1.below hb2 hlt1, hb1.trans (hb2.mono (by omega))⟩
              · have hown : ownErr isName (.mk 4 x y nm kids) = 3 := by
                  rw [hown0]
                  simp only [decide_eq_true_eq, decide_eq_false_iff_not] at q1 q2
                  exact (if_neg (by decide)).trans ((if_pos rfl).trans (if_pos (by omega)))
                have hf := Lib.hid (show formE isName (.mk 4 x y nm kids) deep n = (3, n + 1) by rw [hform.out, hown, if_neg (by decide)])
                go_wp2
                go_ret
                exact ⟨by rw [hf.out]; rfl, by rw [hf.out]; exact hB1.below hb2 hlt1, hb1.trans (hb2.mono (by omega))⟩
              · have hown : ownErr isName (.mk 4 x y nm kids) = 0 := by
                  rw [hown0]
                  simp only [decide_eq_false_iff_not] at q1 q2
                  exact (if_neg (by decide)).trans ((if_pos rfl).trans (if_neg (by omega)))
                go_upto_region 24 with fail
                have hmid := Lib.hid (show Blk n1.w gs 126 #[.int .i64 ((n + 1 : Nat) : Int)] ∧ Below gs w n1.w from ⟨hB1.below hb2 hlt1, hb1.trans (hb2.mono (by omega))⟩)
                replace hform := Lib.hid (show formE isName (.mk 4 x y nm kids) deep n = formL isName kids (deep + 1) (n + 1) by rw [hform.out, hown, if_pos rfl])
                have c4 : n1.w.cell? ⟨b, o + 4, none⟩ = some (.slice A0 kids.length cap0) := (hmid.out.2.cell (p := ⟨b, _, none⟩) hbg.out).trans kw4.out
                clear hown hown0
                go_wp2
                go_loopg [150] kids.length (fun m kv wr => ∃ j c : Nat, j ≤ kids.length ∧ m = kids.length - j ∧ kv = .int .i64 j ∧ formL isName (kids.drop j) (deep + 1) c = formE isName (.mk 4 x y nm kids) deep n ∧ c ≤ 600 ∧ Below gs w wr ∧ Blk wr gs 126 #[.int .i64 (c : Nat)])
                case atStart => exact ⟨0, n + 1, by omega, rfl, rfl, by rw [hform.out]; rfl, hn6.out, hmid.out.2, hmid.out.1⟩
                case round =>
                  clear c4 hmid
                  obtain ⟨j, c, hj, hm, rfl, hfl, hc6, hbr, hBr⟩ := hrel
                  replace hm := Lib.hid hm
                  replace hfl := Lib.hid hfl
                  have c4 : wr.cell? ⟨b, o + 4, none⟩ = some (.slice A0 kids.length cap0) := (hbr.cell (p := ⟨b, _, none⟩) hbg.out).trans kw4.out
                  have zr := hBr.lt
                  by_cases hlt : j < kids.length
                  · obtain ⟨e1, hx⟩ : ∃ d, kids[j]? = some d := ⟨_, List.getElem?_eq_getElem hlt⟩
                    obtain ⟨kb, ko, rfl, hkb, hke⟩ := hkw.out.at' hx
                    have hst := Lib.hid (formL_at isName hx (deep + 1) c)
                    have hle := (formE_le isName e1 (deep + 1) c).2.2
                    have hcall := ih.out e1 wr gs kb (ko + j * 5) (deep + 1) c (by have := nodesE_kid hx; have := hnod.out; omega) (hke.below hbr (Nat.le_refl _) (Nat.le_refl _) hkb) hkb hBr (by omega) hc6
                    rw [show ((deep + 1 : Nat) : Int) = (deep : Int) + 1 by omega] at hcall
                    replace hcall := Lib.hid hcall
                    clear hx hke
                    by_cases h0 : (formE isName e1 (deep + 1) c).1 = 0
                    · have hc7 : (formE isName e1 (deep + 1) c).2 ≤ 600 := by have := hle h0; omega
                      have hfl2 := Lib.hid (show formL isName (kids.drop (j + 1)) (deep + 1) (formE isName e1 (deep + 1) c).2 = formE isName (.mk 4 x y nm kids) deep n by rw [← hfl.out, hst.out, if_pos h0])
                      rw [h0] at hcall
                      clear hle h0 hst
                      generalize hc8 : (formE isName e1 (deep + 1) c).2 = c8 at *
                      clear hc8
                      go_wp2_with (go_at_call 74; refine hcall.out.mono ?_; rintro e w5 ⟨rfl, hB5, hb5⟩)
                      go_roundg (kids.length - (j + 1))
                      case measure => rw [hm.out]; omega
                      case rel => exact ⟨j + 1, c8, by omega, rfl, by go_num, hfl2.out, hc7, hbr.trans hb5, hB5⟩
                    · have hfl2 := Lib.hid (show formE isName (.mk 4 x y nm kids) deep n = formE isName e1 (deep + 1) c by rw [← hfl.out, hst.out, if_neg h0])
                      have g : ((formE isName e1 (deep + 1) c).1 != 0) = true := by simpa using h0
                      clear hle h0 hst
                      go_wp2_with (go_at_call 74; refine hcall.out.mono ?_; rintro e w5 ⟨rfl, hB5, hb5⟩)
                      go_ret
                      exact ⟨by rw [hfl2.out]; rfl, by rw [hfl2.out]; exact hB5, hbr.trans hb5⟩
                  · obtain rfl : j = kids.length := by omega
                    have hf0 := Lib.hid (show formE isName (.mk 4 x y nm kids) deep n = (0, c) by rw [← hfl.out, List.drop_length]; rfl)
                    go_wp2
                    go_ret
                    exact ⟨by rw [hf0.out]; rfl, by rw [hf0.out]; exact hBr, hbr⟩
          · as_aux_lemma =>
              subst hk
              clear q1 q2 hk2
              have hq : decide (x < 0) = true ∨ decide (x < 0) = false ∧ decide (146097 ≤ y) = true ∨ decide (x < 0) = false ∧ decide (146097 ≤ y) = false ∧ decide (y < x) = true ∨ decide (x < 0) = false ∧ decide (146097 ≤ y) = false ∧ decide (y < x) = false := by
                simp only [decide_eq_true_eq, decide_eq_false_iff_not]; omega
              rcases hq with q1 | ⟨q1, q2⟩ | ⟨q1, q2, q3⟩ | ⟨q1, q2, q3⟩
              · have hown : ownErr isName (.mk 5 x y nm kids) = 3 := by
                  rw [hown0]
                  simp only [decide_eq_true_eq] at q1
                  exact (if_neg (by decide)).trans ((if_neg (by decide)).trans ((if_pos rfl).trans (if_pos (by omega))))
                have hf := Lib.hid (show formE isName (.mk 5 x y nm kids) deep n = (3, n + 1) by rw [hform.out, hown, if_neg (by decide)])
                go_wp2
                refine wp_region_below (n1.w.heap.size) _ (Below.refl _ _) (by kernel_rfl) (by kernel_rfl) ?_
                repeat (go_big_quiet_step ((fail)))
                refine wpQuiet_nil ?_
                rintro _ ⟨n2, rfl⟩
                have hb3 := n2.below
                go_wp2
                go_ret
                exact ⟨by rw [hf.out]; rfl, by rw [hf.out]; exact (hB1.below hb2 hlt1).below hb3 (by omega), hb1.trans ((hb2.mono (by omega)).trans (hb3.mono (by omega)))⟩
              · have hown : ownErr isName (.mk 5 x y nm kids) = 3 := by
                  rw [hown0]
                  simp only [decide_eq_true_eq, decide_eq_false_iff_not] at q1 q2
                  exact (if_neg (by decide)).trans ((if_neg (by decide)).trans ((if_pos rfl).trans (if_pos (by omega))))
                have hf := Lib.hid (show formE isName (.mk 5 x y nm kids) deep n = (3, n + 1) by rw [hform.out, hown, if_neg (by decide)])
                go_wp2
                refine wp_region_below (n1.w.heap.size) _ (Below.refl _ _) (by kernel_rfl) (by kernel_rfl) ?_
                repeat (go_big_quiet_step ((fail)))
                refine wpQuiet_nil ?_
                rintro _ ⟨n2, rfl⟩
                have hb3 := n2.below
                go_wp2
                go_ret
                exact ⟨by rw [hf.out]; rfl, by rw [hf.out]; exact (hB1.below hb2 hlt1).below hb3 (by omega), hb1.trans ((hb2.mono (by omega)).trans (hb3.mono (by omega)))⟩
              · have hown : ownErr isName (.mk 5 x y nm kids) = 3 := by
                  rw [hown0]
                  simp only [decide_eq_true_eq, decide_eq_false_iff_not] at q1 q2 q3
                  exact (if_neg (by decide)).trans ((if_neg (by decide)).trans ((if_pos rfl).trans (if_pos (by omega))))
                have hf := Lib.hid (show formE isName (.mk 5 x y nm kids) deep n = (3, n + 1) by rw [hform.out, hown, if_neg (by decide)])
                go_wp2
                refine wp_region_below (n1.w.heap.size) _ (Below.refl _ _) (by kernel_rfl) (by kernel_rfl) ?_
                repeat (go_big_quiet_step ((fail)))
                refine wpQuiet_nil ?_
                rintro _ ⟨n2, rfl⟩
                have hb3 := n2.below
                go_wp2
                go_ret
                exact ⟨by rw [hf.out]; rfl, by rw [hf.out]; exact (hB1.below hb2 hlt1).below hb3 (by omega), hb1.trans ((hb2.mono (by omega)).trans (hb3.mono (by omega)))⟩
              · have hown : ownErr isName (.mk 5 x y nm kids) = 0 := by
                  rw [hown0]
                  simp only [decide_eq_false_iff_not] at q1 q2 q3
                  exact (if_neg (by decide)).trans ((if_neg (by decide)).trans ((if_pos rfl).trans (if_neg (by omega))))
                go_wp2
                refine wp_region_below (n1.w.heap.size) _ (Below.refl _ _) (by kernel_rfl) (by kernel_rfl) ?_
                repeat (go_big_quiet_step ((fail)))
                refine wpQuiet_nil ?_
                rintro _ ⟨n2, rfl⟩
                have hb3 := n2.below
                go_upto_region 24 with fail
                have hmid := Lib.hid (show Blk n2.w gs 126 #[.int .i64 ((n + 1 : Nat) : Int)] ∧ Below gs w n2.w from ⟨(hB1.below hb2 hlt1).below hb3 (by omega), hb1.trans ((hb2.mono (by omega)).trans (hb3.mono (by omega)))⟩)
                replace hform := Lib.hid (show formE isName (.mk 5 x y nm kids) deep n = formL isName kids (deep + 1) (n + 1) by rw [hform.out, hown, if_pos rfl])
                have c4 : n2.w.cell? ⟨b, o + 4, none⟩ = some (.slice A0 kids.length cap0) := (hmid.out.2.cell (p := ⟨b, _, none⟩) hbg.out).trans kw4.out
                clear hown hown0
                go_wp2
                go_loopg [150] kids.length (fun m kv wr => ∃ j c : Nat, j ≤ kids.length ∧ m = kids.length - j ∧ kv = .int .i64 j ∧ formL isName (kids.drop j) (deep + 1) c = formE isName (.mk 5 x y nm kids) deep n ∧ c ≤ 600 ∧ Below gs w wr ∧ Blk wr gs 126 #[.int .i64 (c : Nat)])
                case atStart => exact ⟨0, n + 1, by omega, rfl, rfl, by rw [hform.out]; rfl, hn6.out, hmid.out.2, hmid.out.1⟩
                case round =>
                  clear c4 hmid
                  obtain ⟨j, c, hj, hm, rfl, hfl, hc6, hbr, hBr⟩ := hrel
                  replace hm := Lib.hid hm
                  replace hfl := Lib.hid hfl
                  have c4 : wr.cell? ⟨b, o + 4, none⟩ = some (.slice A0 kids.length cap0) := (hbr.cell (p := ⟨b, _, none⟩) hbg.out).trans kw4.out
                  have zr := hBr.lt
                  by_cases hlt : j < kids.length
                  · obtain ⟨e1, hx⟩ : ∃ d, kids[j]? = some d := ⟨_, List.getElem?_eq_getElem hlt⟩
                    obtain ⟨kb, ko, rfl, hkb, hke⟩ := hkw.out.at' hx
                    have hst := Lib.hid (formL_at isName hx (deep + 1) c)
                    have hle := (formE_le isName e1 (deep + 1) c).2.2
                    have hcall := ih.out e1 wr gs kb (ko + j * 5) (deep + 1) c (by have := nodesE_kid hx; have := hnod.out; omega) (hke.below hbr (Nat.le_refl _) (Nat.le_refl _) hkb) hkb hBr (by omega) hc6
                    rw [show ((deep + 1 : Nat) : Int) = (deep : Int) + 1 by omega] at hcall
                    replace hcall := Lib.hid hcall
                    clear hx hke
                    by_cases h0 : (formE isName e1 (deep + 1) c).1 = 0
                    · have hc7 : (formE isName e1 (deep + 1) c).2 ≤ 600 := by have := hle h0; omega
                      have hfl2 := Lib.hid (show formL isName (kids.drop (j + 1)) (deep + 1) (formE isName e1 (deep + 1) c).2 = formE isName (.mk 5 x y nm kids) deep n by rw [← hfl.out, hst.out, if_pos h0])
                      rw [h0] at hcall
                      clear hle h0 hst
                      generalize hc8 : (formE isName e1 (deep + 1) c).2 = c8 at *
                      clear hc8
                      go_wp2_with (go_at_call 74; refine hcall.out.mono ?_; rintro e w5 ⟨rfl, hB5, hb5⟩)
                      go_roundg (kids.length - (j + 1))
                      case measure => rw [hm.out]; omega
                      case rel => exact ⟨j + 1, c8, by omega, rfl, by go_num, hfl2.out, hc7, hbr.trans hb5, hB5⟩
                    · have hfl2 := Lib.hid (show formE isName (.mk 5 x y nm kids) deep n = formE isName e1 (deep + 1) c by rw [← hfl.out, hst.out, if_neg h0])
                      have g : ((formE isName e1 (deep + 1) c).1 != 0) = true := by simpa using h0
                      clear hle h0 hst
                      go_wp2_with (go_at_call 74; refine hcall.out.mono ?_; rintro e w5 ⟨rfl, hB5, hb5⟩)
                      go_ret
                      exact ⟨by rw [hfl2.out]; rfl, by rw [hfl2.out]; exact hB5, hbr.trans hb5⟩
                  · obtain rfl : j = kids.length := by omega
                    have hf0 := Lib.hid (show formE isName (.mk 5 x y nm kids) deep n = (0, c) by rw [← hfl.out, List.drop_length]; rfl)
                    go_wp2
                    go_ret
                    exact ⟨by rw [hf0.out]; rfl, by rw [hf0.out]; exact hBr, hbr⟩
          · as_aux_lemma =>
              subst hk
              clear q1 q2 hk2
              have hq : (x == 0) = true ∨ (x == 0) = false ∧ decide (x ≤ -1440) = true ∨ (x == 0) = false ∧ decide (x ≤ -1440) = false ∧ decide (1440 ≤ x) = true ∨ (x == 0) = false ∧ decide (x ≤ -1440) = false ∧ decide (1440 ≤ x) = false := by
                simp only [decide_eq_true_eq, decide_eq_false_iff_not, beq_iff_eq, beq_eq_false_iff_ne]; omega
              rcases hq with q1 | ⟨q1, q2⟩ | ⟨q1, q2, q3⟩ | ⟨q1, q2, q3⟩
              · have hown : ownErr isName (.mk 9 x y nm kids) = 3 := by
                  rw [hown0]
                  simp only [beq_iff_eq] at q1
                  exact (if_neg (by decide)).trans ((if_neg (by decide)).trans ((if_neg (by decide)).trans ((if_pos rfl).trans (if_pos (by omega)))))
                have hf := Lib.hid (show formE isName (.mk 9 x y nm kids) deep n = (3, n + 1) by rw [hform.out, hown, if_neg (by decide)])
                go_wp2
                go_ret
                exact ⟨by rw [hf.out]; rfl, by rw [hf.out]; exact hB1.below hb2 hlt1, hb1.trans (hb2.mono (by omega))⟩
              · have hown : ownErr isName (.mk 9 x y nm kids) = 3 := by
                  rw [hown0]
                  simp only [decide_eq_true_eq, beq_eq_false_iff_ne] at q1 q2
                  exact (if_neg (by decide)).trans ((if_neg (by decide)).trans ((if_neg (by decide)).trans ((if_pos rfl).trans (if_pos (by omega)))))
                have hf := Lib.hid (show formE isName (.mk 9 x y nm kids) deep n = (3, n + 1) by rw [hform.out, hown, if_neg (by decide)])
                go_wp2
                go_ret
                exact ⟨by rw [hf.out]; rfl, by rw [hf.out]; exact hB1.below hb2 hlt1, hb1.trans (hb2.mono (by omega))⟩
              · have hown : ownErr isName (.mk 9 x y nm kids) = 3 := by
                  rw [hown0]
                  simp only [decide_eq_true_eq, decide_eq_false_iff_not, beq_eq_false_iff_ne] at q1 q2 q3
                  exact (if_neg (by decide)).trans ((if_neg (by decide)).trans ((if_neg (by decide)).trans ((if_pos rfl).trans (if_pos (by omega)))))
                have hf := Lib.hid (show formE isName (.mk 9 x y nm kids) deep n = (3, n + 1) by rw [hform.out, hown, if_neg (by decide)])
                go_wp2
                go_ret
                exact ⟨by rw [hf.out]; rfl, by rw [hf.out]; exact hB1.below hb2 hlt1, hb1.trans (hb2.mono (by omega))⟩
              · have hown : ownErr isName (.mk 9 x y nm kids) = 0 := by
                  rw [hown0]
                  simp only [decide_eq_false_iff_not, beq_eq_false_iff_ne] at q1 q2 q3
                  exact (if_neg (by decide)).trans ((if_neg (by decide)).trans ((if_neg (by decide)).trans ((if_pos rfl).trans (if_neg (by omega)))))
                go_upto_region 24 with fail
                have hmid := Lib.hid (show Blk n1.w gs 126 #[.int .i64 ((n + 1 : Nat) : Int)] ∧ Below gs w n1.w from ⟨hB1.below hb2 hlt1, hb1.trans (hb2.mono (by omega))⟩)
                replace hform := Lib.hid (show formE isName (.mk 9 x y nm kids) deep n = formL isName kids (deep + 1) (n + 1) by rw [hform.out, hown, if_pos rfl])
                have c4 : n1.w.cell? ⟨b, o + 4, none⟩ = some (.slice A0 kids.length cap0) := (hmid.out.2.cell (p := ⟨b, _, none⟩) hbg.out).trans kw4.out
                clear hown hown0
                go_wp2
                go_loopg [150] kids.length (fun m kv wr => ∃ j c : Nat, j ≤ kids.length ∧ m = kids.length - j ∧ kv = .int .i64 j ∧ formL isName (kids.drop j) (deep + 1) c = formE isName (.mk 9 x y nm kids) deep n ∧ c ≤ 600 ∧ Below gs w wr ∧ Blk wr gs 126 #[.int .i64 (c : Nat)])
                case atStart => exact ⟨0, n + 1, by omega, rfl, rfl, by rw [hform.out]; rfl, hn6.out, hmid.out.2, hmid.out.1⟩
                case round =>
                  clear c4 hmid
                  obtain ⟨j, c, hj, hm, rfl, hfl, hc6, hbr, hBr⟩ := hrel
                  replace hm := Lib.hid hm
                  replace hfl := Lib.hid hfl
                  have c4 : wr.cell? ⟨b, o + 4, none⟩ = some (.slice A0 kids.length cap0) := (hbr.cell (p := ⟨b, _, none⟩) hbg.out).trans kw4.out
                  have zr := hBr.lt
                  by_cases hlt : j < kids.length
                  · obtain ⟨e1, hx⟩ : ∃ d, kids[j]? = some d := ⟨_, List.getElem?_eq_getElem hlt⟩
                    obtain ⟨kb, ko, rfl, hkb, hke⟩ := hkw.out.at' hx
                    have hst := Lib.hid (formL_at isName hx (deep + 1) c)
                    have hle := (formE_le isName e1 (deep + 1) c).2.2
                    have hcall := ih.out e1 wr gs kb (ko + j * 5) (deep + 1) c (by have := nodesE_kid hx; have := hnod.out; omega) (hke.below hbr (Nat.le_refl _) (Nat.le_refl _) hkb) hkb hBr (by omega) hc6
                    rw [show ((deep + 1 : Nat) : Int) = (deep : Int) + 1 by omega] at hcall
                    replace hcall := Lib.hid hcall
                    clear hx hke
                    by_cases h0 : (formE isName e1 (deep + 1) c).1 = 0
                    · have hc7 : (formE isName e1 (deep + 1) c).2 ≤ 600 := by have := hle h0; omega
                      have hfl2 := Lib.hid (show formL isName (kids.drop (j + 1)) (deep + 1) (formE isName e1 (deep + 1) c).2 = formE isName (.mk 9 x y nm kids) deep n by rw [← hfl.out, hst.out, if_pos h0])
                      rw [h0] at hcall
                      clear hle h0 hst
                      generalize hc8 : (formE isName e1 (deep + 1) c).2 = c8 at *
                      clear hc8
                      go_wp2_with (go_at_call 74; refine hcall.out.mono ?_; rintro e w5 ⟨rfl, hB5, hb5⟩)
                      go_roundg (kids.length - (j + 1))
                      case measure => rw [hm.out]; omega
                      case rel => exact ⟨j + 1, c8, by omega, rfl, by go_num, hfl2.out, hc7, hbr.trans hb5, hB5⟩
                    · have hfl2 := Lib.hid (show formE isName (.mk 9 x y nm kids) deep n = formE isName e1 (deep + 1) c by rw [← hfl.out, hst.out, if_neg h0])
                      have g : ((formE isName e1 (deep + 1) c).1 != 0) = true := by simpa using h0
                      clear hle h0 hst
                      go_wp2_with (go_at_call 74; refine hcall.out.mono ?_; rintro e w5 ⟨rfl, hB5, hb5⟩)
                      go_ret
                      exact ⟨by rw [hfl2.out]; rfl, by rw [hfl2.out]; exact hB5, hbr.trans hb5⟩
                  · obtain rfl : j = kids.length := by omega
                    have hf0 := Lib.hid (show formE isName (.mk 9 x y nm kids) deep n = (0, c) by rw [← hfl.out, List.drop_length]; rfl)
                    go_wp2
                    go_ret
                    exact ⟨by rw [hf0.out]; rfl, by rw [hf0.out]; exact hBr, hbr⟩
          · as_aux_lemma =>
              subst hk
              clear q1 q2 hk2
              cases hnm : isName nm with
              | true =>
                have hown : ownErr isName (.mk 10 x y nm kids) = 0 := by rw [hown0, hnm]; rfl
                have hN := Lib.hid (Named_any nm n1.w hnl.1)
                rw [hnm] at hN
                clear hnm
                go_upto_region 24 with (go_at_call 73; refine hN.out.mono ?_; rintro e w5 ⟨rfl, hb5⟩)
                have hmid := Lib.hid (show Blk w5 gs 126 #[.int .i64 ((n + 1 : Nat) : Int)] ∧ Below gs w w5 from ⟨(hB1.below hb2 hlt1).below hb5 (by omega), hb1.trans ((hb2.mono (by omega)).trans (hb5.mono (by omega)))⟩)
                replace hform := Lib.hid (show formE isName (.mk 10 x y nm kids) deep n = formL isName kids (deep + 1) (n + 1) by rw [hform.out, hown, if_pos rfl])
                have c4 : w5.cell? ⟨b, o + 4, none⟩ = some (.slice A0 kids.length cap0) := (hmid.out.2.cell (p := ⟨b, _, none⟩) hbg.out).trans kw4.out
                clear hown hown0
                go_wp2
                go_loopg [150] kids.length (fun m kv wr => ∃ j c : Nat, j ≤ kids.length ∧ m = kids.length - j ∧ kv = .int .i64 j ∧ formL isName (kids.drop j) (deep + 1) c = formE isName (.mk 10 x y nm kids) deep n ∧ c ≤ 600 ∧ Below gs w wr ∧ Blk wr gs 126 #[.int .i64 (c : Nat)])
                case atStart => exact ⟨0, n + 1, by omega, rfl, rfl, by rw [hform.out]; rfl, hn6.out, hmid.out.2, hmid.out.1⟩
                case round =>
                  clear c4 hmid
                  obtain ⟨j, c, hj, hm, rfl, hfl, hc6, hbr, hBr⟩ := hrel
                  replace hm := Lib.hid hm
                  replace hfl := Lib.hid hfl
                  have c4 : wr.cell? ⟨b, o + 4, none⟩ = some (.slice A0 kids.length cap0) := (hbr.cell (p := ⟨b, _, none⟩) hbg.out).trans kw4.out
                  have zr := hBr.lt
                  by_cases hlt : j < kids.length
                  · obtain ⟨e1, hx⟩ : ∃ d, kids[j]? = some d := ⟨_, List.getElem?_eq_getElem hlt⟩
                    obtain ⟨kb, ko, rfl, hkb, hke⟩ := hkw.out.at' hx
                    have hst := Lib.hid (formL_at isName hx (deep + 1) c)
                    have hle := (formE_le isName e1 (deep + 1) c).2.2
                    have hcall := ih.out e1 wr gs kb (ko + j * 5) (deep + 1) c (by have := nodesE_kid hx; have := hnod.out; omega) (hke.below hbr (Nat.le_refl _) (Nat.le_refl _) hkb) hkb hBr (by omega) hc6
                    rw [show ((deep + 1 : Nat) : Int) = (deep : Int) + 1 by omega] at hcall
                    replace hcall := Lib.hid hcall
                    clear hx hke
                    by_cases h0 : (formE isName e1 (deep + 1) c).1 = 0
                    · have hc7 : (formE isName e1 (deep + 1) c).2 ≤ 600 := by have := hle h0; omega
                      have hfl2 := Lib.hid (show formL isName (kids.drop (j + 1)) (deep + 1) (formE isName e1 (deep + 1) c).2 = formE isName (.mk 10 x y nm kids) deep n by rw [← hfl.out, hst.out, if_pos h0])
                      rw [h0] at hcall
                      clear hle h0 hst
                      generalize hc8 : (formE isName e1 (deep + 1) c).2 = c8 at *
                      clear hc8
                      go_wp2_with (go_at_call 74; refine hcall.out.mono ?_; rintro e w5 ⟨rfl, hB5, hb5⟩)
                      go_roundg (kids.length - (j + 1))
                      case measure => rw [hm.out]; omega
                      case rel => exact ⟨j + 1, c8, by omega, rfl, by go_num, hfl2.out, hc7, hbr.trans hb5, hB5⟩
                    · have hfl2 := Lib.hid (show formE isName (.mk 10 x y nm kids) deep n = formE isName e1 (deep + 1) c by rw [← hfl.out, hst.out, if_neg h0])
                      have g : ((formE isName e1 (deep + 1) c).1 != 0) = true := by simpa using h0
                      clear hle h0 hst
                      go_wp2_with (go_at_call 74; refine hcall.out.mono ?_; rintro e w5 ⟨rfl, hB5, hb5⟩)
                      go_ret
                      exact ⟨by rw [hfl2.out]; rfl, by rw [hfl2.out]; exact hB5, hbr.trans hb5⟩
                  · obtain rfl : j = kids.length := by omega
                    have hf0 := Lib.hid (show formE isName (.mk 10 x y nm kids) deep n = (0, c) by rw [← hfl.out, List.drop_length]; rfl)
                    go_wp2
                    go_ret
                    exact ⟨by rw [hf0.out]; rfl, by rw [hf0.out]; exact hBr, hbr⟩
              | false =>
                have hown : ownErr isName (.mk 10 x y nm kids) = 7 := by rw [hown0, hnm]; rfl
                have hf := Lib.hid (show formE isName (.mk 10 x y nm kids) deep n = (7, n + 1) by rw [hform.out, hown, if_neg (by decide)])
                have hN := Lib.hid (Named_any nm n1.w hnl.1)
                rw [hnm] at hN
                clear hnm
                go_wp2_with (go_at_call 73; refine hN.out.mono ?_; rintro e w5 ⟨rfl, hb5⟩)
                go_ret
                exact ⟨by rw [hf.out]; rfl, by rw [hf.out]; exact (hB1.below hb2 hlt1).below hb5 (by omega), hb1.trans ((hb2.mono (by omega)).trans (hb5.mono (by omega)))⟩
          · as_aux_lemma =>
              obtain ⟨h3, h4, h5, h9, h10⟩ := hk
              have b3 : (k == 3) = false := by simpa using h3
              have b4 : (k == 4) = false := by simpa using h4
              have b5 : (k == 5) = false := by simpa using h5
              have b9 : (k == 9) = false := by simpa using h9
              have b10 : (k == 10) = false := by simpa using h10
              have hown : ownErr isName (.mk k x y nm kids) = 0 := by rw [hown0, if_neg h3, if_neg h4, if_neg h5, if_neg h9, if_neg h10]
              clear h3 h4 h5 h9 h10
              go_upto_region 24 with fail
              have hmid := Lib.hid (show Blk n1.w gs 126 #[.int .i64 ((n + 1 : Nat) : Int)] ∧ Below gs w n1.w from ⟨hB1.below hb2 hlt1, hb1.trans (hb2.mono (by omega))⟩)
              replace hform := Lib.hid (show formE isName (.mk k x y nm kids) deep n = formL isName kids (deep + 1) (n + 1) by rw [hform.out, hown, if_pos rfl])
              have c4 : n1.w.cell? ⟨b, o + 4, none⟩ = some (.slice A0 kids.length cap0) := (hmid.out.2.cell (p := ⟨b, _, none⟩) hbg.out).trans kw4.out
              clear hown hown0
              go_wp2
              go_loopg [150] kids.length (fun m kv wr => ∃ j c : Nat, j ≤ kids.length ∧ m = kids.length - j ∧ kv = .int .i64 j ∧ formL isName (kids.drop j) (deep + 1) c = formE isName (.mk k x y nm kids) deep n ∧ c ≤ 600 ∧ Below gs w wr ∧ Blk wr gs 126 #[.int .i64 (c : Nat)])
              case atStart => exact ⟨0, n + 1, by omega, rfl, rfl, by rw [hform.out]; rfl, hn6.out, hmid.out.2, hmid.out.1⟩
              case round =>
                clear c4 hmid
                obtain ⟨j, c, hj, hm, rfl, hfl, hc6, hbr, hBr⟩ := hrel
                replace hm := Lib.hid hm
                replace hfl := Lib.hid hfl
                have c4 : wr.cell? ⟨b, o + 4, none⟩ = some (.slice A0 kids.length cap0) := (hbr.cell (p := ⟨b, _, none⟩) hbg.out).trans kw4.out
                have zr := hBr.lt
                by_cases hlt : j < kids.length
                · obtain ⟨e1, hx⟩ : ∃ d, kids[j]? = some d := ⟨_, List.getElem?_eq_getElem hlt⟩
                  obtain ⟨kb, ko, rfl, hkb, hke⟩ := hkw.out.at' hx
                  have hst := Lib.hid (formL_at isName hx (deep + 1) c)
                  have hle := (formE_le isName e1 (deep + 1) c).2.2
                  have hcall := ih.out e1 wr gs kb (ko + j * 5) (deep + 1) c (by have := nodesE_kid hx; have := hnod.out; omega) (hke.below hbr (Nat.le_refl _) (Nat.le_refl _) hkb) hkb hBr (by omega) hc6
                  rw [show ((deep + 1 : Nat) : Int) = (deep : Int) + 1 by omega] at hcall
                  replace hcall := Lib.hid hcall
                  clear hx hke
                  by_cases h0 : (formE isName e1 (deep + 1) c).1 = 0
                  · have hc7 : (formE isName e1 (deep + 1) c).2 ≤ 600 := by have := hle h0; omega
                    have hfl2 := Lib.hid (show formL isName (kids.drop (j + 1)) (deep + 1) (formE isName e1 (deep + 1) c).2 = formE isName (.mk k x y nm kids) deep n by rw [← hfl.out, hst.out, if_pos h0])
                    rw [h0] at hcall
                    clear hle h0 hst
                    generalize hc8 : (formE isName e1 (deep + 1) c).2 = c8 at *
                    clear hc8
                    go_wp2_with (go_at_call 74; refine hcall.out.mono ?_; rintro e w5 ⟨rfl, hB5, hb5⟩)
                    go_roundg (kids.length - (j + 1))
                    case measure => rw [hm.out]; omega
                    case rel => exact ⟨j + 1, c8, by omega, rfl, by go_num, hfl2.out, hc7, hbr.trans hb5, hB5⟩
                  · have hfl2 := Lib.hid (show formE isName (.mk k x y nm kids) deep n = formE isName e1 (deep + 1) c by rw [← hfl.out, hst.out, if_neg h0])
                    have g : ((formE isName e1 (deep + 1) c).1 != 0) = true := by simpa using h0
                    clear hle h0 hst
                    go_wp2_with (go_at_call 74; refine hcall.out.mono ?_; rintro e w5 ⟨rfl, hB5, hb5⟩)
                    go_ret
                    exact ⟨by rw [hfl2.out]; rfl, by rw [hfl2.out]; exact hB5, hbr.trans hb5⟩
                · obtain rfl : j = kids.length := by omega
                  have hf0 := Lib.hid (show formE isName (.mk k x y nm kids) deep n = (0, c) by rw [← hfl.out, List.drop_length]; rfl)
                  go_wp2
                  go_ret
                  exact ⟨by rw [hf0.out]; rfl, by rw [hf0.out]; exact hBr, hbr⟩

end Ru
end Go.Proofs.YtbadplbdgpbdaaaDoor

namespace Go.Proofs.YtbadplbdgpbdaaaDoor
open Go.RowKit
namespace Ru
open Sl (strV Reads)
open Lx

def firstErr {α : Type} (f : Nat → α → Int) : Nat → List α → Int × Int
  | _, [] => (0, 0)
  | i, c :: cs => if f i c = 0 then firstErr f (i + 1) cs else (f i c, i)
theorem firstErr_at {α : Type} (f : Nat → α → Int) {l : List α} {j : Nat} {c : α} (h : l[j]? = some c) : firstErr f j (l.drop j) = if f j c = 0 then firstErr f (j + 1) (l.drop (j + 1)) else (f j c, (j : Int)) := by
  obtain ⟨hi, rfl⟩ := List.getElem?_eq_some_iff.1 h
  rw [List.drop_eq_getElem_cons hi, firstErr]
def faultV (p : Int × Int) : Value := .agg #[.int .i64 p.1, .int .i64 p.2]
/-- the first rule whose form is wrong -/
def wrongF (l : List Rule) : Int × Int := if 40 < l.length then (5, 0) else firstErr (fun _ => ruleErr isName) 0 l

theorem PWrong_many (v : Value) (l : List Rule) (w : World) (hr : RulesV w w.heap.size v l) (h40 : 40 < l.length) : Calls Tryd.prog 34 #[v] w fun e w' => e = .returned (faultV (wrongF l)) ∧ Below w.heap.size w w' := by
  obtain ⟨A, cap, rfl, hl, hc⟩ := hr
  have hw : wrongF l = (5, 0) := if_pos h40
  rw [hw]
  clear hw hc
  have g : decide ((40 : Int) < (l.length : Int)) = true := by simp; omega
  clear h40
  go_enter Tryd.func34, Tryd.ntmps34
  go_wp2
  exact bodyPost_ret (v := faultV (5, 0)) (by simp [results, Tryd.results34, go_sem, faultV]) rfl ⟨rfl, (by repeat (first | exact Below.refl _ _ | assumption | refine Below.n _ ?_ (by first | omega | (simp; done) | (simp; omega)) | refine Below.alloc ?_ (by first | omega | (simp; done) | (simp; omega)) _ | refine Below.setCell ?_ (by first | omega | (simp; done) | (simp; omega)) _ | refine Below.drew ?_ | refine Below.setRow ?_ (by first | omega | (simp; done) | (simp; omega)) _ | refine Below.drewN ?_ _))⟩

set_option maxRecDepth 100000 in
set_option maxHeartbeats 8000000 in
theorem PWrong_few (v : Value) (l : List Rule) (w : World) (hr : RulesV w w.heap.size v l) (h40 : l.length ≤ 40) : Calls Tryd.prog 34 #[v] w fun e w' => e = .returned (faultV (wrongF l)) ∧ Below w.heap.size w w' := by
  obtain ⟨A, cap, rfl, hl, hc⟩ := hr
  have hw : wrongF l = firstErr (fun _ => ruleErr isName) 0 l := if_neg (by omega)
  rw [hw]
  clear hw
  have g : decide ((40 : Int) < (l.length : Int)) = false := by simp; omega
  replace hc := Lib.hid hc
  go_enter Tryd.func34, Tryd.ntmps34
  go_wp2
  clear g
  go_loopg [11] l.length (fun n k wr => ∃ j : Nat, j ≤ l.length ∧ n = l.length - j ∧ k = .int .i64 j ∧ Hid (firstErr (fun _ => ruleErr isName) j (l.drop j) = firstErr (fun _ => ruleErr isName) 0 l) ∧ Below w.heap.size w wr ∧ Blk wr w.heap.size 26 #[.int .i64 0, .int .i64 0])
  case atStart => exact ⟨0, by omega, rfl, rfl, Lib.hid rfl, (by repeat (first | exact Below.refl _ _ | assumption | refine Below.n _ ?_ (by first | omega | (simp; done) | (simp; omega)) | refine Below.alloc ?_ (by first | omega | (simp; done) | (simp; omega)) _ | refine Below.setCell ?_ (by first | omega | (simp; done) | (simp; omega)) _ | refine Below.drew ?_ | refine Below.setRow ?_ (by first | omega | (simp; done) | (simp; omega)) _ | refine Below.drewN ?_ _)), Blk.new _ _ _⟩
  case round =>
    obtain ⟨j, hj, hn, rfl, hf, hb, B0⟩ := hrel
    replace hn := Lib.hid hn
    have zb := hb.size
    have zr := B0.lt
    have s0 : wr.cell? ⟨w.heap.size, 0, none⟩ = some (.int .i64 0) := B0.cell 0
    have s1 : wr.cell? ⟨w.heap.size, 1, none⟩ = some (.int .i64 0) := B0.cell 1
    have t0 : wr.frozen? ⟨w.heap.size, 0, none⟩ = false := B0.frozen 0
    have t1 : wr.frozen? ⟨w.heap.size, 1, none⟩ = false := B0.frozen 1
    by_cases hlt : j < l.length
    · obtain ⟨r, hx⟩ : ∃ r, l[j]? = some r := ⟨_, List.getElem?_eq_getElem hlt⟩
      obtain ⟨b, o, rfl, hbl, k0, hnl, hE⟩ := hc.out j r hx
      have d0 : wr.cell? ⟨b, o + j * 6, none⟩ = some (strV r.name) := (hb.cell (p := ⟨b, _, none⟩) hbl).trans k0
      have hst : firstErr (fun _ => ruleErr isName) 0 l = if ruleErr isName r = 0 then firstErr (fun _ => ruleErr isName) (j + 1) (l.drop (j + 1)) else (ruleErr isName r, (j : Int)) := hf.out.symm.trans (firstErr_at _ hx)
      have zbl : b < wr.heap.size := by omega
      have hN := Lib.hid (Named_any r.name wr hnl)
      replace hE := Lib.hid hE
      clear k0 hx
      cases hnm : isName r.name with
      | false =>
        have hre : ruleErr isName r = 7 := if_neg (by rw [hnm]; decide)
        rw [hre, if_neg (by decide)] at hst
        rw [hnm] at hN
        replace hst := Lib.hid hst
        clear hnm hre
        go_wp2_with (go_at_call 73; refine hN.out.mono ?_; rintro e w1 ⟨rfl, hb1⟩; obtain ⟨n1, rfl⟩ := After.of hb1; have z1 := n1.size)
        have E := ((B0.below n1.below zr).set 0 (.int .i64 7)).set 1 (.int .i64 j)
        have e0 := (E.cell 0).trans (show _ = some (Value.int .i64 7) from rfl)
        have e1 := (E.cell 1).trans (show _ = some (Value.int .i64 j) from rfl)
        exact bodyPost_ret (v := faultV (7, (j : Nat))) (by simp [results, Tryd.results34, e0, e1, go_sem, faultV]) rfl ⟨by rw [hst.out], (by repeat (first | exact Below.refl _ _ | assumption | refine Below.n _ ?_ (by first | omega | (simp; done) | (simp; omega)) | refine Below.alloc ?_ (by first | omega | (simp; done) | (simp; omega)) _ | refine Below.setCell ?_ (by first | omega | (simp; done) | (simp; omega)) _ | refine Below.drew ?_ | refine Below.setRow ?_ (by first | omega | (simp; done) | (simp; omega)) _ | refine Below.drewN ?_ _))⟩
      | true =>
        have hre : ruleErr isName r = (formE isName r.expr 1 0).1 := if_pos hnm
        rw [hre] at hst
        rw [hnm] at hN
        replace hst := Lib.hid hst
        clear hnm hre
        go_upto_region 8 with (go_at_call 73; refine hN.out.mono ?_; rintro e w1 ⟨rfl, hb1⟩; obtain ⟨n1, rfl⟩ := After.of hb1; have z1 := n1.size)
        have hS : Blk (n1.w.alloc (.cells #[.int .i64 0] 126)) n1.w.heap.size 126 #[.int .i64 ((0 : Nat) : Int)] := Blk.new _ _ _
        have hb2 : Below w.heap.size w (n1.w.alloc (.cells #[.int .i64 0] 126)) := (by repeat (first | exact Below.refl _ _ | assumption | refine Below.n _ ?_ (by first | omega | (simp; done) | (simp; omega)) | refine Below.alloc ?_ (by first | omega | (simp; done) | (simp; omega)) _ | refine Below.setCell ?_ (by first | omega | (simp; done) | (simp; omega)) _ | refine Below.drew ?_ | refine Below.setRow ?_ (by first | omega | (simp; done) | (simp; omega)) _ | refine Below.drewN ?_ _))
        have hcall := shaper_any (nodesE r.expr) r.expr (n1.w.alloc (.cells #[.int .i64 0] 126)) n1.w.heap.size b (o + j * 6 + 1) 1 0 (Nat.le_refl _) (hE.out.below hb2 (Nat.le_refl _) (by omega) hbl) (by omega) hS (by omega) (by omega)
        replace hcall := Lib.hid hcall
        by_cases h0 : (formE isName r.expr 1 0).1 = 0
        · have hf2 := Lib.hid (show firstErr (fun _ => ruleErr isName) (j + 1) (l.drop (j + 1)) = firstErr (fun _ => ruleErr isName) 0 l by rw [hst.out, if_pos h0])
          rw [h0] at hcall
          clear hst h0
          go_wp2_with (go_at_call 74; refine hcall.out.mono ?_; rintro e w5 ⟨rfl, _, hb5⟩)
          have z5 := hb5.size
          go_roundg (l.length - (j + 1))
          case measure => rw [hn.out]; omega
          case rel => exact ⟨j + 1, by omega, rfl, by go_num, hf2, hb2.trans (hb5.mono (by omega)), ((B0.below n1.below zr).alloc _).below hb5 (by omega)⟩
        · have hf2 := Lib.hid (show firstErr (fun _ => ruleErr isName) 0 l = ((formE isName r.expr 1 0).1, (j : Int)) by rw [hst.out, if_neg h0])
          have g : ((formE isName r.expr 1 0).1 != 0) = true := by simpa using h0
          clear hst h0
          generalize (formE isName r.expr 1 0).1 = er at *
          have B1 := (B0.below n1.below zr).alloc (.cells #[.int .i64 0] 126)
          have hzs : (n1.w.alloc (.cells #[.int .i64 0] 126)).heap.size = n1.w.heap.size + 1 := by simp
          go_wp2_with (go_at_call 74; refine hcall.out.mono ?_; rintro e w5 ⟨rfl, _, hb5⟩; have B5 := B1.below hb5 (by omega); have s50 : w5.cell? ⟨w.heap.size, 0, none⟩ = some (.int .i64 0) := B5.cell 0; have s51 : w5.cell? ⟨w.heap.size, 1, none⟩ = some (.int .i64 0) := B5.cell 1; have t50 : w5.frozen? ⟨w.heap.size, 0, none⟩ = false := B5.frozen 0; have t51 : w5.frozen? ⟨w.heap.size, 1, none⟩ = false := B5.frozen 1)
          have z5 := hb5.size
          have E := (B5.set 0 (.int .i64 er)).set 1 (.int .i64 j)
          have e0 := (E.cell 0).trans (show _ = some (Value.int .i64 er) from rfl)
          have e1 := (E.cell 1).trans (show _ = some (Value.int .i64 j) from rfl)
          have hb6 := hb2.trans (hb5.mono (show w.heap.size ≤ n1.w.heap.size by omega))
          exact bodyPost_ret (v := faultV (er, (j : Nat))) (by simp [results, Tryd.results34, e0, e1, go_sem, faultV]) rfl ⟨by rw [hf2.out], (by repeat (first | exact Below.refl _ _ | assumption | refine Below.n _ ?_ (by first | omega | (simp; done) | (simp; omega)) | refine Below.alloc ?_ (by first | omega | (simp; done) | (simp; omega)) _ | refine Below.setCell ?_ (by first | omega | (simp; done) | (simp; omega)) _ | refine Below.drew ?_ | refine Below.setRow ?_ (by first | omega | (simp; done) | (simp; omega)) _ | refine Below.drewN ?_ _))⟩
    · obtain rfl : j = l.length := by omega
      have hf2 := Lib.hid (show firstErr (fun _ => ruleErr isName) 0 l = (0, 0) by rw [← hf.out, List.drop_length]; rfl)
      go_wp2
      have E := (B0.set 0 (.int .i64 0)).set 1 (.int .i64 0)
      have e0 := (E.cell 0).trans (show _ = some (Value.int .i64 0) from rfl)
      have e1 := (E.cell 1).trans (show _ = some (Value.int .i64 0) from rfl)
      exact bodyPost_ret (v := faultV (0, 0)) (by simp [results, Tryd.results34, e0, e1, go_sem, faultV]) rfl ⟨by rw [hf2.out], (by repeat (first | exact Below.refl _ _ | assumption | refine Below.n _ ?_ (by first | omega | (simp; done) | (simp; omega)) | refine Below.alloc ?_ (by first | omega | (simp; done) | (simp; omega)) _ | refine Below.setCell ?_ (by first | omega | (simp; done) | (simp; omega)) _ | refine Below.drew ?_ | refine Below.setRow ?_ (by first | omega | (simp; done) | (simp; omega)) _ | refine Below.drewN ?_ _))⟩

theorem PWrong_any (v : Value) (l : List Rule) (w : World) (hr : RulesV w w.heap.size v l) : Calls Tryd.prog 34 #[v] w fun e w' => e = .returned (faultV (wrongF l)) ∧ Below w.heap.size w w' := by
  by_cases h40 : 40 < l.length
  · exact PWrong_many v l w hr h40
  · exact PWrong_few v l w hr (by omega)

end Ru
end Go.Proofs.YtbadplbdgpbdaaaDoor

namespace Go.Proofs.YtbadplbdgpbdaaaDoor
namespace Ru
open Lx

mutual
theorem formE_nodes (nm : List UInt8 → Bool) : ∀ (e : Expr) (deep n : Nat), (formE nm e deep n).1 = 0 → (formE nm e deep n).2 = n + nodesE e
  | .mk k a b name kids, deep, n => by
    rw [formE]
    split
    · intro h; simp at h
    · split
      · intro h
        have := formL_nodes nm kids (deep + 1) (n + 1) h
        rw [this, nodesE]
        omega
      · rename_i h2
        exact fun h => absurd h h2
theorem formL_nodes (nm : List UInt8 → Bool) : ∀ (l : List Expr) (deep n : Nat), (formL nm l deep n).1 = 0 → (formL nm l deep n).2 = n + nodesL l
  | [], _, n => by intro _; rw [formL, nodesL]; rfl
  | e :: l, deep, n => by
    rw [formL]
    split
    · rename_i h0
      intro h
      have h1 := formE_nodes nm e deep n h0
      have h2 := formL_nodes nm l deep _ h
      rw [h2, h1, nodesL]
      omega
    · rename_i h0
      exact fun h => absurd h h0
end
theorem firstErr_zero {α : Type} (f : Nat → α → Int) : ∀ (l : List α) (i : Nat), (firstErr f i l).1 = 0 → ∀ (j : Nat) (c : α), l[j]? = some c → f (i + j) c = 0
  | [], _, _, j, c, hc => by simp at hc
  | x :: l, i, h, j, c, hc => by
    rw [firstErr] at h
    split at h
    · rename_i e
      cases j with
      | zero => simp at hc; subst hc; exact e
      | succ j =>
        have := firstErr_zero f l (i + 1) h j c (by simpa using hc)
        rwa [show i + 1 + j = i + (j + 1) by omega] at this
    · rename_i e
      exact absurd h e
/-- rules of a right form -/
theorem form_right {l : List Rule} (h : (wrongF l).1 = 0) : l.length ≤ 40 ∧ ∀ r ∈ l, isName r.name = true ∧ nodesE r.expr ≤ 600 := by
  unfold wrongF at h
  split at h
  · simp at h
  · refine ⟨by omega, fun r hr => ?_⟩
    obtain ⟨j, hj, rfl⟩ := List.mem_iff_getElem.1 hr
    have h1 := firstErr_zero _ l 0 h j _ (List.getElem?_eq_getElem hj)
    have h2 : ruleErr isName l[j] = 0 := h1
    unfold ruleErr at h2
    split at h2
    · rename_i hn
      have h3 := formE_nodes isName l[j].expr 1 0 h2
      have h4 := (formE_le isName l[j].expr 1 0).2.2 h2
      exact ⟨hn, by omega⟩
    · simp at h2

end Ru
end Go.Proofs.YtbadplbdgpbdaaaDoor
