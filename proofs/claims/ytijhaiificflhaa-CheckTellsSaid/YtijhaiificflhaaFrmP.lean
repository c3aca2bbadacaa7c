/- What is wrong with rules' form: the walks of parse.kids, the shaper, parse.Wrong. -/
import Derived.Test.YtijhaiificflhaaRulM
import Derived.Test.YtijhaiificflhaaLexN
import Derived.Outline
import Derived.Deep.DeepCutAuto
import Derived.Deep.QuietTactic
namespace Go.Proofs.Ytijhaiificflhaa
open Go.RowKit
namespace Ru
open Sl (strV Reads)
open Lx

theorem dec (p : Prop) [Decidable p] : decide p = true ∧ p ∨ decide p = false ∧ ¬ p := by
  by_cases h : p
  · exact .inl ⟨by simpa using h, h⟩
  · exact .inr ⟨by simpa using h, h⟩

set_option maxHeartbeats 1000000 in
theorem kids_any (k : Int) (w : World) : Calls Try.prog 69 #[.int .i64 k] w fun e w' => e = .returned (.int .i64 (kidsOf k)) ∧ w = w' := by
  by_cases h4 : k = 4
  · subst h4
    go_enter Try.func69, Try.ntmps69
    go_wp2
    go_ret
    exact ⟨rfl, rfl⟩
  by_cases h5 : k = 5
  · subst h5
    go_enter Try.func69, Try.ntmps69
    go_wp2
    go_ret
    exact ⟨rfl, rfl⟩
  by_cases h9 : k = 9
  · subst h9
    go_enter Try.func69, Try.ntmps69
    go_wp2
    go_ret
    exact ⟨rfl, rfl⟩
  by_cases h6 : k = 6
  · subst h6
    go_enter Try.func69, Try.ntmps69
    go_wp2
    go_ret
    exact ⟨rfl, rfl⟩
  by_cases h7 : k = 7
  · subst h7
    go_enter Try.func69, Try.ntmps69
    go_wp2
    go_ret
    exact ⟨rfl, rfl⟩
  by_cases h8 : k = 8
  · subst h8
    go_enter Try.func69, Try.ntmps69
    go_wp2
    go_ret
    exact ⟨rfl, rfl⟩
  have e : kidsOf k = 0 := by unfold kidsOf; rw [if_neg (by omega), if_neg (by omega)]
  have b4 : (k == 4) = false := by simpa using h4
  have b5 : (k == 5) = false := by simpa using h5
  have b6 : (k == 6) = false := by simpa using h6
  have b7 : (k == 7) = false := by simpa using h7
  have b8 : (k == 8) = false := by simpa using h8
  have b9 : (k == 9) = false := by simpa using h9
  rw [e]
  clear e h4 h5 h6 h7 h8 h9
  go_enter Try.func69, Try.ntmps69
  go_wp2
  go_ret
  exact ⟨rfl, rfl⟩

set_option maxRecDepth 100000 in
set_option maxHeartbeats 8000000 in
theorem shaper_any : ∀ (N : Nat) (e : Expr) (w : World) (gs b o deep n : Nat), nodesE e ≤ N → ExprAt w gs b o e → b < gs → Blk w gs 77 #[.int .i64 (n : Nat)] → deep ≤ 41 → n ≤ 600 →
    Calls Try.prog 43 #[.pointer (some ⟨gs, 0, none⟩), .pointer (some ⟨b, o, none⟩), .int .i64 (deep : Nat)] w fun r w' => r = .returned (.int .i64 (formE isName e deep n).1) ∧ Blk w' gs 77 #[.int .i64 ((formE isName e deep n).2 : Nat)] ∧ Below gs w w' := by
  intro N
  induction N with
  | zero => intro e w gs b o deep n hN; have := nodesE_pos e; omega
  | succ N ih =>
    intro e w gs b o deep n hN he hb hB hd hn
    obtain ⟨k0, k1, k2, k3, hnl, A, cap, k4, hkl, hkv⟩ := he.out
    have hform := formE_eq isName e deep n
    have hbg := Lib.hid ‹b < gs›
    have hnod : nodesL e.kids ≤ N := by cases e; rw [nodesE] at hN; simp only [Expr.kids]; omega
    have hlt := hB.lt
    obtain ⟨A0, cap0, kw4, hkw⟩ : ∃ A cap, w.cell? ⟨b, o + 4, none⟩ = some (.slice A e.kids.length cap) ∧ KidsV w gs A e.kids := ⟨A, cap, k4, hkv⟩
    have zb : b < w.heap.size := by omega
    have g0 := hB.cell 0
    have g1 := hB.frozen 0
    simp only [List.getElem?_toArray, List.getElem?_cons_zero] at g0
    have hB1 := hB.set 0 (.int .i64 ((n : Int) + 1))
    have hB1 : Blk (w.setCell ⟨gs, 0, none⟩ (.int .i64 ((n : Int) + 1))) gs 77 #[.int .i64 ((n + 1 : Nat) : Int)] := by simpa using hB1
    have hb1 : Below gs w (w.setCell ⟨gs, 0, none⟩ (.int .i64 ((n : Int) + 1))) := (Below.refl _ _).setCell (p := ⟨gs, 0, none⟩) (Nat.le_refl _) _
    replace ih := Lib.hid ih
    have he1 := Lib.hid (he.below hb1 (Nat.le_refl _) (Nat.le_refl _) hb)
    clear he hN
    have hne : gs ≠ b := by omega
    by_cases hov : 600 < n + 1 ∨ 40 < deep
    · rw [if_pos hov] at hform
      have hq : decide (600 < (n : Int) + 1) = true ∨ decide (600 < (n : Int) + 1) = false ∧ decide (40 < (deep : Int)) = true := by
        simp only [decide_eq_true_eq, decide_eq_false_iff_not]; omega
      rw [hform]
      clear hform hov
      rcases hq with q1 | ⟨q1, q2⟩
      all_goals
        go_enter Try.func43, Try.ntmps43
        go_wp2
        go_ret
        exact ⟨rfl, hB1, hb1⟩
    · rw [if_neg hov] at hform
      have q1 : decide (600 < (n : Int) + 1) = false := by simp; omega
      have q2 : decide (40 < (deep : Int)) = false := by simp; omega
      have hd40 : deep ≤ 40 := by omega
      have hn600 : n + 1 ≤ 600 := by omega
      clear hov
      go_enter Try.func43, Try.ntmps43
      go_upto_region 4 with fail
      generalize (w.setCell ⟨gs, 0, none⟩ (.int .i64 ((n : Int) + 1))) = W1 at *
      obtain ⟨k0, k1, k2, k3, _, A, cap, k4, _, hkv⟩ := he1.out.out
      have hlt1 := hB1.lt
      have zb1 : b < W1.heap.size := by omega
      clear he1 g0 g1 q1 q2 hB
      obtain ⟨k, x, y, nm, kids⟩ := e
      simp only [Expr.kind, Expr.a, Expr.b, Expr.name, Expr.kids] at k0 k1 k2 k3 k4 hkv hform hnl hkl hnod kw4 hkw
      replace kw4 := Lib.hid kw4
      replace hkw := Lib.hid hkw
      have hn6 := Lib.hid hn600
      clear hn600
      by_cases hk : k < 1 ∨ 10 < k
      · have hown : ownErr isName (.mk k x y nm kids) = 1 := by rw [ownErr_mk, if_pos hk]
        rw [hown, if_neg (by decide)] at hform
        replace hform := Lib.hid hform
        have hq : decide (k < 1) = true ∨ decide (k < 1) = false ∧ decide (10 < k) = true := by
          simp only [decide_eq_true_eq, decide_eq_false_iff_not]; omega
        clear hown hk
        rcases hq with q1 | ⟨q1, q2⟩
        all_goals
          go_wp2
          go_ret
          exact ⟨by rw [hform.out]; rfl, by rw [hform.out]; exact hB1, hb1⟩
      · have q1 : decide (k < 1) = false := by simp; omega
        have q2 : decide (10 < k) = false := by simp; omega
        have hown0 := ownErr_mk isName k x y nm kids
        rw [if_neg hk] at hown0
        have hk2 : 1 ≤ k ∧ k ≤ 10 := by omega
        clear hk
        by_cases hlen : kids.length ≠ kidsOf k
        · rw [if_pos hlen] at hown0
          rw [hown0, if_neg (by decide)] at hform
          replace hform := Lib.hid hform
          have g1 : ((kids.length : Int) != (kidsOf k : Int)) = true := by simp; omega
          clear hown0 hlen
          go_wp2
          refine wp_region_below (W1.heap.size) _ (Below.refl _ _) (by kernel_rfl) (by kernel_rfl) ?_
          repeat (go_big_quiet_step (((go_at_call 69; exact quiet_same (kids_any _ _)))))
          refine wpQuiet_nil ?_
          rintro _ ⟨n1, rfl⟩
          have hb2 := n1.below
          go_wp2
          go_ret
          exact ⟨by rw [hform.out]; rfl, by rw [hform.out]; exact hB1.below hb2 hlt1, hb1.trans (hb2.mono (by omega))⟩
        · rw [if_neg hlen] at hown0
          have g1 : ((kids.length : Int) != (kidsOf k : Int)) = false := by simp; omega
          have hlen2 : kids.length = kidsOf k := by omega
          clear hlen
          go_wp2_with fail
          refine wp_region_below (W1.heap.size) _ (Below.refl _ _) (by kernel_rfl) (by kernel_rfl) ?_
          repeat (go_big_quiet_step (((go_at_call 69; exact quiet_same (kids_any _ _)))))
          refine wpQuiet_nil ?_
          rintro _ ⟨n1, rfl⟩
          have hb2 := n1.below
          go_upto_region 8 with fail
          have k0' : n1.w.cell? ⟨b, o, none⟩ = some (.int .i64 k) := (hb2.cell (p := ⟨b, _, none⟩) zb1).trans k0
          have k1' : n1.w.cell? ⟨b, o + 1, none⟩ = some (.int .i64 x) := (hb2.cell (p := ⟨b, _, none⟩) zb1).trans k1
          have k2' : n1.w.cell? ⟨b, o + 2, none⟩ = some (.int .i64 y) := (hb2.cell (p := ⟨b, _, none⟩) zb1).trans k2
          have k3' : n1.w.cell? ⟨b, o + 3, none⟩ = some (strV nm) := (hb2.cell (p := ⟨b, _, none⟩) zb1).trans k3
          have z2 := hb2.size
          replace hform := Lib.hid hform
          replace hlen2 := Lib.hid hlen2
          replace hnod := Lib.hid hnod
          clear k0 k1 k2 k3 k4 hkv
          have hk : k = 3 ∨ k = 4 ∨ k = 5 ∨ k = 9 ∨ k = 10 ∨ (k ≠ 3 ∧ k ≠ 4 ∧ k ≠ 5 ∧ k ≠ 9 ∧ k ≠ 10) := by omega
          clear g1
          rcases hk with hk | hk | hk | hk | hk | hk
          · as_aux_lemma =>
              subst hk
              clear q1 q2 hk2
              have hq : decide (x < 0) = true ∨ decide (x < 0) = false ∧ decide (1440 < y) = true ∨ decide (x < 0) = false ∧ decide (1440 < y) = false ∧ decide (y ≤ x) = true ∨ decide (x < 0) = false ∧ decide (1440 < y) = false ∧ decide (y ≤ x) = false := by
                simp only [decide_eq_true_eq, decide_eq_false_iff_not, beq_iff_eq, beq_eq_false_iff_ne]; omega
              rcases hq with q1 | ⟨q1, q2⟩ | ⟨q1, q2, q3⟩ | ⟨q1, q2, q3⟩
              · have hown : ownErr isName (.mk 3 x y nm kids) = 3 := by
                  rw [hown0]
                  simp only [decide_eq_true_eq, decide_eq_false_iff_not, beq_iff_eq, beq_eq_false_iff_ne] at q1
                  exact (if_pos rfl).trans (if_pos (by omega))
                have hf := Lib.hid (show formE isName (.mk 3 x y nm kids) deep n = (3, n + 1) by rw [hform.out, hown, if_neg (by decide)])
                go_wp2
                refine wp_region_below (n1.w.heap.size) _ (Below.refl _ _) (by kernel_rfl) (by kernel_rfl) ?_
                repeat (go_big_quiet_step ((fail)))
                refine wpQuiet_nil ?_
                rintro _ ⟨n2, rfl⟩
                have hb3 := n2.below
                go_wp2
                go_ret
                exact ⟨by rw [hf.out]; rfl, by rw [hf.out]; exact (hB1.below hb2 hlt1).below hb3 (by omega), hb1.trans ((hb2.mono (by omega)).trans (hb3.mono (by omega)))⟩
              · have hown : ownErr isName (.mk 3 x y nm kids) = 3 := by
                  rw [hown0]
                  simp only [decide_eq_true_eq, decide_eq_false_iff_not, beq_iff_eq, beq_eq_false_iff_ne] at q1 q2
                  exact (if_pos rfl).trans (if_pos (by omega))
                have hf := Lib.hid (show formE isName (.mk 3 x y nm kids) deep n = (3, n + 1) by rw [hform.out, hown, if_neg (by decide)])
                go_wp2
                refine wp_region_below (n1.w.heap.size) _ (Below.refl _ _) (by kernel_rfl) (by kernel_rfl) ?_
                repeat (go_big_quiet_step ((fail)))
                refine wpQuiet_nil ?_
                rintro _ ⟨n2, rfl⟩
                have hb3 := n2.below
                go_wp2
                go_ret
                exact ⟨by rw [hf.out]; rfl, by rw [hf.out]; exact (hB1.below hb2 hlt1).below hb3 (by omega), hb1.trans ((hb2.mono (by omega)).trans (hb3.mono (by omega)))⟩
              · have hown : ownErr isName (.mk 3 x y nm kids) = 3 := by
                  rw [hown0]
                  simp only [decide_eq_true_eq, decide_eq_false_iff_not, beq_iff_eq, beq_eq_false_iff_ne] at q1 q2 q3
                  exact (if_pos rfl).trans (if_pos (by omega))
                have hf := Lib.hid (show formE isName (.mk 3 x y nm kids) deep n = (3, n + 1) by rw [hform.out, hown, if_neg (by decide)])
                go_wp2
                refine wp_region_below (n1.w.heap.size) _ (Below.refl _ _) (by kernel_rfl) (by kernel_rfl) ?_
                repeat (go_big_quiet_step ((fail)))
                refine wpQuiet_nil ?_
                rintro _ ⟨n2, rfl⟩
                have hb3 := n2.below
                go_wp2
                go_ret
                exact ⟨by rw [hf.out]; rfl, by rw [hf.out]; exact (hB1.below hb2 hlt1).below hb3 (by omega), hb1.trans ((hb2.mono (by omega)).trans (hb3.mono (by omega)))⟩
              · have hown : ownErr isName (.mk 3 x y nm kids) = 0 := by
                  rw [hown0]
                  simp only [decide_eq_true_eq, decide_eq_false_iff_not, beq_iff_eq, beq_eq_false_iff_ne] at q1 q2 q3
                  exact (if_pos rfl).trans (if_neg (by omega))
                go_wp2
                refine wp_region_below (n1.w.heap.size) _ (Below.refl _ _) (by kernel_rfl) (by kernel_rfl) ?_
                repeat (go_big_quiet_step ((fail)))
                refine wpQuiet_nil ?_
                rintro _ ⟨n2, rfl⟩
                have hb3 := n2.below
                go_upto_region 24 with fail
                have hmid := Lib.hid (show Blk n2.w gs 77 #[.int .i64 ((n + 1 : Nat) : Int)] ∧ Below gs w n2.w from ⟨(hB1.below hb2 hlt1).below hb3 (by omega), hb1.trans ((hb2.mono (by omega)).trans (hb3.mono (by omega)))⟩)
                replace hform := Lib.hid (show formE isName (.mk 3 x y nm kids) deep n = formL isName kids (deep + 1) (n + 1) by rw [hform.out, hown, if_pos rfl])
                have c4 : n2.w.cell? ⟨b, o + 4, none⟩ = some (.slice A0 kids.length cap0) := (hmid.out.2.cell (p := ⟨b, _, none⟩) hbg.out).trans kw4.out
                clear hown hown0
                go_wp2
                go_loopg [150] kids.length (fun m kv wr => ∃ j c : Nat, j ≤ kids.length ∧ m = kids.length - j ∧ kv = .int .i64 j ∧ formL isName (kids.drop j) (deep + 1) c = formE isName (.mk 3 x y nm kids) deep n ∧ c ≤ 600 ∧ Below gs w wr ∧ Blk wr gs 77 #[.int .i64 (c : Nat)])
                case atStart => exact ⟨0, n + 1, by omega, rfl, rfl, by rw [hform.out]; rfl, hn6.out, hmid.out.2, hmid.out.1⟩
                case round =>
                  clear c4 hmid
                  obtain ⟨j, c, hj, hm, rfl, hfl, hc6, hbr, hBr⟩ := hrel
                  replace hm := Lib.hid hm
                  replace hfl := Lib.hid hfl
                  have c4 : wr.cell? ⟨b, o + 4, none⟩ = some (.slice A0 kids.length cap0) := (hbr.cell (p := ⟨b, _, none⟩) hbg.out).trans kw4.out
                  have zr := hBr.lt
                  by_cases hlt : j < kids.length
                  · obtain ⟨e1, hx⟩ : ∃ d, kids[j]? = some d := ⟨_, List.getElem?_eq_getElem hlt⟩
                    obtain ⟨kb, ko, rfl, hkb, hke⟩ := hkw.out.at' hx
                    have hst := Lib.hid (formL_at isName hx (deep + 1) c)
                    have hle := (formE_le isName e1 (deep + 1) c).2.2
                    have hcall := ih.out e1 wr gs kb (ko + j * 5) (deep + 1) c (by have := nodesE_kid hx; have := hnod.out; omega) (hke.below hbr (Nat.le_refl _) (Nat.le_refl _) hkb) hkb hBr (by omega) hc6
                    rw [show ((deep + 1 : Nat) : Int) = (deep : Int) + 1 by omega] at hcall
                    replace hcall := Lib.hid hcall
                    clear hx hke
                    by_cases h0 : (formE isName e1 (deep + 1) c).1 = 0
                    · have hc7 : (formE isName e1 (deep + 1) c).2 ≤ 600 := by have := hle h0; omega
                      have hfl2 := Lib.hid (show formL isName (kids.drop (j + 1)) (deep + 1) (formE isName e1 (deep + 1) c).2 = formE isName (.mk 3 x y nm kids) deep n by rw [← hfl.out, hst.out, if_pos h0])
                      rw [h0] at hcall
                      clear hle h0 hst
                      generalize hc8 : (formE isName e1 (deep + 1) c).2 = c8 at *
                      clear hc8
                      go_wp2_with (go_at_call 43; refine hcall.out.mono ?_; rintro e w5 ⟨rfl, hB5, hb5⟩)
                      go_roundg (kids.length - (j + 1))
                      case measure => rw [hm.out]; omega
                      case rel => exact ⟨j + 1, c8, by omega, rfl, by go_num, hfl2.out, hc7, hbr.trans hb5, hB5⟩
                    · have hfl2 := Lib.hid (show formE isName (.mk 3 x y nm kids) deep n = formE isName e1 (deep + 1) c by rw [← hfl.out, hst.out, if_neg h0])
                      have g : ((formE isName e1 (deep + 1) c).1 != 0) = true := by simpa using h0
                      clear hle h0 hst
                      go_wp2_with (go_at_call 43; refine hcall.out.mono ?_; rintro e w5 ⟨rfl, hB5, hb5⟩)
                      go_ret
                      exact ⟨by rw [hfl2.out]; rfl, by rw [hfl2.out]; exact hB5, hbr.trans hb5⟩
                  · obtain rfl : j = kids.length := by omega
                    have hf0 := Lib.hid (show formE isName (.mk 3 x y nm kids) deep n = (0, c) by rw [← hfl.out, List.drop_length]; rfl)
                    go_wp2
                    go_ret
                    exact ⟨by rw [hf0.out]; rfl, by rw [hf0.out]; exact hBr, hbr⟩
          · as_aux_lemma =>
              subst hk
              clear q1 q2 hk2
              have hq : decide (x < 1) = true ∨ decide (x < 1) = false ∧ decide (127 < x) = true ∨ decide (x < 1) = false ∧ decide (127 < x) = false := by
                simp only [decide_eq_true_eq, decide_eq_false_iff_not, beq_iff_eq, beq_eq_false_iff_ne]; omega
              rcases hq with q1 | ⟨q1, q2⟩ | ⟨q1, q2⟩
              · have hown : ownErr isName (.mk 4 x y nm kids) = 3 := by
                  rw [hown0]
                  simp only [decide_eq_true_eq, decide_eq_false_iff_not, beq_iff_eq, beq_eq_false_iff_ne] at q1
                  exact (if_neg (by decide)).trans ((if_pos rfl).trans (if_pos (by omega)))
                have hf := Lib.hid (show formE isName (.mk 4 x y nm kids) deep n = (3, n + 1) by rw [hform.out, hown, if_neg (by decide)])
                go_wp2
                go_ret
                exact ⟨by rw [hf.out]; rfl, by rw [hf.out]; exact hB1.below hb2 hlt1, hb1.trans (hb2.mono (by omega))⟩
              · have hown : ownErr isName (.mk 4 x y nm kids) = 3 := by
                  rw [hown0]
                  simp only [decide_eq_true_eq, decide_eq_false_iff_not, beq_iff_eq, beq_eq_false_iff_ne] at q1 q2
                  exact (if_neg (by decide)).trans ((if_pos rfl).trans (if_pos (by omega)))
                have hf := Lib.hid (show formE isName (.mk 4 x y nm kids) deep n = (3, n + 1) by rw [hform.out, hown, if_neg (by decide)])
                go_wp2
                go_ret
                exact ⟨by rw [hf.out]; rfl, by rw [hf.out]; exact hB1.below hb2 hlt1, hb1.trans (hb2.mono (by omega))⟩
              · have hown : ownErr isName (.mk 4 x y nm kids) = 0 := by
                  rw [hown0]
                  simp only [decide_eq_true_eq, decide_eq_false_iff_not, beq_iff_eq, beq_eq_false_iff_ne] at q1 q2
                  exact (if_neg (by decide)).trans ((if_pos rfl).trans (if_neg (by omega)))
                go_upto_region 24 with fail
                have hmid := Lib.hid (show Blk n1.w gs 77 #[.int .i64 ((n + 1 : Nat) : Int)] ∧ Below gs w n1.w from ⟨hB1.below hb2 hlt1, hb1.trans (hb2.mono (by omega))⟩)
                replace hform := Lib.hid (show formE isName (.mk 4 x y nm kids) deep n = formL isName kids (deep + 1) (n + 1) by rw [hform.out, hown, if_pos rfl])
                have c4 : n1.w.cell? ⟨b, o + 4, none⟩ = some (.slice A0 kids.length cap0) := (hmid.out.2.cell (p := ⟨b, _, none⟩) hbg.out).trans kw4.out
                clear hown hown0
                go_wp2
                go_loopg [150] kids.length (fun m kv wr => ∃ j c : Nat, j ≤ kids.length ∧ m = kids.length - j ∧ kv = .int .i64 j ∧ formL isName (kids.drop j) (deep + 1) c = formE isName (.mk 4 x y nm kids) deep n ∧ c ≤ 600 ∧ Below gs w wr ∧ Blk wr gs 77 #[.int .i64 (c : Nat)])
                case atStart => exact ⟨0, n + 1, by omega, rfl, rfl, by rw [hform.out]; rfl, hn6.out, hmid.out.2, hmid.out.1⟩
                case round =>
                  clear c4 hmid
                  obtain ⟨j, c, hj, hm, rfl, hfl, hc6, hbr, hBr⟩ := hrel
                  replace hm := Lib.hid hm
                  replace hfl := Lib.hid hfl
                  have c4 : wr.cell? ⟨b, o + 4, none⟩ = some (.slice A0 kids.length cap0) := (hbr.cell (p := ⟨b, _, none⟩) hbg.out).trans kw4.out
                  have zr := hBr.lt
                  by_cases hlt : j < kids.length
                  · obtain ⟨e1, hx⟩ : ∃ d, kids[j]? = some d := ⟨_, List.getElem?_eq_getElem hlt⟩
                    obtain ⟨kb, ko, rfl, hkb, hke⟩ := hkw.out.at' hx
                    have hst := Lib.hid (formL_at isName hx (deep + 1) c)
                    have hle := (formE_le isName e1 (deep + 1) c).2.2
                    have hcall := ih.out e1 wr gs kb (ko + j * 5) (deep + 1) c (by have := nodesE_kid hx; have := hnod.out; omega) (hke.below hbr (Nat.le_refl _) (Nat.le_refl _) hkb) hkb hBr (by omega) hc6
                    rw [show ((deep + 1 : Nat) : Int) = (deep : Int) + 1 by omega] at hcall
                    replace hcall := Lib.hid hcall
                    clear hx hke
                    by_cases h0 : (formE isName e1 (deep + 1) c).1 = 0
                    · have hc7 : (formE isName e1 (deep + 1) c).2 ≤ 600 := by have := hle h0; omega
                      have hfl2 := Lib.hid (show formL isName (kids.drop (j + 1)) (deep + 1) (formE isName e1 (deep + 1) c).2 = formE isName (.mk 4 x y nm kids) deep n by rw [← hfl.out, hst.out, if_pos h0])
                      rw [h0] at hcall
                      clear hle h0 hst
                      generalize hc8 : (formE isName e1 (deep + 1) c).2 = c8 at *
                      clear hc8
                      go_wp2_with (go_at_call 43; refine hcall.out.mono ?_; rintro e w5 ⟨rfl, hB5, hb5⟩)
                      go_roundg (kids.length - (j + 1))
                      case measure => rw [hm.out]; omega
                      case rel => exact ⟨j + 1, c8, by omega, rfl, by go_num, hfl2.out, hc7, hbr.trans hb5, hB5⟩
                    · have hfl2 := Lib.hid (show formE isName (.mk 4 x y nm kids) deep n = formE isName e1 (deep + 1) c by rw [← hfl.out, hst.out, if_neg h0])
                      have g : ((formE isName e1 (deep + 1) c).1 != 0) = true := by simpa using h0
                      clear hle h0 hst
                      go_wp2_with (go_at_call 43; refine hcall.out.mono ?_; rintro e w5 ⟨rfl, hB5, hb5⟩)
                      go_ret
                      exact ⟨by rw [hfl2.out]; rfl, by rw [hfl2.out]; exact hB5, hbr.trans hb5⟩
                  · obtain rfl : j = kids.length := by omega
                    have hf0 := Lib.hid (show formE isName (.mk 4 x y nm kids) deep n = (0, c) by rw [← hfl.out, List.drop_length]; rfl)
                    go_wp2
                    go_ret
                    exact ⟨by rw [hf0.out]; rfl, by rw [hf0.out]; exact hBr, hbr⟩
          · as_aux_lemma =>
              subst hk
              clear q1 q2 hk2
              have hq : decide (x < 0) = true ∨ decide (x < 0) = false ∧ decide (146097 ≤ y) = true ∨ decide (x < 0) = false ∧ decide (146097 ≤ y) = false ∧ decide (y < x) = true ∨ decide (x < 0) = false ∧ decide (146097 ≤ y) = false ∧ decide (y < x) = false := by
                simp only [decide_eq_true_eq, decide_eq_false_iff_not, beq_iff_eq, beq_eq_false_iff_ne]; omega
              rcases hq with q1 | ⟨q1, q2⟩ | ⟨q1, q2, q3⟩ | ⟨q1, q2, q3⟩
              · have hown : ownErr isName (.mk 5 x y nm kids) = 3 := by
                  rw [hown0]
                  simp only [decide_eq_true_eq, decide_eq_false_iff_not, beq_iff_eq, beq_eq_false_iff_ne] at q1
                  exact (if_neg (by decide)).trans ((if_neg (by decide)).trans ((if_pos rfl).trans (if_pos (by omega))))
                have hf := Lib.hid (show formE isName (.mk 5 x y nm kids) deep n = (3, n + 1) by rw [hform.out, hown, if_neg (by decide)])
                go_wp2
                refine wp_region_below (n1.w.heap.size) _ (Below.refl _ _) (by kernel_rfl) (by kernel_rfl) ?_
                repeat (go_big_quiet_step ((fail)))
                refine wpQuiet_nil ?_
                rintro _ ⟨n2, rfl⟩
                have hb3 := n2.below
                go_wp2
                go_ret
                exact ⟨by rw [hf.out]; rfl, by rw [hf.out]; exact (hB1.below hb2 hlt1).below hb3 (by omega), hb1.trans ((hb2.mono (by omega)).trans (hb3.mono (by omega)))⟩
              · have hown : ownErr isName (.mk 5 x y nm kids) = 3 := by
                  rw [hown0]
                  simp only [decide_eq_true_eq, decide_eq_false_iff_not, beq_iff_eq, beq_eq_false_iff_ne] at q1 q2
                  exact (if_neg (by decide)).trans ((if_neg (by decide)).trans ((if_pos rfl).trans (if_pos (by omega))))
                have hf := Lib.hid (show formE isName (.mk 5 x y nm kids) deep n = (3, n + 1) by rw [hform.out, hown, if_neg (by decide)])
                go_wp2
                refine wp_region_below (n1.w.heap.size) _ (Below.refl _ _) (by kernel_rfl) (by kernel_rfl) ?_
                repeat (go_big_quiet_step ((fail)))
                refine wpQuiet_nil ?_
                rintro _ ⟨n2, rfl⟩
                have hb3 := n2.below
                go_wp2
                go_ret
                exact ⟨by rw [hf.out]; rfl, by rw [hf.out]; exact (hB1.below hb2 hlt1).below hb3 (by omega), hb1.trans ((hb2.mono (by omega)).trans (hb3.mono (by omega)))⟩
              · have hown : ownErr isName (.mk 5 x y nm kids) = 3 := by
                  rw [hown0]
                  simp only [decide_eq_true_eq, decide_eq_false_iff_not, beq_iff_eq, beq_eq_false_iff_ne] at q1 q2 q3
                  exact (if_neg (by decide)).trans ((if_neg (by decide)).trans ((if_pos rfl).trans (if_pos (by omega))))
                have hf := Lib.hid (show formE isName (.mk 5 x y nm kids) deep n = (3, n + 1) by rw [hform.out, hown, if_neg (by decide)])
                go_wp2
                refine wp_region_below (n1.w.heap.size) _ (Below.refl _ _) (by kernel_rfl) (by kernel_rfl) ?_
                repeat (go_big_quiet_step ((fail)))
                refine wpQuiet_nil ?_
                rintro _ ⟨n2, rfl⟩
                have hb3 := n2.below
                go_wp2
                go_ret
                exact ⟨by rw [hf.out]; rfl, by rw [hf.out]; exact (hB1.below hb2 hlt1).below hb3 (by omega), hb1.trans ((hb2.mono (by omega)).trans (hb3.mono (by omega)))⟩
              · have hown : ownErr isName (.mk 5 x y nm kids) = 0 := by
                  rw [hown0]
                  simp only [decide_eq_true_eq, decide_eq_false_iff_not, beq_iff_eq, beq_eq_false_iff_ne] at q1 q2 q3
                  exact (if_neg (by decide)).trans ((if_neg (by decide)).trans ((if_pos rfl).trans (if_neg (by omega))))
                go_wp2
                refine wp_region_below (n1.w.heap.size) _ (Below.refl _ _) (by kernel_rfl) (by kernel_rfl) ?_
                repeat (go_big_quiet_step ((fail)))
                refine wpQuiet_nil ?_
                rintro _ ⟨n2, rfl⟩
                have hb3 := n2.below
                go_upto_region 24 with fail
                have hmid := Lib.hid (show Blk n2.w gs 77 #[.int .i64 ((n + 1 : Nat) : Int)] ∧ Below gs w n2.w from ⟨(hB1.below hb2 hlt1).below hb3 (by omega), hb1.trans ((hb2.mono (by omega)).trans (hb3.mono (by omega)))⟩)
                replace hform := Lib.hid (show formE isName (.mk 5 x y nm kids) deep n = formL isName kids (deep + 1) (n + 1) by rw [hform.out, hown, if_pos rfl])
                have c4 : n2.w.cell? ⟨b, o + 4, none⟩ = some (.slice A0 kids.length cap0) := (hmid.out.2.cell (p := ⟨b, _, none⟩) hbg.out).trans kw4.out
                clear hown hown0
                go_wp2
                go_loopg [150] kids.length (fun m kv wr => ∃ j c : Nat, j ≤ kids.length ∧ m = kids.length - j ∧ kv = .int .i64 j ∧ formL isName (kids.drop j) (deep + 1) c = formE isName (.mk 5 x y nm kids) deep n ∧ c ≤ 600 ∧ Below gs w wr ∧ Blk wr gs 77 #[.int .i64 (c : Nat)])
                case atStart => exact ⟨0, n + 1, by omega, rfl, rfl, by rw [hform.out]; rfl, hn6.out, hmid.out.2, hmid.out.1⟩
                case round =>
                  clear c4 hmid
                  obtain ⟨j, c, hj, hm, rfl, hfl, hc6, hbr, hBr⟩ := hrel
                  replace hm := Lib.hid hm
                  replace hfl := Lib.hid hfl
                  have c4 : wr.cell? ⟨b, o + 4, none⟩ = some (.slice A0 kids.length cap0) := (hbr.cell (p := ⟨b, _, none⟩) hbg.out).trans kw4.out
                  have zr := hBr.lt
                  by_cases hlt : j < kids.length
                  · obtain ⟨e1, hx⟩ : ∃ d, kids[j]? = some d := ⟨_, List.getElem?_eq_getElem hlt⟩
                    obtain ⟨kb, ko, rfl, hkb, hke⟩ := hkw.out.at' hx
                    have hst := Lib.hid (formL_at isName hx (deep + 1) c)
                    have hle := (formE_le isName e1 (deep + 1) c).2.2
                    have hcall := ih.out e1 wr gs kb (ko + j * 5) (deep + 1) c (by have := nodesE_kid hx; have := hnod.out; omega) (hke.below hbr (Nat.le_refl _) (Nat.le_refl _) hkb) hkb hBr (by omega) hc6
                    rw [show ((deep + 1 : Nat) : Int) = (deep : Int) + 1 by omega] at hcall
                    replace hcall := Lib.hid hcall
                    clear hx hke
                    by_cases h0 : (formE isName e1 (deep + 1) c).1 = 0
                    · have hc7 : (formE isName e1 (deep + 1) c).2 ≤ 600 := by have := hle h0; omega
                      have hfl2 := Lib.hid (show formL isName (kids.drop (j + 1)) (deep + 1) (formE isName e1 (deep + 1) c).2 = formE isName (.mk 5 x y nm kids) deep n by rw [← hfl.out, hst.out, if_pos h0])
                      rw [h0] at hcall
                      clear hle h0 hst
                      generalize hc8 : (formE isName e1 (deep + 1) c).2 = c8 at *
                      clear hc8
                      go_wp2_with (go_at_call 43; refine hcall.out.mono ?_; rintro e w5 ⟨rfl, hB5, hb5⟩)
                      go_roundg (kids.length - (j + 1))
                      case measure => rw [hm.out]; omega
                      case rel => exact ⟨j + 1, c8, by omega, rfl, by go_num, hfl2.out, hc7, hbr.trans hb5, hB5⟩
                    · have hfl2 := Lib.hid (show formE isName (.mk 5 x y nm kids) deep n = formE isName e1 (deep + 1) c by rw [← hfl.out, hst.out, if_neg h0])
                      have g : ((formE isName e1 (deep + 1) c).1 != 0) = true := by simpa using h0
                      clear hle h0 hst
                      go_wp2_with (go_at_call 43; refine hcall.out.mono ?_; rintro e w5 ⟨rfl, hB5, hb5⟩)
                      go_ret
                      exact ⟨by rw [hfl2.out]; rfl, by rw [hfl2.out]; exact hB5, hbr.trans hb5⟩
                  · obtain rfl : j = kids.length := by omega
                    have hf0 := Lib.hid (show formE isName (.mk 5 x y nm kids) deep n = (0, c) by rw [← hfl.out, List.drop_length]; rfl)
                    go_wp2
                    go_ret
                    exact ⟨by rw [hf0.out]; rfl, by rw [hf0.out]; exact hBr, hbr⟩
          · as_aux_lemma =>
              subst hk
              clear q1 q2 hk2
              have hq : (x == 0) = true ∨ (x == 0) = false ∧ decide (x ≤ -1440) = true ∨ (x == 0) = false ∧ decide (x ≤ -1440) = false ∧ decide (1440 ≤ x) = true ∨ (x == 0) = false ∧ decide (x ≤ -1440) = false ∧ decide (1440 ≤ x) = false := by
                simp only [decide_eq_true_eq, decide_eq_false_iff_not, beq_iff_eq, beq_eq_false_iff_ne]; omega
              rcases hq with q1 | ⟨q1, q2⟩ | ⟨q1, q2, q3⟩ | ⟨q1, q2, q3⟩
              · have hown : ownErr isName (.mk 9 x y nm kids) = 3 := by
                  rw [hown0]
                  simp only [decide_eq_true_eq, decide_eq_false_iff_not, beq_iff_eq, beq_eq_false_iff_ne] at q1
                  exact (if_neg (by decide)).trans ((if_neg (by decide)).trans ((if_neg (by decide)).trans ((if_pos rfl).trans (if_pos (by omega)))))
                have hf := Lib.hid (show formE isName (.mk 9 x y nm kids) deep n = (3, n + 1) by rw [hform.out, hown, if_neg (by decide)])
                go_wp2
                go_ret
                exact ⟨by rw [hf.out]; rfl, by rw [hf.out]; exact hB1.below hb2 hlt1, hb1.trans (hb2.mono (by omega))⟩
              · have hown : ownErr isName (.mk 9 x y nm kids) = 3 := by
                  rw [hown0]
                  simp only [decide_eq_true_eq, decide_eq_false_iff_not, beq_iff_eq, beq_eq_false_iff_ne] at q1 q2
                  exact (if_neg (by decide)).trans ((if_neg (by decide)).trans ((if_neg (by decide)).trans ((if_pos rfl).trans (if_pos (by omega)))))
                have hf := Lib.hid (show formE isName (.mk 9 x y nm kids) deep n = (3, n + 1) by rw [hform.out, hown, if_neg (by decide)])
                go_wp2
                go_ret
                exact ⟨by rw [hf.out]; rfl, by rw [hf.out]; exact hB1.below hb2 hlt1, hb1.trans (hb2.mono (by omega))⟩
              · have hown : ownErr isName (.mk 9 x y nm kids) = 3 := by
                  rw [hown0]
                  simp only [decide_eq_true_eq, decide_eq_false_iff_not, beq_iff_eq, beq_eq_false_iff_ne] at q1 q2 q3
                  exact (if_neg (by decide)).trans ((if_neg (by decide)).trans ((if_neg (by decide)).trans ((if_pos rfl).trans (if_pos (by omega)))))
                have hf := Lib.hid (show formE isName (.mk 9 x y nm kids) deep n = (3, n + 1) by rw [hform.out, hown, if_neg (by decide)])
                go_wp2
                go_ret
                exact ⟨by rw [hf.out]; rfl, by rw [hf.out]; exact hB1.below hb2 hlt1, hb1.trans (hb2.mono (by omega))⟩
              · have hown : ownErr isName (.mk 9 x y nm kids) = 0 := by
                  rw [hown0]
                  simp only [decide_eq_true_eq, decide_eq_false_iff_not, beq_iff_eq, beq_eq_false_iff_ne] at q1 q2 q3
                  exact (if_neg (by decide)).trans ((if_neg (by decide)).trans ((if_neg (by decide)).trans ((if_pos rfl).trans (if_neg (by omega)))))
                go_upto_region 24 with fail
                have hmid := Lib.hid (show Blk n1.w gs 77 #[.int .i64 ((n + 1 : Nat) : Int)] ∧ Below gs w n1.w from ⟨hB1.below hb2 hlt1, hb1.trans (hb2.mono (by omega))⟩)
                replace hform := Lib.hid (show formE isName (.mk 9 x y nm kids) deep n = formL isName kids (deep + 1) (n + 1) by rw [hform.out, hown, if_pos rfl])
                have c4 : n1.w.cell? ⟨b, o + 4, none⟩ = some (.slice A0 kids.length cap0) := (hmid.out.2.cell (p := ⟨b, _, none⟩) hbg.out).trans kw4.out
                clear hown hown0
                go_wp2
                go_loopg [150] kids.length (fun m kv wr => ∃ j c : Nat, j ≤ kids.length ∧ m = kids.length - j ∧ kv = .int .i64 j ∧ formL isName (kids.drop j) (deep + 1) c = formE isName (.mk 9 x y nm kids) deep n ∧ c ≤ 600 ∧ Below gs w wr ∧ Blk wr gs 77 #[.int .i64 (c : Nat)])
                case atStart => exact ⟨0, n + 1, by omega, rfl, rfl, by rw [hform.out]; rfl, hn6.out, hmid.out.2, hmid.out.1⟩
                case round =>
                  clear c4 hmid
                  obtain ⟨j, c, hj, hm, rfl, hfl, hc6, hbr, hBr⟩ := hrel
                  replace hm := Lib.hid hm
                  replace hfl := Lib.hid hfl
                  have c4 : wr.cell? ⟨b, o + 4, none⟩ = some (.slice A0 kids.length cap0) := (hbr.cell (p := ⟨b, _, none⟩) hbg.out).trans kw4.out
                  have zr := hBr.lt
                  by_cases hlt : j < kids.length
                  · obtain ⟨e1, hx⟩ : ∃ d, kids[j]? = some d := ⟨_, List.getElem?_eq_getElem hlt⟩
                    obtain ⟨kb, ko, rfl, hkb, hke⟩ := hkw.out.at' hx
                    have hst := Lib.hid (formL_at isName hx (deep + 1) c)
                    have hle := (formE_le isName e1 (deep + 1) c).2.2
                    have hcall := ih.out e1 wr gs kb (ko + j * 5) (deep + 1) c (by have := nodesE_kid hx; have := hnod.out; omega) (hke.below hbr (Nat.le_refl _) (Nat.le_refl _) hkb) hkb hBr (by omega) hc6
                    rw [show ((deep + 1 : Nat) : Int) = (deep : Int) + 1 by omega] at hcall
                    replace hcall := Lib.hid hcall
                    clear hx hke
                    by_cases h0 : (formE isName e1 (deep + 1) c).1 = 0
                    · have hc7 : (formE isName e1 (deep + 1) c).2 ≤ 600 := by have := hle h0; omega
                      have hfl2 := Lib.hid (show formL isName (kids.drop (j + 1)) (deep + 1) (formE isName e1 (deep + 1) c).2 = formE isName (.mk 9 x y nm kids) deep n by rw [← hfl.out, hst.out, if_pos h0])
                      rw [h0] at hcall
                      clear hle h0 hst
                      generalize hc8 : (formE isName e1 (deep + 1) c).2 = c8 at *
                      clear hc8
                      go_wp2_with (go_at_call 43; refine hcall.out.mono ?_; rintro e w5 ⟨rfl, hB5, hb5⟩)
                      go_roundg (kids.length - (j + 1))
                      case measure => rw [hm.out]; omega
                      case rel => exact ⟨j + 1, c8, by omega, rfl, by go_num, hfl2.out, hc7, hbr.trans hb5, hB5⟩
                    · have hfl2 := Lib.hid (show formE isName (.mk 9 x y nm kids) deep n = formE isName e1 (deep + 1) c by rw [← hfl.out, hst.out, if_neg h0])
                      have g : ((formE isName e1 (deep + 1) c).1 != 0) = true := by simpa using h0
                      clear hle h0 hst
                      go_wp2_with (go_at_call 43; refine hcall.out.mono ?_; rintro e w5 ⟨rfl, hB5, hb5⟩)
                      go_ret
                      exact ⟨by rw [hfl2.out]; rfl, by rw [hfl2.out]; exact hB5, hbr.trans hb5⟩
                  · obtain rfl : j = kids.length := by omega
                    have hf0 := Lib.hid (show formE isName (.mk 9 x y nm kids) deep n = (0, c) by rw [← hfl.out, List.drop_length]; rfl)
                    go_wp2
                    go_ret
                    exact ⟨by rw [hf0.out]; rfl, by rw [hf0.out]; exact hBr, hbr⟩
          · as_aux_lemma =>
              subst hk
              clear q1 q2 hk2
              cases hnm : isName nm with
              | true =>
                have hown : ownErr isName (.mk 10 x y nm kids) = 0 := by rw [hown0, hnm]; rfl
                have hN := Lib.hid (Named_any nm n1.w hnl.1)
                rw [hnm] at hN
                clear hnm
                go_upto_region 24 with (go_at_call 42; refine hN.out.mono ?_; rintro e w5 ⟨rfl, hb5⟩)
                have hmid := Lib.hid (show Blk w5 gs 77 #[.int .i64 ((n + 1 : Nat) : Int)] ∧ Below gs w w5 from ⟨(hB1.below hb2 hlt1).below hb5 (by omega), hb1.trans ((hb2.mono (by omega)).trans (hb5.mono (by omega)))⟩)
                replace hform := Lib.hid (show formE isName (.mk 10 x y nm kids) deep n = formL isName kids (deep + 1) (n + 1) by rw [hform.out, hown, if_pos rfl])
                have c4 : w5.cell? ⟨b, o + 4, none⟩ = some (.slice A0 kids.length cap0) := (hmid.out.2.cell (p := ⟨b, _, none⟩) hbg.out).trans kw4.out
                clear hown hown0
                go_wp2
                go_loopg [150] kids.length (fun m kv wr => ∃ j c : Nat, j ≤ kids.length ∧ m = kids.length - j ∧ kv = .int .i64 j ∧ formL isName (kids.drop j) (deep + 1) c = formE isName (.mk 10 x y nm kids) deep n ∧ c ≤ 600 ∧ Below gs w wr ∧ Blk wr gs 77 #[.int .i64 (c : Nat)])
                case atStart => exact ⟨0, n + 1, by omega, rfl, rfl, by rw [hform.out]; rfl, hn6.out, hmid.out.2, hmid.out.1⟩
                case round =>
                  clear c4 hmid
                  obtain ⟨j, c, hj, hm, rfl, hfl, hc6, hbr, hBr⟩ := hrel
                  replace hm := Lib.hid hm
                  replace hfl := Lib.hid hfl
                  have c4 : wr.cell? ⟨b, o + 4, none⟩ = some (.slice A0 kids.length cap0) := (hbr.cell (p := ⟨b, _, none⟩) hbg.out).trans kw4.out
                  have zr := hBr.lt
                  by_cases hlt : j < kids.length
                  · obtain ⟨e1, hx⟩ : ∃ d, kids[j]? = some d := ⟨_, List.getElem?_eq_getElem hlt⟩
                    obtain ⟨kb, ko, rfl, hkb, hke⟩ := hkw.out.at' hx
                    have hst := Lib.hid (formL_at isName hx (deep + 1) c)
                    have hle := (formE_le isName e1 (deep + 1) c).2.2
                    have hcall := ih.out e1 wr gs kb (ko + j * 5) (deep + 1) c (by have := nodesE_kid hx; have := hnod.out; omega) (hke.below hbr (Nat.le_refl _) (Nat.le_refl _) hkb) hkb hBr (by omega) hc6
                    rw [show ((deep + 1 : Nat) : Int) = (deep : Int) + 1 by omega] at hcall
                    replace hcall := Lib.hid hcall
                    clear hx hke
                    by_cases h0 : (formE isName e1 (deep + 1) c).1 = 0
                    · have hc7 : (formE isName e1 (deep + 1) c).2 ≤ 600 := by have := hle h0; omega
                      have hfl2 := Lib.hid (show formL isName (kids.drop (j + 1)) (deep + 1) (formE isName e1 (deep + 1) c).2 = formE isName (.mk 10 x y nm kids) deep n by rw [← hfl.out, hst.out, if_pos h0])
                      rw [h0] at hcall
                      clear hle h0 hst
                      generalize hc8 : (formE isName e1 (deep + 1) c).2 = c8 at *
                      clear hc8
                      go_wp2_with (go_at_call 43; refine hcall.out.mono ?_; rintro e w5 ⟨rfl, hB5, hb5⟩)
                      go_roundg (kids.length - (j + 1))
                      case measure => rw [hm.out]; omega
                      case rel => exact ⟨j + 1, c8, by omega, rfl, by go_num, hfl2.out, hc7, hbr.trans hb5, hB5⟩
                    · have hfl2 := Lib.hid (show formE isName (.mk 10 x y nm kids) deep n = formE isName e1 (deep + 1) c by rw [← hfl.out, hst.out, if_neg h0])
                      have g : ((formE isName e1 (deep + 1) c).1 != 0) = true := by simpa using h0
                      clear hle h0 hst
                      go_wp2_with (go_at_call 43; refine hcall.out.mono ?_; rintro e w5 ⟨rfl, hB5, hb5⟩)
                      go_ret
                      exact ⟨by rw [hfl2.out]; rfl, by rw [hfl2.out]; exact hB5, hbr.trans hb5⟩
                  · obtain rfl : j = kids.length := by omega
                    have hf0 := Lib.hid (show formE isName (.mk 10 x y nm kids) deep n = (0, c) by rw [← hfl.out, List.drop_length]; rfl)
                    go_wp2
                    go_ret
                    exact ⟨by rw [hf0.out]; rfl, by rw [hf0.out]; exact hBr, hbr⟩
              | false =>
                have hown : ownErr isName (.mk 10 x y nm kids) = 7 := by rw [hown0, hnm]; rfl
                have hf := Lib.hid (show formE isName (.mk 10 x y nm kids) deep n = (7, n + 1) by rw [hform.out, hown, if_neg (by decide)])
                have hN := Lib.hid (Named_any nm n1.w hnl.1)
                rw [hnm] at hN
                clear hnm
                go_wp2_with (go_at_call 42; refine hN.out.mono ?_; rintro e w5 ⟨rfl, hb5⟩)
                go_ret
                exact ⟨by rw [hf.out]; rfl, by rw [hf.out]; exact (hB1.below hb2 hlt1).below hb5 (by omega), hb1.trans ((hb2.mono (by omega)).trans (hb5.mono (by omega)))⟩
          · as_aux_lemma =>
              obtain ⟨h3, h4, h5, h9, h10⟩ := hk
              have b3 : (k == 3) = false := by simpa using h3
              have b4 : (k == 4) = false := by simpa using h4
              have b5 : (k == 5) = false := by simpa using h5
              have b9 : (k == 9) = false := by simpa using h9
              have b10 : (k == 10) = false := by simpa using h10
              have hown : ownErr isName (.mk k x y nm kids) = 0 := by rw [hown0, if_neg h3, if_neg h4, if_neg h5, if_neg h9, if_neg h10]
              clear h3 h4 h5 h9 h10
              go_upto_region 24 with fail
              have hmid := Lib.hid (show Blk n1.w gs 77 #[.int .i64 ((n + 1 : Nat) : Int)] ∧ Below gs w n1.w from ⟨hB1.below hb2 hlt1, hb1.trans (hb2.mono (by omega))⟩)
              replace hform := Lib.hid (show formE isName (.mk k x y nm kids) deep n = formL isName kids (deep + 1) (n + 1) by rw [hform.out, hown, if_pos rfl])
              have c4 : n1.w.cell? ⟨b, o + 4, none⟩ = some (.slice A0 kids.length cap0) := (hmid.out.2.cell (p := ⟨b, _, none⟩) hbg.out).trans kw4.out
              clear hown hown0
              go_wp2
              go_loopg [150] kids.length (fun m kv wr => ∃ j c : Nat, j ≤ kids.length ∧ m = kids.length - j ∧ kv = .int .i64 j ∧ formL isName (kids.drop j) (deep + 1) c = formE isName (.mk k x y nm kids) deep n ∧ c ≤ 600 ∧ Below gs w wr ∧ Blk wr gs 77 #[.int .i64 (c : Nat)])
              case atStart => exact ⟨0, n + 1, by omega, rfl, rfl, by rw [hform.out]; rfl, hn6.out, hmid.out.2, hmid.out.1⟩
              case round =>
                clear c4 hmid
                obtain ⟨j, c, hj, hm, rfl, hfl, hc6, hbr, hBr⟩ := hrel
                replace hm := Lib.hid hm
                replace hfl := Lib.hid hfl
                have c4 : wr.cell? ⟨b, o + 4, none⟩ = some (.slice A0 kids.length cap0) := (hbr.cell (p := ⟨b, _, none⟩) hbg.out).trans kw4.out
                have zr := hBr.lt
                by_cases hlt : j < kids.length
                · obtain ⟨e1, hx⟩ : ∃ d, kids[j]? = some d := ⟨_, List.getElem?_eq_getElem hlt⟩
                  obtain ⟨kb, ko, rfl, hkb, hke⟩ := hkw.out.at' hx
                  have hst := Lib.hid (formL_at isName hx (deep + 1) c)
                  have hle := (formE_le isName e1 (deep + 1) c).2.2
                  have hcall := ih.out e1 wr gs kb (ko + j * 5) (deep + 1) c (by have := nodesE_kid hx; have := hnod.out; omega) (hke.below hbr (Nat.le_refl _) (Nat.le_refl _) hkb) hkb hBr (by omega) hc6
                  rw [show ((deep + 1 : Nat) : Int) = (deep : Int) + 1 by omega] at hcall
                  replace hcall := Lib.hid hcall
                  clear hx hke
                  by_cases h0 : (formE isName e1 (deep + 1) c).1 = 0
                  · have hc7 : (formE isName e1 (deep + 1) c).2 ≤ 600 := by have := hle h0; omega
                    have hfl2 := Lib.hid (show formL isName (kids.drop (j + 1)) (deep + 1) (formE isName e1 (deep + 1) c).2 = formE isName (.mk k x y nm kids) deep n by rw [← hfl.out, hst.out, if_pos h0])
                    rw [h0] at hcall
                    clear hle h0 hst
                    generalize hc8 : (formE isName e1 (deep + 1) c).2 = c8 at *
                    clear hc8
                    go_wp2_with (go_at_call 43; refine hcall.out.mono ?_; rintro e w5 ⟨rfl, hB5, hb5⟩)
                    go_roundg (kids.length - (j + 1))
                    case measure => rw [hm.out]; omega
                    case rel => exact ⟨j + 1, c8, by omega, rfl, by go_num, hfl2.out, hc7, hbr.trans hb5, hB5⟩
                  · have hfl2 := Lib.hid (show formE isName (.mk k x y nm kids) deep n = formE isName e1 (deep + 1) c by rw [← hfl.out, hst.out, if_neg h0])
                    have g : ((formE isName e1 (deep + 1) c).1 != 0) = true := by simpa using h0
                    clear hle h0 hst
                    go_wp2_with (go_at_call 43; refine hcall.out.mono ?_; rintro e w5 ⟨rfl, hB5, hb5⟩)
                    go_ret
                    exact ⟨by rw [hfl2.out]; rfl, by rw [hfl2.out]; exact hB5, hbr.trans hb5⟩
                · obtain rfl : j = kids.length := by omega
                  have hf0 := Lib.hid (show formE isName (.mk k x y nm kids) deep n = (0, c) by rw [← hfl.out, List.drop_length]; rfl)
                  go_wp2
                  go_ret
                  exact ⟨by rw [hf0.out]; rfl, by rw [hf0.out]; exact hBr, hbr⟩

end Ru
end Go.Proofs.Ytijhaiificflhaa
