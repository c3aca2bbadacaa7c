/- The walk of the machine's run. -/
import Derived.Test.YtbadplbdgpbdaaaDoorVmM
import Derived.Test.YtbadplbdgpbdaaaDoorVmQ
import Derived.Test.YtbadplbdgpbdaaaDoorWk
import Derived.Test.YtbadplbdgpbdaaaDoorMskB
import Derived.Test.YtbadplbdgpbdaaaDoorShf
namespace Go.Proofs.YtbadplbdgpbdaaaDoor
open Go.RowKit
namespace Vm
open Msk Sl

theorem Mach.step {w : World} {gm : Nat} {codeV : Value} {day : Int} {S : List (Nat → Bool)} {N : Nat} (h : Mach w gm codeV day S N) : Mach (w.setCell ⟨gm, 3, none⟩ (.int .i64 ((N : Int) + 1))) gm codeV day S (N + 1) := by
  obtain ⟨v, h1, h2⟩ := h
  exact ⟨v, h1.set 3 (.int .i64 ((N : Int) + 1)), own_far h2 (by simp) _⟩
theorem setA_noS : setA noS = maskA (fun _ => 0) := by
  unfold noS
  apply maskA_congr
  intro k _
  apply Nat.eq_of_testBit_eq
  intro j
  rw [setW_bit]
  simp
theorem Union_S (a b : Nat → Bool) (W : World) : Calls Tryd.prog 58 #[.agg (setA a), .agg (setA b)] W fun e w' => e = .returned (.agg (setA (orS a b))) ∧ Below W.heap.size W w' := Union_any _ _ W (fun k _ => setW_lt _ k) (fun k _ => setW_lt _ k)
theorem Diff_S (a b : Nat → Bool) (W : World) : Calls Tryd.prog 59 #[.agg (setA a), .agg (setA b)] W fun e w' => e = .returned (.agg (setA (sansS a b))) ∧ Below W.heap.size W w' := Diff_any _ _ W (fun k _ => setW_lt _ k) (fun k _ => setW_lt _ k)
theorem Both_S (a b : Nat → Bool) (W : World) : Calls Tryd.prog 60 #[.agg (setA a), .agg (setA b)] W fun e w' => e = .returned (.agg (setA (andS a b))) ∧ Below W.heap.size W w' := Both_any _ _ W (fun k _ => setW_lt _ k) (fun k _ => setW_lt _ k)
theorem Shift_S (a : Nat → Bool) (n : Int) (W : World) : Calls Tryd.prog 61 #[.agg (setA a), .int .i64 n] W fun e w' => e = .returned (.agg (setA (shS (has (setW a)) n))) ∧ Below W.heap.size W w' := Shift_any _ n W (fun k _ => setW_lt _ k)

theorem push_noS (w : World) (gm : Nat) (codeV : Value) (day : Int) (S : List (Nat → Bool)) (n : Nat) (h : Mach w gm codeV day S n) (hS : S.length < 1000000) :
    Calls Tryd.prog 62 #[.pointer (some ⟨gm, 0, none⟩), .agg (maskA fun _ => 0)] w fun e w' => e = .returned (.tuple #[]) ∧ Mach w' gm codeV day (S ++ [noS]) n ∧ Below gm w w' := by
  have := push_any noS w gm codeV day S n h hS
  rwa [setA_noS] at this

set_option maxRecDepth 100000 in
set_option maxHeartbeats 16000000 in
theorem run_any (l : List Code) (wd : Nat) (day : Int) (hwd : Civ.weekI day = wd) (hwd7 : wd < 7) (hday : 0 ≤ day ∧ day < 200000) (_h40 : l.length ≤ 40) (hok : ∀ c : Code, c ∈ l → c.ins.length ≤ 2000 ∧ ∀ k x, c.ins[k]? = some x → insErr l.length c.ins.length k x = 0) :
    ∀ (d r : Nat) (m : Nat → Bool) (c : Nat), runR l wd day d r = some (m, c) → ∀ (w : World) (gm : Nat) (codeV : Value) (S : List (Nat → Bool)) (n : Nat), CodesV w gm codeV l → Mach w gm codeV day S n → n + c ≤ 500000 → S.length ≤ n →
      Calls Tryd.prog 30 #[.pointer (some ⟨gm, 0, none⟩), .int .i64 r] w fun e w' => e = .returned (.tuple #[]) ∧ Mach w' gm codeV day (S ++ [m]) (n + c) ∧ Below gm w w' := by
  intro d
  induction d with
  | zero => intro r m c h; cases h
  | succ d ih =>
    intro r m c h w gm codeV S n hl hM hn hS
    rw [runR, Int.toNat_natCast] at h
    obtain ⟨c0, hc0⟩ : ∃ c0, l[r]? = some c0 := by
      cases e : l[r]? with
      | none => rw [e] at h; cases h
      | some c0 => exact ⟨c0, rfl⟩
    rw [hc0] at h
    simp only at h
    have hrun : runIns wd day (runR l wd day d) c0.ins (c0.ins.length + 1) 0 [] 0 = some ([m], c) := by
      split at h
      · rename_i m' n' he
        simp only [Option.some.injEq, Prod.mk.injEq] at h
        rw [he, h.1, h.2]
      · cases h
    clear h
    have hr := (List.getElem?_eq_some_iff.1 hc0).1
    obtain ⟨hlen0, hins⟩ := hok c0 (List.mem_of_getElem? hc0)
    have hl' := Lib.hid hl
    obtain ⟨A, cap, rfl, hlen, hc⟩ := hl
    obtain ⟨b, o, rfl, hb, ⟨u, k0, hI⟩, _, _⟩ := hc r c0 hc0
    obtain ⟨A1, cap1, rfl, hlen1, hc1⟩ := hI
    replace hc1 := Lib.hid hc1
    replace hins := Lib.hid hins
    replace ih := Lib.hid ih
    clear hc
    have hlt := hM.lt
    have hM0 := Lib.hid hM
    obtain ⟨v, hB, ho⟩ := hM
    have m0 : w.cell? ⟨gm, 0, none⟩ = some (.slice (some ⟨b, o, none⟩) l.length cap) := hB.cell 0
    replace ho := Lib.hid ho
    replace hrun := Lib.hid hrun
    replace hn := Lib.hid hn
    replace hlen0 := Lib.hid hlen0
    replace hS := Lib.hid hS
    obtain ⟨hday1, hday2⟩ := hday
    replace hday2 := Lib.hid hday2
    go_enter Tryd.func30, Tryd.ntmps30
    go_wp2
    go_loopg [5] (c0.ins.length + 1) (fun q k wr => ∃ (i : Nat) (st : List (Nat → Bool)) (n1 N : Nat), k = .int .i64 i ∧ Hid (runIns wd day (runR l wd day d) c0.ins q i st n1 = some ([m], c)) ∧ Hid (Mach wr gm (.slice (some ⟨b, o, none⟩) l.length cap) day (S ++ st.reverse) N) ∧ N = n + n1 ∧ Below gm w wr ∧ i ≤ c0.ins.length ∧ st.length ≤ n1 ∧ n1 ≤ c)
    case atStart => exact ⟨0, [], 0, n, rfl, hrun, Lib.hid (by simpa using hM0.out), rfl, Below.refl _ _, by omega, by simp, by omega⟩
    case round =>
      clear m0 k0 hrun
      obtain ⟨i, st, n1, N, rfl, hrun, hM, hN, hbw, hi, hst, hn1⟩ := hrel
      replace hst := Lib.hid hst
      replace hN := Lib.hid hN
      obtain ⟨q, hq⟩ : ∃ q, gk = q + 1 := by
        cases gk with
        | zero => exact absurd hrun.out (by simp [runIns])
        | succ q => exact ⟨q, rfl⟩
      have hrun2 := hrun.out
      rw [hq, runIns] at hrun2
      have hlw := hbw.size
      by_cases hlti : i < c0.ins.length
      · obtain ⟨x, hx⟩ : ∃ x, c0.ins[i]? = some x := ⟨_, List.getElem?_eq_getElem hlti⟩
        obtain ⟨b1, o1, rfl, hb1, hat⟩ := hc1.out i x hx
        have hat2 := hat.below hbw hb1 (Nat.le_refl _) (Nat.le_refl _)
        have hk := ins_kinds (hins.out i x hx)
        rw [hx] at hrun2
        simp only at hrun2
        obtain ⟨op, a, bb, to, sp⟩ := x
        obtain ⟨i', st', n', hnx⟩ : ∃ i' st' n', nextI wd day (runR l wd day d) ⟨op, a, bb, to, sp⟩ i st = some (i', st', n') := by
          cases e : nextI wd day (runR l wd day d) ⟨op, a, bb, to, sp⟩ i st with
          | none => rw [e] at hrun2; cases hrun2
          | some p => exact ⟨_, _, _, rfl⟩
        rw [hnx] at hrun2
        simp only at hrun2
        have hle := runIns_le _ _ _ _ _ _ hrun2
        replace hrun2 := Lib.hid hrun2
        obtain ⟨x0, x1, x2, x3, u4, x4, x5⟩ := hat2
        simp only at x0 x1 x2 x3 x4 x5 hk
        have hMs := Lib.hid hM.out.step
        have hMlt := hM.out.lt
        have m1 : wr.cell? ⟨gm, 1, none⟩ = some (.int .i64 day) := by obtain ⟨_, h, _⟩ := hM.out; exact h.cell 1
        have m3 : wr.cell? ⟨gm, 3, none⟩ = some (.int .i64 N) := by obtain ⟨_, h, _⟩ := hM.out; exact h.cell 3
        have f3 : wr.frozen? ⟨gm, 3, none⟩ = false := by obtain ⟨_, h, _⟩ := hM.out; exact h.frozen 3
        have hSl := Lib.hid (show S.length + st.length ≤ N by have := hst.out; have := hS.out; have := hN.out; omega)
        have hNb := Lib.hid (show N < 500000 by have := hn.out; have := hN.out; have := nextI_pos hnx; omega)
        have hNi : N ≤ 9223372036854775806 := by have := hNb.out; omega
        have hbs : Below gm wr (wr.setCell ⟨gm, 3, none⟩ (.int .i64 ((N : Int) + 1))) := (Below.refl _ _).setCell (p := ⟨gm, 3, none⟩) (Nat.le_refl _) _
        have x5' := Lib.hid ((x5.below hbs (Nat.le_refl _)).more (show gm ≤ (wr.setCell ⟨gm, 3, none⟩ (.int .i64 ((N : Int) + 1))).heap.size by simp; omega))
        clear hat hx
        rcases hk with ⟨rfl, _⟩ | rfl | rfl | rfl | ⟨rfl, ha1, ha2⟩ | ⟨rfl, ht1, ht2, ha1, ha2⟩ | ⟨rfl, ht1, ht2⟩ | ⟨rfl, ha1, ha2⟩
        · have e : some (i + 1, inSpans sp :: st, 1) = some (i', st', n') := hnx
          simp only [Option.some.injEq, Prod.mk.injEq] at e
          obtain ⟨rfl, rfl, rfl⟩ := e
          clear hnx
          go_wp2_with fail
          refine (Of_any _ sp _ x5'.out).mono ?_
          rintro e w2 ⟨rfl, hb2⟩
          go_wp2_with fail
          refine (push_any (inSpans sp) w2 gm _ day (S ++ st.reverse) (N + 1) (hMs.out.below hb2 (Nat.le_refl _)) (by have := hSl.out; have := hNb.out; simp; omega)).mono ?_
          rintro e w3 ⟨rfl, hM3, hb3⟩
          go_wp2
          go_roundg q
          case measure => omega
          case rel => exact ⟨i + 1, inSpans sp :: st, n1 + 1, N + 1, by go_num, hrun2, Lib.hid (by simpa using hM3), by have := hN.out; omega, ((hbw.trans hbs).trans (hb2.mono (by simp; omega))).trans hb3, by omega, by have := hst.out; simp; omega, by omega⟩
        · have e : twoS orS i st = some (i', st', n') := hnx
          cases st with
          | nil => cases e
          | cons p2 st2 => cases st2 with
           | nil => cases e
           | cons p1 rr =>
            simp only [twoS, Option.some.injEq, Prod.mk.injEq] at e
            obtain ⟨rfl, rfl, rfl⟩ := e
            clear hnx
            have hM' := Lib.hid (show Mach (wr.setCell ⟨gm, 3, none⟩ (.int .i64 ((N : Int) + 1))) gm (.slice (some ⟨b, o, none⟩) l.length cap) day ((S ++ rr.reverse) ++ [p1, p2]) (N + 1) by simpa using hMs.out)
            go_wp2_with fail
            refine (two_Union Union_S p1 p2 _ gm _ day (S ++ rr.reverse) (N + 1) hM'.out (by have h1 := hSl.out; have h2 := hNb.out; simp only [List.length_append, List.length_reverse, List.length_cons] at h1 ⊢; omega)).mono ?_
            rintro e w3 ⟨rfl, hM3, hb3⟩
            go_wp2
            go_roundg q
            case measure => omega
            case rel => exact ⟨i + 1, orS p1 p2 :: rr, n1 + 1, N + 1, by go_num, hrun2, Lib.hid (by simpa using hM3), by have := hN.out; omega, (hbw.trans hbs).trans hb3, by omega, by have h1 := hst.out; simp only [List.length_cons] at h1 ⊢; omega, by omega⟩
        · have e : twoS sansS i st = some (i', st', n') := hnx
          cases st with
          | nil => cases e
          | cons p2 st2 => cases st2 with
           | nil => cases e
           | cons p1 rr =>
            simp only [twoS, Option.some.injEq, Prod.mk.injEq] at e
            obtain ⟨rfl, rfl, rfl⟩ := e
            clear hnx
            have hM' := Lib.hid (show Mach (wr.setCell ⟨gm, 3, none⟩ (.int .i64 ((N : Int) + 1))) gm (.slice (some ⟨b, o, none⟩) l.length cap) day ((S ++ rr.reverse) ++ [p1, p2]) (N + 1) by simpa using hMs.out)
            go_wp2_with fail
            refine (two_Diff Diff_S p1 p2 _ gm _ day (S ++ rr.reverse) (N + 1) hM'.out (by have h1 := hSl.out; have h2 := hNb.out; simp only [List.length_append, List.length_reverse, List.length_cons] at h1 ⊢; omega)).mono ?_
            rintro e w3 ⟨rfl, hM3, hb3⟩
            go_wp2
            go_roundg q
            case measure => omega
            case rel => exact ⟨i + 1, sansS p1 p2 :: rr, n1 + 1, N + 1, by go_num, hrun2, Lib.hid (by simpa using hM3), by have := hN.out; omega, (hbw.trans hbs).trans hb3, by omega, by have h1 := hst.out; simp only [List.length_cons] at h1 ⊢; omega, by omega⟩
        · have e : twoS andS i st = some (i', st', n') := hnx
          cases st with
          | nil => cases e
          | cons p2 st2 => cases st2 with
           | nil => cases e
           | cons p1 rr =>
            simp only [twoS, Option.some.injEq, Prod.mk.injEq] at e
            obtain ⟨rfl, rfl, rfl⟩ := e
            clear hnx
            have hM' := Lib.hid (show Mach (wr.setCell ⟨gm, 3, none⟩ (.int .i64 ((N : Int) + 1))) gm (.slice (some ⟨b, o, none⟩) l.length cap) day ((S ++ rr.reverse) ++ [p1, p2]) (N + 1) by simpa using hMs.out)
            go_wp2_with fail
            refine (two_Both Both_S p1 p2 _ gm _ day (S ++ rr.reverse) (N + 1) hM'.out (by have h1 := hSl.out; have h2 := hNb.out; simp only [List.length_append, List.length_reverse, List.length_cons] at h1 ⊢; omega)).mono ?_
            rintro e w3 ⟨rfl, hM3, hb3⟩
            go_wp2
            go_roundg q
            case measure => omega
            case rel => exact ⟨i + 1, andS p1 p2 :: rr, n1 + 1, N + 1, by go_num, hrun2, Lib.hid (by simpa using hM3), by have := hN.out; omega, (hbw.trans hbs).trans hb3, by omega, by have h1 := hst.out; simp only [List.length_cons] at h1 ⊢; omega, by omega⟩
        · cases st with
          | nil => cases hnx
          | cons p1 rr =>
            have e : some (i + 1, shS (has (setW p1)) a :: rr, 1) = some (i', st', n') := hnx
            simp only [Option.some.injEq, Prod.mk.injEq] at e
            obtain ⟨rfl, rfl, rfl⟩ := e
            clear hnx
            have hM' := Lib.hid (show Mach (wr.setCell ⟨gm, 3, none⟩ (.int .i64 ((N : Int) + 1))).drew gm (.slice (some ⟨b, o, none⟩) l.length cap) day ((S ++ rr.reverse) ++ [p1]) (N + 1) by
              have := hMs.out.below ((Below.refl _ _).drew) (Nat.le_refl _)
              simpa using this)
            go_wp2_with fail
            go_region_with (first
              | (go_at_call 31; refine (pop_any p1 _ gm _ day (S ++ rr.reverse) (N + 1) hM'.out).mono ?_; rintro e w2 ⟨rfl, hM2, hb2⟩; have y1 : w2.cell? ⟨b1, o1 + i * 5 + 1, none⟩ = some (.int .i64 a) := (hb2.cell (p := ⟨b1, _, none⟩) hb1).trans ((hbs.cell (p := ⟨b1, _, none⟩) hb1).trans x1))
              | (go_at_call 61; refine (Shift_S p1 a _).mono ?_; rintro e w3 ⟨rfl, hb3⟩)
              | (go_at_call 62; refine (push_any (shS (has (setW p1)) a) w3 gm _ day (S ++ rr.reverse) (N + 1) (hM2.below hb3 (Nat.le_refl _)) (by have h1 := hSl.out; have h2 := hNb.out; simp only [List.length_append, List.length_reverse, List.length_cons] at h1 ⊢; omega)).mono ?_; rintro e w4 ⟨rfl, hM4, hb4⟩))
            all_goals
              go_wp2
              go_roundg q
              case measure => omega
              case rel => exact ⟨i + 1, shS (has (setW p1)) a :: rr, n1 + 1, N + 1, by go_num, hrun2, Lib.hid (by simpa using hM4), by have := hN.out; omega, ((((hbw.trans hbs).trans ((Below.refl _ _).drew)).trans hb2).trans (hb3.mono (by have := hM2.lt; omega))).trans hb4, by omega, by have h1 := hst.out; simp only [List.length_cons] at h1 ⊢; omega, by omega⟩
        · have hW := Lib.hid (fun W => show Calls Tryd.prog 57 #[.int .i64 day] W (fun e w' => e = .returned (.int .i64 (wd : Nat)) ∧ W = w') from by have := Wk.Week_any day W (by omega) (by have := hday2.out; omega); rwa [hwd] at this)
          replace hnx : (if (bits BinOp.and IntKind.i64 (a / 2 ^ wd) 1 == 1) = true then some (i + 1, st, 1) else some (to.toNat, noS :: st, 1)) = some (i', st', n') := hnx
          have hto := Lib.hid (Int.toNat_of_nonneg (show 0 ≤ to by omega))
          clear hins hc1 ih hl' hM
          rcases dec (a ≤ day) with ⟨q1, _⟩ | ⟨q1, _⟩
          all_goals
            go_wp2
            refine wp_region_below (wr.heap.size) _ (Below.refl _ _) (by kernel_rfl) (by kernel_rfl) ?_
            repeat (go_big_quiet_step ((fail)))
            refine wpQuiet_nil ?_
            rintro _ ⟨n7, rfl⟩
            have hb0 := n7.below
            go_wp2
            refine wp_region_below (wr.heap.size) _ (hb0) (by kernel_rfl) (by kernel_rfl) ?_
            repeat (go_big_quiet_step (((go_at_call 57; exact quiet_same (hW.out _)))))
            refine wpQuiet_nil ?_
            rintro _ ⟨n9, rfl⟩
            have hb7 := n9.below
            have z7 := n9.size
            simp at z7
            have y3 : n9.w.cell? ⟨b1, o1 + i * 5 + 3, none⟩ = some (.int .i64 to) := ((hb7.mono (show gm ≤ wr.heap.size by omega)).cell (p := ⟨b1, _, none⟩) hb1).trans ((hbs.cell (p := ⟨b1, _, none⟩) hb1).trans x3)
            cases hgb : (bits BinOp.and IntKind.i64 (a / 2 ^ wd) 1 == 1) with
            | true =>
              rw [hgb, if_pos rfl] at hnx
              have e : some (i + 1, st, 1) = some (i', st', n') := hnx
              simp only [Option.some.injEq, Prod.mk.injEq] at e
              obtain ⟨rfl, rfl, rfl⟩ := e
              go_wp2
              go_roundg q
              case measure => omega
              case rel => exact ⟨i + 1, st, n1 + 1, N + 1, by go_num, hrun2, Lib.hid (hMs.out.below hb7 (by simp)), by have := hN.out; omega, (hbw.trans hbs).trans (hb7.mono (by omega)), by omega, by have := hst.out; omega, by omega⟩
            | false =>
              rw [hgb, if_neg (by decide)] at hnx
              have e : some (to.toNat, noS :: st, 1) = some (i', st', n') := hnx
              simp only [Option.some.injEq, Prod.mk.injEq] at e
              obtain ⟨rfl, rfl, rfl⟩ := e
              go_wp2_with fail
              refine (push_noS n9.w gm _ day (S ++ st.reverse) (N + 1) (hMs.out.below hb7 (by simp)) (by have h1 := hSl.out; have h2 := hNb.out; simp only [List.length_append, List.length_reverse]; omega)).mono ?_
              rintro e w3 ⟨rfl, hM3, hb3⟩
              have y4 : w3.cell? ⟨b1, o1 + i * 5 + 3, none⟩ = some (.int .i64 to) := (hb3.cell (p := ⟨b1, _, none⟩) hb1).trans y3
              go_wp2
              go_roundg q
              case measure => omega
              case rel => exact ⟨to.toNat, noS :: st, n1 + 1, N + 1, by rw [hto.out], hrun2, Lib.hid (by simpa using hM3), by have := hN.out; omega, ((hbw.trans hbs).trans (hb7.mono (by omega))).trans hb3, by have := hto.out; omega, by have := hst.out; simp only [List.length_cons]; omega, by omega⟩
        · replace hnx : (if (decide (a ≤ day) && decide (day ≤ bb)) = true then some (i + 1, st, 1) else some (to.toNat, noS :: st, 1)) = some (i', st', n') := hnx
          have hto := Lib.hid (Int.toNat_of_nonneg (show 0 ≤ to by omega))
          clear hins hc1 ih hl' hM
          rcases dec (a ≤ day) with ⟨q1, _⟩ | ⟨q1, _⟩
          · rw [q1, Bool.true_and] at hnx
            go_wp2
            refine wp_region_below (wr.heap.size) _ (Below.refl _ _) (by kernel_rfl) (by kernel_rfl) ?_
            repeat (go_big_quiet_step ((fail)))
            refine wpQuiet_nil ?_
            rintro _ ⟨n7, rfl⟩
            have hb7 := n7.below
            have z7 := n7.size
            simp at z7
            have y3 : n7.w.cell? ⟨b1, o1 + i * 5 + 3, none⟩ = some (.int .i64 to) := ((hb7.mono (show gm ≤ wr.heap.size by omega)).cell (p := ⟨b1, _, none⟩) hb1).trans ((hbs.cell (p := ⟨b1, _, none⟩) hb1).trans x3)
            cases hgb : decide (day ≤ bb) with
            | true =>
              rw [hgb, if_pos rfl] at hnx
              have e : some (i + 1, st, 1) = some (i', st', n') := hnx
              simp only [Option.some.injEq, Prod.mk.injEq] at e
              obtain ⟨rfl, rfl, rfl⟩ := e
              go_wp2
              go_roundg q
              case measure => omega
              case rel => exact ⟨i + 1, st, n1 + 1, N + 1, by go_num, hrun2, Lib.hid (hMs.out.below hb7 (by simp)), by have := hN.out; omega, (hbw.trans hbs).trans (hb7.mono (by omega)), by omega, by have := hst.out; omega, by omega⟩
            | false =>
              rw [hgb, if_neg (by decide)] at hnx
              have e : some (to.toNat, noS :: st, 1) = some (i', st', n') := hnx
              simp only [Option.some.injEq, Prod.mk.injEq] at e
              obtain ⟨rfl, rfl, rfl⟩ := e
              go_wp2_with fail
              refine (push_noS n7.w gm _ day (S ++ st.reverse) (N + 1) (hMs.out.below hb7 (by simp)) (by have h1 := hSl.out; have h2 := hNb.out; simp only [List.length_append, List.length_reverse]; omega)).mono ?_
              rintro e w3 ⟨rfl, hM3, hb3⟩
              have y4 : w3.cell? ⟨b1, o1 + i * 5 + 3, none⟩ = some (.int .i64 to) := (hb3.cell (p := ⟨b1, _, none⟩) hb1).trans y3
              go_wp2
              go_roundg q
              case measure => omega
              case rel => exact ⟨to.toNat, noS :: st, n1 + 1, N + 1, by rw [hto.out], hrun2, Lib.hid (by simpa using hM3), by have := hN.out; omega, ((hbw.trans hbs).trans (hb7.mono (by omega))).trans hb3, by have := hto.out; omega, by have := hst.out; simp only [List.length_cons]; omega, by omega⟩
          · rw [q1, Bool.false_and, if_neg (by decide)] at hnx
            go_wp2
            refine wp_region_below (wr.heap.size) _ (Below.refl _ _) (by kernel_rfl) (by kernel_rfl) ?_
            repeat (go_big_quiet_step ((fail)))
            refine wpQuiet_nil ?_
            rintro _ ⟨n7, rfl⟩
            have hb7 := n7.below
            have z7 := n7.size
            simp at z7
            have y3 : n7.w.cell? ⟨b1, o1 + i * 5 + 3, none⟩ = some (.int .i64 to) := ((hb7.mono (show gm ≤ wr.heap.size by omega)).cell (p := ⟨b1, _, none⟩) hb1).trans ((hbs.cell (p := ⟨b1, _, none⟩) hb1).trans x3)
            have e : some (to.toNat, noS :: st, 1) = some (i', st', n') := hnx
            simp only [Option.some.injEq, Prod.mk.injEq] at e
            obtain ⟨rfl, rfl, rfl⟩ := e
            go_wp2_with fail
            refine (push_noS n7.w gm _ day (S ++ st.reverse) (N + 1) (hMs.out.below hb7 (by simp)) (by have h1 := hSl.out; have h2 := hNb.out; simp only [List.length_append, List.length_reverse]; omega)).mono ?_
            rintro e w3 ⟨rfl, hM3, hb3⟩
            have y4 : w3.cell? ⟨b1, o1 + i * 5 + 3, none⟩ = some (.int .i64 to) := (hb3.cell (p := ⟨b1, _, none⟩) hb1).trans y3
            go_wp2
            go_roundg q
            case measure => omega
            case rel => exact ⟨to.toNat, noS :: st, n1 + 1, N + 1, by rw [hto.out], hrun2, Lib.hid (by simpa using hM3), by have := hN.out; omega, ((hbw.trans hbs).trans (hb7.mono (by omega))).trans hb3, by have := hto.out; omega, by have := hst.out; simp only [List.length_cons]; omega, by omega⟩
        · obtain ⟨m2, c2, hcall, e⟩ : ∃ m2 c2, runR l wd day d a = some (m2, c2) ∧ some (i + 1, m2 :: st, c2 + 1) = some (i', st', n') := by
            have e : (match runR l wd day d a with | some (m, n) => some (i + 1, m :: st, n + 1) | none => none) = some (i', st', n') := hnx
            split at e
            · rename_i m2 c2 he
              exact ⟨m2, c2, he, e⟩
            · cases e
          simp only [Option.some.injEq, Prod.mk.injEq] at e
          obtain ⟨rfl, rfl, rfl⟩ := e
          obtain ⟨rk, rfl⟩ := Int.eq_ofNat_of_zero_le ha1
          clear hnx
          have hcl := Lib.hid (hl'.out.below (hbw.trans hbs) (Nat.le_refl _) (Nat.le_refl _))
          have hI := Lib.hid (ih.out rk m2 c2 hcall (wr.setCell ⟨gm, 3, none⟩ (.int .i64 ((N : Int) + 1))) gm _ (S ++ st.reverse) (N + 1) hcl.out hMs.out (by have := hn.out; have := hN.out; omega) (by have := hSl.out; simp; omega))
          clear hcall
          go_wp2_with fail
          refine hI.out.mono ?_
          rintro e w3 ⟨rfl, hM3, hb3⟩
          go_wp2
          go_roundg q
          case measure => omega
          case rel => exact ⟨i + 1, m2 :: st, n1 + (c2 + 1), N + 1 + c2, by go_num, hrun2, Lib.hid (by simpa using hM3), by have := hN.out; omega, (hbw.trans hbs).trans hb3, by omega, by have := hst.out; simp; omega, by omega⟩
      · obtain rfl : i = c0.ins.length := by omega
        rw [List.getElem?_eq_none (Nat.le_refl _)] at hrun2
        simp only [Option.some.injEq, Prod.mk.injEq] at hrun2
        obtain ⟨rfl, rfl⟩ := hrun2
        have hMf := hM.out
        rw [hN.out, List.reverse_singleton] at hMf
        go_wp2
        go_end0
        exact ⟨rfl, hMf, hbw⟩

end Vm
end Go.Proofs.YtbadplbdgpbdaaaDoor
