/- The walk of the reference's Named, and of the law slotlaw3.LexTells. -/
import Derived.Test.YtbcgcpcjepigeaaLexTd
import Derived.Test.YtbcgcpcjepigeaaLexN
import Derived.Test.YtbcgcpcjepigeaaLexA
import Derived.Test.YtbcgcpcjepigeaaLexE
import Derived.Laws.Cover1
namespace Go.Proofs.Ytbcgcpcjepigeaa
open Go.RowKit
namespace Lx
open Sl (strV)

theorem isName_false {s : List UInt8} {j : Nat} {c : UInt8} (hc : s[j]? = some c) (hs : small c.toNat = false) (h : j = 0 ∨ nameC c.toNat = false) : isName s = false := by
  cases s with
  | nil => simp at hc
  | cons x xs =>
    unfold isName
    simp only [Bool.and_eq_false_iff]
    rcases h with rfl | h
    · simp at hc; subst hc; exact .inr (.inl hs)
    · refine .inr (.inr (.inr ?_))
      rw [List.all_eq_false]
      exact ⟨c, List.mem_of_getElem? hc, by rw [h]; simp⟩
theorem isName_ok {s : List UInt8} {x : UInt8} {xs : List UInt8} (e : s = x :: xs) (h : ∀ i c, s[i]? = some c → small c.toNat = true ∨ (i ≠ 0 ∧ nameC c.toNat = true)) : isName s = (decide (s.length ≤ 20) && !wordsL.contains s) := by
  subst e
  unfold isName
  have h0 : small x.toNat = true := by
    rcases h 0 x rfl with h | h
    · exact h
    · exact absurd rfl h.1
  have h1 : (x :: xs).all (fun c => nameC c.toNat) = true := by
    rw [List.all_eq_true]
    intro c hc
    obtain ⟨i, hi, e⟩ := List.getElem_of_mem hc
    rcases h i c (by rw [List.getElem?_eq_getElem hi, e]) with h | h
    · unfold nameC; rw [h]; rfl
    · exact h.2
  simp only [h0, h1, Bool.true_and, Bool.and_true]

set_option maxHeartbeats 1000000 in
theorem RNamed_any (s : List UInt8) (w : World) (hl : s.length ≤ 9223372036854775807) : Calls Try.prog 14 #[strV s] w fun e w' => e = .returned (.bool (isName s)) ∧ Below w.heap.size w w' := by
  have kc := byW_run
  have hcell := Lib.hid (fun (j : Nat) (c : UInt8) (h : s[j]? = some c) => byW_cell w h)
  have hbw := byW_below w s
  go_enter Try.func14, Try.ntmps14
  go_wp2_with fail
  generalize byW w s = W at *
  clear kc
  go_loopg [8] s.length (fun q k wr => ∃ j : Nat, j ≤ s.length ∧ q = s.length - j ∧ k = .int .i64 j ∧ Hid (∀ i c, i < j → s[i]? = some c → small c.toNat = true ∨ (i ≠ 0 ∧ nameC c.toNat = true)) ∧ wr = W)
  case atStart => exact ⟨0, by omega, rfl, rfl, Lib.hid (fun i c h => by omega), rfl⟩
  case round =>
    obtain ⟨j, hj, hq, rfl, hall, rfl⟩ := hrel
    replace hq := Lib.hid hq
    by_cases hlt : j < s.length
    · obtain ⟨c, hc⟩ : ∃ c, s[j]? = some c := ⟨_, List.getElem?_eq_getElem hlt⟩
      have k0 := hcell.out j c hc
      have cs := fun W => rlow c.toNat W
      have cd := fun W => rdigit c.toNat W
      have hltI : (j : Int) < s.length := by omega
      have e95 := bneI (c := c) (x := 95)
      simp only [show ((95 : UInt8).toNat : Int) = 95 from rfl] at e95
      have hgo := fun h : small c.toNat = true ∨ (j ≠ 0 ∧ nameC c.toNat = true) => Lib.hid (show ∀ i x, i < j + 1 → s[i]? = some x → small x.toNat = true ∨ (i ≠ 0 ∧ nameC x.toNat = true) from fun i x hi hx => by
        by_cases hij : i = j
        · subst hij
          rw [hc] at hx; cases hx; exact h
        · exact hall.out i x (by omega) hx)
      have hno := fun (h1 : small c.toNat = false) (h : j = 0 ∨ nameC c.toNat = false) => Lib.hid (isName_false hc h1 h)
      rw [nameC_b] at hgo hno
      clear hc
      cases hsm : small c.toNat with
      | true =>
        rw [hsm] at cs hgo
        have hg := hgo (.inl rfl)
        replace cs := Lib.hid cs
        clear hgo hno cd e95 hsm
        go_wp2_with fail
        refine (cs.out _).mono ?_
        rintro e1 w1 ⟨rfl, rfl⟩
        go_wp2
        go_roundg (s.length - (j + 1))
        case measure => rw [hq.out]; omega
        case rel => exact ⟨j + 1, by omega, rfl, by go_num, hg, rfl⟩
      | false =>
        rw [hsm] at cs hgo hno
        replace cs := Lib.hid cs
        by_cases hj0 : j = 0
        · have e := hno rfl (.inl hj0)
          have g0 : ((j : Int) == 0) = true := by rw [beq_iff_eq]; omega
          clear hgo hno hj0 hsm
          go_wp2_with fail
          refine (cs.out _).mono ?_
          rintro e1 w1 ⟨rfl, rfl⟩
          go_wp2
          go_ret
          exact ⟨ret_bool e.out.symm, hbw⟩
        · have g0 : ((j : Int) == 0) = false := by rw [beq_eq_false_iff_ne]; omega
          cases hdx : digit c.toNat with
          | true =>
            rw [hdx] at cd hgo
            have hg := hgo (.inr ⟨hj0, rfl⟩)
            replace cd := Lib.hid cd
            clear hgo hno e95 hsm hdx hj0
            go_wp2_with fail
            refine (cs.out _).mono ?_
            rintro e1 w1 ⟨rfl, rfl⟩
            go_wp2_with fail
            refine (cd.out _).mono ?_
            rintro e1 w1 ⟨rfl, rfl⟩
            go_wp2
            go_roundg (s.length - (j + 1))
            case measure => rw [hq.out]; omega
            case rel => exact ⟨j + 1, by omega, rfl, by go_num, hg, rfl⟩
          | false =>
            rw [hdx] at cd hgo hno
            replace cd := Lib.hid cd
            cases h95 : (c == 95) with
            | true =>
              rw [h95] at e95 hgo
              have hg := hgo (.inr ⟨hj0, rfl⟩)
              rw [Bool.not_true] at e95
              clear hgo hno hsm hdx hj0 h95
              go_wp2_with fail
              refine (cs.out _).mono ?_
              rintro e1 w1 ⟨rfl, rfl⟩
              go_wp2_with fail
              refine (cd.out _).mono ?_
              rintro e1 w1 ⟨rfl, rfl⟩
              go_wp2
              go_roundg (s.length - (j + 1))
              case measure => rw [hq.out]; omega
              case rel => exact ⟨j + 1, by omega, rfl, by go_num, hg, rfl⟩
            | false =>
              rw [h95] at e95 hno
              have e := hno rfl (.inr rfl)
              rw [Bool.not_false] at e95
              clear hgo hno hsm hdx hj0 h95
              go_wp2_with fail
              refine (cs.out _).mono ?_
              rintro e1 w1 ⟨rfl, rfl⟩
              go_wp2_with fail
              refine (cd.out _).mono ?_
              rintro e1 w1 ⟨rfl, rfl⟩
              go_wp2
              go_ret
              exact ⟨ret_bool e.out.symm, hbw⟩
    · have hjl : j = s.length := by omega
      have hall2 : ∀ i c, s[i]? = some c → small c.toNat = true ∨ (i ≠ 0 ∧ nameC c.toNat = true) := fun i c hc => hall.out i c (by rw [hjl]; exact (List.getElem?_eq_some_iff.1 hc).1) hc
      subst hjl
      clear hall hcell
      by_cases hs : s.length = 0
      · have e : isName s = false := by rw [show s = [] by simpa using hs]; rfl
        have g0 : decide (0 < (s.length : Int)) = false := by rw [decide_eq_false_iff_not]; omega
        have g0' : decide (0 < s.length) = false := by rw [decide_eq_false_iff_not]; omega
        replace e := Lib.hid e
        clear hs hall2
        go_wp2
        go_ret
        exact ⟨ret_bool e.out.symm, hbw⟩
      · obtain ⟨x, xs, hs'⟩ : ∃ x xs, s = x :: xs := by
          cases s with
          | nil => exact absurd rfl hs
          | cons x xs => exact ⟨x, xs, rfl⟩
        have e := isName_ok hs' hall2
        have g0 : decide (0 < (s.length : Int)) = true := by rw [decide_eq_true_eq]; omega
        have g0' : decide (0 < s.length) = true := by rw [decide_eq_true_eq]; omega
        clear hs hs' hall2
        have cw := fun W => Word_any s W
        by_cases h20 : s.length ≤ 20
        · have g1 : decide ((s.length : Int) ≤ 20) = true := by simp; omega
          have g1' : decide (s.length ≤ 20) = true := by simp; omega
          rw [g1', Bool.true_and] at e
          generalize wordsL.contains s = wb at *
          replace cw := Lib.hid cw
          replace e := Lib.hid e
          go_wp2_with fail
          refine (cw.out _).mono ?_
          rintro e1 w1 ⟨rfl, hb1⟩
          cases wb
          all_goals
            go_wp2
            go_ret
            exact ⟨ret_bool e.out.symm, hbw.trans (hb1.mono hbw.size)⟩
        · have g1 : decide ((s.length : Int) ≤ 20) = false := by simp; omega
          have g1' : decide (s.length ≤ 20) = false := by simp; omega
          rw [g1', Bool.false_and] at e
          replace e := Lib.hid e
          go_wp2
          go_ret
          exact ⟨ret_bool e.out.symm, hbw⟩

/-! ### the law -/
@[go_sem ↓] theorem run_eq_fault (a b a' b' : Int) (w : World) :
    (Op.equalIn 10000 25 (.agg #[.int .i64 a, .int .i64 b]) (.agg #[.int .i64 a', .int .i64 b'])).run Try.prog w = .ok ((a == a') && (b == b')) w := by
  rw [run_struct_eq [(23, 0), (3, 1)] (by kernel_rfl) (by kernel_rfl) (by kernel_rfl) (by kernel_rfl) 9999]
  rw [run_eqAt_cell _ _ _ _ _ _ (.int .i64 a) (.int .i64 a') (a == a') w (Try.isAgg23 w) rfl rfl (run_equalIn_int w _ _ _ _ _ _ Try.underlying23)]
  rw [run_eqAt_cell _ _ _ _ _ _ (.int .i64 b) (.int .i64 b') (b == b') w (Try.isAgg3 w) rfl rfl (run_equalIn_int w _ _ _ _ _ _ Try.underlying3)]
  rw [run_eqAt_nil]
  cases a == a' <;> cases b == b' <;> simp
@[go_sem] theorem run_eqGuard_fault (op : BinOp) (x y : Operand) (xs ys : Array Value) (w : World) : (eqGuard op 25 x y (.agg xs) (.agg ys)).run Try.prog w = .ok () w := run_eqGuard_agg w op _ x y xs ys (by kernel_rfl)
attribute [local go_sem] bytes_list

theorem words_rise : ∀ j : Nat, j < 12 → ∀ x y, wordsL[j]? = some x → wordsL[j + 1]? = some y → Op.bytesLess x y = true := by
  intro j hj x y hx hy
  have : ∀ j, j < 12 → Op.bytesLess (wordsL.getD j []) (wordsL.getD (j + 1) []) = true := by decide
  have h := this j hj
  simpa [hx, hy] using h

set_option maxHeartbeats 4000000 in
set_option maxRecDepth 100000 in
theorem LexTells_true (s : List UInt8) (w : World) (hl : s.length ≤ 9223372036854775807) : Calls Try.prog 3 #[strV s] w fun e w' => e = .returned (.bool true) ∧ Below w.heap.size w w' := by
  have c1 := Lib.hid (fun W => Lex_any s W hl)
  have c2 := Lib.hid (fun W => RLex_any s W hl)
  have c3 := Lib.hid (fun W => Named_any s W hl)
  have c4 := Lib.hid (fun W => RNamed_any s W hl)
  unfold LexPost at c1 c2
  generalize lexV s = V at *
  obtain ⟨l, fe, fa⟩ := V
  dsimp only at c1 c2
  generalize isName s = nb at *
  go_enter Try.func3, Try.ntmps3
  go_wp2_with fail
  refine (c1.out _).mono ?_
  rintro e1 w1 ⟨v1, rfl, hb1, ho1⟩
  have hv1 := TokV.of_own ho1
  have z1 := hb1.size
  clear ho1
  go_wp2_with fail
  refine (c2.out _).mono ?_
  rintro e1 w2 ⟨v2, rfl, hb2, ho2⟩
  have hv2 := TokV.of_own ho2
  have z2 := hb2.size
  simp at z2
  have B1 := (Blk.new w1 25 #[.int .i64 fe, .int .i64 fa]).below hb2 (by simp)
  clear ho2
  have k0 : w2.cell? ⟨w1.heap.size, 0, none⟩ = some (.int .i64 fe) := B1.cell 0
  have k1 : w2.cell? ⟨w1.heap.size, 1, none⟩ = some (.int .i64 fa) := B1.cell 1
  have f1 : ∀ j, w2.frozen? ⟨w1.heap.size, j, none⟩ = false := fun j => B1.frozen j
  have hne : w1.heap.size < w2.heap.size := by omega
  go_wp2_with fail
  have hbA : Below w1.heap.size w1 (w2.alloc (.cells #[.int .i64 fe, .int .i64 fa] 25)) := (((Below.refl _ _).alloc (Nat.le_refl _) _).trans (hb2.mono (by simp))).alloc (by omega) _
  have cS := SameT_any v1 v2 l l _ (hv1.below hbA (Nat.le_refl _) (by simp; omega)) (hv2.below (Below.alloc (Below.refl _ _) (Nat.le_refl _) (.cells #[.int .i64 fe, .int .i64 fa] 25)) (Nat.le_refl _) (by simp))
  rw [show (l == l) = true by simp] at cS
  refine cS.mono ?_
  rintro e1 w3 ⟨rfl, hb3⟩
  have hbw3 : Below w.heap.size w w3 := hb1.trans ((hbA.mono z1).trans (hb3.mono (by simp; omega)))
  clear cS hbA hb1 hb2 hb3 hv1 hv2 B1 k0 k1 f1 hne z1 z2 c1 c2
  have z3 := hbw3.size
  go_wp2_with fail
  refine (c3.out _).mono ?_
  rintro e1 w4 ⟨rfl, hb4⟩
  have z4 := hb4.size
  go_wp2_with fail
  refine (c4.out _).mono ?_
  rintro e1 w5 ⟨rfl, hb5⟩
  have z5 := hb5.size
  have hbw : Below w.heap.size w w5 := (hbw3.trans (hb4.mono z3)).trans (hb5.mono (by omega))
  clear hbw3 hb4 hb5
  go_wp2_with fail
  refine (Words_any _).mono ?_
  rintro e1 w6 ⟨t6, rfl, rfl⟩
  go_wp2_with fail
  refine (Words_any _).mono ?_
  rintro e1 w7 ⟨t7, rfl, rfl⟩
  go_wp2_with fail
  go_loopg [42] 13 (fun q k wr => ∃ j : Nat, j ≤ 13 ∧ q = 13 - j ∧ k = .int .i64 j ∧ Below w.heap.size w wr ∧ w5.heap.size + 1 < wr.heap.size ∧ Blk wr (w5.heap.size + 1) t7 wordsA)
  case atStart => exact ⟨0, by omega, rfl, rfl, (by repeat (first | exact Below.refl _ _ | assumption | refine Below.n _ ?_ (by first | omega | (simp; done) | (simp; omega)) | refine Below.alloc ?_ (by first | omega | (simp; done) | (simp; omega)) _ | refine Below.setCell ?_ (by first | omega | (simp; done) | (simp; omega)) _ | refine Below.drew ?_ | refine Below.setRow ?_ (by first | omega | (simp; done) | (simp; omega)) _ | refine Below.drewN ?_ _)), by simp, by simpa using Blk.new (w5.alloc (.cells wordsA t6)) t7 wordsA⟩
  case round =>
    obtain ⟨j, hj, hq, rfl, hbr, hzr, B⟩ := hrel
    replace hq := Lib.hid hq
    by_cases hlt : j < 13
    · obtain ⟨y, hy⟩ : ∃ y, wordsL[j]? = some y := ⟨_, List.getElem?_eq_getElem hlt⟩
      have k0 : wr.cell? ⟨w5.heap.size + 1, j, none⟩ = some (strV y) := (B.cell j).trans (by rw [words_get, hy]; rfl)
      have cw := fun W => Word_any y W
      rw [show wordsL.contains y = true by rw [List.contains_iff_mem]; exact List.mem_of_getElem? hy] at cw
      replace cw := Lib.hid cw
      have hjI : (j : Int) < 13 := by omega
      by_cases h0 : j = 0
      · have g : decide (0 < (j : Int)) = false := by rw [decide_eq_false_iff_not]; omega
        have g' : decide (0 < j) = false := by rw [decide_eq_false_iff_not]; omega
        clear hy h0
        go_wp2_with fail
        refine (cw.out _).mono ?_
        rintro e1 w8 ⟨rfl, hb8⟩
        have z8 := hb8.size
        go_wp2
        go_roundg (13 - (j + 1))
        case measure => rw [hq.out]; omega
        case rel => exact ⟨j + 1, by omega, rfl, by go_num, hbr.trans (hb8.mono hbr.size), by omega, B.below hb8 hzr⟩
      · obtain ⟨i, rfl⟩ : ∃ i, j = i + 1 := ⟨j - 1, by omega⟩
        obtain ⟨x, hx⟩ : ∃ x, wordsL[i]? = some x := ⟨_, List.getElem?_eq_getElem (by show i < 13; omega)⟩
        have hwx : wordsA[i]? = some (strV x) := by rw [words_get, hx]; rfl
        have hlt2 := words_rise i (by omega) x y hx hy
        clear hy h0 hx
        go_wp2_with fail
        refine (cw.out _).mono ?_
        rintro e1 w8 ⟨rfl, hb8⟩
        have z8 := hb8.size
        go_wp2_with fail
        refine (Words_any _).mono ?_
        rintro e1 w9 ⟨t9, rfl, rfl⟩
        go_wp2
        go_roundg (13 - (i + 1 + 1))
        case measure => rw [hq.out]; omega
        case rel => exact ⟨i + 1 + 1, by omega, rfl, by go_num, (hbr.trans (hb8.mono hbr.size)).alloc (by have := hbr.size; omega) _, by simp; omega, (B.below hb8 hzr).alloc _⟩
    · have hjI : (13 : Int) ≤ j := by omega
      go_wp2
      go_ret
      exact ⟨rfl, hbr⟩

end Lx
end Go.Proofs.Ytbcgcpcjepigeaa
