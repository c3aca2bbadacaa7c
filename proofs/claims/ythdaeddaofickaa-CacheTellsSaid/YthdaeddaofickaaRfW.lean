/- The walk of slotref7.Ins. The walk of slotref7.Wrong. -/
import Derived.Test.YthdaeddaofickaaVmW
import Derived.Test.YthdaeddaofickaaRfV
import Derived.Test.YthdaeddaofickaaVmY
namespace Go.Proofs.Ythdaeddaofickaa
open Go.RowKit
namespace Vm
open Msk Sl

/-- the last end, as the document's text keeps it -/
def lastI (l : List (Int × Int)) (j : Nat) : Int := (lastEnd l j).getD (-1)
theorem lastI_bad {l : List (Int × Int)} {j : Nat} {x : Int × Int} (h : -1 ≤ lastI l j) : spanBad (lastEnd l j) x ↔ x.1 ≤ lastI l j ∨ x.2 ≤ x.1 ∨ 1440 < x.2 := by
  unfold spanBad lastI at *
  cases e : lastEnd l j with
  | none => rw [e] at h; simp; omega
  | some b =>
    rw [e] at h
    simp only [Option.getD_some, Option.some.injEq, exists_eq_left'] at h ⊢
    omega
theorem lastI_next {l : List (Int × Int)} {j : Nat} {x : Int × Int} (h : l[j]? = some x) : lastI l (j + 1) = x.2 := by
  unfold lastI lastEnd
  rw [if_neg (by omega), Nat.add_sub_cancel, h]
  rfl

set_option maxRecDepth 100000 in
set_option maxHeartbeats 4000000 in
theorem refIns_spans (a bb to : Int) (u : Value) (l : List (Int × Int)) (at' n rules : Nat) (w : World) (hl : SpansV w w.heap.size u l) :
    Calls Try.prog 37 #[.agg #[.int .i64 1, .int .i64 a, .int .i64 bb, .int .i64 to, u], .int .i64 at', .int .i64 n, .int .i64 rules] w fun e w' => e = .returned (.int .i64 (spansErr none l)) ∧ Below w.heap.size w w' := by
  obtain ⟨A, cap, rfl, hlen, hc⟩ := hl
  replace hc := Lib.hid hc
  go_enter Try.func37, Try.ntmps37
  go_wp2
  go_loopg [9, 19] l.length (fun n s9 k wr => ∃ j : Nat, j ≤ l.length ∧ n = l.length - j ∧ s9 = .int .i64 (lastI l j) ∧ k = .int .i64 j ∧ Below w.heap.size w wr ∧ -1 ≤ lastI l j ∧ spansErr (lastEnd l j) (l.drop j) = spansErr none l)
  case atStart => exact ⟨0, by omega, rfl, rfl, rfl, (by repeat (first | exact Below.refl _ _ | assumption | refine Below.n _ ?_ (by first | omega | (simp; done) | (simp; omega)) | refine Below.alloc ?_ (by first | omega | (simp; done) | (simp; omega)) _ | refine Below.setCell ?_ (by first | omega | (simp; done) | (simp; omega)) _ | refine Below.drew ?_ | refine Below.setRow ?_ (by first | omega | (simp; done) | (simp; omega)) _ | refine Below.drewN ?_ _)), by simp [lastI, lastEnd], rfl⟩
  case round =>
    obtain ⟨j, hj, hn, rfl, rfl, hbw, hla, hal⟩ := hrel
    replace hn := Lib.hid hn
    by_cases hlt : j < l.length
    · obtain ⟨x, hx⟩ : ∃ x, l[j]? = some x := ⟨_, List.getElem?_eq_getElem hlt⟩
      obtain ⟨b1, o1, rfl, hl1, c1, c1'⟩ := hc.out j x hx
      have d1 : wr.cell? ⟨b1, o1 + j * 2, none⟩ = some (.int .i64 x.1) := (hbw.cell (p := ⟨b1, _, none⟩) hl1).trans c1
      have d1' : wr.cell? ⟨b1, o1 + j * 2 + 1, none⟩ = some (.int .i64 x.2) := (hbw.cell (p := ⟨b1, _, none⟩) hl1).trans c1'
      have z := hbw.size
      have z1 : b1 < wr.heap.size := by omega
      have hst := spansErr_at hx
      have hbad := lastI_bad (x := x) hla
      have hnx := Lib.hid (lastI_next hx)
      rw [hal] at hst
      generalize lastI l j = la at *
      clear hx
      by_cases hb : spanBad (lastEnd l j) x
      · rw [if_pos hb] at hst
        have hst := Lib.hid hst
        rw [hbad] at hb
        clear hbad
        rcases dec (x.1 ≤ la) with ⟨q1, h1⟩ | ⟨q1, h1⟩
        · clear hb h1
          go_wp2
          go_ret
          exact ⟨ret_int hst.out.symm, (by repeat (first | exact Below.refl _ _ | assumption | refine Below.n _ ?_ (by first | omega | (simp; done) | (simp; omega)) | refine Below.alloc ?_ (by first | omega | (simp; done) | (simp; omega)) _ | refine Below.setCell ?_ (by first | omega | (simp; done) | (simp; omega)) _ | refine Below.drew ?_ | refine Below.setRow ?_ (by first | omega | (simp; done) | (simp; omega)) _ | refine Below.drewN ?_ _))⟩
        · rcases dec (x.2 ≤ x.1) with ⟨q2, h2⟩ | ⟨q2, h2⟩
          · clear hb h1 h2
            go_wp2
            go_ret
            exact ⟨ret_int hst.out.symm, (by repeat (first | exact Below.refl _ _ | assumption | refine Below.n _ ?_ (by first | omega | (simp; done) | (simp; omega)) | refine Below.alloc ?_ (by first | omega | (simp; done) | (simp; omega)) _ | refine Below.setCell ?_ (by first | omega | (simp; done) | (simp; omega)) _ | refine Below.drew ?_ | refine Below.setRow ?_ (by first | omega | (simp; done) | (simp; omega)) _ | refine Below.drewN ?_ _))⟩
          · have q3 : decide (1440 < x.2) = true := by simp; omega
            clear hb h1 h2
            go_wp2
            go_ret
            exact ⟨ret_int hst.out.symm, (by repeat (first | exact Below.refl _ _ | assumption | refine Below.n _ ?_ (by first | omega | (simp; done) | (simp; omega)) | refine Below.alloc ?_ (by first | omega | (simp; done) | (simp; omega)) _ | refine Below.setCell ?_ (by first | omega | (simp; done) | (simp; omega)) _ | refine Below.drew ?_ | refine Below.setRow ?_ (by first | omega | (simp; done) | (simp; omega)) _ | refine Below.drewN ?_ _))⟩
      · rw [if_neg hb] at hst
        have hst := Lib.hid hst
        rw [hbad] at hb
        clear hbad
        have q1 : decide (x.1 ≤ la) = false := by simp; omega
        have q2 : decide (x.2 ≤ x.1) = false := by simp; omega
        have q3 : decide (1440 < x.2) = false := by simp; omega
        have hx2 : -1 ≤ x.2 := by omega
        clear hb
        go_wp2
        go_roundg (l.length - (j + 1))
        case measure => rw [hn.out]; omega
        case rel => exact ⟨j + 1, by omega, rfl, by rw [hnx.out], by go_num, (by repeat (first | exact Below.refl _ _ | assumption | refine Below.n _ ?_ (by first | omega | (simp; done) | (simp; omega)) | refine Below.alloc ?_ (by first | omega | (simp; done) | (simp; omega)) _ | refine Below.setCell ?_ (by first | omega | (simp; done) | (simp; omega)) _ | refine Below.drew ?_ | refine Below.setRow ?_ (by first | omega | (simp; done) | (simp; omega)) _ | refine Below.drewN ?_ _)), by rw [hnx.out]; exact hx2, hst.out.symm⟩
    · obtain rfl : j = l.length := by omega
      have e := Lib.hid (show spansErr none l = 0 by rw [← hal, List.drop_length]; rfl)
      go_wp2
      go_ret
      exact ⟨ret_int e.out.symm, (by repeat (first | exact Below.refl _ _ | assumption | refine Below.n _ ?_ (by first | omega | (simp; done) | (simp; omega)) | refine Below.alloc ?_ (by first | omega | (simp; done) | (simp; omega)) _ | refine Below.setCell ?_ (by first | omega | (simp; done) | (simp; omega)) _ | refine Below.drew ?_ | refine Below.setRow ?_ (by first | omega | (simp; done) | (simp; omega)) _ | refine Below.drewN ?_ _))⟩

set_option maxHeartbeats 4000000 in
theorem refIns_2 (a bb to : Int) (u : Value) (at' n rules : Nat) (w : World) :
    Calls Try.prog 37 #[.agg #[.int .i64 2, .int .i64 a, .int .i64 bb, .int .i64 to, u], .int .i64 at', .int .i64 n, .int .i64 rules] w fun e w' => e = .returned (.int .i64 0) ∧ Below w.heap.size w w' := by
  go_enter Try.func37, Try.ntmps37
  go_wp2
  go_ret
  exact ⟨rfl, (by repeat (first | exact Below.refl _ _ | assumption | refine Below.n _ ?_ (by first | omega | (simp; done) | (simp; omega)) | refine Below.alloc ?_ (by first | omega | (simp; done) | (simp; omega)) _ | refine Below.setCell ?_ (by first | omega | (simp; done) | (simp; omega)) _ | refine Below.drew ?_ | refine Below.setRow ?_ (by first | omega | (simp; done) | (simp; omega)) _ | refine Below.drewN ?_ _))⟩
set_option maxHeartbeats 4000000 in
theorem refIns_3 (a bb to : Int) (u : Value) (at' n rules : Nat) (w : World) :
    Calls Try.prog 37 #[.agg #[.int .i64 3, .int .i64 a, .int .i64 bb, .int .i64 to, u], .int .i64 at', .int .i64 n, .int .i64 rules] w fun e w' => e = .returned (.int .i64 0) ∧ Below w.heap.size w w' := by
  go_enter Try.func37, Try.ntmps37
  go_wp2
  go_ret
  exact ⟨rfl, (by repeat (first | exact Below.refl _ _ | assumption | refine Below.n _ ?_ (by first | omega | (simp; done) | (simp; omega)) | refine Below.alloc ?_ (by first | omega | (simp; done) | (simp; omega)) _ | refine Below.setCell ?_ (by first | omega | (simp; done) | (simp; omega)) _ | refine Below.drew ?_ | refine Below.setRow ?_ (by first | omega | (simp; done) | (simp; omega)) _ | refine Below.drewN ?_ _))⟩
set_option maxHeartbeats 4000000 in
theorem refIns_4 (a bb to : Int) (u : Value) (at' n rules : Nat) (w : World) :
    Calls Try.prog 37 #[.agg #[.int .i64 4, .int .i64 a, .int .i64 bb, .int .i64 to, u], .int .i64 at', .int .i64 n, .int .i64 rules] w fun e w' => e = .returned (.int .i64 0) ∧ Below w.heap.size w w' := by
  go_enter Try.func37, Try.ntmps37
  go_wp2
  go_ret
  exact ⟨rfl, (by repeat (first | exact Below.refl _ _ | assumption | refine Below.n _ ?_ (by first | omega | (simp; done) | (simp; omega)) | refine Below.alloc ?_ (by first | omega | (simp; done) | (simp; omega)) _ | refine Below.setCell ?_ (by first | omega | (simp; done) | (simp; omega)) _ | refine Below.drew ?_ | refine Below.setRow ?_ (by first | omega | (simp; done) | (simp; omega)) _ | refine Below.drewN ?_ _))⟩

set_option maxHeartbeats 4000000 in
theorem refIns_any (x : Ins) (u : Value) (at' n rules : Nat) (w : World) (hu : SpansV w w.heap.size u x.sp) (hat : at' < 4000000000000000000) :
    Calls Try.prog 37 #[.agg #[.int .i64 x.op, .int .i64 x.a, .int .i64 x.b, .int .i64 x.to, u], .int .i64 at', .int .i64 n, .int .i64 rules] w fun e w' => e = .returned (.int .i64 (insErr rules n at' x)) ∧ Below w.heap.size w w' := by
  obtain ⟨op, a, bb, to, sp⟩ := x
  simp only at hu ⊢
  by_cases e1 : op = 1
  · subst e1
    have : insErr rules n at' ⟨1, a, bb, to, sp⟩ = spansErr none sp := by simp [insErr]
    rw [this]
    exact refIns_spans a bb to u sp at' n rules w hu
  have b1 : (op == 1) = false := by simpa using e1
  by_cases e2 : op = 2 ∨ op = 3 ∨ op = 4
  · have : insErr rules n at' ⟨op, a, bb, to, sp⟩ = 0 := by
      simp only [insErr]
      rw [if_neg e1, if_pos e2]
    rw [this]
    rcases e2 with rfl | rfl | rfl
    · exact refIns_2 a bb to u at' n rules w
    · exact refIns_3 a bb to u at' n rules w
    · exact refIns_4 a bb to u at' n rules w
  have b2 : (op == 2) = false := by simp; omega
  have b3 : (op == 3) = false := by simp; omega
  have b4 : (op == 4) = false := by simp; omega
  clear hu
  by_cases e5 : op = 5
  · subst e5
    have hins : insErr rules n at' ⟨5, a, bb, to, sp⟩ = if a = 0 ∨ a ≤ -1440 ∨ 1440 ≤ a then 3 else 0 := by simp [insErr]
    clear b1 b2 b3 b4 e1 e2
    rcases dec (a = 0) with ⟨q1, q⟩ | ⟨q1, q⟩
    · replace q1 : (a == 0) = true := by simpa using q
      rw [if_pos (.inl q)] at hins
      replace hins := Lib.hid hins
      clear q
      go_enter Try.func37, Try.ntmps37
      go_wp2
      go_ret
      exact ⟨ret_int hins.out.symm, (by repeat (first | exact Below.refl _ _ | assumption | refine Below.n _ ?_ (by first | omega | (simp; done) | (simp; omega)) | refine Below.alloc ?_ (by first | omega | (simp; done) | (simp; omega)) _ | refine Below.setCell ?_ (by first | omega | (simp; done) | (simp; omega)) _ | refine Below.drew ?_ | refine Below.setRow ?_ (by first | omega | (simp; done) | (simp; omega)) _ | refine Below.drewN ?_ _))⟩
    · replace q1 : (a == 0) = false := by simpa using q
      rcases dec (a < -1439) with ⟨q2, h⟩ | ⟨q2, h⟩
      · rw [if_pos (by omega)] at hins
        replace hins := Lib.hid hins
        clear q h
        go_enter Try.func37, Try.ntmps37
        go_wp2
        go_ret
        exact ⟨ret_int hins.out.symm, (by repeat (first | exact Below.refl _ _ | assumption | refine Below.n _ ?_ (by first | omega | (simp; done) | (simp; omega)) | refine Below.alloc ?_ (by first | omega | (simp; done) | (simp; omega)) _ | refine Below.setCell ?_ (by first | omega | (simp; done) | (simp; omega)) _ | refine Below.drew ?_ | refine Below.setRow ?_ (by first | omega | (simp; done) | (simp; omega)) _ | refine Below.drewN ?_ _))⟩
      · rcases dec (1439 < a) with ⟨q3, h'⟩ | ⟨q3, h'⟩
        · rw [if_pos (by omega)] at hins
          replace hins := Lib.hid hins
          clear q h h'
          go_enter Try.func37, Try.ntmps37
          go_wp2
          go_ret
          exact ⟨ret_int hins.out.symm, (by repeat (first | exact Below.refl _ _ | assumption | refine Below.n _ ?_ (by first | omega | (simp; done) | (simp; omega)) | refine Below.alloc ?_ (by first | omega | (simp; done) | (simp; omega)) _ | refine Below.setCell ?_ (by first | omega | (simp; done) | (simp; omega)) _ | refine Below.drew ?_ | refine Below.setRow ?_ (by first | omega | (simp; done) | (simp; omega)) _ | refine Below.drewN ?_ _))⟩
        · rw [if_neg (by omega)] at hins
          replace hins := Lib.hid hins
          clear q h h'
          go_enter Try.func37, Try.ntmps37
          go_wp2
          go_ret
          exact ⟨ret_int hins.out.symm, (by repeat (first | exact Below.refl _ _ | assumption | refine Below.n _ ?_ (by first | omega | (simp; done) | (simp; omega)) | refine Below.alloc ?_ (by first | omega | (simp; done) | (simp; omega)) _ | refine Below.setCell ?_ (by first | omega | (simp; done) | (simp; omega)) _ | refine Below.drew ?_ | refine Below.setRow ?_ (by first | omega | (simp; done) | (simp; omega)) _ | refine Below.drewN ?_ _))⟩
  have b5 : (op == 5) = false := by simpa using e5
  by_cases e6 : op = 6 ∨ op = 7
  · have hins : insErr rules n at' ⟨op, a, bb, to, sp⟩ = if to ≤ at' + 1 ∨ n < to then 8 else if op = 6 ∧ (a < 1 ∨ 127 < a) ∨ op = 7 ∧ (a < 0 ∨ 146097 ≤ bb ∨ bb < a) then 3 else 0 := by
      simp only [insErr]
      rw [if_neg e1, if_neg e2, if_neg e5, if_pos e6]
    clear b1 b2 b3 b4 b5 e1 e2 e5
    rcases dec (to < (at' : Int) + 2) with ⟨q1, h⟩ | ⟨q1, h⟩
    · rw [if_pos (by omega)] at hins
      replace hins := Lib.hid hins
      clear h
      rcases e6 with rfl | rfl
      all_goals
        go_enter Try.func37, Try.ntmps37
        go_wp2
        go_ret
        exact ⟨ret_int hins.out.symm, (by repeat (first | exact Below.refl _ _ | assumption | refine Below.n _ ?_ (by first | omega | (simp; done) | (simp; omega)) | refine Below.alloc ?_ (by first | omega | (simp; done) | (simp; omega)) _ | refine Below.setCell ?_ (by first | omega | (simp; done) | (simp; omega)) _ | refine Below.drew ?_ | refine Below.setRow ?_ (by first | omega | (simp; done) | (simp; omega)) _ | refine Below.drewN ?_ _))⟩
    · rcases dec ((n : Int) < to) with ⟨q2, h'⟩ | ⟨q2, h'⟩
      · rw [if_pos (by omega)] at hins
        replace hins := Lib.hid hins
        clear h h'
        rcases e6 with rfl | rfl
        all_goals
          go_enter Try.func37, Try.ntmps37
          go_wp2
          go_ret
          exact ⟨ret_int hins.out.symm, (by repeat (first | exact Below.refl _ _ | assumption | refine Below.n _ ?_ (by first | omega | (simp; done) | (simp; omega)) | refine Below.alloc ?_ (by first | omega | (simp; done) | (simp; omega)) _ | refine Below.setCell ?_ (by first | omega | (simp; done) | (simp; omega)) _ | refine Below.drew ?_ | refine Below.setRow ?_ (by first | omega | (simp; done) | (simp; omega)) _ | refine Below.drewN ?_ _))⟩
      · rw [if_neg (by omega)] at hins
        clear h h'
        rcases e6 with rfl | rfl
        · rcases dec (a < 1) with ⟨q3, h⟩ | ⟨q3, h⟩
          · rw [if_pos (by omega)] at hins
            replace hins := Lib.hid hins
            clear h
            go_enter Try.func37, Try.ntmps37
            go_wp2
            go_ret
            exact ⟨ret_int hins.out.symm, (by repeat (first | exact Below.refl _ _ | assumption | refine Below.n _ ?_ (by first | omega | (simp; done) | (simp; omega)) | refine Below.alloc ?_ (by first | omega | (simp; done) | (simp; omega)) _ | refine Below.setCell ?_ (by first | omega | (simp; done) | (simp; omega)) _ | refine Below.drew ?_ | refine Below.setRow ?_ (by first | omega | (simp; done) | (simp; omega)) _ | refine Below.drewN ?_ _))⟩
          · rcases dec (127 < a) with ⟨q4, h'⟩ | ⟨q4, h'⟩
            · rw [if_pos (by omega)] at hins
              replace hins := Lib.hid hins
              clear h h'
              go_enter Try.func37, Try.ntmps37
              go_wp2
              go_ret
              exact ⟨ret_int hins.out.symm, (by repeat (first | exact Below.refl _ _ | assumption | refine Below.n _ ?_ (by first | omega | (simp; done) | (simp; omega)) | refine Below.alloc ?_ (by first | omega | (simp; done) | (simp; omega)) _ | refine Below.setCell ?_ (by first | omega | (simp; done) | (simp; omega)) _ | refine Below.drew ?_ | refine Below.setRow ?_ (by first | omega | (simp; done) | (simp; omega)) _ | refine Below.drewN ?_ _))⟩
            · rw [if_neg (by omega)] at hins
              replace hins := Lib.hid hins
              clear h h'
              go_enter Try.func37, Try.ntmps37
              go_wp2
              go_ret
              exact ⟨ret_int hins.out.symm, (by repeat (first | exact Below.refl _ _ | assumption | refine Below.n _ ?_ (by first | omega | (simp; done) | (simp; omega)) | refine Below.alloc ?_ (by first | omega | (simp; done) | (simp; omega)) _ | refine Below.setCell ?_ (by first | omega | (simp; done) | (simp; omega)) _ | refine Below.drew ?_ | refine Below.setRow ?_ (by first | omega | (simp; done) | (simp; omega)) _ | refine Below.drewN ?_ _))⟩
        · rcases dec (a < 0) with ⟨q3, h⟩ | ⟨q3, h⟩
          · rw [if_pos (by omega)] at hins
            replace hins := Lib.hid hins
            clear h
            go_enter Try.func37, Try.ntmps37
            go_wp2
            go_ret
            exact ⟨ret_int hins.out.symm, (by repeat (first | exact Below.refl _ _ | assumption | refine Below.n _ ?_ (by first | omega | (simp; done) | (simp; omega)) | refine Below.alloc ?_ (by first | omega | (simp; done) | (simp; omega)) _ | refine Below.setCell ?_ (by first | omega | (simp; done) | (simp; omega)) _ | refine Below.drew ?_ | refine Below.setRow ?_ (by first | omega | (simp; done) | (simp; omega)) _ | refine Below.drewN ?_ _))⟩
          · rcases dec (bb < a) with ⟨q4, h'⟩ | ⟨q4, h'⟩
            · rw [if_pos (by omega)] at hins
              replace hins := Lib.hid hins
              clear h h'
              go_enter Try.func37, Try.ntmps37
              go_wp2
              go_ret
              exact ⟨ret_int hins.out.symm, (by repeat (first | exact Below.refl _ _ | assumption | refine Below.n _ ?_ (by first | omega | (simp; done) | (simp; omega)) | refine Below.alloc ?_ (by first | omega | (simp; done) | (simp; omega)) _ | refine Below.setCell ?_ (by first | omega | (simp; done) | (simp; omega)) _ | refine Below.drew ?_ | refine Below.setRow ?_ (by first | omega | (simp; done) | (simp; omega)) _ | refine Below.drewN ?_ _))⟩
            · rcases dec (146097 ≤ bb) with ⟨q5, h5⟩ | ⟨q5, h5⟩
              · rw [if_pos (by omega)] at hins
                replace hins := Lib.hid hins
                clear h h' h5
                go_enter Try.func37, Try.ntmps37
                go_wp2
                go_ret
                exact ⟨ret_int hins.out.symm, (by repeat (first | exact Below.refl _ _ | assumption | refine Below.n _ ?_ (by first | omega | (simp; done) | (simp; omega)) | refine Below.alloc ?_ (by first | omega | (simp; done) | (simp; omega)) _ | refine Below.setCell ?_ (by first | omega | (simp; done) | (simp; omega)) _ | refine Below.drew ?_ | refine Below.setRow ?_ (by first | omega | (simp; done) | (simp; omega)) _ | refine Below.drewN ?_ _))⟩
              · rw [if_neg (by omega)] at hins
                replace hins := Lib.hid hins
                clear h h' h5
                go_enter Try.func37, Try.ntmps37
                go_wp2
                go_ret
                exact ⟨ret_int hins.out.symm, (by repeat (first | exact Below.refl _ _ | assumption | refine Below.n _ ?_ (by first | omega | (simp; done) | (simp; omega)) | refine Below.alloc ?_ (by first | omega | (simp; done) | (simp; omega)) _ | refine Below.setCell ?_ (by first | omega | (simp; done) | (simp; omega)) _ | refine Below.drew ?_ | refine Below.setRow ?_ (by first | omega | (simp; done) | (simp; omega)) _ | refine Below.drewN ?_ _))⟩
  have b6 : (op == 6) = false := by simp; omega
  have b7 : (op == 7) = false := by simp; omega
  by_cases e8 : op = 8
  · subst e8
    have hins : insErr rules n at' ⟨8, a, bb, to, sp⟩ = if a < 0 ∨ rules ≤ a then 6 else 0 := by simp [insErr]
    clear b1 b2 b3 b4 b5 b6 b7 e1 e2 e5 e6
    rcases dec (a < 0) with ⟨q1, h⟩ | ⟨q1, h⟩
    · rw [if_pos (by omega)] at hins
      replace hins := Lib.hid hins
      clear h
      go_enter Try.func37, Try.ntmps37
      go_wp2
      go_ret
      exact ⟨ret_int hins.out.symm, (by repeat (first | exact Below.refl _ _ | assumption | refine Below.n _ ?_ (by first | omega | (simp; done) | (simp; omega)) | refine Below.alloc ?_ (by first | omega | (simp; done) | (simp; omega)) _ | refine Below.setCell ?_ (by first | omega | (simp; done) | (simp; omega)) _ | refine Below.drew ?_ | refine Below.setRow ?_ (by first | omega | (simp; done) | (simp; omega)) _ | refine Below.drewN ?_ _))⟩
    · rcases dec ((rules : Int) ≤ a) with ⟨q2, h'⟩ | ⟨q2, h'⟩
      · rw [if_pos (by omega)] at hins
        replace hins := Lib.hid hins
        clear h h'
        go_enter Try.func37, Try.ntmps37
        go_wp2
        go_ret
        exact ⟨ret_int hins.out.symm, (by repeat (first | exact Below.refl _ _ | assumption | refine Below.n _ ?_ (by first | omega | (simp; done) | (simp; omega)) | refine Below.alloc ?_ (by first | omega | (simp; done) | (simp; omega)) _ | refine Below.setCell ?_ (by first | omega | (simp; done) | (simp; omega)) _ | refine Below.drew ?_ | refine Below.setRow ?_ (by first | omega | (simp; done) | (simp; omega)) _ | refine Below.drewN ?_ _))⟩
      · rw [if_neg (by omega)] at hins
        replace hins := Lib.hid hins
        clear h h'
        go_enter Try.func37, Try.ntmps37
        go_wp2
        go_ret
        exact ⟨ret_int hins.out.symm, (by repeat (first | exact Below.refl _ _ | assumption | refine Below.n _ ?_ (by first | omega | (simp; done) | (simp; omega)) | refine Below.alloc ?_ (by first | omega | (simp; done) | (simp; omega)) _ | refine Below.setCell ?_ (by first | omega | (simp; done) | (simp; omega)) _ | refine Below.drew ?_ | refine Below.setRow ?_ (by first | omega | (simp; done) | (simp; omega)) _ | refine Below.drewN ?_ _))⟩
  have b8 : (op == 8) = false := by simpa using e8
  have hins : insErr rules n at' ⟨op, a, bb, to, sp⟩ = 1 := by
    simp only [insErr]
    rw [if_neg e1, if_neg e2, if_neg e5, if_neg e6, if_neg e8]
  replace hins := Lib.hid hins
  clear e1 e2 e5 e6 e8
  go_enter Try.func37, Try.ntmps37
  go_wp2
  go_ret
  exact ⟨ret_int hins.out.symm, (by repeat (first | exact Below.refl _ _ | assumption | refine Below.n _ ?_ (by first | omega | (simp; done) | (simp; omega)) | refine Below.alloc ?_ (by first | omega | (simp; done) | (simp; omega)) _ | refine Below.setCell ?_ (by first | omega | (simp; done) | (simp; omega)) _ | refine Below.drew ?_ | refine Below.setRow ?_ (by first | omega | (simp; done) | (simp; omega)) _ | refine Below.drewN ?_ _))⟩

end Vm
end Go.Proofs.Ythdaeddaofickaa

namespace Go.Proofs.Ythdaeddaofickaa
open Go.RowKit
namespace Vm
open Msk Sl

set_option maxHeartbeats 1000000 in
theorem bad_any (e i : Int) (cb : Nat) (w : World) (hcb : w.cell? ⟨cb, 0, none⟩ = some (.int .i64 i)) (hlt : cb < w.heap.size) :
    Calls Try.prog 36 #[.int .i64 e, .pointer (some ⟨cb, 0, none⟩)] w fun x w' => x = .returned (faultV (e, i)) ∧ Below w.heap.size w w' := by
  go_enter Try.func36, Try.ntmps36
  go_wp2
  exact bodyPost_ret (v := faultV (e, i)) (by simp [results, Try.results36, go_sem, faultV]) rfl ⟨rfl, (by repeat (first | exact Below.refl _ _ | assumption | refine Below.n _ ?_ (by first | omega | (simp; done) | (simp; omega)) | refine Below.alloc ?_ (by first | omega | (simp; done) | (simp; omega)) _ | refine Below.setCell ?_ (by first | omega | (simp; done) | (simp; omega)) _ | refine Below.drew ?_ | refine Below.setRow ?_ (by first | omega | (simp; done) | (simp; omega)) _ | refine Below.drewN ?_ _))⟩

theorem fit_table {l : List Code} {i : Nat} {c : Code} (hN : ∀ c ∈ l, ∀ x ∈ c.ins, x.op = 8 → 0 ≤ x.a ∧ x.a < l.length) (hh : ∀ c : Code, c ∈ l → 1 ≤ c.high) (hx : ∀ k x, c.ins[k]? = some x → insErr l.length c.ins.length k x = 0) :
    fitErr l i c = if Wal.wal (callsB l) l.length i i = true then 9 else if usesL l c = (c.high, c.steps, true) then 0 else 8 := by
  have hN2 : ∀ k, ∀ x ∈ insOf l k, x.op = 8 → 0 ≤ x.a ∧ x.a < l.length := fun k x hx h8 => by
    unfold insOf at hx
    cases e : l[k.toNat]? with
    | none => rw [e] at hx; simp at hx
    | some c => rw [e] at hx; exact hN c (List.mem_of_getElem? e) x hx h8
  unfold fitErr
  rw [rings_table hN2 i]
  by_cases h : Wal.wal (callsB l) l.length i i = true
  · rw [if_pos h, if_pos h]
  · rw [if_neg h, if_neg h]
    by_cases h2 : usesL l c = (c.high, c.steps, true)
    · rw [if_pos h2, if_pos ((uses_stack hh hx _ _).1 h2)]
    · rw [if_neg h2, if_neg (fun e => h2 ((uses_stack hh hx _ _).2 e))]

set_option maxHeartbeats 4000000 in
theorem refWrong_many (codeV : Value) (l : List Code) (w : World) (hl : CodesV w w.heap.size codeV l) (h40 : 40 < l.length) :
    Calls Try.prog 16 #[codeV] w fun e w' => e = .returned (faultV (wrongL l)) ∧ Below w.heap.size w w' := by
  have e : wrongL l = (5, 0) := by unfold wrongL; rw [if_pos h40]
  rw [e]
  obtain ⟨A, cap, rfl, hlen, hc⟩ := hl
  clear hc
  have g : decide ((40 : Int) < (l.length : Int)) = true := by simp; omega
  clear h40
  go_enter Try.func16, Try.ntmps16
  go_wp2
  exact bodyPost_ret (v := faultV (5, 0)) (by simp [results, Try.results16, go_sem, faultV]) rfl ⟨rfl, (by repeat (first | exact Below.refl _ _ | assumption | refine Below.n _ ?_ (by first | omega | (simp; done) | (simp; omega)) | refine Below.alloc ?_ (by first | omega | (simp; done) | (simp; omega)) _ | refine Below.setCell ?_ (by first | omega | (simp; done) | (simp; omega)) _ | refine Below.drew ?_ | refine Below.setRow ?_ (by first | omega | (simp; done) | (simp; omega)) _ | refine Below.drewN ?_ _))⟩

set_option maxRecDepth 100000 in
set_option maxHeartbeats 16000000 in
theorem refWrong_few (codeV : Value) (l : List Code) (w : World) (hl : CodesV w w.heap.size codeV l) (h40 : l.length ≤ 40) :
    Calls Try.prog 16 #[codeV] w fun e w' => e = .returned (faultV (wrongL l)) ∧ Below w.heap.size w w' := by
  have hw : wrongL l = if (firstErr (fun _ => codeErr l.length) 0 l).1 = 0 then firstErr (fitErr l) 0 l else firstErr (fun _ => codeErr l.length) 0 l := by unfold wrongL; rw [if_neg (by omega)]
  have hl' := Lib.hid hl
  obtain ⟨A, cap, rfl, hlen, hc⟩ := hl
  replace hc := Lib.hid hc
  have g : decide ((40 : Int) < (l.length : Int)) = false := by simp; omega
  replace h40 := Lib.hid h40
  replace hw := Lib.hid hw
  go_enter Try.func16, Try.ntmps16
  go_wp2
  clear g
  go_loopg [21] l.length (fun n k wr => ∃ j : Nat, j ≤ l.length ∧ n = l.length - j ∧ k = .int .i64 j ∧ Hid (firstErr (fun _ => codeErr l.length) j (l.drop j) = firstErr (fun _ => codeErr l.length) 0 l) ∧ Below w.heap.size w wr ∧ Blk wr w.heap.size 31 #[.int .i64 0, .int .i64 0])
  case atStart => exact ⟨0, by omega, rfl, rfl, Lib.hid rfl, (by repeat (first | exact Below.refl _ _ | assumption | refine Below.n _ ?_ (by first | omega | (simp; done) | (simp; omega)) | refine Below.alloc ?_ (by first | omega | (simp; done) | (simp; omega)) _ | refine Below.setCell ?_ (by first | omega | (simp; done) | (simp; omega)) _ | refine Below.drew ?_ | refine Below.setRow ?_ (by first | omega | (simp; done) | (simp; omega)) _ | refine Below.drewN ?_ _)), Blk.new _ _ _⟩
  case round =>
    obtain ⟨j, hj, hn, rfl, hf, hb, B0⟩ := hrel
    replace hn := Lib.hid hn
    have zb := hb.size
    have zr := B0.lt
    by_cases hlt : j < l.length
    · obtain ⟨c, hx⟩ : ∃ c, l[j]? = some c := ⟨_, List.getElem?_eq_getElem hlt⟩
      obtain ⟨b, o, rfl, hbl, ⟨u, k0, hI⟩, k1, k2⟩ := hc.out j c hx
      obtain ⟨A1, cap1, rfl, hlen1, hc1⟩ := hI
      have d0 : wr.cell? ⟨b, o + j * 3, none⟩ = some (.slice A1 c.ins.length cap1) := (hb.cell (p := ⟨b, _, none⟩) hbl).trans k0
      have d1 : wr.cell? ⟨b, o + j * 3 + 1, none⟩ = some (.int .i64 c.high) := (hb.cell (p := ⟨b, _, none⟩) hbl).trans k1
      have d2 : wr.cell? ⟨b, o + j * 3 + 2, none⟩ = some (.int .i64 c.steps) := (hb.cell (p := ⟨b, _, none⟩) hbl).trans k2
      have hst := firstErr_at (fun _ => codeErr l.length) hx
      rw [hf.out] at hst
      have zbl : b < wr.heap.size := by omega
      replace hc1 := Lib.hid hc1
      clear k0 k1 k2 hx
      have hce : codeErr l.length c = if c.ins.length < 1 ∨ 2000 < c.ins.length then 5 else if c.high < 1 ∨ 100 < c.high ∨ c.steps < 1 ∨ 20000 < c.steps then 4 else (firstErr (insErr l.length c.ins.length) 0 c.ins).1 := rfl
      have BI : Blk ((wr.alloc (.cells #[.int .i64 (j : Nat)] 3)).alloc (.cells #[.slice A1 c.ins.length cap1, .int .i64 c.high, .int .i64 c.steps] 51)) wr.heap.size 3 #[.int .i64 (j : Nat)] := (Blk.new wr _ _).alloc _
      have BC : Blk ((wr.alloc (.cells #[.int .i64 (j : Nat)] 3)).alloc (.cells #[.slice A1 c.ins.length cap1, .int .i64 c.high, .int .i64 c.steps] 51)) (wr.heap.size + 1) 51 #[.slice A1 c.ins.length cap1, .int .i64 c.high, .int .i64 c.steps] := by
        have := Blk.new (wr.alloc (.cells #[.int .i64 (j : Nat)] 3)) 51 #[.slice A1 c.ins.length cap1, .int .i64 c.high, .int .i64 c.steps]
        simpa using this
      have B1 := (B0.alloc (.cells #[.int .i64 (j : Nat)] 3)).alloc (.cells #[.slice A1 c.ins.length cap1, .int .i64 c.high, .int .i64 c.steps] 51)
      by_cases c1 : c.ins.length < 1 ∨ 2000 < c.ins.length
      · rw [if_pos c1] at hce
        rw [hce, if_neg (by decide)] at hst
        have hz : wrongL l = (5, (j : Int)) := by rw [hw.out, if_neg (by rw [hst]; simp), hst]
        replace hz := Lib.hid hz
        clear hst
        have hq : ((c.ins.length : Int) == 0) = true ∨ ((c.ins.length : Int) == 0) = false ∧ decide (2000 < (c.ins.length : Int)) = true := by
          simp only [decide_eq_true_eq, beq_iff_eq, beq_eq_false_iff_ne]; omega
        clear c1 hce
        rcases hq with q1 | ⟨q1, q2⟩
        all_goals
          go_wp2_with fail
          refine (bad_any _ (j : Nat) wr.heap.size _ ((BI.cell 0).trans rfl) (by simp; omega)).mono ?_
          rintro e w1 ⟨rfl, hb1⟩
          obtain ⟨n1, rfl⟩ := After.of hb1
          have z1 := n1.size
          simp at z1
          have F0 := B1.after n1 (by simp; omega)
          have t0 : n1.w.frozen? ⟨w.heap.size, 0, none⟩ = false := F0.frozen 0
          have t1 : n1.w.frozen? ⟨w.heap.size, 1, none⟩ = false := F0.frozen 1
          have s0 : n1.w.cell? ⟨w.heap.size, 0, none⟩ = some (.int .i64 0) := F0.cell 0
          have s1 : n1.w.cell? ⟨w.heap.size, 1, none⟩ = some (.int .i64 0) := F0.cell 1
          unfold faultV
          go_wp2
          have E := (F0.set 0 (.int .i64 5)).set 1 (.int .i64 (j : Nat))
          have e0 := (E.cell 0).trans (show _ = some (Value.int .i64 5) from rfl)
          have e1 := (E.cell 1).trans (show _ = some (Value.int .i64 (j : Nat)) from rfl)
          exact bodyPost_ret (v := faultV (5, (j : Nat))) (by simp [results, Try.results16, e0, e1, go_sem, faultV]) rfl ⟨by rw [hz.out], (by repeat (first | exact Below.refl _ _ | assumption | refine Below.n _ ?_ (by first | omega | (simp; done) | (simp; omega)) | refine Below.alloc ?_ (by first | omega | (simp; done) | (simp; omega)) _ | refine Below.setCell ?_ (by first | omega | (simp; done) | (simp; omega)) _ | refine Below.drew ?_ | refine Below.setRow ?_ (by first | omega | (simp; done) | (simp; omega)) _ | refine Below.drewN ?_ _))⟩
      rw [if_neg c1] at hce
      have g1 : ((c.ins.length : Int) == 0) = false := by simp only [beq_eq_false_iff_ne]; omega
      have g2 : decide (2000 < (c.ins.length : Int)) = false := by simp; omega
      have hln : c.ins.length ≤ 2000 := by omega
      clear c1
      by_cases c2 : c.high < 1 ∨ 100 < c.high ∨ c.steps < 1 ∨ 20000 < c.steps
      · rw [if_pos c2] at hce
        rw [hce, if_neg (by decide)] at hst
        have hz : wrongL l = (4, (j : Int)) := by rw [hw.out, if_neg (by rw [hst]; simp), hst]
        replace hz := Lib.hid hz
        clear hst
        have hq : decide (c.high < 1) = true ∨ decide (c.high < 1) = false ∧ decide (100 < c.high) = true ∨ decide (c.high < 1) = false ∧ decide (100 < c.high) = false ∧ decide (c.steps < 1) = true ∨ decide (c.high < 1) = false ∧ decide (100 < c.high) = false ∧ decide (c.steps < 1) = false ∧ decide (20000 < c.steps) = true := by
          simp only [decide_eq_true_eq, decide_eq_false_iff_not]; omega
        clear c2 hce
        rcases hq with q1 | ⟨q1, q2⟩ | ⟨q1, q2, q3⟩ | ⟨q1, q2, q3, q4⟩
        all_goals
          go_wp2_with fail
          refine (bad_any _ (j : Nat) wr.heap.size _ ((BI.cell 0).trans rfl) (by simp; omega)).mono ?_
          rintro e w1 ⟨rfl, hb1⟩
          obtain ⟨n1, rfl⟩ := After.of hb1
          have z1 := n1.size
          simp at z1
          have F0 := B1.after n1 (by simp; omega)
          have t0 : n1.w.frozen? ⟨w.heap.size, 0, none⟩ = false := F0.frozen 0
          have t1 : n1.w.frozen? ⟨w.heap.size, 1, none⟩ = false := F0.frozen 1
          have s0 : n1.w.cell? ⟨w.heap.size, 0, none⟩ = some (.int .i64 0) := F0.cell 0
          have s1 : n1.w.cell? ⟨w.heap.size, 1, none⟩ = some (.int .i64 0) := F0.cell 1
          unfold faultV
          go_wp2
          have E := (F0.set 0 (.int .i64 4)).set 1 (.int .i64 (j : Nat))
          have e0 := (E.cell 0).trans (show _ = some (Value.int .i64 4) from rfl)
          have e1 := (E.cell 1).trans (show _ = some (Value.int .i64 (j : Nat)) from rfl)
          exact bodyPost_ret (v := faultV (4, (j : Nat))) (by simp [results, Try.results16, e0, e1, go_sem, faultV]) rfl ⟨by rw [hz.out], (by repeat (first | exact Below.refl _ _ | assumption | refine Below.n _ ?_ (by first | omega | (simp; done) | (simp; omega)) | refine Below.alloc ?_ (by first | omega | (simp; done) | (simp; omega)) _ | refine Below.setCell ?_ (by first | omega | (simp; done) | (simp; omega)) _ | refine Below.drew ?_ | refine Below.setRow ?_ (by first | omega | (simp; done) | (simp; omega)) _ | refine Below.drewN ?_ _))⟩
      rw [if_neg c2] at hce
      have g3 : decide (c.high < 1) = false := by simp; omega
      have g4 : decide (100 < c.high) = false := by simp; omega
      have g5 : decide (c.steps < 1) = false := by simp; omega
      have g6 : decide (20000 < c.steps) = false := by simp; omega
      clear c2
      replace hce := Lib.hid hce
      replace hst := Lib.hid hst
      go_wp2
      clear g1 g2 g3 g4 g5 g6
      obtain ⟨wo, rfl⟩ : ∃ wo : World, wo = wr := ⟨_, rfl⟩
      go_loopg [62] c.ins.length (fun n k wr => ∃ i : Nat, i ≤ c.ins.length ∧ n = c.ins.length - i ∧ k = .int .i64 i ∧ Hid (firstErr (insErr l.length c.ins.length) i (c.ins.drop i) = firstErr (insErr l.length c.ins.length) 0 c.ins) ∧ Below wo.heap.size wo wr ∧ Blk wr wo.heap.size 3 #[.int .i64 (j : Nat)] ∧ Blk wr (wo.heap.size + 1) 51 #[.slice A1 c.ins.length cap1, .int .i64 c.high, .int .i64 c.steps])
      case atStart => exact ⟨0, by omega, rfl, rfl, Lib.hid rfl, (by repeat (first | exact Below.refl _ _ | assumption | refine Below.n _ ?_ (by first | omega | (simp; done) | (simp; omega)) | refine Below.alloc ?_ (by first | omega | (simp; done) | (simp; omega)) _ | refine Below.setCell ?_ (by first | omega | (simp; done) | (simp; omega)) _ | refine Below.drew ?_ | refine Below.setRow ?_ (by first | omega | (simp; done) | (simp; omega)) _ | refine Below.drewN ?_ _)), BI, BC⟩
      case round =>
        clear BI BC B1
        obtain ⟨i, hi, hq, rfl, hfi, hbi, BI, BC⟩ := hrel
        replace hq := Lib.hid hq
        have zi := hbi.size
        have zc := BC.lt
        have Bi := B0.below hbi zr
        have hbw : Below w.heap.size w wr := hb.trans (hbi.mono zb)
        have e0' : wr.cell? ⟨wo.heap.size + 1, 0, none⟩ = some (.slice A1 c.ins.length cap1) := BC.cell 0
        by_cases hlt2 : i < c.ins.length
        · obtain ⟨x, hx⟩ : ∃ x, c.ins[i]? = some x := ⟨_, List.getElem?_eq_getElem hlt2⟩
          obtain ⟨b1, o1, rfl, hb1, hat⟩ := hc1.out i x hx
          have hsti := firstErr_at (insErr l.length c.ins.length) hx
          rw [hfi.out] at hsti
          obtain ⟨x0, x1, x2, x3, u4, x4, x5⟩ := hat.below hbw hb1 (Nat.le_refl _) (Nat.le_refl _)
          have hcI := Lib.hid (fun (W : World) (h : Below wr.heap.size wr W) => refIns_any x u4 i c.ins.length l.length W ((x5.below h (by omega)).more (by have := h.size; omega)) (by omega))
          have z1 : b1 < wr.heap.size := by omega
          obtain ⟨A4, cap4, rfl, _, _⟩ := x5
          clear hat hx
          obtain ⟨op, a, bb, to, sp⟩ := x
          simp only at x0 x1 x2 x3 x4 hcI
          have Bi2 := Bi.alloc (.cells #[.int .i64 op, .int .i64 a, .int .i64 bb, .int .i64 to, .slice A4 sp.length cap4] 72)
          have BI2 := BI.alloc (.cells #[.int .i64 op, .int .i64 a, .int .i64 bb, .int .i64 to, .slice A4 sp.length cap4] 72)
          have BC2 := BC.alloc (.cells #[.int .i64 op, .int .i64 a, .int .i64 bb, .int .i64 to, .slice A4 sp.length cap4] 72)
          have hbx : Below wr.heap.size wr (wr.alloc (.cells #[.int .i64 op, .int .i64 a, .int .i64 bb, .int .i64 to, .slice A4 sp.length cap4] 72)) := (by repeat (first | exact Below.refl _ _ | assumption | refine Below.n _ ?_ (by first | omega | (simp; done) | (simp; omega)) | refine Below.alloc ?_ (by first | omega | (simp; done) | (simp; omega)) _ | refine Below.setCell ?_ (by first | omega | (simp; done) | (simp; omega)) _ | refine Below.drew ?_ | refine Below.setRow ?_ (by first | omega | (simp; done) | (simp; omega)) _ | refine Below.drewN ?_ _))
          by_cases hz : insErr l.length c.ins.length i ⟨op, a, bb, to, sp⟩ = 0
          · rw [if_pos hz] at hsti
            replace hsti := Lib.hid hsti
            rw [hz] at hcI
            clear hz
            go_wp2_with fail
            refine (hcI.out _ hbx).mono ?_
            rintro e w4 ⟨rfl, hb4⟩
            have z4 := hb4.size
            simp at z4
            go_wp2
            go_roundg (c.ins.length - (i + 1))
            case measure => rw [hq.out]; omega
            case rel => exact ⟨i + 1, by omega, rfl, by go_num, Lib.hid hsti.out.symm, (hbi.trans ((hbx.trans (hb4.mono (by simp))).mono zi)), BI2.below hb4 (by simp; omega), BC2.below hb4 (by simp; omega)⟩
          · rw [if_neg hz] at hsti
            have hz2 : codeErr l.length c = insErr l.length c.ins.length i ⟨op, a, bb, to, sp⟩ := by rw [hce.out, hsti]
            have hz3 : wrongL l = (insErr l.length c.ins.length i ⟨op, a, bb, to, sp⟩, (j : Int)) := by
              have h3 := hst.out
              rw [hz2, if_neg hz] at h3
              rw [hw.out, if_neg (by rw [h3]; exact hz), h3]
            replace hz3 := Lib.hid hz3
            have gz : (insErr l.length c.ins.length i ⟨op, a, bb, to, sp⟩ != 0) = true := by simpa using hz
            generalize insErr l.length c.ins.length i ⟨op, a, bb, to, sp⟩ = er at *
            clear hz hz2 hsti
            go_wp2_with fail
            refine (hcI.out _ hbx).mono ?_
            rintro e w4 ⟨rfl, hb4⟩
            have z4 := hb4.size
            simp at z4
            have Bi4 := Bi2.below hb4 (by simp; omega)
            have BI4 := BI2.below hb4 (by simp; omega)
            have hbw4 : Below w.heap.size w w4 := hbw.trans ((hbx.trans (hb4.mono (by simp))).mono (by omega))
            go_wp2_with fail
            refine (bad_any _ (j : Nat) wo.heap.size _ ((BI4.cell 0).trans rfl) (by omega)).mono ?_
            rintro e w1 ⟨rfl, hb1⟩
            obtain ⟨n1, rfl⟩ := After.of hb1
            have z1 := n1.size
            have F0 := Bi4.after n1 (by omega)
            have t0 : n1.w.frozen? ⟨w.heap.size, 0, none⟩ = false := F0.frozen 0
            have t1 : n1.w.frozen? ⟨w.heap.size, 1, none⟩ = false := F0.frozen 1
            have s0 : n1.w.cell? ⟨w.heap.size, 0, none⟩ = some (.int .i64 0) := F0.cell 0
            have s1 : n1.w.cell? ⟨w.heap.size, 1, none⟩ = some (.int .i64 0) := F0.cell 1
            unfold faultV
            go_wp2
            have E := (F0.set 0 (.int .i64 er)).set 1 (.int .i64 (j : Nat))
            have e0 := (E.cell 0).trans (show _ = some (Value.int .i64 er) from rfl)
            have e1 := (E.cell 1).trans (show _ = some (Value.int .i64 (j : Nat)) from rfl)
            exact bodyPost_ret (v := faultV (er, (j : Nat))) (by simp [results, Try.results16, e0, e1, go_sem, faultV]) rfl ⟨by rw [hz3.out], (by repeat (first | exact Below.refl _ _ | assumption | refine Below.n _ ?_ (by first | omega | (simp; done) | (simp; omega)) | refine Below.alloc ?_ (by first | omega | (simp; done) | (simp; omega)) _ | refine Below.setCell ?_ (by first | omega | (simp; done) | (simp; omega)) _ | refine Below.drew ?_ | refine Below.setRow ?_ (by first | omega | (simp; done) | (simp; omega)) _ | refine Below.drewN ?_ _))⟩
        · obtain rfl : i = c.ins.length := by omega
          have hz0 : codeErr l.length c = 0 := by
            rw [hce.out, ← hfi.out, List.drop_length]; rfl
          have h3 := hst.out
          rw [hz0, if_pos rfl] at h3
          replace h3 := Lib.hid h3
          clear hz0
          go_wp2
          go_roundg (l.length - (j + 1))
          case measure => rw [hn.out]; omega
          case rel => exact ⟨j + 1, by omega, rfl, by go_num, Lib.hid h3.out.symm, hb.trans (hbi.mono zb), Bi⟩
    · obtain rfl : j = l.length := by omega
      have hf0 := hf.out
      rw [List.drop_length] at hf0
      have hz0 : (firstErr (fun _ => codeErr l.length) 0 l).1 = 0 := by rw [← hf0]; rfl
      have hw2 := Lib.hid (show wrongL l = firstErr (fitErr l) 0 l by rw [hw.out, if_pos hz0])
      have hall := Lib.hid (hcodes hz0)
      have hN := Lib.hid (show ∀ c ∈ l, ∀ x ∈ c.ins, x.op = 8 → 0 ≤ x.a ∧ x.a < l.length from fun c hc x hx h8 => by
        obtain ⟨k, hk⟩ := List.getElem?_of_mem hx
        have := ins_kinds ((hall.out c hc).2.2.2.2.2.2 k x hk)
        omega)
      have hR := Lib.hid (show ∀ c : Code, c ∈ l → 1 ≤ c.high ∧ c.high ≤ 100 ∧ 1 ≤ c.steps ∧ c.steps ≤ 20000 from fun c hc => by
        have := hall.out c hc
        omega)
      clear hf0 hz0 hw hf
      have hcw := Lib.hid (hl'.out.below hb (Nat.le_refl _) (show w.heap.size ≤ wr.heap.size by omega))
      go_wp2_with fail
      refine (refCalls_any _ l _ hcw.out hN.out h40.out).mono ?_
      rintro e w2 ⟨g, G, rfl, hg, hT, hb2⟩
      replace hT := Lib.hid hT
      have z2 := hb2.size
      have hbw2 : Below w.heap.size w w2 := hb.trans (hb2.mono zb)
      have B2 := B0.below hb2 zr
      go_wp2
      go_loopg [86] l.length (fun n k wr => ∃ i : Nat, i ≤ l.length ∧ n = l.length - i ∧ k = .int .i64 i ∧ Hid (firstErr (fitErr l) i (l.drop i) = firstErr (fitErr l) 0 l) ∧ Below w2.heap.size w2 wr)
      case atStart => exact ⟨0, by omega, rfl, rfl, Lib.hid rfl, Below.refl _ _⟩
      case round =>
        clear hcw
        obtain ⟨i, hi, hq, rfl, hfi, hbi⟩ := hrel
        replace hq := Lib.hid hq
        have zi := hbi.size
        have Bi := B2.below hbi (by omega)
        have hbw : Below w.heap.size w wr := hbw2.trans (hbi.mono (by omega))
        by_cases hlt2 : i < l.length
        · obtain ⟨c, hx⟩ : ∃ c, l[i]? = some c := ⟨_, List.getElem?_eq_getElem hlt2⟩
          obtain ⟨b, o, rfl, hbl, hat⟩ := hc.out i c hx
          have hcm := List.mem_of_getElem? hx
          have hsti := firstErr_at (fitErr l) hx
          rw [hfi.out] at hsti
          have hallc := hall.out c hcm
          have hfe := fit_table (i := i) hN.out (fun c hc => (hR.out c hc).1) hallc.2.2.2.2.2.2
          obtain ⟨⟨u, y0, hu⟩, y1, y2⟩ := hat.below hbw hbl (Nat.le_refl _) (Nat.le_refl _)
          have hT2 := hT.out.heap hbi (Nat.le_refl _)
          obtain ⟨r0, _⟩ := hT2.row hlt2
          obtain ⟨r1, _⟩ := hT2.at hlt2 hlt2
          have r2 := (hT2.lt.2 i hlt2)
          generalize G i = gi at *
          have zbl : b < wr.heap.size := by omega
          have hcU := Lib.hid (fun (W : World) (h : Below wr.heap.size wr W) => refUses_any (.slice (some ⟨b, o, none⟩) l.length cap) u l c W (hl'.out.below (hbw.trans (h.mono (by omega))) (Nat.le_refl _) (by have := h.size; omega)) (hu.below (hbw.trans (h.mono (by omega)) |> fun _ => h) (by omega) (by have := h.size; omega)) hallc.2.1 hallc.2.2.2.2.2.2 hR.out)
          obtain ⟨A1, cap1, rfl, _, _⟩ := hu
          have Bi2 := Bi.alloc (.cells #[.slice A1 c.ins.length cap1, .int .i64 c.high, .int .i64 c.steps] 51)
          have hbx : Below wr.heap.size wr (wr.alloc (.cells #[.slice A1 c.ins.length cap1, .int .i64 c.high, .int .i64 c.steps] 51)) := (by repeat (first | exact Below.refl _ _ | assumption | refine Below.n _ ?_ (by first | omega | (simp; done) | (simp; omega)) | refine Below.alloc ?_ (by first | omega | (simp; done) | (simp; omega)) _ | refine Below.setCell ?_ (by first | omega | (simp; done) | (simp; omega)) _ | refine Below.drew ?_ | refine Below.setRow ?_ (by first | omega | (simp; done) | (simp; omega)) _ | refine Below.drewN ?_ _))
          clear hx hcm hallc hat hT2
          cases hr : Wal.wal (callsB l) l.length i i with
          | true =>
            rw [hr] at r1 hfe
            rw [if_pos rfl] at hfe
            rw [hfe, if_neg (by decide)] at hsti
            have hz3 := Lib.hid (hw2.out.trans hsti)
            clear hsti hfe hr
            have t0 : wr.frozen? ⟨w.heap.size, 0, none⟩ = false := Bi.frozen 0
            have t1 : wr.frozen? ⟨w.heap.size, 1, none⟩ = false := Bi.frozen 1
            have s0 : wr.cell? ⟨w.heap.size, 0, none⟩ = some (.int .i64 0) := Bi.cell 0
            have s1 : wr.cell? ⟨w.heap.size, 1, none⟩ = some (.int .i64 0) := Bi.cell 1
            go_wp2
            have E := (Bi2.set 0 (.int .i64 9)).set 1 (.int .i64 (i : Nat))
            have e0 := (E.cell 0).trans (show _ = some (Value.int .i64 9) from rfl)
            have e1 := (E.cell 1).trans (show _ = some (Value.int .i64 (i : Nat)) from rfl)
            exact bodyPost_ret (v := faultV (9, (i : Nat))) (by simp [results, Try.results16, e0, e1, go_sem, faultV]) rfl ⟨by rw [hz3.out], (by repeat (first | exact Below.refl _ _ | assumption | refine Below.n _ ?_ (by first | omega | (simp; done) | (simp; omega)) | refine Below.alloc ?_ (by first | omega | (simp; done) | (simp; omega)) _ | refine Below.setCell ?_ (by first | omega | (simp; done) | (simp; omega)) _ | refine Below.drew ?_ | refine Below.setRow ?_ (by first | omega | (simp; done) | (simp; omega)) _ | refine Below.drewN ?_ _))⟩
          | false =>
            rw [hr] at r1 hfe
            rw [if_neg (by decide)] at hfe
            clear hr
            rcases hS : usesL l c with ⟨sa, sb, sc⟩
            rw [hS] at hcU hfe
            by_cases hg : (sa, sb, sc) = (c.high, c.steps, true)
            · rw [if_pos hg] at hfe
              rw [hfe, if_pos rfl] at hsti
              replace hsti := Lib.hid hsti
              simp only [Prod.mk.injEq] at hg
              obtain ⟨rfl, rfl, rfl⟩ := hg
              clear hfe hS
              go_wp2_with fail
              refine (hcU.out _ hbx).mono ?_
              rintro e w4 ⟨rfl, hb4⟩
              obtain ⟨n4, rfl⟩ := After.of hb4
              have z4 := n4.size
              simp at z4
              go_wp2
              go_roundg (l.length - (i + 1))
              case measure => rw [hq.out]; omega
              case rel => exact ⟨i + 1, by omega, rfl, by go_num, Lib.hid hsti.out.symm, hbi.trans ((hbx.trans (hb4.mono (by simp))).mono zi)⟩
            · rw [if_neg hg] at hfe
              rw [hfe, if_neg (by decide)] at hsti
              have hz3 := Lib.hid (hw2.out.trans hsti)
              have hcase : sc = false ∨ sc = true ∧ (sa != c.high) = true ∨ sc = true ∧ (sa != c.high) = false ∧ (sb != c.steps) = true := by
                cases sc with
                | false => exact .inl rfl
                | true =>
                  by_cases h1 : sa = c.high
                  · by_cases h2 : sb = c.steps
                    · exact absurd (by rw [h1, h2]) hg
                    · exact .inr (.inr ⟨rfl, by simpa using h1, by simpa using h2⟩)
                  · exact .inr (.inl ⟨rfl, by simpa using h1⟩)
              clear hsti hfe hS hg
              rcases hcase with rfl | ⟨rfl, q1⟩ | ⟨rfl, q1, q2⟩
              all_goals
                go_wp2_with fail
                refine (hcU.out _ hbx).mono ?_
                rintro e w4 ⟨rfl, hb4⟩
                have hbw4 : Below w.heap.size w w4 := hbw.trans ((hbx.trans (hb4.mono (by simp))).mono (by omega))
                obtain ⟨n4, rfl⟩ := After.of hb4
                have z4 := n4.size
                simp at z4
                have Bn := Bi2.after n4 (by simp; omega)
                have t0 : n4.w.frozen? ⟨w.heap.size, 0, none⟩ = false := Bn.frozen 0
                have t1 : n4.w.frozen? ⟨w.heap.size, 1, none⟩ = false := Bn.frozen 1
                have s0 : n4.w.cell? ⟨w.heap.size, 0, none⟩ = some (.int .i64 0) := Bn.cell 0
                have s1 : n4.w.cell? ⟨w.heap.size, 1, none⟩ = some (.int .i64 0) := Bn.cell 1
                go_wp2
                have E := (Bn.set 0 (.int .i64 8)).set 1 (.int .i64 (i : Nat))
                have e0 := (E.cell 0).trans (show _ = some (Value.int .i64 8) from rfl)
                have e1 := (E.cell 1).trans (show _ = some (Value.int .i64 (i : Nat)) from rfl)
                exact bodyPost_ret (v := faultV (8, (i : Nat))) (by simp [results, Try.results16, e0, e1, go_sem, faultV]) rfl ⟨by rw [hz3.out], (by repeat (first | exact Below.refl _ _ | assumption | refine Below.n _ ?_ (by first | omega | (simp; done) | (simp; omega)) | refine Below.alloc ?_ (by first | omega | (simp; done) | (simp; omega)) _ | refine Below.setCell ?_ (by first | omega | (simp; done) | (simp; omega)) _ | refine Below.drew ?_ | refine Below.setRow ?_ (by first | omega | (simp; done) | (simp; omega)) _ | refine Below.drewN ?_ _))⟩
        · obtain rfl : i = l.length := by omega
          have hfe := hfi.out
          rw [List.drop_length] at hfe
          have hz3 := Lib.hid (hw2.out.trans hfe.symm)
          have t0 : wr.frozen? ⟨w.heap.size, 0, none⟩ = false := Bi.frozen 0
          have t1 : wr.frozen? ⟨w.heap.size, 1, none⟩ = false := Bi.frozen 1
          have s0 : wr.cell? ⟨w.heap.size, 0, none⟩ = some (.int .i64 0) := Bi.cell 0
          have s1 : wr.cell? ⟨w.heap.size, 1, none⟩ = some (.int .i64 0) := Bi.cell 1
          clear hfe
          go_wp2
          have E := (Bi.set 0 (.int .i64 0)).set 1 (.int .i64 0)
          have e0 := (E.cell 0).trans (show _ = some (Value.int .i64 0) from rfl)
          have e1 := (E.cell 1).trans (show _ = some (Value.int .i64 0) from rfl)
          exact bodyPost_ret (v := faultV (0, 0)) (by simp [results, Try.results16, e0, e1, go_sem, faultV]) rfl ⟨by rw [hz3.out]; rfl, (by repeat (first | exact Below.refl _ _ | assumption | refine Below.n _ ?_ (by first | omega | (simp; done) | (simp; omega)) | refine Below.alloc ?_ (by first | omega | (simp; done) | (simp; omega)) _ | refine Below.setCell ?_ (by first | omega | (simp; done) | (simp; omega)) _ | refine Below.drew ?_ | refine Below.setRow ?_ (by first | omega | (simp; done) | (simp; omega)) _ | refine Below.drewN ?_ _))⟩

theorem refWrong_any (codeV : Value) (l : List Code) (w : World) (hl : CodesV w w.heap.size codeV l) :
    Calls Try.prog 16 #[codeV] w fun e w' => e = .returned (faultV (wrongL l)) ∧ Below w.heap.size w w' := by
  by_cases h : 40 < l.length
  · exact refWrong_many codeV l w hl h
  · exact refWrong_few codeV l w hl (by omega)

end Vm
end Go.Proofs.Ythdaeddaofickaa
