/- The walk of slotref7.Ins. -/
import Derived.Test.YthdaeddaofickaaVmW
namespace Go.Proofs.Ythdaeddaofickaa
open Go.RowKit
namespace Vm
open Msk Sl

/-- the last end, as the document's text keeps it -/
def lastI (l : List (Int × Int)) (j : Nat) : Int := (lastEnd l j).getD (-1)
theorem lastI_bad {l : List (Int × Int)} {j : Nat} {x : Int × Int} (h : -1 ≤ lastI l j) : spanBad (lastEnd l j) x ↔ x.1 ≤ lastI l j ∨ x.2 ≤ x.1 ∨ 1440 < x.2 := by
  unfold spanBad lastI at *
  cases e : lastEnd l j with
  | none => rw [e] at h; simp; omega
  | some b =>
    rw [e] at h
    simp only [Option.getD_some, Option.some.injEq, exists_eq_left'] at h ⊢
    omega
theorem lastI_next {l : List (Int × Int)} {j : Nat} {x : Int × Int} (h : l[j]? = some x) : lastI l (j + 1) = x.2 := by
  unfold lastI lastEnd
  rw [if_neg (by omega), Nat.add_sub_cancel, h]
  rfl

set_option maxRecDepth 100000 in
set_option maxHeartbeats 4000000 in
theorem refIns_spans (a bb to : Int) (u : Value) (l : List (Int × Int)) (at' n rules : Nat) (w : World) (hl : SpansV w w.heap.size u l) :
    Calls Try.prog 37 #[.agg #[.int .i64 1, .int .i64 a, .int .i64 bb, .int .i64 to, u], .int .i64 at', .int .i64 n, .int .i64 rules] w fun e w' => e = .returned (.int .i64 (spansErr none l)) ∧ Below w.heap.size w w' := by
  obtain ⟨A, cap, rfl, hlen, hc⟩ := hl
  replace hc := Lib.hid hc
  go_enter Try.func37, Try.ntmps37
  go_wp2
  go_loopg [9, 19] l.length (fun n s9 k wr => ∃ j : Nat, j ≤ l.length ∧ n = l.length - j ∧ s9 = .int .i64 (lastI l j) ∧ k = .int .i64 j ∧ Below w.heap.size w wr ∧ -1 ≤ lastI l j ∧ spansErr (lastEnd l j) (l.drop j) = spansErr none l)
  case atStart => exact ⟨0, by omega, rfl, rfl, rfl, (by repeat (first | exact Below.refl _ _ | assumption | refine Below.n _ ?_ (by first | omega | (simp; done) | (simp; omega)) | refine Below.alloc ?_ (by first | omega | (simp; done) | (simp; omega)) _ | refine Below.setCell ?_ (by first | omega | (simp; done) | (simp; omega)) _ | refine Below.drew ?_ | refine Below.setRow ?_ (by first | omega | (simp; done) | (simp; omega)) _ | refine Below.drewN ?_ _)), by simp [lastI, lastEnd], rfl⟩
  case round =>
    obtain ⟨j, hj, hn, rfl, rfl, hbw, hla, hal⟩ := hrel
    replace hn := Lib.hid hn
    by_cases hlt : j < l.length
    · obtain ⟨x, hx⟩ : ∃ x, l[j]? = some x := ⟨_, List.getElem?_eq_getElem hlt⟩
      obtain ⟨b1, o1, rfl, hl1, c1, c1'⟩ := hc.out j x hx
      have d1 : wr.cell? ⟨b1, o1 + j * 2, none⟩ = some (.int .i64 x.1) := (hbw.cell (p := ⟨b1, _, none⟩) hl1).trans c1
      have d1' : wr.cell? ⟨b1, o1 + j * 2 + 1, none⟩ = some (.int .i64 x.2) := (hbw.cell (p := ⟨b1, _, none⟩) hl1).trans c1'
      have z := hbw.size
      have z1 : b1 < wr.heap.size := by omega
      have hst := spansErr_at hx
      have hbad := lastI_bad (x := x) hla
      have hnx := Lib.hid (lastI_next hx)
      rw [hal] at hst
      generalize lastI l j = la at *
      clear hx
      by_cases hb : spanBad (lastEnd l j) x
      · rw [if_pos hb] at hst
        have hst := Lib.hid hst
        rw [hbad] at hb
        clear hbad
        rcases dec (x.1 ≤ la) with ⟨q1, h1⟩ | ⟨q1, h1⟩
        · clear hb h1
          go_wp2
          go_ret
          exact ⟨ret_int hst.out.symm, (by repeat (first | exact Below.refl _ _ | assumption | refine Below.n _ ?_ (by first | omega | (simp; done) | (simp; omega)) | refine Below.alloc ?_ (by first | omega | (simp; done) | (simp; omega)) _ | refine Below.setCell ?_ (by first | omega | (simp; done) | (simp; omega)) _ | refine Below.drew ?_ | refine Below.setRow ?_ (by first | omega | (simp; done) | (simp; omega)) _ | refine Below.drewN ?_ _))⟩
        · rcases dec (x.2 ≤ x.1) with ⟨q2, h2⟩ | ⟨q2, h2⟩
          · clear hb h1 h2
            go_wp2
            go_ret
            exact ⟨ret_int hst.out.symm, (by repeat (first | exact Below.refl _ _ | assumption | refine Below.n _ ?_ (by first | omega | (simp; done) | (simp; omega)) | refine Below.alloc ?_ (by first | omega | (simp; done) | (simp; omega)) _ | refine Below.setCell ?_ (by first | omega | (simp; done) | (simp; omega)) _ | refine Below.drew ?_ | refine Below.setRow ?_ (by first | omega | (simp; done) | (simp; omega)) _ | refine Below.drewN ?_ _))⟩
          · have q3 : decide (1440 < x.2) = true := by simp; omega
            clear hb h1 h2
            go_wp2
            go_ret
            exact ⟨ret_int hst.out.symm, (by repeat (first | exact Below.refl _ _ | assumption | refine Below.n _ ?_ (by first | omega | (simp; done) | (simp; omega)) | refine Below.alloc ?_ (by first | omega | (simp; done) | (simp; omega)) _ | refine Below.setCell ?_ (by first | omega | (simp; done) | (simp; omega)) _ | refine Below.drew ?_ | refine Below.setRow ?_ (by first | omega | (simp; done) | (simp; omega)) _ | refine Below.drewN ?_ _))⟩
      · rw [if_neg hb] at hst
        have hst := Lib.hid hst
        rw [hbad] at hb
        clear hbad
        have q1 : decide (x.1 ≤ la) = false := by simp; omega
        have q2 : decide (x.2 ≤ x.1) = false := by simp; omega
        have q3 : decide (1440 < x.2) = false := by simp; omega
        have hx2 : -1 ≤ x.2 := by omega
        clear hb
        go_wp2
        go_roundg (l.length - (j + 1))
        case measure => rw [hn.out]; omega
        case rel => exact ⟨j + 1, by omega, rfl, by rw [hnx.out], by go_num, (by repeat (first | exact Below.refl _ _ | assumption | refine Below.n _ ?_ (by first | omega | (simp; done) | (simp; omega)) | refine Below.alloc ?_ (by first | omega | (simp; done) | (simp; omega)) _ | refine Below.setCell ?_ (by first | omega | (simp; done) | (simp; omega)) _ | refine Below.drew ?_ | refine Below.setRow ?_ (by first | omega | (simp; done) | (simp; omega)) _ | refine Below.drewN ?_ _)), by rw [hnx.out]; exact hx2, hst.out.symm⟩
    · obtain rfl : j = l.length := by omega
      have e := Lib.hid (show spansErr none l = 0 by rw [← hal, List.drop_length]; rfl)
      go_wp2
      go_ret
      exact ⟨ret_int e.out.symm, (by repeat (first | exact Below.refl _ _ | assumption | refine Below.n _ ?_ (by first | omega | (simp; done) | (simp; omega)) | refine Below.alloc ?_ (by first | omega | (simp; done) | (simp; omega)) _ | refine Below.setCell ?_ (by first | omega | (simp; done) | (simp; omega)) _ | refine Below.drew ?_ | refine Below.setRow ?_ (by first | omega | (simp; done) | (simp; omega)) _ | refine Below.drewN ?_ _))⟩

set_option maxHeartbeats 4000000 in
theorem refIns_2 (a bb to : Int) (u : Value) (at' n rules : Nat) (w : World) :
    Calls Try.prog 37 #[.agg #[.int .i64 2, .int .i64 a, .int .i64 bb, .int .i64 to, u], .int .i64 at', .int .i64 n, .int .i64 rules] w fun e w' => e = .returned (.int .i64 0) ∧ Below w.heap.size w w' := by
  go_enter Try.func37, Try.ntmps37
  go_wp2
  go_ret
  exact ⟨rfl, (by repeat (first | exact Below.refl _ _ | assumption | refine Below.n _ ?_ (by first | omega | (simp; done) | (simp; omega)) | refine Below.alloc ?_ (by first | omega | (simp; done) | (simp; omega)) _ | refine Below.setCell ?_ (by first | omega | (simp; done) | (simp; omega)) _ | refine Below.drew ?_ | refine Below.setRow ?_ (by first | omega | (simp; done) | (simp; omega)) _ | refine Below.drewN ?_ _))⟩
set_option maxHeartbeats 4000000 in
theorem refIns_3 (a bb to : Int) (u : Value) (at' n rules : Nat) (w : World) :
    Calls Try.prog 37 #[.agg #[.int .i64 3, .int .i64 a, .int .i64 bb, .int .i64 to, u], .int .i64 at', .int .i64 n, .int .i64 rules] w fun e w' => e = .returned (.int .i64 0) ∧ Below w.heap.size w w' := by
  go_enter Try.func37, Try.ntmps37
  go_wp2
  go_ret
  exact ⟨rfl, (by repeat (first | exact Below.refl _ _ | assumption | refine Below.n _ ?_ (by first | omega | (simp; done) | (simp; omega)) | refine Below.alloc ?_ (by first | omega | (simp; done) | (simp; omega)) _ | refine Below.setCell ?_ (by first | omega | (simp; done) | (simp; omega)) _ | refine Below.drew ?_ | refine Below.setRow ?_ (by first | omega | (simp; done) | (simp; omega)) _ | refine Below.drewN ?_ _))⟩
set_option maxHeartbeats 4000000 in
theorem refIns_4 (a bb to : Int) (u : Value) (at' n rules : Nat) (w : World) :
    Calls Try.prog 37 #[.agg #[.int .i64 4, .int .i64 a, .int .i64 bb, .int .i64 to, u], .int .i64 at', .int .i64 n, .int .i64 rules] w fun e w' => e = .returned (.int .i64 0) ∧ Below w.heap.size w w' := by
  go_enter Try.func37, Try.ntmps37
  go_wp2
  go_ret
  exact ⟨rfl, (by repeat (first | exact Below.refl _ _ | assumption | refine Below.n _ ?_ (by first | omega | (simp; done) | (simp; omega)) | refine Below.alloc ?_ (by first | omega | (simp; done) | (simp; omega)) _ | refine Below.setCell ?_ (by first | omega | (simp; done) | (simp; omega)) _ | refine Below.drew ?_ | refine Below.setRow ?_ (by first | omega | (simp; done) | (simp; omega)) _ | refine Below.drewN ?_ _))⟩

set_option maxHeartbeats 4000000 in
theorem refIns_any (x : Ins) (u : Value) (at' n rules : Nat) (w : World) (hu : SpansV w w.heap.size u x.sp) (hat : at' < 4000000000000000000) :
    Calls Try.prog 37 #[.agg #[.int .i64 x.op, .int .i64 x.a, .int .i64 x.b, .int .i64 x.to, u], .int .i64 at', .int .i64 n, .int .i64 rules] w fun e w' => e = .returned (.int .i64 (insErr rules n at' x)) ∧ Below w.heap.size w w' := by
  obtain ⟨op, a, bb, to, sp⟩ := x
  simp only at hu ⊢
  by_cases e1 : op = 1
  · subst e1
    have : insErr rules n at' ⟨1, a, bb, to, sp⟩ = spansErr none sp := by simp [insErr]
    rw [this]
    exact refIns_spans a bb to u sp at' n rules w hu
  have b1 : (op == 1) = false := by simpa using e1
  by_cases e2 : op = 2 ∨ op = 3 ∨ op = 4
  · have : insErr rules n at' ⟨op, a, bb, to, sp⟩ = 0 := by
      simp only [insErr]
      rw [if_neg e1, if_pos e2]
    rw [this]
    rcases e2 with rfl | rfl | rfl
    · exact refIns_2 a bb to u at' n rules w
    · exact refIns_3 a bb to u at' n rules w
    · exact refIns_4 a bb to u at' n rules w
  have b2 : (op == 2) = false := by simp; omega
  have b3 : (op == 3) = false := by simp; omega
  have b4 : (op == 4) = false := by simp; omega
  clear hu
  by_cases e5 : op = 5
  · subst e5
    have hins : insErr rules n at' ⟨5, a, bb, to, sp⟩ = if a = 0 ∨ a ≤ -1440 ∨ 1440 ≤ a then 3 else 0 := by simp [insErr]
    clear b1 b2 b3 b4 e1 e2
    rcases dec (a = 0) with ⟨q1, q⟩ | ⟨q1, q⟩
    · replace q1 : (a == 0) = true := by simpa using q
      rw [if_pos (.inl q)] at hins
      replace hins := Lib.hid hins
      clear q
      go_enter Try.func37, Try.ntmps37
      go_wp2
      go_ret
      exact ⟨ret_int hins.out.symm, (by repeat (first | exact Below.refl _ _ | assumption | refine Below.n _ ?_ (by first | omega | (simp; done) | (simp; omega)) | refine Below.alloc ?_ (by first | omega | (simp; done) | (simp; omega)) _ | refine Below.setCell ?_ (by first | omega | (simp; done) | (simp; omega)) _ | refine Below.drew ?_ | refine Below.setRow ?_ (by first | omega | (simp; done) | (simp; omega)) _ | refine Below.drewN ?_ _))⟩
    · replace q1 : (a == 0) = false := by simpa using q
      rcases dec (a < -1439) with ⟨q2, h⟩ | ⟨q2, h⟩
      · rw [if_pos (by omega)] at hins
        replace hins := Lib.hid hins
        clear q h
        go_enter Try.func37, Try.ntmps37
        go_wp2
        go_ret
        exact ⟨ret_int hins.out.symm, (by repeat (first | exact Below.refl _ _ | assumption | refine Below.n _ ?_ (by first | omega | (simp; done) | (simp; omega)) | refine Below.alloc ?_ (by first | omega | (simp; done) | (simp; omega)) _ | refine Below.setCell ?_ (by first | omega | (simp; done) | (simp; omega)) _ | refine Below.drew ?_ | refine Below.setRow ?_ (by first | omega | (simp; done) | (simp; omega)) _ | refine Below.drewN ?_ _))⟩
      · rcases dec (1439 < a) with ⟨q3, h'⟩ | ⟨q3, h'⟩
        · rw [if_pos (by omega)] at hins
          replace hins := Lib.hid hins
          clear q h h'
          go_enter Try.func37, Try.ntmps37
          go_wp2
          go_ret
          exact ⟨ret_int hins.out.symm, (by repeat (first | exact Below.refl _ _ | assumption | refine Below.n _ ?_ (by first | omega | (simp; done) | (simp; omega)) | refine Below.alloc ?_ (by first | omega | (simp; done) | (simp; omega)) _ | refine Below.setCell ?_ (by first | omega | (simp; done) | (simp; omega)) _ | refine Below.drew ?_ | refine Below.setRow ?_ (by first | omega | (simp; done) | (simp; omega)) _ | refine Below.drewN ?_ _))⟩
        · rw [if_neg (by omega)] at hins
          replace hins := Lib.hid hins
          clear q h h'
          go_enter Try.func37, Try.ntmps37
          go_wp2
          go_ret
          exact ⟨ret_int hins.out.symm, (by repeat (first | exact Below.refl _ _ | assumption | refine Below.n _ ?_ (by first | omega | (simp; done) | (simp; omega)) | refine Below.alloc ?_ (by first | omega | (simp; done) | (simp; omega)) _ | refine Below.setCell ?_ (by first | omega | (simp; done) | (simp; omega)) _ | refine Below.drew ?_ | refine Below.setRow ?_ (by first | omega | (simp; done) | (simp; omega)) _ | refine Below.drewN ?_ _))⟩
  have b5 : (op == 5) = false := by simpa using e5
  by_cases e6 : op = 6 ∨ op = 7
  · have hins : insErr rules n at' ⟨op, a, bb, to, sp⟩ = if to ≤ at' + 1 ∨ n < to then 8 else if op = 6 ∧ (a < 1 ∨ 127 < a) ∨ op = 7 ∧ (a < 0 ∨ 146097 ≤ bb ∨ bb < a) then 3 else 0 := by
      simp only [insErr]
      rw [if_neg e1, if_neg e2, if_neg e5, if_pos e6]
    clear b1 b2 b3 b4 b5 e1 e2 e5
    rcases dec (to < (at' : Int) + 2) with ⟨q1, h⟩ | ⟨q1, h⟩
    · rw [if_pos (by omega)] at hins
      replace hins := Lib.hid hins
      clear h
      rcases e6 with rfl | rfl
      all_goals
        go_enter Try.func37, Try.ntmps37
        go_wp2
        go_ret
        exact ⟨ret_int hins.out.symm, (by repeat (first | exact Below.refl _ _ | assumption | refine Below.n _ ?_ (by first | omega | (simp; done) | (simp; omega)) | refine Below.alloc ?_ (by first | omega | (simp; done) | (simp; omega)) _ | refine Below.setCell ?_ (by first | omega | (simp; done) | (simp; omega)) _ | refine Below.drew ?_ | refine Below.setRow ?_ (by first | omega | (simp; done) | (simp; omega)) _ | refine Below.drewN ?_ _))⟩
    · rcases dec ((n : Int) < to) with ⟨q2, h'⟩ | ⟨q2, h'⟩
      · rw [if_pos (by omega)] at hins
        replace hins := Lib.hid hins
        clear h h'
        rcases e6 with rfl | rfl
        all_goals
          go_enter Try.func37, Try.ntmps37
          go_wp2
          go_ret
          exact ⟨ret_int hins.out.symm, (by repeat (first | exact Below.refl _ _ | assumption | refine Below.n _ ?_ (by first | omega | (simp; done) | (simp; omega)) | refine Below.alloc ?_ (by first | omega | (simp; done) | (simp; omega)) _ | refine Below.setCell ?_ (by first | omega | (simp; done) | (simp; omega)) _ | refine Below.drew ?_ | refine Below.setRow ?_ (by first | omega | (simp; done) | (simp; omega)) _ | refine Below.drewN ?_ _))⟩
      · rw [if_neg (by omega)] at hins
        clear h h'
        rcases e6 with rfl | rfl
        · rcases dec (a < 1) with ⟨q3, h⟩ | ⟨q3, h⟩
          · rw [if_pos (by omega)] at hins
            replace hins := Lib.hid hins
            clear h
            go_enter Try.func37, Try.ntmps37
            go_wp2
            go_ret
            exact ⟨ret_int hins.out.symm, (by repeat (first | exact Below.refl _ _ | assumption | refine Below.n _ ?_ (by first | omega | (simp; done) | (simp; omega)) | refine Below.alloc ?_ (by first | omega | (simp; done) | (simp; omega)) _ | refine Below.setCell ?_ (by first | omega | (simp; done) | (simp; omega)) _ | refine Below.drew ?_ | refine Below.setRow ?_ (by first | omega | (simp; done) | (simp; omega)) _ | refine Below.drewN ?_ _))⟩
          · rcases dec (127 < a) with ⟨q4, h'⟩ | ⟨q4, h'⟩
            · rw [if_pos (by omega)] at hins
              replace hins := Lib.hid hins
              clear h h'
              go_enter Try.func37, Try.ntmps37
              go_wp2
              go_ret
              exact ⟨ret_int hins.out.symm, (by repeat (first | exact Below.refl _ _ | assumption | refine Below.n _ ?_ (by first | omega | (simp; done) | (simp; omega)) | refine Below.alloc ?_ (by first | omega | (simp; done) | (simp; omega)) _ | refine Below.setCell ?_ (by first | omega | (simp; done) | (simp; omega)) _ | refine Below.drew ?_ | refine Below.setRow ?_ (by first | omega | (simp; done) | (simp; omega)) _ | refine Below.drewN ?_ _))⟩
            · rw [if_neg (by omega)] at hins
              replace hins := Lib.hid hins
              clear h h'
              go_enter Try.func37, Try.ntmps37
              go_wp2
              go_ret
              exact ⟨ret_int hins.out.symm, (by repeat (first | exact Below.refl _ _ | assumption | refine Below.n _ ?_ (by first | omega | (simp; done) | (simp; omega)) | refine Below.alloc ?_ (by first | omega | (simp; done) | (simp; omega)) _ | refine Below.setCell ?_ (by first | omega | (simp; done) | (simp; omega)) _ | refine Below.drew ?_ | refine Below.setRow ?_ (by first | omega | (simp; done) | (simp; omega)) _ | refine Below.drewN ?_ _))⟩
        · rcases dec (a < 0) with ⟨q3, h⟩ | ⟨q3, h⟩
          · rw [if_pos (by omega)] at hins
            replace hins := Lib.hid hins
            clear h
            go_enter Try.func37, Try.ntmps37
            go_wp2
            go_ret
            exact ⟨ret_int hins.out.symm, (by repeat (first | exact Below.refl _ _ | assumption | refine Below.n _ ?_ (by first | omega | (simp; done) | (simp; omega)) | refine Below.alloc ?_ (by first | omega | (simp; done) | (simp; omega)) _ | refine Below.setCell ?_ (by first | omega | (simp; done) | (simp; omega)) _ | refine Below.drew ?_ | refine Below.setRow ?_ (by first | omega | (simp; done) | (simp; omega)) _ | refine Below.drewN ?_ _))⟩
          · rcases dec (bb < a) with ⟨q4, h'⟩ | ⟨q4, h'⟩
            · rw [if_pos (by omega)] at hins
              replace hins := Lib.hid hins
              clear h h'
              go_enter Try.func37, Try.ntmps37
              go_wp2
              go_ret
              exact ⟨ret_int hins.out.symm, (by repeat (first | exact Below.refl _ _ | assumption | refine Below.n _ ?_ (by first | omega | (simp; done) | (simp; omega)) | refine Below.alloc ?_ (by first | omega | (simp; done) | (simp; omega)) _ | refine Below.setCell ?_ (by first | omega | (simp; done) | (simp; omega)) _ | refine Below.drew ?_ | refine Below.setRow ?_ (by first | omega | (simp; done) | (simp; omega)) _ | refine Below.drewN ?_ _))⟩
            · rcases dec (146097 ≤ bb) with ⟨q5, h5⟩ | ⟨q5, h5⟩
              · rw [if_pos (by omega)] at hins
                replace hins := Lib.hid hins
                clear h h' h5
                go_enter Try.func37, Try.ntmps37
                go_wp2
                go_ret
                exact ⟨ret_int hins.out.symm, (by repeat (first | exact Below.refl _ _ | assumption | refine Below.n _ ?_ (by first | omega | (simp; done) | (simp; omega)) | refine Below.alloc ?_ (by first | omega | (simp; done) | (simp; omega)) _ | refine Below.setCell ?_ (by first | omega | (simp; done) | (simp; omega)) _ | refine Below.drew ?_ | refine Below.setRow ?_ (by first | omega | (simp; done) | (simp; omega)) _ | refine Below.drewN ?_ _))⟩
              · rw [if_neg (by omega)] at hins
                replace hins := Lib.hid hins
                clear h h' h5
                go_enter Try.func37, Try.ntmps37
                go_wp2
                go_ret
                exact ⟨ret_int hins.out.symm, (by repeat (first | exact Below.refl _ _ | assumption | refine Below.n _ ?_ (by first | omega | (simp; done) | (simp; omega)) | refine Below.alloc ?_ (by first | omega | (simp; done) | (simp; omega)) _ | refine Below.setCell ?_ (by first | omega | (simp; done) | (simp; omega)) _ | refine Below.drew ?_ | refine Below.setRow ?_ (by first | omega | (simp; done) | (simp; omega)) _ | refine Below.drewN ?_ _))⟩
  have b6 : (op == 6) = false := by simp; omega
  have b7 : (op == 7) = false := by simp; omega
  by_cases e8 : op = 8
  · subst e8
    have hins : insErr rules n at' ⟨8, a, bb, to, sp⟩ = if a < 0 ∨ rules ≤ a then 6 else 0 := by simp [insErr]
    clear b1 b2 b3 b4 b5 b6 b7 e1 e2 e5 e6
    rcases dec (a < 0) with ⟨q1, h⟩ | ⟨q1, h⟩
    · rw [if_pos (by omega)] at hins
      replace hins := Lib.hid hins
      clear h
      go_enter Try.func37, Try.ntmps37
      go_wp2
      go_ret
      exact ⟨ret_int hins.out.symm, (by repeat (first | exact Below.refl _ _ | assumption | refine Below.n _ ?_ (by first | omega | (simp; done) | (simp; omega)) | refine Below.alloc ?_ (by first | omega | (simp; done) | (simp; omega)) _ | refine Below.setCell ?_ (by first | omega | (simp; done) | (simp; omega)) _ | refine Below.drew ?_ | refine Below.setRow ?_ (by first | omega | (simp; done) | (simp; omega)) _ | refine Below.drewN ?_ _))⟩
    · rcases dec ((rules : Int) ≤ a) with ⟨q2, h'⟩ | ⟨q2, h'⟩
      · rw [if_pos (by omega)] at hins
        replace hins := Lib.hid hins
        clear h h'
        go_enter Try.func37, Try.ntmps37
        go_wp2
        go_ret
        exact ⟨ret_int hins.out.symm, (by repeat (first | exact Below.refl _ _ | assumption | refine Below.n _ ?_ (by first | omega | (simp; done) | (simp; omega)) | refine Below.alloc ?_ (by first | omega | (simp; done) | (simp; omega)) _ | refine Below.setCell ?_ (by first | omega | (simp; done) | (simp; omega)) _ | refine Below.drew ?_ | refine Below.setRow ?_ (by first | omega | (simp; done) | (simp; omega)) _ | refine Below.drewN ?_ _))⟩
      · rw [if_neg (by omega)] at hins
        replace hins := Lib.hid hins
        clear h h'
        go_enter Try.func37, Try.ntmps37
        go_wp2
        go_ret
        exact ⟨ret_int hins.out.symm, (by repeat (first | exact Below.refl _ _ | assumption | refine Below.n _ ?_ (by first | omega | (simp; done) | (simp; omega)) | refine Below.alloc ?_ (by first | omega | (simp; done) | (simp; omega)) _ | refine Below.setCell ?_ (by first | omega | (simp; done) | (simp; omega)) _ | refine Below.drew ?_ | refine Below.setRow ?_ (by first | omega | (simp; done) | (simp; omega)) _ | refine Below.drewN ?_ _))⟩
  have b8 : (op == 8) = false := by simpa using e8
  have hins : insErr rules n at' ⟨op, a, bb, to, sp⟩ = 1 := by
    simp only [insErr]
    rw [if_neg e1, if_neg e2, if_neg e5, if_neg e6, if_neg e8]
  replace hins := Lib.hid hins
  clear e1 e2 e5 e6 e8
  go_enter Try.func37, Try.ntmps37
  go_wp2
  go_ret
  exact ⟨ret_int hins.out.symm, (by repeat (first | exact Below.refl _ _ | assumption | refine Below.n _ ?_ (by first | omega | (simp; done) | (simp; omega)) | refine Below.alloc ?_ (by first | omega | (simp; done) | (simp; omega)) _ | refine Below.setCell ?_ (by first | omega | (simp; done) | (simp; omega)) _ | refine Below.drew ?_ | refine Below.setRow ?_ (by first | omega | (simp; done) | (simp; omega)) _ | refine Below.drewN ?_ _))⟩

end Vm
end Go.Proofs.Ythdaeddaofickaa
