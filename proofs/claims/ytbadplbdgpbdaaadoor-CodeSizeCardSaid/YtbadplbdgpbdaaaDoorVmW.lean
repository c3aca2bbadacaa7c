/- Code that came in: how its cells read. The walks of vm's small functions: takes, spans, ins. -/
import Derived.Test.YtbadplbdgpbdaaaDoorVmQ
import Derived.Test.YtbadplbdgpbdaaaDoorMskB
import Derived.Test.YtbadplbdgpbdaaaDoorStr
import Derived.Test.YtbadplbdgpbdaaaDoorApp
namespace Go.Proofs.YtbadplbdgpbdaaaDoor
open Go.RowKit
namespace Vm
open Msk Sl

theorem dec (p : Prop) [Decidable p] : decide p = true ∧ p ∨ decide p = false ∧ ¬ p := by
  by_cases h : p
  · exact .inl ⟨by simpa using h, h⟩
  · exact .inr ⟨by simpa using h, h⟩
/-- an instruction at a place -/
def InsAt (w : World) (B b o : Nat) (x : Ins) : Prop :=
  w.cell? ⟨b, o, none⟩ = some (.int .i64 x.op) ∧ w.cell? ⟨b, o + 1, none⟩ = some (.int .i64 x.a) ∧ w.cell? ⟨b, o + 2, none⟩ = some (.int .i64 x.b) ∧ w.cell? ⟨b, o + 3, none⟩ = some (.int .i64 x.to) ∧
    ∃ u, w.cell? ⟨b, o + 4, none⟩ = some u ∧ SpansV w B u x.sp
theorem InsAt.below {w w' : World} {B B' B'' b o : Nat} {x : Ins} (h : InsAt w B b o x) (hb : Below B' w w') (hlt : b < B') (hB : B ≤ B') (hB2 : B ≤ B'') : InsAt w' B'' b o x := by
  obtain ⟨h0, h1, h2, h3, u, h4, h5⟩ := h
  exact ⟨(hb.cell (p := ⟨b, _, none⟩) hlt).trans h0, (hb.cell (p := ⟨b, _, none⟩) hlt).trans h1, (hb.cell (p := ⟨b, _, none⟩) hlt).trans h2, (hb.cell (p := ⟨b, _, none⟩) hlt).trans h3, u, (hb.cell (p := ⟨b, _, none⟩) hlt).trans h4, (h5.below hb hB).more hB2⟩
def InsV (w : World) (B : Nat) (v : Value) (l : List Ins) : Prop := Reads B v l fun b o i x => InsAt w B b (o + i * 5) x
theorem InsV.below {w w' : World} {B B' B'' : Nat} {v : Value} {l : List Ins} (h : InsV w B v l) (hb : Below B' w w') (hB : B ≤ B') (hB2 : B ≤ B'') : InsV w' B'' v l :=
  Reads.mono h hB2 fun b o i x hlt _ h1 => InsAt.below h1 hb (by omega) hB hB2
def CodeAt (w : World) (B b o : Nat) (c : Code) : Prop :=
  (∃ u, w.cell? ⟨b, o, none⟩ = some u ∧ InsV w B u c.ins) ∧ w.cell? ⟨b, o + 1, none⟩ = some (.int .i64 c.high) ∧ w.cell? ⟨b, o + 2, none⟩ = some (.int .i64 c.steps)
theorem CodeAt.below {w w' : World} {B B' B'' b o : Nat} {c : Code} (h : CodeAt w B b o c) (hb : Below B' w w') (hlt : b < B') (hB : B ≤ B') (hB2 : B ≤ B'') : CodeAt w' B'' b o c := by
  obtain ⟨⟨u, h0, h1⟩, h2, h3⟩ := h
  exact ⟨⟨u, (hb.cell (p := ⟨b, _, none⟩) hlt).trans h0, h1.below hb hB hB2⟩, (hb.cell (p := ⟨b, _, none⟩) hlt).trans h2, (hb.cell (p := ⟨b, _, none⟩) hlt).trans h3⟩
def CodesV (w : World) (B : Nat) (v : Value) (l : List Code) : Prop := Reads B v l fun b o i c => CodeAt w B b (o + i * 3) c
theorem CodesV.below {w w' : World} {B B' B'' : Nat} {v : Value} {l : List Code} (h : CodesV w B v l) (hb : Below B' w w') (hB : B ≤ B') (hB2 : B ≤ B'') : CodesV w' B'' v l :=
  Reads.mono h hB2 fun b o i x hlt _ h1 => CodeAt.below h1 hb (by omega) hB hB2

end Vm
end Go.Proofs.YtbadplbdgpbdaaaDoor

namespace Go.Proofs.YtbadplbdgpbdaaaDoor
open Go.RowKit
namespace Vm
open Msk Sl

set_option maxHeartbeats 1000000 in
theorem takes_any (op : Int) (w : World) : Calls Tryd.prog 55 #[.int .i64 op] w fun e w' => e = .returned (.int .i64 (takesI op)) ∧ w = w' := by
  by_cases h2 : op = 2
  · subst h2
    go_enter Tryd.func55, Tryd.ntmps55
    go_wp2
    go_ret
    exact ⟨rfl, rfl⟩
  by_cases h3 : op = 3
  · subst h3
    go_enter Tryd.func55, Tryd.ntmps55
    go_wp2
    go_ret
    exact ⟨rfl, rfl⟩
  by_cases h4 : op = 4
  · subst h4
    go_enter Tryd.func55, Tryd.ntmps55
    go_wp2
    go_ret
    exact ⟨rfl, rfl⟩
  by_cases h5 : op = 5
  · subst h5
    go_enter Tryd.func55, Tryd.ntmps55
    go_wp2
    go_ret
    exact ⟨rfl, rfl⟩
  have e : takesI op = 0 := by unfold takesI; rw [if_neg (by omega), if_neg h5]
  have b2 : (op == 2) = false := by simpa using h2
  have b3 : (op == 3) = false := by simpa using h3
  have b4 : (op == 4) = false := by simpa using h4
  have b5 : (op == 5) = false := by simpa using h5
  rw [e]
  clear e h2 h3 h4 h5
  go_enter Tryd.func55, Tryd.ntmps55
  go_wp2
  go_ret
  exact ⟨rfl, rfl⟩

/-- the last end ahead of the i-th span -/
def lastEnd (l : List (Int × Int)) (i : Nat) : Option Int := if i = 0 then none else (l[i - 1]?).map Prod.snd
theorem spansErr_at {l : List (Int × Int)} {i : Nat} {s : Int × Int} (h : l[i]? = some s) : spansErr (lastEnd l i) (l.drop i) = if spanBad (lastEnd l i) s then 2 else spansErr (lastEnd l (i + 1)) (l.drop (i + 1)) := by
  obtain ⟨hi, rfl⟩ := List.getElem?_eq_some_iff.1 h
  rw [List.drop_eq_getElem_cons hi, spansErr]
  have : lastEnd l (i + 1) = some l[i].2 := by unfold lastEnd; rw [if_neg (by omega), Nat.add_sub_cancel, h]; rfl
  rw [this]

set_option maxHeartbeats 4000000 in
theorem spans_any (v : Value) (l : List (Int × Int)) (w : World) (hl : SpansV w w.heap.size v l) :
    Calls Tryd.prog 53 #[v] w fun e w' => e = .returned (.int .i64 (spansErr none l)) ∧ Below w.heap.size w w' := by
  obtain ⟨A, cap, rfl, hlen, hc⟩ := hl
  replace hc := Lib.hid hc
  go_enter Tryd.func53, Tryd.ntmps53
  go_wp2
  go_loopg [7] l.length (fun n k wr => ∃ j : Nat, j ≤ l.length ∧ n = l.length - j ∧ k = .int .i64 j ∧ Below w.heap.size w wr ∧ spansErr (lastEnd l j) (l.drop j) = spansErr none l)
  case atStart => exact ⟨0, by omega, rfl, rfl, (by repeat (first | exact Below.refl _ _ | assumption | refine Below.n _ ?_ (by first | omega | (simp; done) | (simp; omega)) | refine Below.alloc ?_ (by first | omega | (simp; done) | (simp; omega)) _ | refine Below.setCell ?_ (by first | omega | (simp; done) | (simp; omega)) _ | refine Below.drew ?_ | refine Below.setRow ?_ (by first | omega | (simp; done) | (simp; omega)) _ | refine Below.drewN ?_ _)), rfl⟩
  case round =>
    obtain ⟨j, hj, hn, rfl, hbw, hal⟩ := hrel
    replace hn := Lib.hid hn
    by_cases hlt : j < l.length
    · obtain ⟨x, hx⟩ : ∃ x, l[j]? = some x := ⟨_, List.getElem?_eq_getElem hlt⟩
      obtain ⟨b1, o1, rfl, hl1, c1, c1'⟩ := hc.out j x hx
      have d1 : wr.cell? ⟨b1, o1 + j * 2, none⟩ = some (.int .i64 x.1) := (hbw.cell (p := ⟨b1, _, none⟩) hl1).trans c1
      have d1' : wr.cell? ⟨b1, o1 + j * 2 + 1, none⟩ = some (.int .i64 x.2) := (hbw.cell (p := ⟨b1, _, none⟩) hl1).trans c1'
      have z := hbw.size
      have z1 : b1 < wr.heap.size := by omega
      have hst := spansErr_at hx
      rw [hal] at hst
      by_cases hbad : spanBad (lastEnd l j) x
      · rw [if_pos hbad] at hst
        have hst := Lib.hid hst
        unfold spanBad at hbad
        have q : decide (x.1 < 0) = true ∨ decide (x.1 < 0) = false ∧ decide (1440 < x.2) = true ∨ decide (x.1 < 0) = false ∧ decide (1440 < x.2) = false ∧ decide (x.2 ≤ x.1) = true ∨
            decide (x.1 < 0) = false ∧ decide (1440 < x.2) = false ∧ decide (x.2 ≤ x.1) = false ∧ ∃ b, lastEnd l j = some b ∧ decide (x.1 ≤ b) = true := by
          simp only [decide_eq_true_eq, decide_eq_false_iff_not]
          rcases hbad with h | h | h | h
          · omega
          · omega
          · omega
          · by_cases h1 : x.1 < 0
            · exact .inl h1
            · by_cases h2 : 1440 < x.2
              · exact .inr (.inl ⟨h1, h2⟩)
              · by_cases h3 : x.2 ≤ x.1
                · exact .inr (.inr (.inl ⟨h1, h2, h3⟩))
                · exact .inr (.inr (.inr ⟨h1, h2, h3, h⟩))
        clear hbad hx
        rcases q with q1 | ⟨q1, q2⟩ | ⟨q1, q2, q3⟩ | ⟨q1, q2, q3, b, hb, q4⟩
        · go_wp2
          refine wp_region_below ((wr.heap.size + 1)) _ (Below.refl _ _) (by kernel_rfl) (by kernel_rfl) ?_
          repeat (go_big_quiet_step ((fail)))
          refine wpQuiet_nil ?_
          rintro _ ⟨n1, rfl⟩
          go_wp2
          go_ret
          exact ⟨ret_int hst.out.symm, (by repeat (first | exact Below.refl _ _ | assumption | refine Below.n _ ?_ (by first | omega | (simp; done) | (simp; omega)) | refine Below.alloc ?_ (by first | omega | (simp; done) | (simp; omega)) _ | refine Below.setCell ?_ (by first | omega | (simp; done) | (simp; omega)) _ | refine Below.drew ?_ | refine Below.setRow ?_ (by first | omega | (simp; done) | (simp; omega)) _ | refine Below.drewN ?_ _))⟩
        · go_wp2
          refine wp_region_below ((wr.heap.size + 1)) _ (Below.refl _ _) (by kernel_rfl) (by kernel_rfl) ?_
          repeat (go_big_quiet_step ((fail)))
          refine wpQuiet_nil ?_
          rintro _ ⟨n1, rfl⟩
          go_wp2
          go_ret
          exact ⟨ret_int hst.out.symm, (by repeat (first | exact Below.refl _ _ | assumption | refine Below.n _ ?_ (by first | omega | (simp; done) | (simp; omega)) | refine Below.alloc ?_ (by first | omega | (simp; done) | (simp; omega)) _ | refine Below.setCell ?_ (by first | omega | (simp; done) | (simp; omega)) _ | refine Below.drew ?_ | refine Below.setRow ?_ (by first | omega | (simp; done) | (simp; omega)) _ | refine Below.drewN ?_ _))⟩
        · go_wp2
          refine wp_region_below ((wr.heap.size + 1)) _ (Below.refl _ _) (by kernel_rfl) (by kernel_rfl) ?_
          repeat (go_big_quiet_step ((fail)))
          refine wpQuiet_nil ?_
          rintro _ ⟨n1, rfl⟩
          go_wp2
          go_ret
          exact ⟨ret_int hst.out.symm, (by repeat (first | exact Below.refl _ _ | assumption | refine Below.n _ ?_ (by first | omega | (simp; done) | (simp; omega)) | refine Below.alloc ?_ (by first | omega | (simp; done) | (simp; omega)) _ | refine Below.setCell ?_ (by first | omega | (simp; done) | (simp; omega)) _ | refine Below.drew ?_ | refine Below.setRow ?_ (by first | omega | (simp; done) | (simp; omega)) _ | refine Below.drewN ?_ _))⟩
        · obtain ⟨j', rfl⟩ : ∃ j', j = j' + 1 := by
            cases j with
            | zero => simp [lastEnd] at hb
            | succ j' => exact ⟨j', rfl⟩
          have hy0 : (l[j']?).map Prod.snd = some b := by simpa [lastEnd] using hb
          obtain ⟨y, hy, rfl⟩ := Option.map_eq_some_iff.1 hy0
          obtain ⟨b2, o2, e2, _, _, c2'⟩ := hc.out j' y hy
          cases e2
          have d2' : wr.cell? ⟨b1, o1 + j' * 2 + 1, none⟩ = some (.int .i64 y.2) := (hbw.cell (p := ⟨b1, _, none⟩) hl1).trans c2'
          have q5 : decide ((0 : Int) < ((j' + 1 : Nat) : Int)) = true := by simp; try omega
          clear hb hy0 hy c2'
          go_wp2
          refine wp_region_below ((wr.heap.size + 1)) _ (Below.refl _ _) (by kernel_rfl) (by kernel_rfl) ?_
          repeat (go_big_quiet_step ((fail)))
          refine wpQuiet_nil ?_
          rintro _ ⟨n1, rfl⟩
          go_wp2
          go_ret
          exact ⟨ret_int hst.out.symm, (by repeat (first | exact Below.refl _ _ | assumption | refine Below.n _ ?_ (by first | omega | (simp; done) | (simp; omega)) | refine Below.alloc ?_ (by first | omega | (simp; done) | (simp; omega)) _ | refine Below.setCell ?_ (by first | omega | (simp; done) | (simp; omega)) _ | refine Below.drew ?_ | refine Below.setRow ?_ (by first | omega | (simp; done) | (simp; omega)) _ | refine Below.drewN ?_ _))⟩
      · rw [if_neg hbad] at hst
        have hst := Lib.hid hst
        unfold spanBad at hbad
        have q1 : decide (x.1 < 0) = false := by simp; omega
        have q2 : decide (1440 < x.2) = false := by simp; omega
        have q3 : decide (x.2 ≤ x.1) = false := by simp; omega
        by_cases hj0 : j = 0
        · subst hj0
          rw [Nat.zero_mul, Nat.add_zero] at d1 d1'
          clear hbad hx
          go_wp2
          refine wp_region_below ((wr.heap.size + 1)) _ (Below.refl _ _) (by kernel_rfl) (by kernel_rfl) ?_
          repeat (go_big_quiet_step ((fail)))
          refine wpQuiet_nil ?_
          rintro _ ⟨n1, rfl⟩
          go_wp2
          go_roundg (l.length - (0 + 1))
          case measure => rw [hn.out]; omega
          case rel => exact ⟨0 + 1, by omega, rfl, by go_num, (by repeat (first | exact Below.refl _ _ | assumption | refine Below.n _ ?_ (by first | omega | (simp; done) | (simp; omega)) | refine Below.alloc ?_ (by first | omega | (simp; done) | (simp; omega)) _ | refine Below.setCell ?_ (by first | omega | (simp; done) | (simp; omega)) _ | refine Below.drew ?_ | refine Below.setRow ?_ (by first | omega | (simp; done) | (simp; omega)) _ | refine Below.drewN ?_ _)), hst.out.symm⟩
        · obtain ⟨j', rfl⟩ : ∃ j', j = j' + 1 := ⟨j - 1, by omega⟩
          obtain ⟨y, hy⟩ : ∃ y, l[j']? = some y := ⟨_, List.getElem?_eq_getElem (by omega)⟩
          obtain ⟨b2, o2, e2, _, _, c2'⟩ := hc.out j' y hy
          cases e2
          have d2' : wr.cell? ⟨b1, o1 + j' * 2 + 1, none⟩ = some (.int .i64 y.2) := (hbw.cell (p := ⟨b1, _, none⟩) hl1).trans c2'
          have q5 : decide ((0 : Int) < ((j' + 1 : Nat) : Int)) = true := by simp; try omega
          have q4 : decide (x.1 ≤ y.2) = false := by
            rw [decide_eq_false_iff_not]
            intro h
            exact hbad (.inr (.inr (.inr ⟨y.2, by simp [lastEnd, hy], h⟩)))
          clear hbad hx hj0 hy c2'
          go_wp2
          refine wp_region_below ((wr.heap.size + 1)) _ (Below.refl _ _) (by kernel_rfl) (by kernel_rfl) ?_
          repeat (go_big_quiet_step ((fail)))
          refine wpQuiet_nil ?_
          rintro _ ⟨n1, rfl⟩
          go_wp2
          go_roundg (l.length - (j' + 1 + 1))
          case measure => rw [hn.out]; omega
          case rel => exact ⟨j' + 1 + 1, by omega, rfl, by go_num, (by repeat (first | exact Below.refl _ _ | assumption | refine Below.n _ ?_ (by first | omega | (simp; done) | (simp; omega)) | refine Below.alloc ?_ (by first | omega | (simp; done) | (simp; omega)) _ | refine Below.setCell ?_ (by first | omega | (simp; done) | (simp; omega)) _ | refine Below.drew ?_ | refine Below.setRow ?_ (by first | omega | (simp; done) | (simp; omega)) _ | refine Below.drewN ?_ _)), hst.out.symm⟩
    · obtain rfl : j = l.length := by omega
      have e := Lib.hid (show spansErr none l = 0 by rw [← hal, List.drop_length]; rfl)
      go_wp2
      go_ret
      exact ⟨ret_int e.out.symm, (by repeat (first | exact Below.refl _ _ | assumption | refine Below.n _ ?_ (by first | omega | (simp; done) | (simp; omega)) | refine Below.alloc ?_ (by first | omega | (simp; done) | (simp; omega)) _ | refine Below.setCell ?_ (by first | omega | (simp; done) | (simp; omega)) _ | refine Below.drew ?_ | refine Below.setRow ?_ (by first | omega | (simp; done) | (simp; omega)) _ | refine Below.drewN ?_ _))⟩

end Vm
end Go.Proofs.YtbadplbdgpbdaaaDoor
