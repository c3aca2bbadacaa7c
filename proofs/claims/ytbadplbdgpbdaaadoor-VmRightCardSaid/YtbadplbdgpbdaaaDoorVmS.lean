/- The walk of vm.ins. The walk of vm.stack. -/
import Derived.Test.YtbadplbdgpbdaaaDoorVmW
import Derived.Test.YtbadplbdgpbdaaaDoorApp
import Derived.Carry
import Derived.OpenShut
import Derived.IntWalk
import Derived.Outline
import Derived.Lib.MinMax
namespace Go.Proofs.YtbadplbdgpbdaaaDoor
open Go.RowKit
namespace Vm
open Msk Sl

set_option maxHeartbeats 4000000 in
theorem ins_any (A : Option Addr) (rules cap : Nat) (at' n : Nat) (b o : Nat) (x : Ins) (w : World) (hx : InsAt w w.heap.size b o x) (hb : b < w.heap.size) (hat : at' < 4000000000000000000) :
    Calls Tryd.prog 26 #[.slice A rules cap, .int .i64 at', .pointer (some ⟨b, o, none⟩), .int .i64 n] w fun e w' => e = .returned (.int .i64 (insErr rules n at' x)) ∧ Below w.heap.size w w' := by
  obtain ⟨op, a, bb, to, sp⟩ := x
  obtain ⟨h0, h1, h2, h3, u, h4, h5⟩ := hx
  simp only at h0 h1 h2 h3 h4 h5
  by_cases e1 : op = 1
  · subst e1
    have hs := Lib.hid (spans_any u sp w h5)
    go_enter Tryd.func26, Tryd.ntmps26
    go_wp2_with (go_at_call 53; refine hs.out.mono ?_; rintro e w1 ⟨rfl, hb1⟩; obtain ⟨n1, rfl⟩ := After.of hb1)
    go_ret
    exact ⟨ret_int (by simp [insErr]), (by repeat (first | exact Below.refl _ _ | assumption | refine Below.n _ ?_ (by first | omega | (simp; done) | (simp; omega)) | refine Below.alloc ?_ (by first | omega | (simp; done) | (simp; omega)) _ | refine Below.setCell ?_ (by first | omega | (simp; done) | (simp; omega)) _ | refine Below.drew ?_ | refine Below.setRow ?_ (by first | omega | (simp; done) | (simp; omega)) _ | refine Below.drewN ?_ _))⟩
  have b1 : (op == 1) = false := by simpa using e1
  by_cases e2 : op = 2 ∨ op = 3 ∨ op = 4
  · rcases e2 with rfl | rfl | rfl
    all_goals
      go_enter Tryd.func26, Tryd.ntmps26
      go_wp2
      go_ret
      exact ⟨ret_int (by simp [insErr]), (by repeat (first | exact Below.refl _ _ | assumption | refine Below.n _ ?_ (by first | omega | (simp; done) | (simp; omega)) | refine Below.alloc ?_ (by first | omega | (simp; done) | (simp; omega)) _ | refine Below.setCell ?_ (by first | omega | (simp; done) | (simp; omega)) _ | refine Below.drew ?_ | refine Below.setRow ?_ (by first | omega | (simp; done) | (simp; omega)) _ | refine Below.drewN ?_ _))⟩
  have b2 : (op == 2) = false := by simp; omega
  have b3 : (op == 3) = false := by simp; omega
  have b4 : (op == 4) = false := by simp; omega
  by_cases e5 : op = 5
  · subst e5
    clear b1 b2 b3 b4 e1 e2
    rcases dec (a = 0) with ⟨q1, q⟩ | ⟨q1, q⟩
    · replace q1 : (a == 0) = true := by simpa using q
      have e := Lib.hid (show insErr rules n at' ⟨5, a, bb, to, sp⟩ = 3 by simp [insErr, q])
      clear q
      go_enter Tryd.func26, Tryd.ntmps26
      go_wp2
      go_ret
      exact ⟨ret_int e.out.symm, (by repeat (first | exact Below.refl _ _ | assumption | refine Below.n _ ?_ (by first | omega | (simp; done) | (simp; omega)) | refine Below.alloc ?_ (by first | omega | (simp; done) | (simp; omega)) _ | refine Below.setCell ?_ (by first | omega | (simp; done) | (simp; omega)) _ | refine Below.drew ?_ | refine Below.setRow ?_ (by first | omega | (simp; done) | (simp; omega)) _ | refine Below.drewN ?_ _))⟩
    · replace q1 : (a == 0) = false := by simpa using q
      rcases dec (a ≤ -1440) with ⟨q2, h⟩ | ⟨q2, h⟩
      · have e := Lib.hid (show insErr rules n at' ⟨5, a, bb, to, sp⟩ = 3 by simp [insErr, h])
        clear q h
        go_enter Tryd.func26, Tryd.ntmps26
        go_wp2
        go_ret
        exact ⟨ret_int e.out.symm, (by repeat (first | exact Below.refl _ _ | assumption | refine Below.n _ ?_ (by first | omega | (simp; done) | (simp; omega)) | refine Below.alloc ?_ (by first | omega | (simp; done) | (simp; omega)) _ | refine Below.setCell ?_ (by first | omega | (simp; done) | (simp; omega)) _ | refine Below.drew ?_ | refine Below.setRow ?_ (by first | omega | (simp; done) | (simp; omega)) _ | refine Below.drewN ?_ _))⟩
      · rcases dec (1440 ≤ a) with ⟨q3, h'⟩ | ⟨q3, h'⟩
        · have e := Lib.hid (show insErr rules n at' ⟨5, a, bb, to, sp⟩ = 3 by simp [insErr, h'])
          clear q h h'
          go_enter Tryd.func26, Tryd.ntmps26
          go_wp2
          go_ret
          exact ⟨ret_int e.out.symm, (by repeat (first | exact Below.refl _ _ | assumption | refine Below.n _ ?_ (by first | omega | (simp; done) | (simp; omega)) | refine Below.alloc ?_ (by first | omega | (simp; done) | (simp; omega)) _ | refine Below.setCell ?_ (by first | omega | (simp; done) | (simp; omega)) _ | refine Below.drew ?_ | refine Below.setRow ?_ (by first | omega | (simp; done) | (simp; omega)) _ | refine Below.drewN ?_ _))⟩
        · have e := Lib.hid (show insErr rules n at' ⟨5, a, bb, to, sp⟩ = 0 by simp [insErr, h', h, q])
          clear q h h'
          go_enter Tryd.func26, Tryd.ntmps26
          go_wp2
          go_ret
          exact ⟨ret_int e.out.symm, (by repeat (first | exact Below.refl _ _ | assumption | refine Below.n _ ?_ (by first | omega | (simp; done) | (simp; omega)) | refine Below.alloc ?_ (by first | omega | (simp; done) | (simp; omega)) _ | refine Below.setCell ?_ (by first | omega | (simp; done) | (simp; omega)) _ | refine Below.drew ?_ | refine Below.setRow ?_ (by first | omega | (simp; done) | (simp; omega)) _ | refine Below.drewN ?_ _))⟩
  have b5 : (op == 5) = false := by simpa using e5
  by_cases e6 : op = 6 ∨ op = 7
  · have hins : insErr rules n at' ⟨op, a, bb, to, sp⟩ = if to ≤ at' + 1 ∨ n < to then 8 else if op = 6 ∧ (a < 1 ∨ 127 < a) ∨ op = 7 ∧ (a < 0 ∨ 146097 ≤ bb ∨ bb < a) then 3 else 0 := by
      simp only [insErr]
      rw [if_neg e1, if_neg e2, if_neg e5, if_pos e6]
    rcases dec (to ≤ (at' : Int) + 1) with ⟨q1, h⟩ | ⟨q1, h⟩
    · rw [if_pos (.inl h)] at hins
      replace hins := Lib.hid hins
      clear h
      rcases e6 with rfl | rfl
      all_goals
        go_enter Tryd.func26, Tryd.ntmps26
        go_wp2
        go_ret
        exact ⟨ret_int hins.out.symm, (by repeat (first | exact Below.refl _ _ | assumption | refine Below.n _ ?_ (by first | omega | (simp; done) | (simp; omega)) | refine Below.alloc ?_ (by first | omega | (simp; done) | (simp; omega)) _ | refine Below.setCell ?_ (by first | omega | (simp; done) | (simp; omega)) _ | refine Below.drew ?_ | refine Below.setRow ?_ (by first | omega | (simp; done) | (simp; omega)) _ | refine Below.drewN ?_ _))⟩
    · rcases dec ((n : Int) < to) with ⟨q2, h'⟩ | ⟨q2, h'⟩
      · rw [if_pos (.inr h')] at hins
        replace hins := Lib.hid hins
        clear h h'
        rcases e6 with rfl | rfl
        all_goals
          go_enter Tryd.func26, Tryd.ntmps26
          go_wp2
          go_ret
          exact ⟨ret_int hins.out.symm, (by repeat (first | exact Below.refl _ _ | assumption | refine Below.n _ ?_ (by first | omega | (simp; done) | (simp; omega)) | refine Below.alloc ?_ (by first | omega | (simp; done) | (simp; omega)) _ | refine Below.setCell ?_ (by first | omega | (simp; done) | (simp; omega)) _ | refine Below.drew ?_ | refine Below.setRow ?_ (by first | omega | (simp; done) | (simp; omega)) _ | refine Below.drewN ?_ _))⟩
      · rw [if_neg (by omega)] at hins
        clear h h'
        rcases e6 with rfl | rfl
        · rcases dec (a < 1) with ⟨q3, h⟩ | ⟨q3, h⟩
          · rw [if_pos (.inl ⟨rfl, .inl h⟩)] at hins
            replace hins := Lib.hid hins
            clear h
            go_enter Tryd.func26, Tryd.ntmps26
            go_wp2
            refine wp_region_below (w.heap.size) _ (Below.refl _ _) (by kernel_rfl) (by kernel_rfl) ?_
            repeat (go_big_quiet_step ((fail)))
            refine wpQuiet_nil ?_
            rintro _ ⟨n1, rfl⟩
            go_wp2
            go_ret
            exact ⟨ret_int hins.out.symm, (by repeat (first | exact Below.refl _ _ | assumption | refine Below.n _ ?_ (by first | omega | (simp; done) | (simp; omega)) | refine Below.alloc ?_ (by first | omega | (simp; done) | (simp; omega)) _ | refine Below.setCell ?_ (by first | omega | (simp; done) | (simp; omega)) _ | refine Below.drew ?_ | refine Below.setRow ?_ (by first | omega | (simp; done) | (simp; omega)) _ | refine Below.drewN ?_ _))⟩
          · rcases dec (127 < a) with ⟨q4, h'⟩ | ⟨q4, h'⟩
            · rw [if_pos (.inl ⟨rfl, .inr h'⟩)] at hins
              replace hins := Lib.hid hins
              clear h h'
              go_enter Tryd.func26, Tryd.ntmps26
              go_wp2
              refine wp_region_below (w.heap.size) _ (Below.refl _ _) (by kernel_rfl) (by kernel_rfl) ?_
              repeat (go_big_quiet_step ((fail)))
              refine wpQuiet_nil ?_
              rintro _ ⟨n1, rfl⟩
              go_wp2
              go_ret
              exact ⟨ret_int hins.out.symm, (by repeat (first | exact Below.refl _ _ | assumption | refine Below.n _ ?_ (by first | omega | (simp; done) | (simp; omega)) | refine Below.alloc ?_ (by first | omega | (simp; done) | (simp; omega)) _ | refine Below.setCell ?_ (by first | omega | (simp; done) | (simp; omega)) _ | refine Below.drew ?_ | refine Below.setRow ?_ (by first | omega | (simp; done) | (simp; omega)) _ | refine Below.drewN ?_ _))⟩
            · rw [if_neg (by omega)] at hins
              replace hins := Lib.hid hins
              clear h h'
              go_enter Tryd.func26, Tryd.ntmps26
              go_wp2
              refine wp_region_below (w.heap.size) _ (Below.refl _ _) (by kernel_rfl) (by kernel_rfl) ?_
              repeat (go_big_quiet_step ((fail)))
              refine wpQuiet_nil ?_
              rintro _ ⟨n1, rfl⟩
              go_wp2
              go_ret
              exact ⟨ret_int hins.out.symm, (by repeat (first | exact Below.refl _ _ | assumption | refine Below.n _ ?_ (by first | omega | (simp; done) | (simp; omega)) | refine Below.alloc ?_ (by first | omega | (simp; done) | (simp; omega)) _ | refine Below.setCell ?_ (by first | omega | (simp; done) | (simp; omega)) _ | refine Below.drew ?_ | refine Below.setRow ?_ (by first | omega | (simp; done) | (simp; omega)) _ | refine Below.drewN ?_ _))⟩
        · rcases dec (a < 0) with ⟨q3, h⟩ | ⟨q3, h⟩
          · rw [if_pos (.inr ⟨rfl, .inl h⟩)] at hins
            replace hins := Lib.hid hins
            clear h
            go_enter Tryd.func26, Tryd.ntmps26
            go_wp2
            refine wp_region_below (w.heap.size) _ (Below.refl _ _) (by kernel_rfl) (by kernel_rfl) ?_
            repeat (go_big_quiet_step ((fail)))
            refine wpQuiet_nil ?_
            rintro _ ⟨n1, rfl⟩
            go_wp2
            go_ret
            exact ⟨ret_int hins.out.symm, (by repeat (first | exact Below.refl _ _ | assumption | refine Below.n _ ?_ (by first | omega | (simp; done) | (simp; omega)) | refine Below.alloc ?_ (by first | omega | (simp; done) | (simp; omega)) _ | refine Below.setCell ?_ (by first | omega | (simp; done) | (simp; omega)) _ | refine Below.drew ?_ | refine Below.setRow ?_ (by first | omega | (simp; done) | (simp; omega)) _ | refine Below.drewN ?_ _))⟩
          · rcases dec (146097 ≤ bb) with ⟨q4, h'⟩ | ⟨q4, h'⟩
            · rw [if_pos (.inr ⟨rfl, .inr (.inl h')⟩)] at hins
              replace hins := Lib.hid hins
              clear h h'
              go_enter Tryd.func26, Tryd.ntmps26
              go_wp2
              refine wp_region_below (w.heap.size) _ (Below.refl _ _) (by kernel_rfl) (by kernel_rfl) ?_
              repeat (go_big_quiet_step ((fail)))
              refine wpQuiet_nil ?_
              rintro _ ⟨n1, rfl⟩
              go_wp2
              go_ret
              exact ⟨ret_int hins.out.symm, (by repeat (first | exact Below.refl _ _ | assumption | refine Below.n _ ?_ (by first | omega | (simp; done) | (simp; omega)) | refine Below.alloc ?_ (by first | omega | (simp; done) | (simp; omega)) _ | refine Below.setCell ?_ (by first | omega | (simp; done) | (simp; omega)) _ | refine Below.drew ?_ | refine Below.setRow ?_ (by first | omega | (simp; done) | (simp; omega)) _ | refine Below.drewN ?_ _))⟩
            · rcases dec (bb < a) with ⟨q5, h''⟩ | ⟨q5, h''⟩
              · rw [if_pos (.inr ⟨rfl, .inr (.inr h'')⟩)] at hins
                replace hins := Lib.hid hins
                clear h h' h''
                go_enter Tryd.func26, Tryd.ntmps26
                go_wp2
                refine wp_region_below (w.heap.size) _ (Below.refl _ _) (by kernel_rfl) (by kernel_rfl) ?_
                repeat (go_big_quiet_step ((fail)))
                refine wpQuiet_nil ?_
                rintro _ ⟨n1, rfl⟩
                go_wp2
                go_ret
                exact ⟨ret_int hins.out.symm, (by repeat (first | exact Below.refl _ _ | assumption | refine Below.n _ ?_ (by first | omega | (simp; done) | (simp; omega)) | refine Below.alloc ?_ (by first | omega | (simp; done) | (simp; omega)) _ | refine Below.setCell ?_ (by first | omega | (simp; done) | (simp; omega)) _ | refine Below.drew ?_ | refine Below.setRow ?_ (by first | omega | (simp; done) | (simp; omega)) _ | refine Below.drewN ?_ _))⟩
              · rw [if_neg (by omega)] at hins
                replace hins := Lib.hid hins
                clear h h' h''
                go_enter Tryd.func26, Tryd.ntmps26
                go_wp2
                refine wp_region_below (w.heap.size) _ (Below.refl _ _) (by kernel_rfl) (by kernel_rfl) ?_
                repeat (go_big_quiet_step ((fail)))
                refine wpQuiet_nil ?_
                rintro _ ⟨n1, rfl⟩
                go_wp2
                go_ret
                exact ⟨ret_int hins.out.symm, (by repeat (first | exact Below.refl _ _ | assumption | refine Below.n _ ?_ (by first | omega | (simp; done) | (simp; omega)) | refine Below.alloc ?_ (by first | omega | (simp; done) | (simp; omega)) _ | refine Below.setCell ?_ (by first | omega | (simp; done) | (simp; omega)) _ | refine Below.drew ?_ | refine Below.setRow ?_ (by first | omega | (simp; done) | (simp; omega)) _ | refine Below.drewN ?_ _))⟩
  have b6 : (op == 6) = false := by simp; omega
  have b7 : (op == 7) = false := by simp; omega
  by_cases e8 : op = 8
  · subst e8
    clear b1 b2 b3 b4 b5 b6 b7 e1 e2 e5 e6
    rcases dec (a < 0) with ⟨q1, h⟩ | ⟨q1, h⟩
    · have e := Lib.hid (show insErr rules n at' ⟨8, a, bb, to, sp⟩ = 6 by simp [insErr, h])
      clear h
      go_enter Tryd.func26, Tryd.ntmps26
      go_wp2
      go_ret
      exact ⟨ret_int e.out.symm, (by repeat (first | exact Below.refl _ _ | assumption | refine Below.n _ ?_ (by first | omega | (simp; done) | (simp; omega)) | refine Below.alloc ?_ (by first | omega | (simp; done) | (simp; omega)) _ | refine Below.setCell ?_ (by first | omega | (simp; done) | (simp; omega)) _ | refine Below.drew ?_ | refine Below.setRow ?_ (by first | omega | (simp; done) | (simp; omega)) _ | refine Below.drewN ?_ _))⟩
    · rcases dec ((rules : Int) ≤ a) with ⟨q2, h'⟩ | ⟨q2, h'⟩
      · have e := Lib.hid (show insErr rules n at' ⟨8, a, bb, to, sp⟩ = 6 by simp [insErr, h'])
        clear h h'
        go_enter Tryd.func26, Tryd.ntmps26
        go_wp2
        go_ret
        exact ⟨ret_int e.out.symm, (by repeat (first | exact Below.refl _ _ | assumption | refine Below.n _ ?_ (by first | omega | (simp; done) | (simp; omega)) | refine Below.alloc ?_ (by first | omega | (simp; done) | (simp; omega)) _ | refine Below.setCell ?_ (by first | omega | (simp; done) | (simp; omega)) _ | refine Below.drew ?_ | refine Below.setRow ?_ (by first | omega | (simp; done) | (simp; omega)) _ | refine Below.drewN ?_ _))⟩
      · have e := Lib.hid (show insErr rules n at' ⟨8, a, bb, to, sp⟩ = 0 by simp [insErr, h, h'])
        clear h h'
        go_enter Tryd.func26, Tryd.ntmps26
        go_wp2
        go_ret
        exact ⟨ret_int e.out.symm, (by repeat (first | exact Below.refl _ _ | assumption | refine Below.n _ ?_ (by first | omega | (simp; done) | (simp; omega)) | refine Below.alloc ?_ (by first | omega | (simp; done) | (simp; omega)) _ | refine Below.setCell ?_ (by first | omega | (simp; done) | (simp; omega)) _ | refine Below.drew ?_ | refine Below.setRow ?_ (by first | omega | (simp; done) | (simp; omega)) _ | refine Below.drewN ?_ _))⟩
  have b8 : (op == 8) = false := by simpa using e8
  have e := Lib.hid (show insErr rules n at' ⟨op, a, bb, to, sp⟩ = 1 by
    simp only [insErr]
    rw [if_neg e1, if_neg e2, if_neg e5, if_neg e6, if_neg e8])
  clear e1 e2 e5 e6 e8
  go_enter Tryd.func26, Tryd.ntmps26
  go_wp2
  go_ret
  exact ⟨ret_int e.out.symm, (by repeat (first | exact Below.refl _ _ | assumption | refine Below.n _ ?_ (by first | omega | (simp; done) | (simp; omega)) | refine Below.alloc ?_ (by first | omega | (simp; done) | (simp; omega)) _ | refine Below.setCell ?_ (by first | omega | (simp; done) | (simp; omega)) _ | refine Below.drew ?_ | refine Below.setRow ?_ (by first | omega | (simp; done) | (simp; omega)) _ | refine Below.drewN ?_ _))⟩

end Vm
end Go.Proofs.YtbadplbdgpbdaaaDoor

namespace Go.Proofs.YtbadplbdgpbdaaaDoor
open Go.RowKit Go.Maps Go.ChangeShapes
namespace Vm
open Msk Sl

/-- what a map of ints keeps -/
def litF (F : Int → Option Int) : Lit → Option Value
  | .int .i64 x => (F x).map (Value.int .i64)
  | _ => none
theorem put_litF (F : Int → Option Int) (i h : Int) : Mp.put (litF F) (.int .i64 i) (.int .i64 h) = litF (putF F i h) := by
  funext x
  unfold Mp.put
  cases e : x.sameKey (.int .i64 i) with
  | true =>
    have := WideAt.sameKey_eq e
    subst this
    simp [litF, putF]
  | false =>
    simp only [Bool.false_eq_true, if_false]
    unfold litF
    split
    · rename_i y
      have hy : ¬ y = i := fun e' => by subst e'; rw [WideAt.sameKey_self (show WideAt.IsKeyLit (.int .i64 y) from trivial)] at e; cases e
      simp [putF, hy]
    · rfl
theorem zero_int (w : World) : (zeroValue 3).run Tryd.prog w = .ok (.int .i64 0) w := by kernel_rfl
theorem wf_int {x : Int} (h : -9223372036854775808 ≤ x) (h2 : x ≤ 9223372036854775807) : (Lit.int .i64 x).wf = true := by
  rw [← IntWalk.i64_in x ⟨h, h2⟩]
  exact wf_wrap _ _
theorem below_row {B b : Nat} {a w w' : World} (h : Below B a w) (hg : w.grownBy w' (some b)) (hb : B ≤ b) (hs : B ≤ w.heap.size) : Below B a w' :=
  h.trans ⟨hg.os, hg.tape, hg.output, hg.size, fun k hk => hg.block k (by omega) (fun e => by cases e; omega)⟩
theorem blk_row {b g : Nat} {w w' : World} {t : TypeId} {cs : Array Value} (h : Blk w g t cs) (hg : w.grownBy w' (some b)) (hb : g ≠ b) : Blk w' g t cs :=
  (hg.block g h.lt (fun e => by cases e; exact hb rfl)).trans h

section
variable {w : World} {mb n c : Nat} {F : Int → Option Int}
theorem look_int (hM : Mp.Is w Tryd.prog 3 mb n c (litF F)) {i : Int} (h : -9223372036854775808 ≤ i) (h2 : i ≤ 9223372036854775807) :
    (Instr.lookup 102 (.map (some mb)) (.int .i64 i) true).run Tryd.prog w = .ok (.tuple #[.int .i64 ((F i).getD 0), .bool (F i).isSome]) w := by
  have := hM.look_ok (int_keyed Tryd.underlying3) Tryd.underlying102 (zero_int w) (keyOf_int_mk Tryd.underlying3 (wf_int h h2))
  rw [this]
  have e : litF F (.int .i64 i) = (F i).map (Value.int .i64) := rfl
  rw [e]
  cases F i <;> rfl
theorem look_int0 (hM : Mp.Is w Tryd.prog 3 mb n c (litF F)) {i : Int} (h : -9223372036854775808 ≤ i) (h2 : i ≤ 9223372036854775807) :
    (Instr.lookup 102 (.map (some mb)) (.int .i64 i) false).run Tryd.prog w = .ok (.int .i64 ((F i).getD 0)) w := by
  have := hM.look (int_keyed Tryd.underlying3) Tryd.underlying102 (zero_int w) (keyOf_int_mk Tryd.underlying3 (wf_int h h2))
  rw [this]
  have e : litF F (.int .i64 i) = (F i).map (Value.int .i64) := rfl
  rw [e]
  cases F i <;> rfl
theorem store_int (hM : Mp.Is w Tryd.prog 3 mb n c (litF F)) {i h : Int} (hn : n < 1000000) (h1 : -9223372036854775808 ≤ i) (h2 : i ≤ 9223372036854775807) :
    ∃ w', (Instr.mapUpdate 102 (.map (some mb)) (.int .i64 i) (.int .i64 h)).run Tryd.prog w = .ok () w' ∧ Mp.Is w' Tryd.prog 3 mb (n + 1) (if (F i).isSome then c else c + 1) (litF (putF F i h)) ∧ w.grownBy w' (some mb) := by
  obtain ⟨w', hr, hI, hg⟩ := hM.store (val := .int .i64 h) (int_keyed Tryd.underlying3) Tryd.underlying102 (by simp only [maxLen]; omega) (keyOf_int_mk Tryd.underlying3 (wf_int h1 h2))
  rw [put_litF] at hI
  refine ⟨w', hr, ?_, hg⟩
  have e0 : litF F (.int .i64 i) = (F i).map (Value.int .i64) := rfl
  have e : (litF F (.int .i64 i)).isSome = (F i).isSome := by
    rw [e0]
    cases F i <;> rfl
  rwa [e] at hI
end

set_option maxHeartbeats 1000000 in
theorem meet_any (F : Int → Option Int) (c : Nat) (i h : Int) (w : World) (mb cb n : Nat) (hM : Mp.Is w Tryd.prog 3 mb n c (litF F)) (hcb : w.cell? ⟨cb, 0, none⟩ = some (.map (some mb))) (hn : n < 1000000)
    (h1 : -9223372036854775808 ≤ i) (h2 : i ≤ 9223372036854775807) :
    Calls Tryd.prog 54 #[.int .i64 i, .int .i64 h, .pointer (some ⟨cb, 0, none⟩)] w fun e w' =>
      (meetF F c i h = none ∧ e = .returned (.bool false) ∧ w = w') ∨ (∃ F' c', meetF F c i h = some (F', c') ∧ e = .returned (.bool true) ∧ Mp.Is w' Tryd.prog 3 mb (n + 1) c' (litF F') ∧ w.grownBy w' (some mb)) := by
  have hlook := look_int hM h1 h2
  obtain ⟨ws, hrun, hI, hg⟩ := store_int (h := h) hM hn h1 h2
  cases hF : F i with
  | none =>
    rw [hF] at hlook hI
    have hm := Lib.hid (show meetF F c i h = some (putF F i h, c + 1) by unfold meetF; rw [hF])
    replace hI := Lib.hid hI
    replace hg := Lib.hid hg
    clear hF
    simp only [Option.getD_none, Option.isSome_none] at hlook
    go_enter Tryd.func54, Tryd.ntmps54
    go_wp2
    go_ret
    exact .inr ⟨_, _, hm.out, rfl, hI.out, hg.out⟩
  | some had =>
    rw [hF] at hlook hI
    simp only [Option.getD_some, Option.isSome_some] at hlook
    by_cases e : had = h
    · subst e
      have g : (had != had) = false := by simp
      have hm := Lib.hid (show meetF F c i had = some (putF F i had, c) by unfold meetF; rw [hF]; exact if_pos rfl)
      replace hI := Lib.hid hI
      replace hg := Lib.hid hg
      clear hF
      go_enter Tryd.func54, Tryd.ntmps54
      go_wp2
      go_ret
      exact .inr ⟨_, _, hm.out, rfl, hI.out, hg.out⟩
    · have g : (had != h) = true := by simpa using e
      have hm := Lib.hid (show meetF F c i h = none by unfold meetF; rw [hF]; exact if_neg e)
      clear hF hI hg hrun e
      go_enter Tryd.func54, Tryd.ntmps54
      go_wp2
      go_ret
      exact .inl ⟨hm.out, rfl, rfl⟩

end Vm
end Go.Proofs.YtbadplbdgpbdaaaDoor
