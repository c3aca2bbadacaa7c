/- The walk of vm.ins. -/
import Derived.Test.YthdaeddaofickaaVmW
namespace Go.Proofs.Ythdaeddaofickaa
open Go.RowKit
namespace Vm
open Msk Sl

set_option maxHeartbeats 4000000 in
theorem ins_any (A : Option Addr) (rules cap : Nat) (at' n : Nat) (b o : Nat) (x : Ins) (w : World) (hx : InsAt w w.heap.size b o x) (hb : b < w.heap.size) (hat : at' < 4000000000000000000) :
    Calls Try.prog 33 #[.slice A rules cap, .int .i64 at', .pointer (some ⟨b, o, none⟩), .int .i64 n] w fun e w' => e = .returned (.int .i64 (insErr rules n at' x)) ∧ Below w.heap.size w w' := by
  obtain ⟨op, a, bb, to, sp⟩ := x
  obtain ⟨h0, h1, h2, h3, u, h4, h5⟩ := hx
  simp only at h0 h1 h2 h3 h4 h5
  by_cases e1 : op = 1
  · subst e1
    have hs := Lib.hid (spans_any u sp w h5)
    go_enter Try.func33, Try.ntmps33
    go_wp2_with (go_at_call 59; refine hs.out.mono ?_; rintro e w1 ⟨rfl, hb1⟩; obtain ⟨n1, rfl⟩ := After.of hb1)
    go_ret
    exact ⟨ret_int (by simp [insErr]), (by repeat (first | exact Below.refl _ _ | assumption | refine Below.n _ ?_ (by first | omega | (simp; done) | (simp; omega)) | refine Below.alloc ?_ (by first | omega | (simp; done) | (simp; omega)) _ | refine Below.setCell ?_ (by first | omega | (simp; done) | (simp; omega)) _ | refine Below.drew ?_ | refine Below.setRow ?_ (by first | omega | (simp; done) | (simp; omega)) _ | refine Below.drewN ?_ _))⟩
  have b1 : (op == 1) = false := by simpa using e1
  by_cases e2 : op = 2 ∨ op = 3 ∨ op = 4
  · rcases e2 with rfl | rfl | rfl
    all_goals
      go_enter Try.func33, Try.ntmps33
      go_wp2
      go_ret
      exact ⟨ret_int (by simp [insErr]), (by repeat (first | exact Below.refl _ _ | assumption | refine Below.n _ ?_ (by first | omega | (simp; done) | (simp; omega)) | refine Below.alloc ?_ (by first | omega | (simp; done) | (simp; omega)) _ | refine Below.setCell ?_ (by first | omega | (simp; done) | (simp; omega)) _ | refine Below.drew ?_ | refine Below.setRow ?_ (by first | omega | (simp; done) | (simp; omega)) _ | refine Below.drewN ?_ _))⟩
  have b2 : (op == 2) = false := by simp; omega
  have b3 : (op == 3) = false := by simp; omega
  have b4 : (op == 4) = false := by simp; omega
  by_cases e5 : op = 5
  · subst e5
    clear b1 b2 b3 b4 e1 e2
    rcases dec (a = 0) with ⟨q1, q⟩ | ⟨q1, q⟩
    · replace q1 : (a == 0) = true := by simpa using q
      have e := Lib.hid (show insErr rules n at' ⟨5, a, bb, to, sp⟩ = 3 by simp [insErr, q])
      clear q
      go_enter Try.func33, Try.ntmps33
      go_wp2
      go_ret
      exact ⟨ret_int e.out.symm, (by repeat (first | exact Below.refl _ _ | assumption | refine Below.n _ ?_ (by first | omega | (simp; done) | (simp; omega)) | refine Below.alloc ?_ (by first | omega | (simp; done) | (simp; omega)) _ | refine Below.setCell ?_ (by first | omega | (simp; done) | (simp; omega)) _ | refine Below.drew ?_ | refine Below.setRow ?_ (by first | omega | (simp; done) | (simp; omega)) _ | refine Below.drewN ?_ _))⟩
    · replace q1 : (a == 0) = false := by simpa using q
      rcases dec (a ≤ -1440) with ⟨q2, h⟩ | ⟨q2, h⟩
      · have e := Lib.hid (show insErr rules n at' ⟨5, a, bb, to, sp⟩ = 3 by simp [insErr, h])
        clear q h
        go_enter Try.func33, Try.ntmps33
        go_wp2
        go_ret
        exact ⟨ret_int e.out.symm, (by repeat (first | exact Below.refl _ _ | assumption | refine Below.n _ ?_ (by first | omega | (simp; done) | (simp; omega)) | refine Below.alloc ?_ (by first | omega | (simp; done) | (simp; omega)) _ | refine Below.setCell ?_ (by first | omega | (simp; done) | (simp; omega)) _ | refine Below.drew ?_ | refine Below.setRow ?_ (by first | omega | (simp; done) | (simp; omega)) _ | refine Below.drewN ?_ _))⟩
      · rcases dec (1440 ≤ a) with ⟨q3, h'⟩ | ⟨q3, h'⟩
        · have e := Lib.hid (show insErr rules n at' ⟨5, a, bb, to, sp⟩ = 3 by simp [insErr, h'])
          clear q h h'
          go_enter Try.func33, Try.ntmps33
          go_wp2
          go_ret
          exact ⟨ret_int e.out.symm, (by repeat (first | exact Below.refl _ _ | assumption | refine Below.n _ ?_ (by first | omega | (simp; done) | (simp; omega)) | refine Below.alloc ?_ (by first | omega | (simp; done) | (simp; omega)) _ | refine Below.setCell ?_ (by first | omega | (simp; done) | (simp; omega)) _ | refine Below.drew ?_ | refine Below.setRow ?_ (by first | omega | (simp; done) | (simp; omega)) _ | refine Below.drewN ?_ _))⟩
        · have e := Lib.hid (show insErr rules n at' ⟨5, a, bb, to, sp⟩ = 0 by simp [insErr, h', h, q])
          clear q h h'
          go_enter Try.func33, Try.ntmps33
          go_wp2
          go_ret
          exact ⟨ret_int e.out.symm, (by repeat (first | exact Below.refl _ _ | assumption | refine Below.n _ ?_ (by first | omega | (simp; done) | (simp; omega)) | refine Below.alloc ?_ (by first | omega | (simp; done) | (simp; omega)) _ | refine Below.setCell ?_ (by first | omega | (simp; done) | (simp; omega)) _ | refine Below.drew ?_ | refine Below.setRow ?_ (by first | omega | (simp; done) | (simp; omega)) _ | refine Below.drewN ?_ _))⟩
  have b5 : (op == 5) = false := by simpa using e5
  by_cases e6 : op = 6 ∨ op = 7
  · have hins : insErr rules n at' ⟨op, a, bb, to, sp⟩ = if to ≤ at' + 1 ∨ n < to then 8 else if op = 6 ∧ (a < 1 ∨ 127 < a) ∨ op = 7 ∧ (a < 0 ∨ 146097 ≤ bb ∨ bb < a) then 3 else 0 := by
      simp only [insErr]
      rw [if_neg e1, if_neg e2, if_neg e5, if_pos e6]
    rcases dec (to ≤ (at' : Int) + 1) with ⟨q1, h⟩ | ⟨q1, h⟩
    · rw [if_pos (.inl h)] at hins
      replace hins := Lib.hid hins
      clear h
      rcases e6 with rfl | rfl
      all_goals
        go_enter Try.func33, Try.ntmps33
        go_wp2
        go_ret
        exact ⟨ret_int hins.out.symm, (by repeat (first | exact Below.refl _ _ | assumption | refine Below.n _ ?_ (by first | omega | (simp; done) | (simp; omega)) | refine Below.alloc ?_ (by first | omega | (simp; done) | (simp; omega)) _ | refine Below.setCell ?_ (by first | omega | (simp; done) | (simp; omega)) _ | refine Below.drew ?_ | refine Below.setRow ?_ (by first | omega | (simp; done) | (simp; omega)) _ | refine Below.drewN ?_ _))⟩
    · rcases dec ((n : Int) < to) with ⟨q2, h'⟩ | ⟨q2, h'⟩
      · rw [if_pos (.inr h')] at hins
        replace hins := Lib.hid hins
        clear h h'
        rcases e6 with rfl | rfl
        all_goals
          go_enter Try.func33, Try.ntmps33
          go_wp2
          go_ret
          exact ⟨ret_int hins.out.symm, (by repeat (first | exact Below.refl _ _ | assumption | refine Below.n _ ?_ (by first | omega | (simp; done) | (simp; omega)) | refine Below.alloc ?_ (by first | omega | (simp; done) | (simp; omega)) _ | refine Below.setCell ?_ (by first | omega | (simp; done) | (simp; omega)) _ | refine Below.drew ?_ | refine Below.setRow ?_ (by first | omega | (simp; done) | (simp; omega)) _ | refine Below.drewN ?_ _))⟩
      · rw [if_neg (by omega)] at hins
        clear h h'
        rcases e6 with rfl | rfl
        · rcases dec (a < 1) with ⟨q3, h⟩ | ⟨q3, h⟩
          · rw [if_pos (.inl ⟨rfl, .inl h⟩)] at hins
            replace hins := Lib.hid hins
            clear h
            go_enter Try.func33, Try.ntmps33
            go_wp2
            refine wp_region_below (w.heap.size) _ (Below.refl _ _) (by kernel_rfl) (by kernel_rfl) ?_
            repeat (go_big_quiet_step ((fail)))
            refine wpQuiet_nil ?_
            rintro _ ⟨n1, rfl⟩
            go_wp2
            go_ret
            exact ⟨ret_int hins.out.symm, (by repeat (first | exact Below.refl _ _ | assumption | refine Below.n _ ?_ (by first | omega | (simp; done) | (simp; omega)) | refine Below.alloc ?_ (by first | omega | (simp; done) | (simp; omega)) _ | refine Below.setCell ?_ (by first | omega | (simp; done) | (simp; omega)) _ | refine Below.drew ?_ | refine Below.setRow ?_ (by first | omega | (simp; done) | (simp; omega)) _ | refine Below.drewN ?_ _))⟩
          · rcases dec (127 < a) with ⟨q4, h'⟩ | ⟨q4, h'⟩
            · rw [if_pos (.inl ⟨rfl, .inr h'⟩)] at hins
              replace hins := Lib.hid hins
              clear h h'
              go_enter Try.func33, Try.ntmps33
              go_wp2
              refine wp_region_below (w.heap.size) _ (Below.refl _ _) (by kernel_rfl) (by kernel_rfl) ?_
              repeat (go_big_quiet_step ((fail)))
              refine wpQuiet_nil ?_
              rintro _ ⟨n1, rfl⟩
              go_wp2
              go_ret
              exact ⟨ret_int hins.out.symm, (by repeat (first | exact Below.refl _ _ | assumption | refine Below.n _ ?_ (by first | omega | (simp; done) | (simp; omega)) | refine Below.alloc ?_ (by first | omega | (simp; done) | (simp; omega)) _ | refine Below.setCell ?_ (by first | omega | (simp; done) | (simp; omega)) _ | refine Below.drew ?_ | refine Below.setRow ?_ (by first | omega | (simp; done) | (simp; omega)) _ | refine Below.drewN ?_ _))⟩
            · rw [if_neg (by omega)] at hins
              replace hins := Lib.hid hins
              clear h h'
              go_enter Try.func33, Try.ntmps33
              go_wp2
              refine wp_region_below (w.heap.size) _ (Below.refl _ _) (by kernel_rfl) (by kernel_rfl) ?_
              repeat (go_big_quiet_step ((fail)))
              refine wpQuiet_nil ?_
              rintro _ ⟨n1, rfl⟩
              go_wp2
              go_ret
              exact ⟨ret_int hins.out.symm, (by repeat (first | exact Below.refl _ _ | assumption | refine Below.n _ ?_ (by first | omega | (simp; done) | (simp; omega)) | refine Below.alloc ?_ (by first | omega | (simp; done) | (simp; omega)) _ | refine Below.setCell ?_ (by first | omega | (simp; done) | (simp; omega)) _ | refine Below.drew ?_ | refine Below.setRow ?_ (by first | omega | (simp; done) | (simp; omega)) _ | refine Below.drewN ?_ _))⟩
        · rcases dec (a < 0) with ⟨q3, h⟩ | ⟨q3, h⟩
          · rw [if_pos (.inr ⟨rfl, .inl h⟩)] at hins
            replace hins := Lib.hid hins
            clear h
            go_enter Try.func33, Try.ntmps33
            go_wp2
            refine wp_region_below (w.heap.size) _ (Below.refl _ _) (by kernel_rfl) (by kernel_rfl) ?_
            repeat (go_big_quiet_step ((fail)))
            refine wpQuiet_nil ?_
            rintro _ ⟨n1, rfl⟩
            go_wp2
            go_ret
            exact ⟨ret_int hins.out.symm, (by repeat (first | exact Below.refl _ _ | assumption | refine Below.n _ ?_ (by first | omega | (simp; done) | (simp; omega)) | refine Below.alloc ?_ (by first | omega | (simp; done) | (simp; omega)) _ | refine Below.setCell ?_ (by first | omega | (simp; done) | (simp; omega)) _ | refine Below.drew ?_ | refine Below.setRow ?_ (by first | omega | (simp; done) | (simp; omega)) _ | refine Below.drewN ?_ _))⟩
          · rcases dec (146097 ≤ bb) with ⟨q4, h'⟩ | ⟨q4, h'⟩
            · rw [if_pos (.inr ⟨rfl, .inr (.inl h')⟩)] at hins
              replace hins := Lib.hid hins
              clear h h'
              go_enter Try.func33, Try.ntmps33
              go_wp2
              refine wp_region_below (w.heap.size) _ (Below.refl _ _) (by kernel_rfl) (by kernel_rfl) ?_
              repeat (go_big_quiet_step ((fail)))
              refine wpQuiet_nil ?_
              rintro _ ⟨n1, rfl⟩
              go_wp2
              go_ret
              exact ⟨ret_int hins.out.symm, (by repeat (first | exact Below.refl _ _ | assumption | refine Below.n _ ?_ (by first | omega | (simp; done) | (simp; omega)) | refine Below.alloc ?_ (by first | omega | (simp; done) | (simp; omega)) _ | refine Below.setCell ?_ (by first | omega | (simp; done) | (simp; omega)) _ | refine Below.drew ?_ | refine Below.setRow ?_ (by first | omega | (simp; done) | (simp; omega)) _ | refine Below.drewN ?_ _))⟩
            · rcases dec (bb < a) with ⟨q5, h''⟩ | ⟨q5, h''⟩
              · rw [if_pos (.inr ⟨rfl, .inr (.inr h'')⟩)] at hins
                replace hins := Lib.hid hins
                clear h h' h''
                go_enter Try.func33, Try.ntmps33
                go_wp2
                refine wp_region_below (w.heap.size) _ (Below.refl _ _) (by kernel_rfl) (by kernel_rfl) ?_
                repeat (go_big_quiet_step ((fail)))
                refine wpQuiet_nil ?_
                rintro _ ⟨n1, rfl⟩
                go_wp2
                go_ret
                exact ⟨ret_int hins.out.symm, (by repeat (first | exact Below.refl _ _ | assumption | refine Below.n _ ?_ (by first | omega | (simp; done) | (simp; omega)) | refine Below.alloc ?_ (by first | omega | (simp; done) | (simp; omega)) _ | refine Below.setCell ?_ (by first | omega | (simp; done) | (simp; omega)) _ | refine Below.drew ?_ | refine Below.setRow ?_ (by first | omega | (simp; done) | (simp; omega)) _ | refine Below.drewN ?_ _))⟩
              · rw [if_neg (by omega)] at hins
                replace hins := Lib.hid hins
                clear h h' h''
                go_enter Try.func33, Try.ntmps33
                go_wp2
                refine wp_region_below (w.heap.size) _ (Below.refl _ _) (by kernel_rfl) (by kernel_rfl) ?_
                repeat (go_big_quiet_step ((fail)))
                refine wpQuiet_nil ?_
                rintro _ ⟨n1, rfl⟩
                go_wp2
                go_ret
                exact ⟨ret_int hins.out.symm, (by repeat (first | exact Below.refl _ _ | assumption | refine Below.n _ ?_ (by first | omega | (simp; done) | (simp; omega)) | refine Below.alloc ?_ (by first | omega | (simp; done) | (simp; omega)) _ | refine Below.setCell ?_ (by first | omega | (simp; done) | (simp; omega)) _ | refine Below.drew ?_ | refine Below.setRow ?_ (by first | omega | (simp; done) | (simp; omega)) _ | refine Below.drewN ?_ _))⟩
  have b6 : (op == 6) = false := by simp; omega
  have b7 : (op == 7) = false := by simp; omega
  by_cases e8 : op = 8
  · subst e8
    clear b1 b2 b3 b4 b5 b6 b7 e1 e2 e5 e6
    rcases dec (a < 0) with ⟨q1, h⟩ | ⟨q1, h⟩
    · have e := Lib.hid (show insErr rules n at' ⟨8, a, bb, to, sp⟩ = 6 by simp [insErr, h])
      clear h
      go_enter Try.func33, Try.ntmps33
      go_wp2
      go_ret
      exact ⟨ret_int e.out.symm, (by repeat (first | exact Below.refl _ _ | assumption | refine Below.n _ ?_ (by first | omega | (simp; done) | (simp; omega)) | refine Below.alloc ?_ (by first | omega | (simp; done) | (simp; omega)) _ | refine Below.setCell ?_ (by first | omega | (simp; done) | (simp; omega)) _ | refine Below.drew ?_ | refine Below.setRow ?_ (by first | omega | (simp; done) | (simp; omega)) _ | refine Below.drewN ?_ _))⟩
    · rcases dec ((rules : Int) ≤ a) with ⟨q2, h'⟩ | ⟨q2, h'⟩
      · have e := Lib.hid (show insErr rules n at' ⟨8, a, bb, to, sp⟩ = 6 by simp [insErr, h'])
        clear h h'
        go_enter Try.func33, Try.ntmps33
        go_wp2
        go_ret
        exact ⟨ret_int e.out.symm, (by repeat (first | exact Below.refl _ _ | assumption | refine Below.n _ ?_ (by first | omega | (simp; done) | (simp; omega)) | refine Below.alloc ?_ (by first | omega | (simp; done) | (simp; omega)) _ | refine Below.setCell ?_ (by first | omega | (simp; done) | (simp; omega)) _ | refine Below.drew ?_ | refine Below.setRow ?_ (by first | omega | (simp; done) | (simp; omega)) _ | refine Below.drewN ?_ _))⟩
      · have e := Lib.hid (show insErr rules n at' ⟨8, a, bb, to, sp⟩ = 0 by simp [insErr, h, h'])
        clear h h'
        go_enter Try.func33, Try.ntmps33
        go_wp2
        go_ret
        exact ⟨ret_int e.out.symm, (by repeat (first | exact Below.refl _ _ | assumption | refine Below.n _ ?_ (by first | omega | (simp; done) | (simp; omega)) | refine Below.alloc ?_ (by first | omega | (simp; done) | (simp; omega)) _ | refine Below.setCell ?_ (by first | omega | (simp; done) | (simp; omega)) _ | refine Below.drew ?_ | refine Below.setRow ?_ (by first | omega | (simp; done) | (simp; omega)) _ | refine Below.drewN ?_ _))⟩
  have b8 : (op == 8) = false := by simpa using e8
  have e := Lib.hid (show insErr rules n at' ⟨op, a, bb, to, sp⟩ = 1 by
    simp only [insErr]
    rw [if_neg e1, if_neg e2, if_neg e5, if_neg e6, if_neg e8])
  clear e1 e2 e5 e6 e8
  go_enter Try.func33, Try.ntmps33
  go_wp2
  go_ret
  exact ⟨ret_int e.out.symm, (by repeat (first | exact Below.refl _ _ | assumption | refine Below.n _ ?_ (by first | omega | (simp; done) | (simp; omega)) | refine Below.alloc ?_ (by first | omega | (simp; done) | (simp; omega)) _ | refine Below.setCell ?_ (by first | omega | (simp; done) | (simp; omega)) _ | refine Below.drew ?_ | refine Below.setRow ?_ (by first | omega | (simp; done) | (simp; omega)) _ | refine Below.drewN ?_ _))⟩

end Vm
end Go.Proofs.Ythdaeddaofickaa
