/- The walk of vm.rings. -/
import Derived.Test.YthdaeddaofickaaVmR
import Derived.Test.YthdaeddaofickaaVmT
import Derived.Test.YthdaeddaofickaaVmP
import Derived.Test.YthdaeddaofickaaSl
import Derived.Test.YthdaeddaofickaaQt
namespace Go.Proofs.Ythdaeddaofickaa
open Go.RowKit
namespace Vm
open Msk Sl

theorem OffRow.tail {w : World} {base g o cap : Nat} {x : Int} {l : List Int} (h : OffRow w base (.slice (some ⟨g, o, none⟩) (l.length + 1) cap) (x :: l)) : OffRow w base (.slice (some ⟨g, o + 1, none⟩) l.length (cap - 1)) l := by
  obtain ⟨g', o', cap', cur, e, h1, h2, h3, h4, h5, h6⟩ := h
  cases e
  rw [List.length_cons] at h3
  exact ⟨g, o + 1, cap - 1, cur, rfl, h1, h2, by omega, by omega, by omega, fun j y hy => by
    have := h6 (j + 1) y (by simpa using hy)
    rwa [show o + 1 + j = o + (j + 1) by omega]⟩

set_option maxHeartbeats 8000000 in
theorem rings_any (codeV : Value) (l : List Code) (rule : Nat) (w : World) (hl : CodesV w w.heap.size codeV l) (hr : rule < l.length) (hN : ∀ c ∈ l, ∀ x ∈ c.ins, x.op = 8 → 0 ≤ x.a ∧ x.a < l.length) (h40 : l.length ≤ 40) :
    Calls Try.prog 34 #[codeV, .int .i64 rule] w fun e w' => e = .returned (.bool (ringsL l rule)) ∧ Below w.heap.size w w' := by
  obtain ⟨A, cap, rfl, hlen, hc⟩ := hl
  replace hc := Lib.hid hc
  replace hN := Lib.hid hN
  go_enter Try.func34, Try.ntmps34
  go_wp2
  go_loopg [5, 6] (l.length + 2) (fun n sv tv wr => ∃ (s t : List Int) (sv0 tv0 : Value), sv = sv0 ∧ tv = tv0 ∧ Hid (bfs l rule n s t = ringsL l rule) ∧ Hid (Two wr w.heap.size sv0 tv0 s t) ∧ Below w.heap.size w wr ∧ Hid (∀ x ∈ t, 0 ≤ x ∧ x < l.length) ∧ s.length + freeN l.length s ≤ l.length ∧ t.length + freeN l.length s < n ∧ n ≤ l.length + 2)
  case atStart =>
    have hf := freeN_nil l.length
    refine ⟨[], [(rule : Int)], _, _, rfl, rfl, Lib.hid rfl, Lib.hid ⟨World.ownsRow_nil _ _ _ _, ?_, by simp [Value.ownBlock]⟩, (by repeat (first | exact Below.refl _ _ | assumption | refine Below.n _ ?_ (by first | omega | (simp; done) | (simp; omega)) | refine Below.alloc ?_ (by first | omega | (simp; done) | (simp; omega)) _ | refine Below.setCell ?_ (by first | omega | (simp; done) | (simp; omega)) _ | refine Below.drew ?_ | refine Below.setRow ?_ (by first | omega | (simp; done) | (simp; omega)) _ | refine Below.drewN ?_ _)), Lib.hid (by simp; omega), by simp [hf], by rw [hf]; simp only [List.length_singleton]; omega, Nat.le_refl _⟩
    exact ⟨w.heap.size, 0, 1, #[.int .i64 rule], rfl, Nat.le_refl _, Blk.new w 3 #[.int .i64 rule], by simp, by simp, by omega, fun j x hx => by
      cases j with
      | zero => simp at hx; subst hx; rfl
      | succ j => simp at hx⟩
  case round =>
    obtain ⟨s, t, sv, tv, hsv, htv, hbf, hT, hbw, htr, hf1, hf2, hf3⟩ := hrel
    cases t with
    | nil =>
      have hres := Lib.hid (show ringsL l rule = false by
        rw [← hbf.out]
        obtain ⟨m, rfl⟩ : ∃ m, gk = m + 1 := ⟨gk - 1, by simp at hf2; omega⟩
        rfl)
      obtain ⟨g, off, cp, cur, rfl, h1, h2, h3, h4, h5, h6⟩ := hT.out.todo
      subst htv
      simp only [List.length_nil]
      go_wp2
      go_ret
      exact ⟨ret_bool hres.out.symm, (by repeat (first | exact Below.refl _ _ | assumption | refine Below.n _ ?_ (by first | omega | (simp; done) | (simp; omega)) | refine Below.alloc ?_ (by first | omega | (simp; done) | (simp; omega)) _ | refine Below.setCell ?_ (by first | omega | (simp; done) | (simp; omega)) _ | refine Below.drew ?_ | refine Below.setRow ?_ (by first | omega | (simp; done) | (simp; omega)) _ | refine Below.drewN ?_ _))⟩
    | cons t0 ts =>
      have ht0 := htr.out t0 (by simp)
      obtain ⟨kn, rfl⟩ := Int.eq_ofNat_of_zero_le ht0.1
      obtain ⟨ck, hck⟩ : ∃ ck, l[kn]? = some ck := ⟨_, List.getElem?_eq_getElem (by omega)⟩
      obtain ⟨b, o, rfl, hb, ⟨u, k0, hI⟩, _, _⟩ := hc.out kn ck hck
      obtain ⟨A1, cap1, rfl, hlen1, hc1⟩ := hI
      replace hc1 := Lib.hid hc1
      have hkl : kn < l.length := by omega
      obtain ⟨g, off, cp, cur, rfl, h1, h2, h3, h4, h5, h6⟩ := hT.out.todo
      have d0 : wr.cell? ⟨b, o + kn * 3, none⟩ = some (.slice A1 ck.ins.length cap1) := (hbw.cell (p := ⟨b, _, none⟩) hb).trans k0
      have e0 : wr.cell? ⟨g, off, none⟩ = some (.int .i64 (kn : Nat)) := by
        have := h6 0 _ rfl
        rw [Nat.add_zero] at this
        simp [World.cell?, h2, this]
      obtain ⟨m, hm⟩ : ∃ m, gk = m + 1 := ⟨gk - 1, by simp at hf2; omega⟩
      have hio : insOf l (kn : Int) = ck.ins := by unfold insOf; rw [Int.toNat_natCast, hck]; rfl
      have hbf2 := hbf.out
      rw [hm, bfs, hio] at hbf2
      have hN8 := Lib.hid (hN.out ck (List.mem_of_getElem? hck))
      have hT2 : (cp = 1 ∧ Two wr w.heap.size sv (.slice (some ⟨g, off, none⟩) 0 0) s ts) ∨ (cp ≠ 1 ∧ Two wr w.heap.size sv (.slice (some ⟨g, off + 1, none⟩) ts.length (cp - 1)) s ts) := by
        by_cases hc1 : cp = 1
        · have hn : ts = [] := List.eq_nil_of_length_eq_zero (by simp at h3; omega)
          exact .inl ⟨hc1, hT.out.seen, ⟨g, off, 0, cur, by rw [hn]; rfl, h1, h2, by rw [hn]; simp, by omega, by omega, fun j x hx => by rw [hn] at hx; simp at hx⟩, hT.out.apart⟩
        · exact .inr ⟨hc1, hT.out.seen, hT.out.todo.tail, hT.out.apart⟩
      have htr2 := Lib.hid (show ∀ x ∈ ts, 0 ≤ x ∧ x < l.length from fun x hx => htr.out x (by simp [hx]))
      have hcp : ts.length + 1 ≤ cp := by simpa using h3
      replace hbf2 := Lib.hid hbf2
      rw [List.length_cons] at hf2
      obtain ⟨A2, cap2, rfl⟩ := own_slice hT.out.seen
      subst hsv
      subst htv
      clear hT h1 h2 h3 h4 h6 hbf htr k0 hck hio ht0
      rw [List.length_cons]
      rcases hT2 with ⟨rfl, hT2⟩ | ⟨hcp1, hT2⟩
      all_goals
        replace hT2 := Lib.hid hT2
        go_wp2
        clear e0 d0
        obtain ⟨wo, rfl⟩ : ∃ wo : World, wo = wr := ⟨_, rfl⟩
        go_loopg [5, 6, 26] ck.ins.length (fun n sv tv k wr2 => ∃ (i : Nat) (s2 t2 : List Int) (sv0 tv0 : Value), sv = sv0 ∧ tv = tv0 ∧ k = .int .i64 i ∧ n = ck.ins.length - i ∧ i ≤ ck.ins.length ∧ Hid (scan rule (ck.ins.drop i) s2 t2 = scan rule ck.ins s ts) ∧ Hid (Two wr2 w.heap.size sv0 tv0 s2 t2) ∧ Below w.heap.size w wr2 ∧ Hid (∀ x ∈ t2, 0 ≤ x ∧ x < l.length) ∧ s2.length + freeN l.length s2 ≤ l.length ∧ t2.length + freeN l.length s2 ≤ ts.length + freeN l.length s)
        case atStart => exact ⟨0, s, ts, _, _, rfl, rfl, rfl, by omega, by omega, Lib.hid rfl, hT2, hbw, htr2, hf1, Nat.le_refl _⟩
        case round =>
          clear hbw hT2 htr2 hcp
          obtain ⟨i, s2, t2, sv2, tv2, hsv, htv, rfl, hq, hi, hsc, hT, hbw, htr, hg1, hg2⟩ := hrel
          replace hq := Lib.hid hq
          by_cases hlt : i < ck.ins.length
          · obtain ⟨x, hx⟩ : ∃ x, ck.ins[i]? = some x := ⟨_, List.getElem?_eq_getElem hlt⟩
            obtain ⟨b1, o1, rfl, hb1, hat⟩ := hc1.out i x hx
            have hst := scan_at (rule := (rule : Int)) (s := s2) (t := t2) hx
            rw [hsc.out] at hst
            have hx8 := hN8.out x (List.mem_of_getElem? hx)
            obtain ⟨x0, x1, x2, x3, u4, x4, x5⟩ := hat.below hbw hb1 (Nat.le_refl _) (Nat.le_refl _)
            have z := hbw.size
            have z1 : b1 < wr.heap.size := by omega
            obtain ⟨A4, cap4, rfl, _⟩ := x5
            clear hx hat
            obtain ⟨op, a, bb, to, sp⟩ := x
            simp only at x0 x1 x2 x3 x4 hst hx8
            obtain ⟨A3, cap3, rfl⟩ := own_slice hT.out.seen
            obtain ⟨g3, off3, cp3, cur3, rfl, _⟩ := hT.out.todo
            subst hsv
            subst htv
            by_cases e8 : op = 8
            · subst e8
              rw [if_pos rfl] at hst
              obtain ⟨ha1, ha2⟩ := hx8 rfl
              by_cases er : a = rule
              · rw [if_pos er] at hst
                have hres := Lib.hid (show ringsL l rule = true by rw [← hbf2.out, hst])
                subst er
                clear hst
                go_wp2
                go_ret
                exact ⟨ret_bool hres.out.symm, (by repeat (first | exact Below.refl _ _ | assumption | refine Below.n _ ?_ (by first | omega | (simp; done) | (simp; omega)) | refine Below.alloc ?_ (by first | omega | (simp; done) | (simp; omega)) _ | refine Below.setCell ?_ (by first | omega | (simp; done) | (simp; omega)) _ | refine Below.drew ?_ | refine Below.setRow ?_ (by first | omega | (simp; done) | (simp; omega)) _ | refine Below.drewN ?_ _))⟩
              · rw [if_neg er] at hst
                have g1 : (a == (rule : Int)) = false := by simpa using er
                have hcon := Lib.hid (fun (W : World) (h : Below wr.heap.size wr W) => Sl.Contains_any _ s2 a W wr.heap.size ((ints_own hT.out.seen (by omega) (Nat.le_refl _)).below h (Nat.le_refl _) (Nat.le_refl _)))
                cases hcc : s2.contains a with
                | true =>
                  rw [hcc, if_pos rfl] at hst
                  rw [hcc] at hcon
                  replace hst := Lib.hid hst
                  clear hcc
                  go_wp2_with (go_at_call 60; refine (hcon.out _ (by repeat (first | exact Below.refl _ _ | assumption | refine Below.n _ ?_ (by first | omega | (simp; done) | (simp; omega)) | refine Below.alloc ?_ (by first | omega | (simp; done) | (simp; omega)) _ | refine Below.setCell ?_ (by first | omega | (simp; done) | (simp; omega)) _ | refine Below.drew ?_ | refine Below.setRow ?_ (by first | omega | (simp; done) | (simp; omega)) _ | refine Below.drewN ?_ _))).mono ?_; rintro e w4 ⟨rfl, rfl⟩)
                  go_roundg (ck.ins.length - (i + 1))
                  case measure => rw [hq.out]; omega
                  case rel => exact ⟨i + 1, s2, t2, _, _, rfl, rfl, by go_num, rfl, by omega, Lib.hid hst.out.symm, Lib.hid (hT.out.heap (B := wr.heap.size) (by repeat (first | exact Below.refl _ _ | assumption | refine Below.n _ ?_ (by first | omega | (simp; done) | (simp; omega)) | refine Below.alloc ?_ (by first | omega | (simp; done) | (simp; omega)) _ | refine Below.setCell ?_ (by first | omega | (simp; done) | (simp; omega)) _ | refine Below.drew ?_ | refine Below.setRow ?_ (by first | omega | (simp; done) | (simp; omega)) _ | refine Below.drewN ?_ _)) (Nat.le_refl _)), (by repeat (first | exact Below.refl _ _ | assumption | refine Below.n _ ?_ (by first | omega | (simp; done) | (simp; omega)) | refine Below.alloc ?_ (by first | omega | (simp; done) | (simp; omega)) _ | refine Below.setCell ?_ (by first | omega | (simp; done) | (simp; omega)) _ | refine Below.drew ?_ | refine Below.setRow ?_ (by first | omega | (simp; done) | (simp; omega)) _ | refine Below.drewN ?_ _)), htr, hg1, hg2⟩
                | false =>
                  have hfr := freeN_snoc (N := l.length) ha1 ha2 hcc
                  rw [hcc, if_neg (by decide)] at hst
                  rw [hcc] at hcon
                  replace hst := Lib.hid hst
                  clear hcc
                  have hne : some wr.heap.size ≠ (Value.slice A3 s2.length cap3).ownBlock := fun e => by have := hT.out.seen.lt _ e.symm; omega
                  have hTw := Lib.hid (hT.out.heap (B := wr.heap.size) (w' := wr.alloc (.cells #[.int .i64 8, .int .i64 a, .int .i64 bb, .int .i64 to, .slice A4 sp.length cap4] 72)) (by repeat (first | exact Below.refl _ _ | assumption | refine Below.n _ ?_ (by first | omega | (simp; done) | (simp; omega)) | refine Below.alloc ?_ (by first | omega | (simp; done) | (simp; omega)) _ | refine Below.setCell ?_ (by first | omega | (simp; done) | (simp; omega)) _ | refine Below.drew ?_ | refine Below.setRow ?_ (by first | omega | (simp; done) | (simp; omega)) _ | refine Below.drewN ?_ _)) (Nat.le_refl _))
                  go_wp2_with (first
                    | (go_at_call 60; refine (hcon.out _ (by repeat (first | exact Below.refl _ _ | assumption | refine Below.n _ ?_ (by first | omega | (simp; done) | (simp; omega)) | refine Below.alloc ?_ (by first | omega | (simp; done) | (simp; omega)) _ | refine Below.setCell ?_ (by first | omega | (simp; done) | (simp; omega)) _ | refine Below.drew ?_ | refine Below.setRow ?_ (by first | omega | (simp; done) | (simp; omega)) _ | refine Below.drewN ?_ _))).mono ?_; rintro e w4 ⟨rfl, rfl⟩)
                    | (at_builtin; refine wp_seen rfl (.tmp 42) (.tmp 45) rfl hTw.out a rfl (by rw [World.size_alloc]; rfl) (by simp; omega) (by omega) ?_; intro sv5 w5 hT5 hb5 hk5; obtain ⟨A5, cap5, rfl⟩ := own_slice hT5.seen; have z5 := hb5.size; have x5 : w5.cell? ⟨wr.heap.size, 1, none⟩ = some (.int .i64 a) := (World.cell?_of_block (a := ⟨wr.heap.size, 1, none⟩) (hk5 wr.heap.size (by simp) hne)).trans ((Blk.new wr 72 #[.int .i64 8, .int .i64 a, .int .i64 bb, .int .i64 to, .slice A4 sp.length cap4]).cell 1); replace hT5 := Lib.hid hT5)
                    | (at_builtin; refine wp_todo rfl (.tmp 47) (.tmp 50) rfl hT5.out a rfl rfl (by simp at z5; omega) (by omega) ?_; intro tv6 w6 hT6 hb6; replace hT6 := Lib.hid hT6))
                  go_roundg (ck.ins.length - (i + 1))
                  case measure => rw [hq.out]; omega
                  case rel =>
                    refine ⟨i + 1, s2 ++ [a], t2 ++ [a], .slice A5 (s2 ++ [a]).length cap5, tv6, by simp, rfl, by go_num, rfl, by omega, Lib.hid hst.out.symm, hT6, ((hbw.alloc (by omega) _).trans hb5).trans hb6, Lib.hid fun y hy => ?_, by simp only [List.length_append, List.length_singleton]; omega, by simp only [List.length_append, List.length_singleton]; omega⟩
                    rcases List.mem_append.1 hy with hy | hy
                    · exact htr.out y hy
                    · simp at hy; subst hy; exact ⟨ha1, ha2⟩
            · rw [if_neg e8] at hst
              have g8 : (op != 8) = true := by simpa using e8
              replace hst := Lib.hid hst
              go_wp2
              go_roundg (ck.ins.length - (i + 1))
              case measure => rw [hq.out]; omega
              case rel => exact ⟨i + 1, s2, t2, _, _, rfl, rfl, by go_num, rfl, by omega, Lib.hid hst.out.symm, Lib.hid (hT.out.heap (B := wr.heap.size) (by repeat (first | exact Below.refl _ _ | assumption | refine Below.n _ ?_ (by first | omega | (simp; done) | (simp; omega)) | refine Below.alloc ?_ (by first | omega | (simp; done) | (simp; omega)) _ | refine Below.setCell ?_ (by first | omega | (simp; done) | (simp; omega)) _ | refine Below.drew ?_ | refine Below.setRow ?_ (by first | omega | (simp; done) | (simp; omega)) _ | refine Below.drewN ?_ _)) (Nat.le_refl _)), (by repeat (first | exact Below.refl _ _ | assumption | refine Below.n _ ?_ (by first | omega | (simp; done) | (simp; omega)) | refine Below.alloc ?_ (by first | omega | (simp; done) | (simp; omega)) _ | refine Below.setCell ?_ (by first | omega | (simp; done) | (simp; omega)) _ | refine Below.drew ?_ | refine Below.setRow ?_ (by first | omega | (simp; done) | (simp; omega)) _ | refine Below.drewN ?_ _)), htr, hg1, hg2⟩
          · obtain rfl : i = ck.ins.length := by omega
            have hsc2 := hsc.out
            rw [List.drop_length] at hsc2
            have hb3 := hbf2.out
            rw [← hsc2] at hb3
            simp only [scan] at hb3
            go_wp2
            go_roundg m
            case measure => omega
            case rel => exact ⟨s2, t2, _, _, hsv, htv, Lib.hid hb3, hT, hbw, htr, hg1, by omega, by omega⟩

end Vm
end Go.Proofs.Ythdaeddaofickaa
