/- What an expression means on all days, if it hangs on none: code.constant. -/
import Derived.Test.YtbadplbdgpbdaaaDoorCmp
import Derived.Test.YtbadplbdgpbdaaaDoorMnA
namespace Go.Proofs.YtbadplbdgpbdaaaDoor
open Go.RowKit Go.Maps Go.ChangeShapes
namespace Ru
open Msk Vm
open Sl (strV Reads)

theorem constL_snoc : ∀ (l : List Expr) (e : Expr), constL (l ++ [e]) = match constL l with
    | none => none
    | some ps => match constE e with
      | none => none
      | some p => some (ps ++ [p])
  | [], e => by
    rw [List.nil_append, constL, constL]
    cases constE e <;> rfl
  | x :: l, e => by
    rw [List.cons_append, constL, constL, constL_snoc l e]
    cases constE x with
    | none => rfl
    | some p =>
      cases constL l with
      | none => rfl
      | some ps => cases constE e <;> rfl
theorem constL_take {l : List Expr} {j : Nat} {e : Expr} (h : l[j]? = some e) : constL (l.take (j + 1)) = match constL (l.take j) with
    | none => none
    | some ps => match constE e with
      | none => none
      | some p => some (ps ++ [p]) := by
  rw [List.take_add_one, h]
  exact constL_snoc _ e
theorem constL_none : ∀ {l : List Expr} {j : Nat} {e : Expr}, l[j]? = some e → constE e = none → constL l = none
  | [], _, _, h, _ => by simp at h
  | x :: l, j, e, h, he => by
    rw [constL]
    cases j with
    | zero => simp at h; subst h; rw [he]
    | succ j =>
      rw [constL_none (l := l) (j := j) (by simpa using h) he]
      cases constE x <;> rfl
theorem kidsOf_le (k : Int) : kidsOf k ≤ 2 := by
  unfold kidsOf
  split
  · omega
  · split <;> omega
theorem two_of {α : Type} {l : List α} (h : l.length = 2) : ∃ a b, l = [a, b] := by
  match l, h with
  | [a, b], _ => exact ⟨a, b, rfl⟩
/-- what is told of it -/
def constV (e : Expr) : Nat → Bool := (constE e).getD noS
def ConstPost (e : Expr) (w : World) (r : Ending) (w' : World) : Prop := r = .returned (.tuple #[.agg (maskA (setW (constV e))), .bool (constE e).isSome]) ∧ Below w.heap.size w w'

theorem MaskRow.below {w w' : World} {base : Nat} {v : Value} {S : List (Nat → Bool)} (h : MaskRow w base v S) (hb : Below w.heap.size w w') : MaskRow w' base v S :=
  ⟨h.1, h.2.imp id fun ⟨g, cap, cur, h1, h2, h3, h4⟩ => ⟨g, cap, cur, h1, h2, (hb.block g (by
    rcases Nat.lt_or_ge g w.heap.size with hlt | hge
    · exact hlt
    · rw [Array.getElem?_eq_none hge] at h3; cases h3)).trans h3, h4⟩⟩

set_option maxRecDepth 100000 in
set_option maxHeartbeats 8000000 in
theorem constant_any {nm0 : List UInt8 → Bool} : ∀ (N : Nat) (e : Expr) (w : World) (gs b o : Nat), nodesE e ≤ N → okE nm0 e → ExprAt w gs b o e → b < gs → gs ≤ w.heap.size →
    Calls Tryd.prog 41 #[.pointer (some ⟨b, o, none⟩)] w (ConstPost e w) := by
  intro N
  induction N with
  | zero => intro e w gs b o hN; have := nodesE_pos e; omega
  | succ N ih =>
    intro e w gs b o hN hok he hb hgs
    obtain ⟨k0, k1, k2, k3, hnl, A, cap, k4, hkl, hkv⟩ := he.out
    have hnod : nodesL e.kids ≤ N := by cases e; rw [nodesE] at hN; simp only [Expr.kids]; omega
    obtain ⟨k, x, y, nm, kids⟩ := e
    simp only [Expr.kind, Expr.a, Expr.b, Expr.name, Expr.kids] at k0 k1 k2 k3 k4 hnl hkl hkv hnod
    rw [okE] at hok
    obtain ⟨h1, h2, h3⟩ := own_kind hok.1
    replace h3 := Lib.hid h3
    have hce : constE (.mk k x y nm kids) = match constL kids with
      | none => none
      | some ms => if k = 4 ∨ k = 5 ∨ k = 10 then none else some (meanK 0 0 k x y noS ms) := by rw [constE]; cases constL kids <;> rfl
    have hB0 := Blk.new w 38 (maskA fun _ => 0)
    have hbA : Below w.heap.size w (w.alloc (.cells (maskA fun _ => 0) 38)) := (Below.refl _ _).alloc (Nat.le_refl _) _
    have zb : b < w.heap.size := by omega
    obtain ⟨W0, hW0⟩ : ∃ W0, W0 = w.alloc (.cells (maskA fun _ => 0) 38) := ⟨_, rfl⟩
    have zW0 : w.heap.size + 1 ≤ W0.heap.size := by rw [hW0]; simp
    replace ih := Lib.hid ih
    replace hce := Lib.hid hce
    replace hkv := Lib.hid hkv
    have hok2 := Lib.hid hok.2
    have cells : ∀ wr, Below w.heap.size w wr → wr.cell? ⟨b, o, none⟩ = some (.int .i64 k) ∧ wr.cell? ⟨b, o + 1, none⟩ = some (.int .i64 x) ∧ wr.cell? ⟨b, o + 2, none⟩ = some (.int .i64 y) ∧ wr.cell? ⟨b, o + 4, none⟩ = some (.slice A kids.length cap) := fun wr h => ⟨(h.cell (p := ⟨b, _, none⟩) zb).trans k0, (h.cell (p := ⟨b, _, none⟩) zb).trans k1, (h.cell (p := ⟨b, _, none⟩) zb).trans k2, (h.cell (p := ⟨b, _, none⟩) zb).trans k4⟩
    replace cells := Lib.hid cells
    clear hok he
    go_enter Tryd.func41, Tryd.ntmps41
    go_wp2_with fail
    rw [← hW0] at hB0 hbA ⊢
    clear hW0 k0 k1 k2 k3 k4
    go_loopg [4, 5, 6, 7, 13] kids.length (fun m v4 _ _ _ v13 wr => ∃ (j : Nat) (ps : List (Nat → Bool)), j ≤ kids.length ∧ m = kids.length - j ∧ v13 = .int .i64 j ∧ Hid (constL (kids.take j) = some ps) ∧ ps.length = j ∧ Hid (MaskRow wr (w.heap.size + 1) v4 ps) ∧ Below w.heap.size w wr ∧ Blk wr w.heap.size 38 (maskA fun _ => 0))
    case atStart => exact ⟨0, [], by omega, rfl, rfl, Lib.hid rfl, rfl, Lib.hid (MaskRow.nil _ _), hbA, hB0⟩
    case round =>
      clear hbA hB0
      obtain ⟨j, ps, hj, hm, rfl, hps, hpl, hrow, hbr, hBr⟩ := hrel
      replace hm := Lib.hid hm
      have zr := hbr.size
      have zB := hBr.lt
      obtain ⟨k0, k1, k2, k4⟩ := cells.out _ hbr
      by_cases hlt : j < kids.length
      · obtain ⟨e1, hx⟩ : ∃ d, kids[j]? = some d := ⟨_, List.getElem?_eq_getElem hlt⟩
        obtain ⟨kb, ko, rfl, hkb, hke⟩ := hkv.out.at' hx
        have hok1 : okE nm0 e1 := by
          have : ∀ (l : List Expr) (i : Nat), okL nm0 l → l[i]? = some e1 → okE nm0 e1 := by
            intro l
            induction l with
            | nil => intro i _ h; simp at h
            | cons z l ih2 =>
              intro i ho h
              rw [okL] at ho
              cases i with
              | zero => simp at h; subst h; exact ho.1
              | succ i => exact ih2 i ho.2 (by simpa using h)
          exact this kids j hok2.out hx
        have hC := Lib.hid (ih.out e1 wr gs kb (ko + j * 5) (by have := nodesE_kid hx; omega) hok1 (hke.below hbr hgs (Nat.le_refl _) (by omega)) hkb (by omega))
        unfold ConstPost at hC
        have htk := constL_take hx
        rw [hps.out] at htk
        go_wp2_with fail
        refine hC.out.mono ?_
        rintro e5 w5 ⟨rfl, hb5⟩
        have z5 := hb5.size
        have hb6 := Below.setRow ((Below.refl w5.heap.size w5).alloc (Nat.le_refl _) (.cells (maskA fun _ => 0) 38)) (Nat.le_refl _) (maskA (setW (constV e1)))
        have T6 := (Blk.new w5 38 (maskA fun _ => 0)).setRow (maskA (setW (constV e1)))
        have hbr6 := (hbr.trans (hb5.mono zr)).trans (hb6.mono (by omega))
        have B6 := (hBr.below hb5 zB).below hb6 (by omega)
        have R6 := (hrow.out.below hb5).below hb6
        obtain ⟨w6, hw6⟩ : ∃ W, W = (w5.alloc (.cells (maskA fun _ => 0) 38)).setRow w5.heap.size (maskA (setW (constV e1))) := ⟨_, rfl⟩
        have zw6 : w5.heap.size + 1 ≤ w6.heap.size := by rw [hw6]; simp
        cases hc1 : constE e1 with
        | none =>
          have hcn : constE (.mk k x y nm kids) = none := by rw [hce.out, constL_none hx hc1]
          go_upto_region 6 with fail
          rw [← hw6] at T6 hbr6 B6 R6 ⊢
          clear hw6 hb6
          have c6 := blk_cells T6
          have f6 := blk_free B6
          have z6 := T6.lt
          have zB6 := B6.lt
          have k8 := mask_put _ (constV e1) B6
          go_wp2
          refine bodyPost_ret (v := .tuple #[.agg (maskA (setW (constV e1))), .bool false]) ?_ rfl ⟨?_, Below.setRow hbr6 (Nat.le_refl _) _⟩
          · simp [results, Tryd.results41, go_sem, k8]
          · unfold constV
            rw [hcn, hc1]
            rfl
        | some p =>
          have hv := Lib.hid (show constV e1 = p by unfold constV; rw [hc1]; rfl)
          rw [hc1] at htk
          go_upto_region 6 with fail
          rw [← hw6] at T6 hbr6 B6 R6 ⊢
          clear hw6 hb6
          rw [hv.out] at T6
          have c6 := blk_cells T6
          have z6 := T6.lt
          have hR6 := Lib.hid R6
          have hlen6 : ps.length < 1000000 := by have := kidsOf_le k; have := h3.out; omega
          have hbase6 : w.heap.size + 1 ≤ w6.heap.size := by omega
          go_wp2_with (at_builtin; refine wp_pushP rfl (.tmp 29) (.tmp 31) rfl (w.heap.size + 1) _ ps p hR6.out rfl rfl hlen6 hbase6 ?_; intro v' w7 hR7 hb7 hz7)
          go_roundg (kids.length - (j + 1))
          case measure => rw [hm.out]; omega
          case rel => exact ⟨j + 1, ps ++ [p], by omega, rfl, by go_num, Lib.hid htk, by simp; omega, Lib.hid hR7, hbr6.trans (hb7.mono (by omega)), B6.below hb7 (by omega)⟩
      · obtain rfl : j = kids.length := by omega
        have hps2 : constL kids = some ps := by have := hps.out; rwa [List.take_length] at this
        have hcs := Lib.hid (show constE (.mk k x y nm kids) = if k = 4 ∨ k = 5 ∨ k = 10 then none else some (meanK 0 0 k x y noS ps) by rw [hce.out, hps2])
        clear hps2 cells hkv hce ih hok2 hnod hN
        have hk : k = 1 ∨ k = 2 ∨ k = 3 ∨ (k = 4 ∨ k = 5 ∨ k = 10) ∨ k = 6 ∨ k = 7 ∨ k = 8 ∨ k = 9 := by omega
        rcases hk with h | h | h | h | h | h | h | h
        · subst h
          have k7 := blk_free hBr
          have k8 := mask_put _ noS hBr
          have e9 : maskA (setW noS) = maskA (fun _ => 0) := zero_set
          rw [e9] at k8
          go_wp2
          refine bodyPost_ret (v := .tuple #[.agg (maskA fun _ => 0), .bool true]) ?_ rfl ⟨?_, Below.setRow hbr (Nat.le_refl _) _⟩
          · simp [results, Tryd.results41, go_sem, k8]
          · unfold constV
            rw [hcs.out, ← e9]
            rfl
        · subst h
          have hres := Lib.hid (show constE (.mk 2 x y nm kids) = some (inSpans [(0, 1440)]) by rw [hcs.out]; rfl)
          go_wp2_with fail
          refine (SOf _ [(0, 1440)] _ (SpansV.one (by simp) (by simp))).mono ?_
          rintro e w1 ⟨rfl, hb1⟩
          have s1 := hb1.size
          simp at s1
          have B2 := (hBr.alloc (.cells #[.int .i64 0, .int .i64 1440] 108)).below hb1 (by simp; omega)
          have hb2 := (hbr.alloc zr (.cells #[.int .i64 0, .int .i64 1440] 108)).trans (hb1.mono (by simp; omega))
          have k7 := blk_free B2
          have k8 := mask_put _ (inSpans [(0, 1440)]) B2
          go_wp2
          refine bodyPost_ret (v := .tuple #[.agg (maskA (setW (inSpans [(0, 1440)]))), .bool true]) ?_ rfl ⟨?_, Below.setRow hb2 (Nat.le_refl _) _⟩
          · simp [results, Tryd.results41, go_sem, k8]
          · unfold constV
            rw [hres.out]
            rfl
        · subst h
          have hres := Lib.hid (show constE (.mk 3 x y nm kids) = some (inSpans [(x, y)]) by rw [hcs.out]; rfl)
          go_wp2_with fail
          refine wp_region_below_tail 9 (wr.heap.size) _ (Below.refl _ _) (by kernel_rfl) (by kernel_rfl) ?_
          simp only [List.take_succ_cons, List.take_zero, List.drop_succ_cons, List.drop_zero]
          iterate 9 (go_big_quiet_step ((fail)))
          refine wpQuiet_nil ?_
          rintro _ ⟨n1, rfl⟩
          change wpList _ _ _ _ _ _
          have B1 := hBr.after n1 zB
          have s1 := n1.size
          have hb1 := hbr.trans (n1.below.mono zr)
          go_wp2_with fail
          refine (SOf _ [(x, y)] _ (SpansV.one rfl (by simp))).mono ?_
          rintro e w2 ⟨rfl, hb2⟩
          have s2 := hb2.size
          simp at s2
          have B2 := (B1.alloc (.cells #[.int .i64 x, .int .i64 y] 108)).below hb2 (by simp; omega)
          have hb3 := (hb1.alloc (by omega) (.cells #[.int .i64 x, .int .i64 y] 108)).trans (hb2.mono (by simp; omega))
          have k7 := blk_free B2
          have k8 := mask_put _ (inSpans [(x, y)]) B2
          go_wp2
          refine bodyPost_ret (v := .tuple #[.agg (maskA (setW (inSpans [(x, y)]))), .bool true]) ?_ rfl ⟨?_, Below.setRow hb3 (Nat.le_refl _) _⟩
          · simp [results, Tryd.results41, go_sem, k8]
          · unfold constV
            rw [hres.out]
            rfl
        · rcases h with h | h | h
          all_goals
            subst h
            have k7 := blk_free hBr
            have k8 := mask_put _ noS hBr
            have e9 : maskA (setW noS) = maskA (fun _ => 0) := zero_set
            rw [e9] at k8
            go_wp2
            refine bodyPost_ret (v := .tuple #[.agg (maskA fun _ => 0), .bool false]) ?_ rfl ⟨?_, Below.setRow hbr (Nat.le_refl _) _⟩
            · simp [results, Tryd.results41, go_sem, k8]
            · unfold constV
              rw [hcs.out, ← e9]
              rfl
        · subst h
          have hres := Lib.hid (show constE (.mk 6 x y nm kids) = some (orS ((ps[0]?).getD noS) ((ps[1]?).getD noS)) by rw [hcs.out]; rfl)
          have hl2 : ps.length = 2 := by rw [hpl, h3.out]; rfl
          obtain ⟨p1, p2, rfl⟩ := two_of hl2
          obtain ⟨g, cp, rfl, hg0, hg1, c1⟩ := mask_at hrow.out (i := 0) (p := p1) rfl
          obtain ⟨g', cp', hge, _, _, c2⟩ := mask_at hrow.out (i := 1) (p := p2) rfl
          cases hge
          replace c1 : cellsAt wr g 0 23 = some (maskA (setW p1)) := c1
          replace c2 : cellsAt wr g 23 23 = some (maskA (setW p2)) := c2
          replace hrow := trivial
          replace hps := trivial
          replace hcs := trivial
          go_wp2_with fail
          refine wp_region_below_tail 6 (wr.heap.size) _ (Below.refl _ _) (by kernel_rfl) (by kernel_rfl) ?_
          simp only [List.take_succ_cons, List.take_zero, List.drop_succ_cons, List.drop_zero]
          iterate 6 (go_big_quiet_step ((fail)))
          refine wpQuiet_nil ?_
          rintro _ ⟨n1, rfl⟩
          change wpList _ _ _ _ _ _
          have B1 := hBr.after n1 zB
          have s1 := n1.size
          have hb1 := hbr.trans (n1.below.mono zr)
          go_wp2_with fail
          refine (SUnion p1 p2 _).mono ?_
          rintro e w2 ⟨rfl, hb2⟩
          have B2 := B1.below hb2 (by omega)
          have s2 := hb2.size
          have k7 := blk_free B2
          have k8 := mask_put _ (orS p1 p2) B2
          go_wp2
          refine bodyPost_ret (v := .tuple #[.agg (maskA (setW (orS p1 p2))), .bool true]) ?_ rfl ⟨?_, Below.setRow (hb1.trans (hb2.mono (by omega))) (Nat.le_refl _) _⟩
          · simp [results, Tryd.results41, go_sem, k8]
          · unfold constV
            rw [hres.out]
            rfl
        · subst h
          have hres := Lib.hid (show constE (.mk 7 x y nm kids) = some (sansS ((ps[0]?).getD noS) ((ps[1]?).getD noS)) by rw [hcs.out]; rfl)
          have hl2 : ps.length = 2 := by rw [hpl, h3.out]; rfl
          obtain ⟨p1, p2, rfl⟩ := two_of hl2
          obtain ⟨g, cp, rfl, hg0, hg1, c1⟩ := mask_at hrow.out (i := 0) (p := p1) rfl
          obtain ⟨g', cp', hge, _, _, c2⟩ := mask_at hrow.out (i := 1) (p := p2) rfl
          cases hge
          replace c1 : cellsAt wr g 0 23 = some (maskA (setW p1)) := c1
          replace c2 : cellsAt wr g 23 23 = some (maskA (setW p2)) := c2
          replace hrow := trivial
          replace hps := trivial
          replace hcs := trivial
          go_wp2_with fail
          refine wp_region_below_tail 6 (wr.heap.size) _ (Below.refl _ _) (by kernel_rfl) (by kernel_rfl) ?_
          simp only [List.take_succ_cons, List.take_zero, List.drop_succ_cons, List.drop_zero]
          iterate 6 (go_big_quiet_step ((fail)))
          refine wpQuiet_nil ?_
          rintro _ ⟨n1, rfl⟩
          change wpList _ _ _ _ _ _
          have B1 := hBr.after n1 zB
          have s1 := n1.size
          have hb1 := hbr.trans (n1.below.mono zr)
          go_wp2_with fail
          refine (SDiff p1 p2 _).mono ?_
          rintro e w2 ⟨rfl, hb2⟩
          have B2 := B1.below hb2 (by omega)
          have s2 := hb2.size
          have k7 := blk_free B2
          have k8 := mask_put _ (sansS p1 p2) B2
          go_wp2
          refine bodyPost_ret (v := .tuple #[.agg (maskA (setW (sansS p1 p2))), .bool true]) ?_ rfl ⟨?_, Below.setRow (hb1.trans (hb2.mono (by omega))) (Nat.le_refl _) _⟩
          · simp [results, Tryd.results41, go_sem, k8]
          · unfold constV
            rw [hres.out]
            rfl
        · subst h
          have hres := Lib.hid (show constE (.mk 8 x y nm kids) = some (andS ((ps[0]?).getD noS) ((ps[1]?).getD noS)) by rw [hcs.out]; rfl)
          have hl2 : ps.length = 2 := by rw [hpl, h3.out]; rfl
          obtain ⟨p1, p2, rfl⟩ := two_of hl2
          obtain ⟨g, cp, rfl, hg0, hg1, c1⟩ := mask_at hrow.out (i := 0) (p := p1) rfl
          obtain ⟨g', cp', hge, _, _, c2⟩ := mask_at hrow.out (i := 1) (p := p2) rfl
          cases hge
          replace c1 : cellsAt wr g 0 23 = some (maskA (setW p1)) := c1
          replace c2 : cellsAt wr g 23 23 = some (maskA (setW p2)) := c2
          replace hrow := trivial
          replace hps := trivial
          replace hcs := trivial
          go_wp2_with fail
          refine wp_region_below_tail 6 (wr.heap.size) _ (Below.refl _ _) (by kernel_rfl) (by kernel_rfl) ?_
          simp only [List.take_succ_cons, List.take_zero, List.drop_succ_cons, List.drop_zero]
          iterate 6 (go_big_quiet_step ((fail)))
          refine wpQuiet_nil ?_
          rintro _ ⟨n1, rfl⟩
          change wpList _ _ _ _ _ _
          have B1 := hBr.after n1 zB
          have s1 := n1.size
          have hb1 := hbr.trans (n1.below.mono zr)
          go_wp2_with fail
          refine (SBoth p1 p2 _).mono ?_
          rintro e w2 ⟨rfl, hb2⟩
          have B2 := B1.below hb2 (by omega)
          have s2 := hb2.size
          have k7 := blk_free B2
          have k8 := mask_put _ (andS p1 p2) B2
          go_wp2
          refine bodyPost_ret (v := .tuple #[.agg (maskA (setW (andS p1 p2))), .bool true]) ?_ rfl ⟨?_, Below.setRow (hb1.trans (hb2.mono (by omega))) (Nat.le_refl _) _⟩
          · simp [results, Tryd.results41, go_sem, k8]
          · unfold constV
            rw [hres.out]
            rfl
        · subst h
          have hres := Lib.hid (show constE (.mk 9 x y nm kids) = some (shS (has (setW ((ps[0]?).getD noS))) x) by rw [hcs.out]; rfl)
          have hl2 : ps.length = 1 := by rw [hpl, h3.out]; rfl
          obtain ⟨p1, rfl⟩ : ∃ a, ps = [a] := List.length_eq_one_iff.1 hl2
          obtain ⟨g, cp, rfl, hg0, hg1, c1⟩ := mask_at hrow.out (i := 0) (p := p1) rfl
          replace hrow := trivial
          replace hps := trivial
          replace hcs := trivial
          go_wp2_with fail
          refine wp_region_below_tail 7 (wr.heap.size) _ (Below.refl _ _) (by kernel_rfl) (by kernel_rfl) ?_
          simp only [List.take_succ_cons, List.take_zero, List.drop_succ_cons, List.drop_zero]
          iterate 7 (go_big_quiet_step ((fail)))
          refine wpQuiet_nil ?_
          rintro _ ⟨n1, rfl⟩
          change wpList _ _ _ _ _ _
          have B1 := hBr.after n1 zB
          have s1 := n1.size
          have hb1 := hbr.trans (n1.below.mono zr)
          go_wp2_with fail
          refine (SShift p1 x _).mono ?_
          rintro e w2 ⟨rfl, hb2⟩
          have B2 := B1.below hb2 (by omega)
          have s2 := hb2.size
          have k7 := blk_free B2
          have k8 := mask_put _ (shS (has (setW p1)) x) B2
          go_wp2
          refine bodyPost_ret (v := .tuple #[.agg (maskA (setW (shS (has (setW p1)) x))), .bool true]) ?_ rfl ⟨?_, Below.setRow (hb1.trans (hb2.mono (by omega))) (Nat.le_refl _) _⟩
          · simp [results, Tryd.results41, go_sem, k8]
          · unfold constV
            rw [hres.out]
            rfl

end Ru
end Go.Proofs.YtbadplbdgpbdaaaDoor
