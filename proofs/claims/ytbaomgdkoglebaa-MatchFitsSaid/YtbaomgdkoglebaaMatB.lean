/- The walk of slotlaw10.fits. -/
import Derived.Test.YtbaomgdkoglebaaMatP
import Derived.Test.YtbaomgdkoglebaaMap
import Derived.Carry
import Derived.OpenShut
import Derived.IntWalk
import Derived.Outline
namespace Go.Proofs.Ytbaomgdkoglebaa
open Go.RowKit Go.Maps Go.ChangeShapes
namespace Mat

/-- who is had already -/
def hadF (l : List Int) : Lit → Option Value
  | .int .i64 x => if l.contains x then some (.bool true) else none
  | _ => none
theorem hadF_snoc (l : List Int) (r : Int) : Mp.put (hadF l) (.int .i64 r) (.bool true) = hadF (l ++ [r]) := by
  funext x
  unfold Mp.put
  cases h : x.sameKey (.int .i64 r) with
  | true =>
    have := WideAt.sameKey_eq h
    subst this
    simp [hadF]
  | false =>
    simp only [Bool.false_eq_true, if_false]
    unfold hadF
    split
    · rename_i y
      have hy : ¬ y = r := fun e => by subst e; rw [WideAt.sameKey_self (show WideAt.IsKeyLit (.int .i64 y) from trivial)] at h; cases h
      simp [hy]
    · rfl
theorem hadF_at (l : List Int) (r : Int) : (hadF l (.int .i64 r)).getD (.bool false) = .bool (l.contains r) := by
  show (if l.contains r then some (Value.bool true) else none).getD (.bool false) = _
  cases l.contains r <;> rfl
theorem zero_bool (w : World) : (zeroValue 4).run Try.prog w = .ok (.bool false) w := by kernel_rfl
theorem wf_i64 {x : Int} (h : -9223372036854775808 ≤ x) (h2 : x ≤ 9223372036854775807) : (Lit.int .i64 x).wf = true := by
  rw [← IntWalk.i64_in x ⟨h, h2⟩]
  exact wf_wrap _ _
@[go_sem] theorem cell_alloc_map (w : World) (es : Array MapEntry) (c : Nat) (p : Addr) : (w.alloc (.map es c)).cell? p = if p.block < w.heap.size then w.cell? p else none := by
  have e : (w.alloc (.map es c)).heap = w.heap.push (.map es c) := rfl
  unfold World.cell?
  rw [e, Array.getElem?_push]
  by_cases h : p.block < w.heap.size
  · rw [if_pos h, if_neg (by omega)]
  · rw [if_neg h]
    by_cases h' : p.block = w.heap.size
    · rw [if_pos h']
    · rw [if_neg h', Array.getElem?_eq_none (by omega)]
theorem below_row {B b : Nat} {a w w' : World} (h : Below B a w) (hg : w.grownBy w' (some b)) (hb : B ≤ b) (hs : B ≤ w.heap.size) : Below B a w' :=
  h.trans ⟨hg.os, hg.tape, hg.output, hg.size, fun k hk => hg.block k (by omega) (fun e => by cases e; omega)⟩
theorem blk_row {b g : Nat} {w w' : World} {t : TypeId} {cs : Array Value} (h : Blk w g t cs) (hg : w.grownBy w' (some b)) (hb : g ≠ b) : Blk w' g t cs :=
  (hg.block g h.lt (fun e => by cases e; exact hb rfl)).trans h

set_option maxHeartbeats 1000000 in
theorem fits_out (len bef aft day minute : Int) (rolesV daysV whoV : Value) (roles : List (List Int)) (days : List (List (Nat → Nat))) (who : List Int) (w : World) (hd : Sl.Masks2V w w.heap.size daysV days) (hr : Sl.Ints2V w w.heap.size rolesV roles) (hw : Sl.IntsV w w.heap.size whoV who)
    (h : day < 0 ∨ (days.length : Int) ≤ day ∨ who.length ≠ roles.length) :
    Calls Try.prog 30 #[.agg #[.int .i64 len, .int .i64 bef, .int .i64 aft, rolesV], daysV, .agg #[.int .i64 day, .int .i64 minute, whoV]] w fun e w' => e = .returned (.bool false) ∧ Below w.heap.size w w' := by
  obtain ⟨A1, c1, rfl, hl1, hc1⟩ := hd
  obtain ⟨A2, c2, rfl, hl2, hc2⟩ := hr
  obtain ⟨A3, c3, rfl, hl3, hc3⟩ := hw
  clear hc1 hc2 hc3
  have g : decide (day < 0) = true ∨ decide (day < 0) = false ∧ decide ((days.length : Int) ≤ day) = true ∨ decide (day < 0) = false ∧ decide ((days.length : Int) ≤ day) = false ∧ ((who.length : Int) != (roles.length : Int)) = true := by
    simp only [decide_eq_true_eq, decide_eq_false_iff_not, bne_iff_ne]
    omega
  clear h
  rcases g with g1 | ⟨g1, g2⟩ | ⟨g1, g2, g3⟩
  all_goals
    go_enter Try.func30, Try.ntmps30
    go_wp2
    go_ret
    exact ⟨rfl, (by repeat (first | exact Below.refl _ _ | assumption | refine Below.n _ ?_ (by first | omega | (simp; done) | (simp; omega)) | refine Below.alloc ?_ (by first | omega | (simp; done) | (simp; omega)) _ | refine Below.setCell ?_ (by first | omega | (simp; done) | (simp; omega)) _ | refine Below.drew ?_ | refine Below.setRow ?_ (by first | omega | (simp; done) | (simp; omega)) _ | refine Below.drewN ?_ _))⟩

theorem fitGo_at {roles : List (List Int)} {free : Int → Bool} {who : List Int} {j : Nat} {r : Int} {p : List Int} (hj : who[j]? = some r) (hp : roles[j]? = some p) :
    fitGo roles free (who.take j) (who.drop j) = ((p.contains r && (!(who.take j).contains r && free r)) && fitGo roles free (who.take (j + 1)) (who.drop (j + 1))) := by
  obtain ⟨hi, rfl⟩ := List.getElem?_eq_some_iff.1 hj
  rw [List.drop_eq_getElem_cons hi, fitGo]
  have e : (who.take j).length = j := by simp; omega
  rw [e, List.getD, hp, List.take_succ_eq_append_getElem hi]
  rfl
theorem contains_step {p : List Int} {j : Nat} {x r : Int} (h : p[j]? = some x) : (p.take (j + 1)).contains r = ((p.take j).contains r || x == r) := by
  obtain ⟨hi, rfl⟩ := List.getElem?_eq_some_iff.1 h
  rw [List.take_succ_eq_append_getElem hi]
  rw [List.contains_eq_any_beq, List.any_append, List.contains_eq_any_beq]
  simp only [List.any_cons, List.any_nil, Bool.or_false]
  congr 1
  rw [Bool.eq_iff_iff, beq_iff_eq, beq_iff_eq]
  exact ⟨fun h => h.symm, fun h => h.symm⟩

set_option maxRecDepth 100000 in
set_option maxHeartbeats 4000000 in
theorem fits_in (len bef aft minute : Int) (dn : Nat) (rolesV daysV whoV : Value) (roles : List (List Int)) (days : List (List (Nat → Nat))) (d : List (Nat → Nat)) (who : List Int) (w : World) (hd : Sl.Masks2V w w.heap.size daysV days) (hr : Sl.Ints2V w w.heap.size rolesV roles) (hw : Sl.IntsV w w.heap.size whoV who)
    (hdn : days[dn]? = some d) (hwl : who.length = roles.length) (hok : wrongI len bef aft roles d.length = 0) (hm0 : 0 ≤ minute) (hm1 : minute ≤ 1440) :
    Calls Try.prog 30 #[.agg #[.int .i64 len, .int .i64 bef, .int .i64 aft, rolesV], daysV, .agg #[.int .i64 dn, .int .i64 minute, whoV]] w fun e w' => e = .returned (.bool (fitGo roles (freeAt d (minute - bef) (minute + len + aft)) [] who)) ∧ Below w.heap.size w w' := by
  obtain ⟨hbm, hr1, hr4, hpb⟩ := wrongI_ok hok
  unfold badM at hbm
  have q1 : 1 ≤ len ∧ 0 ≤ bef ∧ 0 ≤ aft ∧ bef + len + aft ≤ 1440 := by omega
  obtain ⟨q1, q2, q3, q4⟩ := q1
  clear hbm
  have hdl := (List.getElem?_eq_some_iff.1 hdn).1
  obtain ⟨A1, c1, rfl, hl1, hc1⟩ := hd
  obtain ⟨A2, c2, rfl, hl2, hc2⟩ := hr
  obtain ⟨A3, c3, rfl, hl3, hc3⟩ := hw
  obtain ⟨b1, o1, rfl, hb1, u1, e1, hmv⟩ := hc1 dn d hdn
  obtain ⟨A4, c4, rfl, hl4, hc4⟩ := hmv
  have g1 : decide ((dn : Int) < 0) = false := by simp
  have g2 : decide ((days.length : Int) ≤ (dn : Int)) = false := by simp; omega
  have g2' : decide (days.length ≤ dn) = false := by simp; omega
  have g3 : ((who.length : Int) != (roles.length : Int)) = false := by simp [hwl]
  have hmm := @run_makeMap Try.prog
  replace hc1 := Lib.hid hc1
  replace hc2 := Lib.hid hc2
  replace hc3 := Lib.hid hc3
  replace hc4 := Lib.hid hc4
  replace hpb := Lib.hid hpb
  replace hdn := Lib.hid hdn
  replace hok := Lib.hid hok
  replace hwl := Lib.hid hwl
  go_enter Try.func30, Try.ntmps30
  go_wp2
  clear g1 g2 g2' g3 hmm
  go_loopg [36] who.length (fun n k wr => ∃ j : Nat, j ≤ who.length ∧ n = who.length - j ∧ k = .int .i64 j ∧ fitGo roles (freeAt d (minute - bef) (minute + len + aft)) (who.take j) (who.drop j) = fitGo roles (freeAt d (minute - bef) (minute + len + aft)) [] who ∧
    Below w.heap.size w wr ∧ w.heap.size + 2 < wr.heap.size ∧ Blk wr w.heap.size 36 #[.int .i64 len, .int .i64 bef, .int .i64 aft, .slice A2 roles.length c2] ∧ Blk wr (w.heap.size + 1) 40 #[.int .i64 dn, .int .i64 minute, .slice A3 who.length c3] ∧
    ∃ c, Mp.Is wr Try.prog 3 (w.heap.size + 2) j c (hadF (who.take j)))
  case atStart =>
    refine ⟨0, by omega, rfl, rfl, rfl, (((Below.refl _ _).alloc (Nat.le_refl _) _).alloc (by simp) _).alloc (by simp; omega) _, by simp, ((Blk.new _ _ _).alloc _).alloc _, ?_, 0, ?_⟩
    · simpa using (Blk.new (w.alloc (.cells #[.int .i64 len, .int .i64 bef, .int .i64 aft, .slice A2 roles.length c2] 36)) 40 #[.int .i64 dn, .int .i64 minute, .slice A3 who.length c3]).alloc (.map #[] 0)
    · have := Mp.Is.made ((w.alloc (.cells #[.int .i64 len, .int .i64 bef, .int .i64 aft, .slice A2 roles.length c2] 36)).alloc (.cells #[.int .i64 dn, .int .i64 minute, .slice A3 who.length c3] 40)) Try.prog 3
      have e : (fun _ => none) = hadF (List.take 0 who) := by funext x; unfold hadF; split <;> rfl
      rw [e] at this
      simpa using this
  case round =>
    obtain ⟨j, hj, hn, rfl, hf, hb, hsz, B0, B1, c, hM⟩ := hrel
    replace hn := Lib.hid hn
    replace hf := Lib.hid hf
    replace hM := Lib.hid hM
    have k0 : wr.cell? ⟨w.heap.size, 0, none⟩ = some (.int .i64 len) := B0.cell 0
    have k1 : wr.cell? ⟨w.heap.size, 1, none⟩ = some (.int .i64 bef) := B0.cell 1
    have k2 : wr.cell? ⟨w.heap.size, 2, none⟩ = some (.int .i64 aft) := B0.cell 2
    have k3 : wr.cell? ⟨w.heap.size, 3, none⟩ = some (.slice A2 roles.length c2) := B0.cell 3
    have s0 : wr.cell? ⟨w.heap.size + 1, 0, none⟩ = some (.int .i64 dn) := B1.cell 0
    have s1 : wr.cell? ⟨w.heap.size + 1, 1, none⟩ = some (.int .i64 minute) := B1.cell 1
    by_cases hlt : j < who.length
    · have hlt2 : j < roles.length := by have := hwl.out; omega
      obtain ⟨r, hx⟩ : ∃ r, who[j]? = some r := ⟨_, List.getElem?_eq_getElem hlt⟩
      obtain ⟨p, hp⟩ : ∃ p, roles[j]? = some p := ⟨_, List.getElem?_eq_getElem hlt2⟩
      obtain ⟨b3, o3, rfl, hb3, x3⟩ := hc3.out j r hx
      obtain ⟨b2, o2, rfl, hb2, u2, x2, A5, c5, rfl, hl5, hc5⟩ := hc2.out j p hp
      have d3 : wr.cell? ⟨b3, o3 + j, none⟩ = some (.int .i64 r) := (hb.cell (p := ⟨b3, _, none⟩) hb3).trans x3
      have d2 : wr.cell? ⟨b2, o2 + j, none⟩ = some (.slice A5 p.length c5) := (hb.cell (p := ⟨b2, _, none⟩) hb2).trans x2
      have d1 : wr.cell? ⟨b1, o1 + dn, none⟩ = some (.slice A4 d.length c4) := (hb.cell (p := ⟨b1, _, none⟩) hb1).trans e1
      have hst := Lib.hid (fitGo_at (free := freeAt d (minute - bef) (minute + len + aft)) hx hp)
      have hsn := Lib.hid (show who.take j ++ [r] = who.take (j + 1) by obtain ⟨hi, e⟩ := List.getElem?_eq_some_iff.1 hx; rw [List.take_succ_eq_append_getElem hi, e])
      have hpr := Lib.hid (hpb.out p (List.mem_of_getElem? hp))
      have z := hb.size
      replace hc5 := Lib.hid hc5
      clear x2 x3 hx hp
      go_wp2
      obtain ⟨wo, rfl⟩ : ∃ wo : World, wo = wr := ⟨_, rfl⟩
      clear d2 d3
      go_loopg [10, 47] p.length (fun n v k w2 => ∃ q : Nat, q ≤ p.length ∧ n = p.length - q ∧ k = .int .i64 q ∧ v = .bool ((p.take q).contains r) ∧ w2 = wo)
      case atStart => exact ⟨0, by omega, rfl, rfl, rfl, rfl⟩
      case round =>
        obtain ⟨q, hq, hqn, rfl, rfl, rfl⟩ := hrel
        replace hqn := Lib.hid hqn
        by_cases hlt3 : q < p.length
        · obtain ⟨x, hx⟩ : ∃ x, p[q]? = some x := ⟨_, List.getElem?_eq_getElem hlt3⟩
          obtain ⟨b5, o5, rfl, hb5, x5⟩ := hc5.out q x hx
          have d5 : wr.cell? ⟨b5, o5 + q, none⟩ = some (.int .i64 x) := (hb.cell (p := ⟨b5, _, none⟩) hb5).trans x5
          have hcs := contains_step (r := r) hx
          clear x5 hx
          rcases hin : (p.take q).contains r with _ | _
          · rcases hxr : (x == r) with _ | _
            all_goals
              rw [hin, hxr] at hcs
              replace hcs := Lib.hid hcs
              clear hin
              go_wp2
              go_roundg (p.length - (q + 1))
              case measure => rw [hqn.out]; omega
              case rel => exact ⟨q + 1, by omega, rfl, by go_num, by rw [hcs.out]; rfl, rfl⟩
          · rw [hin] at hcs
            replace hcs := Lib.hid hcs
            clear hin
            go_wp2
            go_roundg (p.length - (q + 1))
            case measure => rw [hqn.out]; omega
            case rel => exact ⟨q + 1, by omega, rfl, by go_num, by rw [hcs.out]; rfl, rfl⟩
        · obtain rfl : q = p.length := by omega
          rw [List.take_length]
          clear hqn hlt3 hq
          rcases hin : p.contains r with _ | _
          · have hff := Lib.hid (show fitGo roles (freeAt d (minute - bef) (minute + len + aft)) [] who = false by rw [← hf.out, hst.out, hin]; rfl)
            clear hin hst
            go_wp2
            refine wp_region_below (wr.heap.size) _ (Below.refl _ _) (by kernel_rfl) (by kernel_rfl) ?_
            repeat (go_big_quiet_step ((fail)))
            refine wpQuiet_nil ?_
            rintro _ ⟨n1, rfl⟩
            go_wp2
            go_ret
            exact ⟨ret_bool hff.out.symm, (by repeat (first | exact Below.refl _ _ | assumption | refine Below.n _ ?_ (by first | omega | (simp; done) | (simp; omega)) | refine Below.alloc ?_ (by first | omega | (simp; done) | (simp; omega)) _ | refine Below.setCell ?_ (by first | omega | (simp; done) | (simp; omega)) _ | refine Below.drew ?_ | refine Below.setRow ?_ (by first | omega | (simp; done) | (simp; omega)) _ | refine Below.drewN ?_ _))⟩
          · have hrp : r ∈ p := by simpa using hin
            obtain ⟨hr0, hrl⟩ := hpr.out r hrp
            clear hrp
            obtain ⟨rn, rfl⟩ := Int.eq_ofNat_of_zero_le hr0
            have hrn : rn < d.length := by omega
            obtain ⟨f, hfd⟩ : ∃ f, d[rn]? = some f := ⟨_, List.getElem?_eq_getElem hrn⟩
            obtain ⟨b4, o4, rfl, hb4, x4, hokf⟩ := hc4.out rn f hfd
            have d4 : cellsAt wr b4 (o4 + rn * 23) 23 = some (Msk.maskA f) := (cellsAt_congr fun i _ => hb.cell (p := ⟨b4, _, none⟩) hb4).trans x4
            have hfr := Lib.hid (show freeAt d (minute - bef) (minute + len + aft) (rn : Int) = Msk.holdsB f (minute - bef) (minute + len + aft) by simp [freeAt, hfd])
            have hbm4 : b4 < wr.heap.size := by omega
            have hbm1 : b1 < wr.heap.size := by omega
            have wr1 : IntKind.i64.wrap (minute - bef) = minute - bef := IntWalk.i64_in _ (by omega)
            have wr2 : IntKind.i64.wrap (minute + len) = minute + len := IntWalk.i64_in _ (by omega)
            have wr3 : IntKind.i64.wrap (minute + len + aft) = minute + len + aft := IntWalk.i64_in _ (by omega)
            clear x4 hfd
            have hlook : ∀ m : After wr.heap.size wr, (Instr.lookup 69 (.map (some (w.heap.size + 2))) (.int .i64 (rn : Int)) false).run Try.prog m.w = .ok (.bool ((who.take j).contains (rn : Int))) m.w := fun m => by
              have := (hM.out.below m.below hsz).look (int_keyed Try.underlying3) Try.underlying69 (zero_bool m.w) (keyOf_int_mk Try.underlying3 (wf_i64 (x := (rn : Int)) (by omega) (by omega)))
              rw [hadF_at] at this
              exact this
            have hhol : ∀ W, Calls Try.prog 39 #[.agg (Msk.maskA f), .agg #[.int .i64 (minute - bef), .int .i64 (minute + len + aft)]] W fun e w' => e = .returned (.bool (Msk.holdsB f (minute - bef) (minute + len + aft))) ∧ Below W.heap.size W w' :=
              fun W => Msk.Holds_any f _ _ W hokf
            rcases hhad : (who.take j).contains (rn : Int) with _ | _
            · rcases hh : Msk.holdsB f (minute - bef) (minute + len + aft) with _ | _
              · have hff := Lib.hid (show fitGo roles (freeAt d (minute - bef) (minute + len + aft)) [] who = false by rw [← hf.out, hst.out, hin, hhad, hfr.out, hh]; rfl)
                rw [hhad] at hlook
                rw [hh] at hhol
                replace hhol := Lib.hid hhol
                clear hin hst hhad hh hfr
                go_wp2
                refine wp_region_below (wr.heap.size) _ (Below.refl _ _) (by kernel_rfl) (by kernel_rfl) ?_
                repeat (go_big_quiet_step (((go_at_call 39; exact quiet_below (Nat.le_refl _) (hhol.out _)))))
                refine wpQuiet_nil ?_
                rintro _ ⟨n1, rfl⟩
                go_wp2
                go_ret
                exact ⟨ret_bool hff.out.symm, (by repeat (first | exact Below.refl _ _ | assumption | refine Below.n _ ?_ (by first | omega | (simp; done) | (simp; omega)) | refine Below.alloc ?_ (by first | omega | (simp; done) | (simp; omega)) _ | refine Below.setCell ?_ (by first | omega | (simp; done) | (simp; omega)) _ | refine Below.drew ?_ | refine Below.setRow ?_ (by first | omega | (simp; done) | (simp; omega)) _ | refine Below.drewN ?_ _))⟩
              · have hff := Lib.hid (show fitGo roles (freeAt d (minute - bef) (minute + len + aft)) (who.take (j + 1)) (who.drop (j + 1)) = fitGo roles (freeAt d (minute - bef) (minute + len + aft)) [] who by rw [← hf.out, hst.out, hin, hhad, hfr.out, hh]; rfl)
                rw [hhad] at hlook
                rw [hh] at hhol
                replace hhol := Lib.hid hhol
                clear hin hst hhad hh hfr
                go_wp2
                refine wp_region_below (wr.heap.size) _ (Below.refl _ _) (by kernel_rfl) (by kernel_rfl) ?_
                repeat (go_big_quiet_step (((go_at_call 39; exact quiet_below (Nat.le_refl _) (hhol.out _)))))
                refine wpQuiet_nil ?_
                rintro _ ⟨n1, rfl⟩
                clear hlook
                obtain ⟨ws, hrun, hM2, hg⟩ := (hM.out.below n1.below hsz).store (val := .bool true) (int_keyed Try.underlying3) Try.underlying69 (by unfold maxLen; omega) (keyOf_int_mk Try.underlying3 (wf_i64 (x := (rn : Int)) (by omega) (by omega)))
                replace hM2 := Lib.hid hM2
                have z1 := n1.size
                go_wp2
                go_roundg (who.length - (j + 1))
                case measure => rw [hn.out]; omega
                case rel =>
                  have hbn : Below w.heap.size w n1.w := (by repeat (first | exact Below.refl _ _ | assumption | refine Below.n _ ?_ (by first | omega | (simp; done) | (simp; omega)) | refine Below.alloc ?_ (by first | omega | (simp; done) | (simp; omega)) _ | refine Below.setCell ?_ (by first | omega | (simp; done) | (simp; omega)) _ | refine Below.drew ?_ | refine Below.setRow ?_ (by first | omega | (simp; done) | (simp; omega)) _ | refine Below.drewN ?_ _))
                  have hM3 := hM2.out
                  rw [hadF_snoc, hsn.out] at hM3
                  have hB0 : Blk ws w.heap.size 36 #[.int .i64 len, .int .i64 bef, .int .i64 aft, .slice (some ⟨b2, o2, none⟩) roles.length c2] := blk_row (B0.after n1 (by omega)) hg (by omega)
                  have hB1 : Blk ws (w.heap.size + 1) 40 #[.int .i64 dn, .int .i64 minute, .slice (some ⟨b3, o3, none⟩) who.length c3] := blk_row (B1.after n1 (by omega)) hg (by omega)
                  exact ⟨j + 1, by omega, rfl, by go_num, hff.out, below_row hbn hg (by omega) (by omega), by have := hg.size; omega, hB0, hB1, _, hM3⟩
            · have hff := Lib.hid (show fitGo roles (freeAt d (minute - bef) (minute + len + aft)) [] who = false by rw [← hf.out, hst.out, hin, hhad]; rfl)
              rw [hhad] at hlook
              clear hin hst hhad hfr hhol
              go_wp2
              refine wp_region_below (wr.heap.size) _ (Below.refl _ _) (by kernel_rfl) (by kernel_rfl) ?_
              repeat (go_big_quiet_step ((fail)))
              refine wpQuiet_nil ?_
              rintro _ ⟨n1, rfl⟩
              go_wp2
              go_ret
              exact ⟨ret_bool hff.out.symm, (by repeat (first | exact Below.refl _ _ | assumption | refine Below.n _ ?_ (by first | omega | (simp; done) | (simp; omega)) | refine Below.alloc ?_ (by first | omega | (simp; done) | (simp; omega)) _ | refine Below.setCell ?_ (by first | omega | (simp; done) | (simp; omega)) _ | refine Below.drew ?_ | refine Below.setRow ?_ (by first | omega | (simp; done) | (simp; omega)) _ | refine Below.drewN ?_ _))⟩
    · obtain rfl : j = who.length := by omega
      have hff := Lib.hid (show fitGo roles (freeAt d (minute - bef) (minute + len + aft)) [] who = true by rw [← hf.out, List.drop_length]; rfl)
      go_wp2
      go_ret
      exact ⟨ret_bool hff.out.symm, (by repeat (first | exact Below.refl _ _ | assumption | refine Below.n _ ?_ (by first | omega | (simp; done) | (simp; omega)) | refine Below.alloc ?_ (by first | omega | (simp; done) | (simp; omega)) _ | refine Below.setCell ?_ (by first | omega | (simp; done) | (simp; omega)) _ | refine Below.drew ?_ | refine Below.setRow ?_ (by first | omega | (simp; done) | (simp; omega)) _ | refine Below.drewN ?_ _))⟩

/-- may a service be had in a slot? -/
theorem fits_any (len bef aft day minute : Int) (rolesV daysV whoV : Value) (roles : List (List Int)) (days : List (List (Nat → Nat))) (who : List Int) (w : World) (hd : Sl.Masks2V w w.heap.size daysV days) (hr : Sl.Ints2V w w.heap.size rolesV roles) (hw : Sl.IntsV w w.heap.size whoV who)
    (hok : wrongDays len bef aft roles days = 0) (hm0 : 0 ≤ minute) (hm1 : minute ≤ 1440) :
    Calls Try.prog 30 #[.agg #[.int .i64 len, .int .i64 bef, .int .i64 aft, rolesV], daysV, .agg #[.int .i64 day, .int .i64 minute, whoV]] w fun e w' => e = .returned (.bool (fitsB len bef aft roles days day minute who)) ∧ Below w.heap.size w w' := by
  unfold fitsB
  by_cases h : day < 0 ∨ (days.length : Int) ≤ day ∨ who.length ≠ roles.length
  · rw [if_pos h]; exact fits_out len bef aft day minute rolesV daysV whoV roles days who w hd hr hw h
  · rw [if_neg h]
    obtain ⟨dn, rfl⟩ := Int.eq_ofNat_of_zero_le (show 0 ≤ day by omega)
    have hdn : days[dn]? = some (days.getD dn []) := by rw [List.getD, List.getElem?_eq_getElem (show dn < days.length by omega)]; rfl
    exact fits_in len bef aft minute dn rolesV daysV whoV roles days _ who w hd hr hw hdn (by omega) (wrongDays_ok len bef aft roles days hok _ (List.mem_of_getElem? hdn)) hm0 hm1

end Mat
end Go.Proofs.Ytbaomgdkoglebaa
