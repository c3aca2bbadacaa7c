/- What all rules mean on a day: mean.All. -/
import Derived.Test.YtbncbkaonkcgeaaMen
import Derived.Test.YtbncbkaonkcgeaaMnP
import Derived.Test.YtbncbkaonkcgeaaFree
namespace Go.Proofs.Ytbncbkaonkcgeaa
open Go.RowKit Go.Maps Go.ChangeShapes
namespace Ru
open Msk Vm
open Sl (strV Reads IntsV)

/-- what is answered where nothing can be told -/
def allF (l : List Rule) (day : Int) : Int × Int := if (wrongR l).1 ≠ 0 then wrongR l else if day < 0 ∨ 146097 ≤ day then (3, 0) else (0, 0)
def allM (l : List Rule) (env : List UInt8 → Nat → Bool) (day : Int) : List (Nat → Bool) := if (allF l day).1 = 0 then l.map fun r => env r.name else []
def AllPost (l : List Rule) (env : List UInt8 → Nat → Bool) (day : Int) (w : World) (e : Ending) (w' : World) : Prop := ∃ v, e = .returned (.tuple #[v, faultV (allF l day)]) ∧ MaskRow w' w.heap.size v (allM l env day) ∧ Below w.heap.size w w'
theorem MaskRow.nil (w : World) (base : Nat) : MaskRow w base (.slice none 0 0) [] := World.ownsRow_nil _ _ _ _

set_option maxRecDepth 100000 in
set_option maxHeartbeats 4000000 in
theorem MAll_wrong (v : Value) (l : List Rule) (env : List UInt8 → Nat → Bool) (day : Int) (w : World) (hr : RulesV w w.heap.size v l) (h : (wrongR l).1 ≠ 0) : Calls Try.prog 13 #[v, .int .i64 day] w (AllPost l env day w) := by
  have hF : allF l day = wrongR l := if_pos h
  have hM : allM l env day = [] := if_neg (by rw [hF]; exact h)
  have hbA : Below w.heap.size w (w.alloc (.cells #[.int .i64 0, .int .i64 0] 26)) := (Below.refl _ _).alloc (Nat.le_refl _) _
  have hP := Lib.hid (CWrong_any v l (w.alloc (.cells #[.int .i64 0, .int .i64 0] 26)) (hr.below hbA (Nat.le_refl _) (by simp)))
  have B0 := Blk.new w 26 #[.int .i64 0, .int .i64 0]
  obtain ⟨A, cap, rfl, _⟩ := hr
  have g : ((wrongR l).1 != 0) = true := by simpa using h
  unfold AllPost
  rw [hF, hM]
  generalize wrongR l = q at *
  obtain ⟨q1, q2⟩ := q
  unfold faultV at hP ⊢
  simp only at g hP ⊢
  clear h hF hM
  go_enter Try.func13, Try.ntmps13
  go_wp2_with (go_at_call 20; refine hP.out.mono ?_; rintro e w1 ⟨rfl, hb1⟩; have hz1 := hb1.size; simp at hz1; have B1 := B0.below hb1 (by simp); have s0 : w1.cell? ⟨w.heap.size, 0, none⟩ = some (.int .i64 0) := B1.cell 0; have s1 : w1.cell? ⟨w.heap.size, 1, none⟩ = some (.int .i64 0) := B1.cell 1; have t0 : w1.frozen? ⟨w.heap.size, 0, none⟩ = false := B1.frozen 0; have t1 : w1.frozen? ⟨w.heap.size, 1, none⟩ = false := B1.frozen 1)
  have hb2 : Below w.heap.size w w1 := hbA.trans (hb1.mono (by simp))
  have hlw : w.heap.size < w1.heap.size := by omega
  go_region
  all_goals
    go_wp2_with fail
    exact bodyPost_ret (v := .tuple #[.slice none 0 0, .agg #[.int .i64 q1, .int .i64 q2]]) (by simp [results, Try.results13, s0, s1, hlw, go_sem]) rfl ⟨_, rfl, MaskRow.nil _ _, (by repeat (first | exact Below.refl _ _ | assumption | refine Below.n _ ?_ (by first | omega | (simp; done) | (simp; omega)) | refine Below.alloc ?_ (by first | omega | (simp; done) | (simp; omega)) _ | refine Below.setCell ?_ (by first | omega | (simp; done) | (simp; omega)) _ | refine Below.drew ?_ | refine Below.setRow ?_ (by first | omega | (simp; done) | (simp; omega)) _ | refine Below.drewN ?_ _))⟩

set_option maxRecDepth 100000 in
set_option maxHeartbeats 4000000 in
theorem MAll_range (v : Value) (l : List Rule) (env : List UInt8 → Nat → Bool) (day : Int) (w : World) (hr : RulesV w w.heap.size v l) (h : (wrongR l).1 = 0) (hd : day < 0 ∨ 146097 ≤ day) : Calls Try.prog 13 #[v, .int .i64 day] w (AllPost l env day w) := by
  have hF : allF l day = (3, 0) := by unfold allF; rw [if_neg (by omega), if_pos hd]
  have hM : allM l env day = [] := if_neg (by rw [hF]; decide)
  have hbA : Below w.heap.size w (w.alloc (.cells #[.int .i64 0, .int .i64 0] 26)) := (Below.refl _ _).alloc (Nat.le_refl _) _
  have hP := Lib.hid (CWrong_any v l (w.alloc (.cells #[.int .i64 0, .int .i64 0] 26)) (hr.below hbA (Nat.le_refl _) (by simp)))
  have B0 := Blk.new w 26 #[.int .i64 0, .int .i64 0]
  obtain ⟨A, cap, rfl, _⟩ := hr
  unfold AllPost
  rw [hF, hM]
  generalize wrongR l = q at *
  obtain ⟨q1, q2⟩ := q
  simp only at h
  subst h
  unfold faultV at hP ⊢
  simp only at hP ⊢
  clear hF hM
  rcases dec (day < 0) with ⟨g, _⟩ | ⟨g, _⟩
  all_goals
    have g2 : decide (146097 ≤ day) = true ∨ day < 0 := by simp; omega
    go_enter Try.func13, Try.ntmps13
    go_wp2_with (go_at_call 20; refine hP.out.mono ?_; rintro e w1 ⟨rfl, hb1⟩; have hz1 := hb1.size; simp at hz1; have B1 := B0.below hb1 (by simp); have s0 : w1.cell? ⟨w.heap.size, 0, none⟩ = some (.int .i64 0) := B1.cell 0; have s1 : w1.cell? ⟨w.heap.size, 1, none⟩ = some (.int .i64 0) := B1.cell 1; have t0 : w1.frozen? ⟨w.heap.size, 0, none⟩ = false := B1.frozen 0; have t1 : w1.frozen? ⟨w.heap.size, 1, none⟩ = false := B1.frozen 1; have hlw : w.heap.size < w1.heap.size := by omega)
    have hb2 : Below w.heap.size w w1 := hbA.trans (hb1.mono (by simp))
    exact bodyPost_ret (v := .tuple #[.slice none 0 0, .agg #[.int .i64 3, .int .i64 0]]) (by simp [results, Try.results13, s0, s1, hlw, go_sem]) rfl ⟨_, rfl, MaskRow.nil _ _, (by repeat (first | exact Below.refl _ _ | assumption | refine Below.n _ ?_ (by first | omega | (simp; done) | (simp; omega)) | refine Below.alloc ?_ (by first | omega | (simp; done) | (simp; omega)) _ | refine Below.setCell ?_ (by first | omega | (simp; done) | (simp; omega)) _ | refine Below.drew ?_ | refine Below.setRow ?_ (by first | omega | (simp; done) | (simp; omega)) _ | refine Below.drewN ?_ _))⟩

theorem day_new (w1 : World) (o : Obj) (rv : Value) (day : Int) : DayAt (((w1.alloc o).alloc (.map #[] 0)).alloc (.cells #[rv, .int .i64 day, .map (some (w1.heap.size + 1))] 68)) (w1.heap.size + 1 + 1) day (w1.heap.size + 1) 0 0 (fun _ => none) := by
  have B := Blk.new ((w1.alloc o).alloc (.map #[] 0)) 68 #[rv, .int .i64 day, .map (some (w1.heap.size + 1))]
  rw [World.size_alloc, World.size_alloc] at B
  refine ⟨B.cell 1, B.cell 2, B.lt, by rw [World.size_alloc, World.size_alloc, World.size_alloc]; omega, ?_⟩
  rw [← none_envF]
  have := Mp.Is.made (w1.alloc o) Try.prog 9
  rw [World.size_alloc] at this
  exact this.alloc _
theorem grown_grown {a b c : World} {r : Option Nat} (h : a.grownBy b r) (k : b.grownBy c r) : a.grownBy c r :=
  ⟨k.os.trans h.os, k.tape.trans h.tape, k.output.trans h.output, Nat.le_trans h.size k.size, fun i hi hne => (k.block i (Nat.lt_of_lt_of_le hi h.size) hne).trans (h.block i hi hne)⟩
theorem grown_below {a b c : World} {r : Option Nat} (h : a.grownBy b r) (k : Below b.heap.size b c) : a.grownBy c r :=
  grown_grown h ⟨k.os, k.tape, k.output, k.size, fun i hi _ => k.block i hi⟩
theorem grown_refl (a : World) (r : Option Nat) : a.grownBy a r := ⟨rfl, rfl, rfl, Nat.le_refl _, fun _ _ _ => rfl⟩
theorem grown_cell {a b : World} {r : Option Nat} (h : a.grownBy b r) {g i : Nat} (hg : g < a.heap.size) (hne : some g ≠ r) : b.cell? ⟨g, i, none⟩ = a.cell? ⟨g, i, none⟩ := World.cell?_of_block (h.block g hg hne)

set_option maxRecDepth 100000 in
set_option maxHeartbeats 8000000 in
theorem MAll_right (v : Value) (l : List Rule) (env : List UInt8 → Nat → Bool) (wd : Nat) (day : Int) (hme : Means wd day l env) (hwd : Civ.weekI day = (wd : Nat)) (w : World) (hr : RulesV w w.heap.size v l) (h : (wrongR l).1 = 0) (hd0 : 0 ≤ day) (hd1 : day < 146097) : Calls Try.prog 13 #[v, .int .i64 day] w (AllPost l env day w) := by
  have hF : allF l day = (0, 0) := by unfold allF; rw [if_neg (by omega), if_neg (by omega)]
  have hM : allM l env day = l.map fun r => env r.name := if_pos (by rw [hF])
  have hbA : Below w.heap.size w (w.alloc (.cells #[.int .i64 0, .int .i64 0] 26)) := (Below.refl _ _).alloc (Nat.le_refl _) _
  have hP := Lib.hid (CWrong_any v l (w.alloc (.cells #[.int .i64 0, .int .i64 0] 26)) (hr.below hbA (Nat.le_refl _) (by simp)))
  have B0 := Blk.new w 26 #[.int .i64 0, .int .i64 0]
  have hright := Lib.hid (right_of h)
  have hform := Lib.hid (wrong_form h)
  have hOrd := Lib.hid (fun (W : World) (v : Value) (hr : RulesV W W.heap.size v l) => Order_any v l W hr h)
  obtain ⟨h40, _⟩ := form_right (wrong_form h)
  have hrr := Lib.hid hr
  obtain ⟨A, cap, rfl, hlen, hc⟩ := hr
  replace hc := Lib.hid hc
  unfold AllPost
  rw [hF, hM]
  generalize wrongR l = q at *
  obtain ⟨q1, q2⟩ := q
  simp only at h
  subst h
  unfold faultV at hP ⊢
  simp only at hP ⊢
  replace hme := Lib.hid hme
  clear hF hM
  have g : decide (day < 0) = false := by simp; omega
  have g2 : decide (146097 ≤ day) = false := by simp; omega
  have hmm := @run_makeMap Try.prog
  go_enter Try.func13, Try.ntmps13
  go_wp2_with (first
    | (go_at_call 20; refine hP.out.mono ?_; rintro e w1 ⟨rfl, hb1⟩; have hz1 := hb1.size; simp at hz1; have B1 := B0.below hb1 (by simp); have hlw : w.heap.size < w1.heap.size := by omega)
    | (go_at_call 35; refine (hOrd.out _ _ (hrr.out.below (((((hbA.trans (hb1.mono (by simp))).alloc (by omega) _).alloc (by simp; omega) _).alloc (by simp; omega) _)) (Nat.le_refl _) (by simp; omega))).mono ?_; rintro e w5 ⟨ov, o, rfl, ho, hO, hol, hb5⟩; obtain ⟨A5, cap5, rfl⟩ := own_slice ho; replace hol := Lib.hid hol))
  have hD5 := (day_new w1 (.cells #[.int .i64 0, .int .i64 q2] 26) (.slice A l.length cap) day).below hb5 (Nat.le_refl _)
  have hb6 : Below w.heap.size w w5 := (((((hbA.trans (hb1.mono (by simp))).alloc (by omega) _).alloc (by simp; omega) _).alloc (by simp; omega) _)).trans (hb5.mono (by simp; omega))
  have B6 : Blk w5 w.heap.size 26 #[.int .i64 0, .int .i64 0] := (((B1.alloc (.cells #[.int .i64 0, .int .i64 q2] 26)).alloc (.map #[] 0)).alloc (.cells #[.slice A l.length cap, .int .i64 day, .map (some (w1.heap.size + 1))] 68)).below hb5 (by simp; omega)
  have hz5 := hb5.size
  simp at hz5
  replace ho := Lib.hid (show w5.ownsRow (w1.heap.size + 1 + 1) 3 1 (.slice A5 o.length cap5) o.length (o.map (Value.int .i64)) from own_mono ho (by simp))
  replace hO := Lib.hid hO
  clear hP hOrd hmm hb1 hb5 hbA B0 B1 g g2
  have hol4 : o.length ≤ 40 := by rw [hol.out]; exact h40
  go_loopg [34] o.length (fun q k wr => ∃ (i c : Nat) (M : List UInt8 → Option (Nat → Bool)), i ≤ o.length ∧ q = o.length - i ∧ k = .int .i64 i ∧ DayAt wr (w1.heap.size + 1 + 1) day (w1.heap.size + 1) i c M ∧ Hid (Known l env o i M) ∧ w5.grownBy wr (some (w1.heap.size + 1)))
  case atStart => exact ⟨0, 0, _, by omega, rfl, rfl, hD5, Lib.hid (Known.start _ _ _), grown_refl _ _⟩
  case round =>
    clear hD5
    obtain ⟨i, c, M, hi, hn, rfl, hD, hK, hgw⟩ := hrel
    replace hn := Lib.hid hn
    have zw := hgw.size
    have hbw : Below w.heap.size w wr := below_row hb6 hgw (by omega) (by omega)
    by_cases hlt : i < o.length
    · obtain ⟨k, hok, hkn⟩ := hO.out.inn _ (List.getElem_mem hlt)
      have hoi : o[i]? = some (k : Int) := by rw [List.getElem?_eq_getElem hlt, hok]
      clear hok
      obtain ⟨r, hx⟩ : ∃ r, l[k]? = some r := ⟨_, List.getElem?_eq_getElem hkn⟩
      obtain ⟨g5, cap6, he5, hg5, hc5⟩ := own_elem ho.out (i := i) (x := .int .i64 k) (by rw [List.getElem?_map, hoi]; rfl)
      have hg5b : w1.heap.size + 1 + 1 ≤ g5 := (ho.out.lt g5 (by rw [he5]; rfl)).1
      cases he5
      have c0 : wr.cell? ⟨g5, i, none⟩ = some (.int .i64 k) := (grown_cell hgw hg5 (by intro e; cases e; omega)).trans hc5
      obtain ⟨b, q, rfl, hbl, k0, hnl, hE⟩ := hc.out k r hx
      have c1 : wr.cell? ⟨b, q + k * 6, none⟩ = some (strV r.name) := (hbw.cell (p := ⟨b, _, none⟩) hbl).trans k0
      have zbl : b < wr.heap.size := by omega
      have hp := Lib.hid (hK.out.mean hme.out hright.out hO.out hoi hx)
      have hK2 := Lib.hid (hK.out.put hoi hx)
      have hexp := Lib.hid (fun m : After wr.heap.size wr => show Calls Try.prog 36 #[.pointer (some ⟨w1.heap.size + 1 + 1, 0, none⟩), .pointer (some ⟨b, q + k * 6 + 1, none⟩)] m.w (fun r' w' => r' = .returned (.agg (maskA (setW (env r.name)))) ∧ Below m.w.heap.size m.w w') from by
        have := expr_all wd day hd0 hd1 hwd M (nodesE r.expr) r.expr m.w w.heap.size b (q + k * 6 + 1) (w1.heap.size + 1 + 1) (w1.heap.size + 1) i c (Nat.le_refl _) ⟨1, 0, form_each hform.out hx⟩ (hE.below (hbw.trans (m.below.mono (by omega))) (Nat.le_refl _) (Nat.le_refl _) hbl) hbl (by have := m.size; omega) (hD.below m.below (Nat.le_refl _))
        unfold MeanPost envOf at this
        rw [hp.out] at this
        exact this)
      have d1 := hD.d1
      have d2 := hD.d2
      have zd := hD.lt
      have zm := hD.mlt
      clear hc5 k0 hE hp hx hoi
      go_wp2_with fail
      refine wp_region_below_tail 15 (wr.heap.size) _ (Below.refl _ _) (by kernel_rfl) (by kernel_rfl) ?_
      simp only [List.take_succ_cons, List.take_zero, List.drop_succ_cons, List.drop_zero]
      iterate 15 (go_big_quiet_step (((go_at_call 36; exact quiet_below (Nat.le_refl _) (hexp.out _)))))
      refine wpQuiet_nil ?_
      rintro _ ⟨m1, rfl⟩
      change wpList _ _ _ _ _ _
      have hD1 := hD.below m1.below (Nat.le_refl _)
      obtain ⟨ws, c', hrun, hI2, hgr⟩ := store_mask hD1.map (p := env r.name) (by omega) hnl
      have e1 := hD1.d1
      have e2 := hD1.d2
      have zs := hgr.size
      have zd1 := hD1.lt
      go_wp2
      go_roundg (o.length - (i + 1))
      case measure => rw [hn.out]; omega
      case rel =>
        refine ⟨i + 1, c', _, by omega, rfl, by go_num, ⟨(grown_cell hgr zd1 (by intro e; injection e with e; omega)).trans e1, (grown_cell hgr zd1 (by intro e; injection e with e; omega)).trans e2, by omega, by have := hD1.mlt; omega, hI2⟩, hK2, grown_grown (grown_below hgw m1.below) hgr⟩
    · obtain rfl : i = o.length := by omega
      have hall := Lib.hid (fun (k : Nat) (r : Rule) (hx : l[k]? = some r) => hK.out.all hO.out hol.out hx)
      have B7 : Blk wr w.heap.size 26 #[.int .i64 0, .int .i64 0] := (hgw.block w.heap.size (by have := B6.lt; omega) (by intro e; injection e with e; omega)).trans B6
      clear hK hgw hn hi ho hO hol B6 hb6 hlt
      obtain ⟨wo, rfl⟩ : ∃ wo : World, wo = wr := ⟨_, rfl⟩
      have d1 := hD.d1
      have d2 := hD.d2
      have zd := hD.lt
      have zm := hD.mlt
      go_wp2
      go_loopg [10, 56] l.length (fun q v k wr => ∃ j : Nat, j ≤ l.length ∧ q = l.length - j ∧ k = .int .i64 j ∧ Hid (MaskRow wr wo.heap.size v ((l.take j).map fun r => env r.name)) ∧ Below wo.heap.size wo wr)
      case atStart => exact ⟨0, by omega, rfl, rfl, Lib.hid (MaskRow.nil _ _), Below.refl _ _⟩
      case round =>
        obtain ⟨j, hj, hn, rfl, hS, hbq⟩ := hrel
        replace hn := Lib.hid hn
        have zq := hbq.size
        obtain ⟨A8, cap8, rfl⟩ := own_slice hS.out
        have hsl : ((l.take j).map fun r => env r.name).length ≤ l.length := by rw [List.length_map, List.length_take]; omega
        by_cases hlt : j < l.length
        · obtain ⟨r, hx⟩ : ∃ r, l[j]? = some r := ⟨_, List.getElem?_eq_getElem hlt⟩
          obtain ⟨b, o', rfl, hbl, k0, hnl, hE⟩ := hc.out j r hx
          have hbw2 : Below w.heap.size w wr := hbw.trans (hbq.mono (by omega))
          have zbl : b < wr.heap.size := by omega
          obtain ⟨v0, v1, v2, v3, hnl1, A1, cap1, v4, hkl1, hkv1⟩ := (hE.below hbw2 (Nat.le_refl _) (Nat.le_refl _) hbl).out
          have f0 : wr.cell? ⟨b, o' + j * 6, none⟩ = some (strV r.name) := (hbw2.cell (p := ⟨b, _, none⟩) hbl).trans k0
          have f1 : wr.cell? ⟨b, o' + j * 6 + 1, none⟩ = some (.int .i64 r.expr.kind) := v0
          have f2 : wr.cell? ⟨b, o' + j * 6 + 2, none⟩ = some (.int .i64 r.expr.a) := v1
          have f3 : wr.cell? ⟨b, o' + j * 6 + 3, none⟩ = some (.int .i64 r.expr.b) := v2
          have f4 : wr.cell? ⟨b, o' + j * 6 + 4, none⟩ = some (strV r.expr.name) := v3
          have f5 : wr.cell? ⟨b, o' + j * 6 + 5, none⟩ = some (.slice A1 r.expr.kids.length cap1) := v4
          have e2 : wr.cell? ⟨w1.heap.size + 1 + 1, 2, none⟩ = some (.map (some (w1.heap.size + 1))) := (hbq.cell (p := ⟨w1.heap.size + 1 + 1, _, none⟩) zd).trans d2
          have hbc : Below wo.heap.size wo (wr.alloc (.cells #[strV r.name, .int .i64 r.expr.kind, .int .i64 r.expr.a, .int .i64 r.expr.b, strV r.expr.name, .slice A1 r.expr.kids.length cap1] 45)) := hbq.alloc zq _
          have hS2 := Lib.hid (own_keep hS.out ((Below.refl wr.heap.size wr).alloc (Nat.le_refl _) (.cells #[strV r.name, .int .i64 r.expr.kind, .int .i64 r.expr.a, .int .i64 r.expr.b, strV r.expr.name, .slice A1 r.expr.kids.length cap1] 45)) (Nat.le_refl _))
          have hlk := (fun m : After (wr.heap.size + 1) (wr.alloc (.cells #[strV r.name, .int .i64 r.expr.kind, .int .i64 r.expr.a, .int .i64 r.expr.b, strV r.expr.name, .slice A1 r.expr.kids.length cap1] 45)) => look_mask (hD.map.below (hbc.trans (m.below.mono (by omega))) zm) hnl)
          have hev : envOf M r.name = env r.name := hall.out j r hx
          rw [hev] at hlk
          have htk : (l.take (j + 1)).map (fun r => env r.name) = (l.take j).map (fun r => env r.name) ++ [env r.name] := by rw [List.take_add_one, hx]; simp
          replace htk := Lib.hid htk
          generalize hp : env r.name = p1 at *
          clear hp hev
          generalize (l.take j).map (fun r => env r.name) = S0 at *
          clear v0 v1 v2 v3 v4 k0 hx hE hkv1
          go_wp2_with fail
          refine Fr.wp_region_made [(8, fun v _ w' => MadeAt p1 v w')] 9 (wr.heap.size + 1) (wr.alloc (.cells #[strV r.name, .int .i64 r.expr.kind, .int .i64 r.expr.a, .int .i64 r.expr.b, strV r.expr.name, .slice A1 r.expr.kids.length cap1] 45)) (Below.refl _ _) (by simp) (by kernel_rfl) (by kernel_rfl) ?_
          simp only [List.take_succ_cons, List.take_zero, List.drop_succ_cons, List.drop_zero]
          refine Fr.free_take 8 (Fr.class_ne _ _) (by rfl) (by rfl) ?_
          simp only [List.take_succ_cons, List.take_zero, List.drop_succ_cons, List.drop_zero]
          iterate 8 (go_big_quiet_step ((fail)))
          refine wpQuiet_nil ?_
          change Fr.wpFree _ _ _ _ _ _ _ _ 8 _ _
          refine Fr.free_ev rfl rfl (Nat.le_of_ble_eq_true rfl) (fun W hv => ?_) ?_
          · obtain ⟨⟨m5, rfl⟩, _⟩ := hv
            go_wp2
            exact ⟨(Below.refl _ _).alloc (Nat.le_refl _) _, MadeAt.new _ _⟩
          rintro v V1 V1' hv hg ⟨g9, rfl, hG9⟩
          clear hv hg
          simp only [Act.put, List.setIfInBounds_toArray, List.set_cons_succ, List.set_cons_zero]
          refine Fr.free_nil ?_
          intro wf hbd _
          have hG := Lib.hid (hG9.below (Fr.Bd.hd hbd) hG9.lt)
          obtain ⟨⟨m1, rfl⟩, _⟩ := hbd
          clear hG9
          change wpList _ _ _ _ _ _
          have hS3 := Lib.hid (own_keep hS2.out m1.below (by simp))
          have zz := m1.size
          simp at zz
          go_wp2_with (at_builtin; refine wp_pushG rfl (.tmp 60) (.tmp 68) rfl wo.heap.size _ S0 p1 g9 hS3.out hG.out rfl rfl (by omega) (by omega) ?_; intro v6 w6 hS6 hb6)
          go_roundg (l.length - (j + 1))
          case measure => rw [hn.out]; omega
          case rel => exact ⟨j + 1, by omega, rfl, by go_num, Lib.hid (by rw [htk.out]; exact hS6), (hbc.trans (m1.below.mono (by omega))).trans hb6⟩
        · obtain rfl : j = l.length := by omega
          have B8 := B7.below hbq (by have := B7.lt; omega)
          have s0 : wr.cell? ⟨w.heap.size, 0, none⟩ = some (.int .i64 0) := B8.cell 0
          have s1 : wr.cell? ⟨w.heap.size, 1, none⟩ = some (.int .i64 0) := B8.cell 1
          have t0 : wr.frozen? ⟨w.heap.size, 0, none⟩ = false := B8.frozen 0
          have t1 : wr.frozen? ⟨w.heap.size, 1, none⟩ = false := B8.frozen 1
          have hlw2 : w.heap.size < wr.heap.size := by omega
          have hls : ((l.take l.length).map fun r => env r.name).length = l.length := by simp
          rw [hls] at hS ⊢
          rw [List.take_length] at hS
          clear hls hsl
          generalize hS0 : l.map (fun r => env r.name) = S0 at *
          replace hS0 := Lib.hid hS0
          go_wp2
          have E := (B8.set 0 (.int .i64 0)).set 1 (.int .i64 0)
          have e0 := (E.cell 0).trans (show _ = some (Value.int .i64 0) from rfl)
          have e1 := (E.cell 1).trans (show _ = some (Value.int .i64 0) from rfl)
          refine bodyPost_ret (v := .tuple #[.slice A8 l.length cap8, .agg #[.int .i64 0, .int .i64 0]]) (by simp [results, Try.results13, e0, e1, go_sem]) rfl ⟨_, rfl, ?_, (((hbw.trans (hbq.mono (by omega))).setCell (by simp) _).setCell (by simp) _)⟩
          rw [hS0.out]
          unfold MaskRow
          exact own_mono (base := wo.heap.size) (own_far (own_far hS.out (p := ⟨w.heap.size, 0, none⟩) (by show w.heap.size < wo.heap.size; omega) _) (p := ⟨w.heap.size, 1, none⟩) (by show w.heap.size < wo.heap.size; omega) _) (by omega)

theorem MAll_any (v : Value) (l : List Rule) (env : List UInt8 → Nat → Bool) (wd : Nat) (day : Int) (hme : (wrongR l).1 = 0 → 0 ≤ day → day < 146097 → Means wd day l env) (hwd : 0 ≤ day → day < 146097 → Civ.weekI day = (wd : Nat)) (w : World) (hr : RulesV w w.heap.size v l) : Calls Try.prog 13 #[v, .int .i64 day] w (AllPost l env day w) := by
  by_cases h : (wrongR l).1 = 0
  · by_cases hd : day < 0 ∨ 146097 ≤ day
    · exact MAll_range v l env day w hr h hd
    · exact MAll_right v l env wd day (hme h (by omega) (by omega)) (hwd (by omega) (by omega)) w hr h (by omega) (by omega)
  · exact MAll_wrong v l env day w hr h
/-- of any rules and day: what names mean -/
theorem env_exists (l : List Rule) (day : Int) : ∃ (wd : Nat) (env : List UInt8 → Nat → Bool), ((wrongR l).1 = 0 → 0 ≤ day → day < 146097 → Means wd day l env) ∧ (0 ≤ day → day < 146097 → Civ.weekI day = (wd : Nat)) := by
  have hw : 0 ≤ day → Civ.weekI day = ((Civ.weekI day).toNat : Nat) := fun h => by
    have : Civ.weekI day = (day + 5) % 7 := rfl
    omega
  by_cases h : (wrongR l).1 = 0
  · obtain ⟨env, he⟩ := means_exists (Civ.weekI day).toNat day (right_of h)
    exact ⟨_, env, fun _ _ _ => he, fun h0 _ => hw h0⟩
  · exact ⟨_, fun _ => noS, fun h1 => absurd h1 h, fun h0 _ => hw h0⟩

end Ru
end Go.Proofs.Ytbncbkaonkcgeaa
