/- The table of which rule leads to which: slotref5.Reach. What is wrong with rules: slotref5.Wrong. All that each refers to, by way of others, too: check.closed. What is wrong with rules: check.Wrong. What a rule refers to: slotref5.Uses; slotref5.Ints. slices.Sort of ints that the call has laid out. What a rule refers to: check.Uses. -/
import Derived.Test.YtbadplbdgpbdaaaDoorAt
import Derived.Test.YtbadplbdgpbdaaaDoorRfT
import Derived.Test.YtbadplbdgpbdaaaDoorMea
import Derived.Test.YtbadplbdgpbdaaaDoorApp
import Derived.Test.YtbadplbdgpbdaaaDoorShp
import Derived.Test.YtbadplbdgpbdaaaDoorFrmW
import Derived.Test.YtbadplbdgpbdaaaDoorMpI
import Derived.Deep.OwnRows
import Derived.Test.YtbadplbdgpbdaaaDoorShelf
import Derived.Sort.OwnSortedInts
import Derived.Shelf.Slices.In.SortNone
import Derived.Maps.RangeWalk
namespace Go.Proofs.YtbadplbdgpbdaaaDoor
open Go.RowKit
namespace Ru

open Vm (TabB)

open Sl (strV Reads)

theorem step_iff {l : List Rule} {i k : Nat} {ri rk : Rule} (hi : l[i]? = some ri) (hk : l[k]? = some rk) : stepB (directR l) i k = ((findI l rk.name == (k : Int)) && speaksE ri.expr rk.name) := by
  unfold stepB directR
  rw [hi, speaks_names, Bool.eq_iff_iff, Bool.and_eq_true, List.contains_iff_mem, List.contains_iff_mem, beq_iff_eq]
  simp only [Option.map_some, Option.getD_some, List.mem_map]
  have hkl := (List.getElem?_eq_some_iff.1 hk).1
  constructor
  · rintro ⟨n, hn, he⟩
    have hp : placeR l n = k := by
      unfold findI at he
      split at he
      · omega
      · omega
    have hnm := placeR_name (l := l) (nm := n) (r := rk) (by rw [hp]; exact hk)
    subst hnm
    exact ⟨he, hn⟩
  · rintro ⟨he, hn⟩
    exact ⟨_, hn, he⟩

def midB (r : Nat → Nat → Bool) (m i k : Nat) : Nat → Nat → Bool := fun x y => if x < i ∨ (x = i ∧ y < k) then Wal.wal r (m + 1) x y else Wal.wal r m x y
theorem midB_start (r : Nat → Nat → Bool) (m x y : Nat) : midB r m 0 0 x y = Wal.wal r m x y := by
  unfold midB
  rw [if_neg (by omega)]
theorem midB_row (r : Nat → Nat → Bool) (m i n x y : Nat) (hy : y < n) : midB r m i n x y = midB r m (i + 1) 0 x y := by
  unfold midB
  by_cases h : x < i ∨ x = i
  · rw [if_pos (by omega), if_pos (by omega)]
  · rw [if_neg (by omega), if_neg (by omega)]
theorem midB_end (r : Nat → Nat → Bool) (m n x y : Nat) (hx : x < n) : midB r m n 0 x y = Wal.wal r (m + 1) x y := by
  unfold midB
  rw [if_pos (by omega)]
theorem midB_here (r : Nat → Nat → Bool) (m i k : Nat) : midB r m i k i k = Wal.wal r m i k := by
  unfold midB
  rw [if_neg (by omega)]
theorem midB_col (r : Nat → Nat → Bool) (m i k : Nat) : midB r m i k i m = Wal.wal r m i m := by
  unfold midB
  split
  · exact Wal.step_col m _ i
  · rfl
theorem midB_way (r : Nat → Nat → Bool) (m i k : Nat) : midB r m i k m k = Wal.wal r m m k := by
  unfold midB
  split
  · exact Wal.step_row m _ k
  · rfl
theorem midB_next (r : Nat → Nat → Bool) (m i k x y : Nat) : (if x = i ∧ y = k then (Wal.wal r m i k || (Wal.wal r m i m && Wal.wal r m m k)) else midB r m i k x y) = midB r m i (k + 1) x y := by
  unfold midB
  by_cases h : x = i ∧ y = k
  · obtain ⟨rfl, rfl⟩ := h
    rw [if_pos ⟨rfl, rfl⟩, if_pos (by omega)]
    rfl
  · rw [if_neg h]
    by_cases h2 : x < i ∨ (x = i ∧ y < k)
    · rw [if_pos h2, if_pos (by omega)]
    · rw [if_neg h2, if_neg (by omega)]


theorem info_bools7 : (Tryd.prog.info? 66).map (fun i => (i.zero, i.size, i.bytes)) = some (some (.slice none 0 0), 1, 24) := by kernel_rfl
theorem info_bool7 : (Tryd.prog.info? 4).map (fun i => (i.zero, i.size, i.bytes)) = some (some (.bool false), 1, 1) := by kernel_rfl
theorem info_parts7 {t : TypeId} {z : Value} {n b : Nat} (h : (Tryd.prog.info? t).map (fun i => (i.zero, i.size, i.bytes)) = some (some z, n, b)) : ∃ i, Tryd.prog.info? t = some i ∧ i.zero = some z ∧ i.size = n ∧ i.bytes = b := by
  cases e : Tryd.prog.info? t with
  | none => rw [e] at h; simp at h
  | some i => rw [e] at h; simp at h; exact ⟨i, rfl, h.1, h.2.1, h.2.2⟩

set_option maxRecDepth 100000 in
set_option maxHeartbeats 4000000 in
theorem Reach_any (rv : Value) (l : List Rule) (w : World) (hr : RulesV w w.heap.size rv l) (h40 : l.length ≤ 40) :
    Calls Tryd.prog 21 #[rv] w fun e w' => ∃ (g : Nat) (G : Nat → Nat), e = .returned (.slice (some ⟨g, 0, none⟩) l.length l.length) ∧ w.heap.size ≤ g ∧ TabB w' g l.length l.length G (Wal.wal (stepB (directR l)) l.length) ∧ Below w.heap.size w w' := by
  have hrh := Lib.hid hr
  obtain ⟨A, cap, rfl, hlen, hc⟩ := hr
  replace hc := Lib.hid hc
  obtain ⟨i5, hi5, hz5, hs5, hy5⟩ := info_parts7 info_bools7
  obtain ⟨i6, hi6, hz6, hs6, hy6⟩ := info_parts7 info_bool7
  replace hi5 := Lib.hid hi5
  replace hz5 := Lib.hid hz5
  replace hs5 := Lib.hid hs5
  replace hi6 := Lib.hid hi6
  replace hz6 := Lib.hid hz6
  replace hs6 := Lib.hid hs6
  have hl5 := Lib.hid (show i5.bytes * l.length ≤ 281474976710656 by rw [hy5]; omega)
  have hl6 := Lib.hid (show i6.bytes * l.length ≤ 281474976710656 by rw [hy6]; omega)
  have hl63 := Lib.hid (show l.length ≤ 9223372036854775807 by omega)
  clear hy5 hy6
  go_enter Tryd.func21, Tryd.ntmps21
  go_wp2_with (at_make; refine wpList_make_row _ rfl _ _ 64 rfl 66 i5 _ Tryd.underlying64 hi5.out hz5.out hs5.out rfl .i64 .i64 l.length rfl rfl hl5.out hl63.out ?_)
  go_loopg [14] l.length (fun n k wr => ∃ (i : Nat) (G : Nat → Nat), i ≤ l.length ∧ n = l.length - i ∧ k = .int .i64 i ∧ Hid (TabB wr w.heap.size l.length i G (stepB (directR l))) ∧ Below w.heap.size w wr)
  case atStart => exact ⟨0, fun _ => 0, by omega, rfl, rfl, Lib.hid (TabB.start w l.length _ _), (by repeat (first | exact Below.refl _ _ | assumption | refine Below.n _ ?_ (by first | omega | (simp; done) | (simp; omega)) | refine Below.alloc ?_ (by first | omega | (simp; done) | (simp; omega)) _ | refine Below.setCell ?_ (by first | omega | (simp; done) | (simp; omega)) _ | refine Below.drew ?_ | refine Below.setRow ?_ (by first | omega | (simp; done) | (simp; omega)) _ | refine Below.drewN ?_ _))⟩
  case round =>
    obtain ⟨i, G, hi, hn, rfl, hT, hbw⟩ := hrel
    replace hn := Lib.hid hn
    by_cases hlt : i < l.length
    · obtain ⟨ri, hri⟩ : ∃ c, l[i]? = some c := ⟨_, List.getElem?_eq_getElem hlt⟩
      obtain ⟨d1, d2⟩ := hT.out.rest (Nat.le_refl _) hlt
      have z := hbw.size
      have zg := hT.out.lt.1
      go_wp2_with (at_make; refine wpList_make_row _ rfl _ _ 66 rfl 4 i6 _ Tryd.underlying66 hi6.out hz6.out hs6.out rfl .i64 .i64 l.length rfl rfl hl6.out hl63.out ?_)
      have hmore := hT.out.more hlt
      have hT2 := Lib.hid (hmore.congr (r' := fun x y => if x = i then (decide (y < 0) && stepB (directR l) i y) else stepB (directR l) x y) (fun x y _ _ => by by_cases e : x = i <;> simp [e]))
      clear hmore hT d1 d2
      obtain ⟨G2, hG2⟩ : ∃ G2 : Nat → Nat, G2 = fun x => if x = i then wr.heap.size else G x := ⟨_, rfl⟩
      rw [← hG2] at hT2
      clear hG2
      replace hri := Lib.hid hri
      obtain ⟨wo, rfl⟩ : ∃ wo : World, wo = wr := ⟨_, rfl⟩
      go_loopg [25] l.length (fun n s wr2 => ∃ k : Nat, k ≤ l.length ∧ n = l.length - k ∧ s = .int .i64 k ∧ Hid (TabB wr2 w.heap.size l.length (i + 1) G2 (fun x y => if x = i then (decide (y < k) && stepB (directR l) i y) else stepB (directR l) x y)) ∧ Below w.heap.size w wr2)
      case atStart => exact ⟨0, Nat.zero_le _, rfl, rfl, hT2, (by repeat (first | exact Below.refl _ _ | assumption | refine Below.n _ ?_ (by first | omega | (simp; done) | (simp; omega)) | refine Below.alloc ?_ (by first | omega | (simp; done) | (simp; omega)) _ | refine Below.setCell ?_ (by first | omega | (simp; done) | (simp; omega)) _ | refine Below.drew ?_ | refine Below.setRow ?_ (by first | omega | (simp; done) | (simp; omega)) _ | refine Below.drewN ?_ _))⟩
      case round =>
        clear hbw hT2
        obtain ⟨k, hk, hq, rfl, hT, hbw⟩ := hrel
        replace hq := Lib.hid hq
        by_cases hlk : k < l.length
        · obtain ⟨rk, hrk⟩ : ∃ c, l[k]? = some c := ⟨_, List.getElem?_eq_getElem hlk⟩
          obtain ⟨b, o, rfl, hbl, k0, hnl, _⟩ := hc.out k rk hrk
          obtain ⟨b', o', he', _, _, _, hE⟩ := hc.out i ri hri.out
          cases he'
          have hstep := step_iff hri.out hrk
          have zz := hbw.size
          have zbl : b < wr.heap.size := by omega
          obtain ⟨v0, v1, v2, v3, hnl1, A1, cap1, v4, hkl1, hkv1⟩ := (hE.below hbw (Nat.le_refl _) (Nat.le_refl _) hbl).out
          have c0 : wr.cell? ⟨b, o + k * 6, none⟩ = some (strV rk.name) := (hbw.cell (p := ⟨b, _, none⟩) hbl).trans k0
          have c1 : wr.cell? ⟨b, o + i * 6 + 1, none⟩ = some (.int .i64 ri.expr.kind) := v0
          have c2 : wr.cell? ⟨b, o + i * 6 + 2, none⟩ = some (.int .i64 ri.expr.a) := v1
          have c3 : wr.cell? ⟨b, o + i * 6 + 3, none⟩ = some (.int .i64 ri.expr.b) := v2
          have c4 : wr.cell? ⟨b, o + i * 6 + 4, none⟩ = some (strV ri.expr.name) := v3
          have c5 : wr.cell? ⟨b, o + i * 6 + 5, none⟩ = some (.slice A1 ri.expr.kids.length cap1) := v4
          obtain ⟨r0, _⟩ := hT.out.row (Nat.lt_succ_self i)
          have hlG := (hT.out.lt.2 i (Nat.lt_succ_self i))
          obtain ⟨t0, t1⟩ := hT.out.at (Nat.lt_succ_self i) hlk
          have hA := Lib.hid (fun m : After wr.heap.size wr => At_any _ l rk.name m.w (hrh.out.below (hbw.trans (m.below.mono zz)) (Nat.le_refl _) (by have := m.size; omega)))
          have hS := Lib.hid (fun m : After wr.heap.size wr => Speaks_any (nodesE ri.expr) ri.expr (.agg #[.int .i64 ri.expr.kind, .int .i64 ri.expr.a, .int .i64 ri.expr.b, strV ri.expr.name, .slice A1 ri.expr.kids.length cap1]) rk.name m.w w.heap.size (Nat.le_refl _) ⟨A1, cap1, rfl, hnl1, hkl1, hkv1.below m.below zz (Nat.le_refl _)⟩ (by have := m.size; omega))
          have hput := Lib.hid (fun (W : World) (hW : TabB W w.heap.size l.length (i + 1) G2 (fun x y => if x = i then (decide (y < k) && stepB (directR l) i y) else stepB (directR l) x y)) => (hW.put (Nat.lt_succ_self i) hlk (stepB (directR l) i k)).congr (r' := fun x y => if x = i then (decide (y < k + 1) && stepB (directR l) i y) else stepB (directR l) x y) (fun x y _ _ => by
            by_cases e : x = i
            · subst e
              by_cases e2 : y = k
              · subst e2; simp
              · have e3 : (y < k + 1) = (y < k) := by apply propext; omega
                simp [e2, e3]
            · simp [e]))
          clear v0 v1 v2 v3 v4 hE k0 hrk hkv1
          generalize hgi : G2 i = gi at *
          cases hf : (findI l rk.name == (k : Int)) with
          | false =>
            rw [hf, Bool.false_and] at hstep
            rw [hstep] at hput
            clear hstep
            go_wp2_with fail
            refine wp_region_below_tail 28 (wr.heap.size) _ (Below.refl _ _) (by kernel_rfl) (by kernel_rfl) ?_
            simp only [List.take_succ_cons, List.take_zero, List.drop_succ_cons, List.drop_zero]
            iterate 28 (go_big_quiet_step (((go_at_call 45; exact quiet_below (Nat.le_refl _) (hA.out _)))))
            refine wpQuiet_nil ?_
            rintro _ ⟨m1, rfl⟩
            change wpList _ _ _ _ _ _
            have hb1 := m1.below
            have hT1 := hT.out.heap hb1 (Nat.le_refl _)
            go_wp2
            go_roundg (l.length - (k + 1))
            case measure => rw [hq.out]; omega
            case rel => exact ⟨k + 1, by omega, rfl, by go_num, Lib.hid (hput.out _ hT1), (by repeat (first | exact Below.refl _ _ | assumption | refine Below.n _ ?_ (by first | omega | (simp; done) | (simp; omega)) | refine Below.alloc ?_ (by first | omega | (simp; done) | (simp; omega)) _ | refine Below.setCell ?_ (by first | omega | (simp; done) | (simp; omega)) _ | refine Below.drew ?_ | refine Below.setRow ?_ (by first | omega | (simp; done) | (simp; omega)) _ | refine Below.drewN ?_ _))⟩
          | true =>
            rw [hf, Bool.true_and] at hstep
            rw [hstep] at hput
            clear hstep
            generalize speaksE ri.expr rk.name = sp at *
            go_wp2_with fail
            refine wp_region_below_tail 28 (wr.heap.size) _ (Below.refl _ _) (by kernel_rfl) (by kernel_rfl) ?_
            simp only [List.take_succ_cons, List.take_zero, List.drop_succ_cons, List.drop_zero]
            iterate 28 (go_big_quiet_step (((first | (go_at_call 45; exact quiet_below (Nat.le_refl _) (hA.out _)) | (go_at_call 47; exact quiet_below (Nat.le_refl _) (hS.out _))))))
            refine wpQuiet_nil ?_
            rintro _ ⟨m1, rfl⟩
            change wpList _ _ _ _ _ _
            have hb1 := m1.below
            have hT1 := hT.out.heap hb1 (Nat.le_refl _)
            go_wp2
            go_roundg (l.length - (k + 1))
            case measure => rw [hq.out]; omega
            case rel => exact ⟨k + 1, by omega, rfl, by go_num, Lib.hid (hput.out _ hT1), (by repeat (first | exact Below.refl _ _ | assumption | refine Below.n _ ?_ (by first | omega | (simp; done) | (simp; omega)) | refine Below.alloc ?_ (by first | omega | (simp; done) | (simp; omega)) _ | refine Below.setCell ?_ (by first | omega | (simp; done) | (simp; omega)) _ | refine Below.drew ?_ | refine Below.setRow ?_ (by first | omega | (simp; done) | (simp; omega)) _ | refine Below.drewN ?_ _))⟩
        · obtain rfl : k = l.length := by omega
          have hcg := Lib.hid (hT.out.congr (r' := stepB (directR l)) (fun x y _ hy => by
            by_cases e : x = i
            · subst e; simp [hy]
            · simp [e]))
          go_wp2
          go_roundg (l.length - (i + 1))
          case measure => rw [hn.out]; omega
          case rel => exact ⟨i + 1, G2, by omega, rfl, by go_num, hcg, hbw⟩
    · obtain rfl : i = l.length := by omega
      obtain ⟨wo, rfl⟩ : ∃ wo : World, wo = wr := ⟨_, rfl⟩
      clear hn
      go_wp2
      go_loopg [60] l.length (fun n s wr2 => ∃ m : Nat, m ≤ l.length ∧ n = l.length - m ∧ s = .int .i64 m ∧ Hid (TabB wr2 w.heap.size l.length l.length G (Wal.wal (stepB (directR l)) m)) ∧ Below w.heap.size w wr2)
      case atStart => exact ⟨0, Nat.zero_le _, rfl, rfl, hT, hbw⟩
      case round =>
        clear hbw hT
        obtain ⟨m, hm, hn, rfl, hT, hbw⟩ := hrel
        replace hn := Lib.hid hn
        by_cases hlm : m < l.length
        · have hT1 := Lib.hid (hT.out.congr (r' := midB (stepB (directR l)) m 0 0) (fun x y _ _ => (midB_start _ _ _ _).symm))
          clear hT
          obtain ⟨wo2, rfl⟩ : ∃ wo2 : World, wo2 = wr := ⟨_, rfl⟩
          go_wp2
          go_loopg [65] l.length (fun n s wr2 => ∃ i : Nat, i ≤ l.length ∧ n = l.length - i ∧ s = .int .i64 i ∧ Hid (TabB wr2 w.heap.size l.length l.length G (midB (stepB (directR l)) m i 0)) ∧ Below w.heap.size w wr2)
          case atStart => exact ⟨0, Nat.zero_le _, rfl, rfl, hT1, hbw⟩
          case round =>
            clear hbw hT1
            obtain ⟨i, hi, hq, rfl, hT, hbw⟩ := hrel
            replace hq := Lib.hid hq
            by_cases hli : i < l.length
            · obtain ⟨wo3, rfl⟩ : ∃ wo3 : World, wo3 = wr := ⟨_, rfl⟩
              go_wp2
              go_loopg [70] l.length (fun n s wr2 => ∃ k : Nat, k ≤ l.length ∧ n = l.length - k ∧ s = .int .i64 k ∧ Hid (TabB wr2 w.heap.size l.length l.length G (midB (stepB (directR l)) m i k)) ∧ Below w.heap.size w wr2)
              case atStart => exact ⟨0, Nat.zero_le _, rfl, rfl, hT, hbw⟩
              case round =>
                clear hbw hT
                obtain ⟨k, hk, hp, rfl, hT, hbw⟩ := hrel
                replace hp := Lib.hid hp
                by_cases hlk : k < l.length
                · obtain ⟨a0, _⟩ := hT.out.row hli
                  obtain ⟨b0, _⟩ := hT.out.row hlm
                  obtain ⟨a1, a2⟩ := hT.out.at hli hlk
                  obtain ⟨a3, _⟩ := hT.out.at hli hlm
                  obtain ⟨b1, _⟩ := hT.out.at hlm hlk
                  rw [midB_here] at a1
                  rw [midB_col] at a3
                  rw [midB_way] at b1
                  have hput := Lib.hid ((hT.out.put hli hlk (Wal.wal (stepB (directR l)) m i k || (Wal.wal (stepB (directR l)) m i m && Wal.wal (stepB (directR l)) m m k))).congr (fun x y _ _ => midB_next (stepB (directR l)) m i k x y))
                  have hgi := hT.out.lt.2 i hli
                  generalize G i = gi at *
                  generalize G m = gm at *
                  generalize Wal.wal (stepB (directR l)) m i k = q1 at *
                  generalize Wal.wal (stepB (directR l)) m i m = q2 at *
                  generalize Wal.wal (stepB (directR l)) m m k = q3 at *
                  have z := hbw.size
                  cases q1
                  · cases q2
                    · simp only [Bool.or_false, Bool.false_and] at hput
                      go_wp2_with fail
                      go_region
                      all_goals
                        go_wp2_with fail
                        go_roundg (l.length - (k + 1))
                        case measure => rw [hp.out]; omega
                        case rel => exact ⟨k + 1, by omega, rfl, by go_num, hput, (by repeat (first | exact Below.refl _ _ | assumption | refine Below.n _ ?_ (by first | omega | (simp; done) | (simp; omega)) | refine Below.alloc ?_ (by first | omega | (simp; done) | (simp; omega)) _ | refine Below.setCell ?_ (by first | omega | (simp; done) | (simp; omega)) _ | refine Below.drew ?_ | refine Below.setRow ?_ (by first | omega | (simp; done) | (simp; omega)) _ | refine Below.drewN ?_ _))⟩
                    · simp only [Bool.false_or, Bool.true_and] at hput
                      go_wp2_with fail
                      go_region
                      all_goals
                        go_wp2_with fail
                        go_roundg (l.length - (k + 1))
                        case measure => rw [hp.out]; omega
                        case rel => exact ⟨k + 1, by omega, rfl, by go_num, hput, (by repeat (first | exact Below.refl _ _ | assumption | refine Below.n _ ?_ (by first | omega | (simp; done) | (simp; omega)) | refine Below.alloc ?_ (by first | omega | (simp; done) | (simp; omega)) _ | refine Below.setCell ?_ (by first | omega | (simp; done) | (simp; omega)) _ | refine Below.drew ?_ | refine Below.setRow ?_ (by first | omega | (simp; done) | (simp; omega)) _ | refine Below.drewN ?_ _))⟩
                  · simp only [Bool.true_or] at hput
                    go_wp2_with fail
                    go_region
                    all_goals
                      go_wp2_with fail
                      go_roundg (l.length - (k + 1))
                      case measure => rw [hp.out]; omega
                      case rel => exact ⟨k + 1, by omega, rfl, by go_num, hput, (by repeat (first | exact Below.refl _ _ | assumption | refine Below.n _ ?_ (by first | omega | (simp; done) | (simp; omega)) | refine Below.alloc ?_ (by first | omega | (simp; done) | (simp; omega)) _ | refine Below.setCell ?_ (by first | omega | (simp; done) | (simp; omega)) _ | refine Below.drew ?_ | refine Below.setRow ?_ (by first | omega | (simp; done) | (simp; omega)) _ | refine Below.drewN ?_ _))⟩
                · obtain rfl : k = l.length := by omega
                  have hcg := Lib.hid (hT.out.congr (fun x y _ hy => midB_row (stepB (directR l)) m i _ x y hy))
                  go_wp2
                  go_roundg (l.length - (i + 1))
                  case measure => rw [hq.out]; omega
                  case rel => exact ⟨i + 1, by omega, rfl, by go_num, hcg, hbw⟩
            · obtain rfl : i = l.length := by omega
              have hcg := Lib.hid (hT.out.congr (fun x y hx _ => midB_end (stepB (directR l)) m _ x y hx))
              go_wp2
              go_roundg (l.length - (m + 1))
              case measure => rw [hn.out]; omega
              case rel => exact ⟨m + 1, by omega, rfl, by go_num, hcg, hbw⟩
        · obtain rfl : m = l.length := by omega
          go_wp2
          go_ret
          exact ⟨_, G, rfl, Nat.le_refl _, hT.out, hbw⟩


end Ru
end Go.Proofs.YtbadplbdgpbdaaaDoor

namespace Go.Proofs.YtbadplbdgpbdaaaDoor
open Go.RowKit
namespace Ru

open Vm (TabB)

open Sl (strV Reads)

def ringErr (l : List Rule) (i : Nat) : Int := if Wal.wal (stepB (directR l)) l.length i i = true then 9 else 0
/-- what is wrong with rules -/
def wrongR (l : List Rule) : Int × Int :=
  if (wrongF l).1 = 0 then
    if (firstErr (dupErr l) 0 l).1 = 0 then
      if (firstErr (fun i _ => noneErr l i) 0 l).1 = 0 then firstErr (fun i _ => ringErr l i) 0 l
      else firstErr (fun i _ => noneErr l i) 0 l
    else firstErr (dupErr l) 0 l
  else wrongF l

theorem noneErr_at {l : List Rule} {i : Nat} {r : Rule} (h : l[i]? = some r) : noneErr l i = if unknownE l r.expr = true then 6 else 0 := by
  unfold noneErr directR
  rw [h, unknown_names]
  rfl


set_option maxRecDepth 100000 in
set_option maxHeartbeats 4000000 in
theorem RWrong_form (v : Value) (l : List Rule) (w : World) (hr : RulesV w w.heap.size v l) (hf : (wrongF l).1 ≠ 0) : Calls Tryd.prog 20 #[v] w fun e w' => e = .returned (faultV (wrongR l)) ∧ Below w.heap.size w w' := by
  have hw : wrongR l = wrongF l := if_neg hf
  rw [hw]
  clear hw
  have hbA : Below w.heap.size w (w.alloc (.cells #[.int .i64 0, .int .i64 0] 26)) := (Below.refl _ _).alloc (Nat.le_refl _) _
  have hP := Lib.hid (RfWrong_any v l (w.alloc (.cells #[.int .i64 0, .int .i64 0] 26)) (hr.below hbA (Nat.le_refl _) (by simp)))
  have B0 := Blk.new w 26 #[.int .i64 0, .int .i64 0]
  obtain ⟨A, cap, rfl, _⟩ := hr
  have g : ((wrongF l).1 != 0) = true := by simpa using hf
  generalize wrongF l = q at *
  obtain ⟨q1, q2⟩ := q
  unfold faultV at hP ⊢
  simp only at g hP ⊢
  clear hf
  go_enter Tryd.func20, Tryd.ntmps20
  go_wp2_with (go_at_call 44; refine hP.out.mono ?_; rintro e w1 ⟨rfl, hb1⟩; have hz1 := hb1.size; simp at hz1; have B1 := B0.below hb1 (by simp); have s0 : w1.cell? ⟨w.heap.size, 0, none⟩ = some (.int .i64 0) := B1.cell 0; have s1 : w1.cell? ⟨w.heap.size, 1, none⟩ = some (.int .i64 0) := B1.cell 1; have t0 : w1.frozen? ⟨w.heap.size, 0, none⟩ = false := B1.frozen 0; have t1 : w1.frozen? ⟨w.heap.size, 1, none⟩ = false := B1.frozen 1)
  have hb2 : Below w.heap.size w w1 := hbA.trans (hb1.mono (by simp))
  have hlw : w.heap.size < w1.heap.size := by omega
  exact bodyPost_ret (v := .agg #[.int .i64 q1, .int .i64 q2]) (by simp [results, Tryd.results20, s0, s1, hlw, go_sem]) rfl ⟨rfl, ((hb2.alloc (by omega) _).setCell (by simp) _).setCell (by simp) _⟩

set_option maxRecDepth 100000 in
set_option maxHeartbeats 8000000 in
theorem RWrong_right (v : Value) (l : List Rule) (w : World) (hr : RulesV w w.heap.size v l) (hf : (wrongF l).1 = 0) : Calls Tryd.prog 20 #[v] w fun e w' => e = .returned (faultV (wrongR l)) ∧ Below w.heap.size w w' := by
  have hw : wrongR l = if (firstErr (dupErr l) 0 l).1 = 0 then if (firstErr (fun i _ => noneErr l i) 0 l).1 = 0 then firstErr (fun i _ => ringErr l i) 0 l else firstErr (fun i _ => noneErr l i) 0 l else firstErr (dupErr l) 0 l := if_pos hf
  have hbA : Below w.heap.size w (w.alloc (.cells #[.int .i64 0, .int .i64 0] 26)) := (Below.refl _ _).alloc (Nat.le_refl _) _
  have hP := Lib.hid (RfWrong_any v l (w.alloc (.cells #[.int .i64 0, .int .i64 0] 26)) (hr.below hbA (Nat.le_refl _) (by simp)))
  have B0 := Blk.new w 26 #[.int .i64 0, .int .i64 0]
  have hrr := Lib.hid hr
  obtain ⟨h40, hrx⟩ := form_right hf
  obtain ⟨A, cap, rfl, hlen, hc⟩ := hr
  generalize wrongF l = q at *
  obtain ⟨q1, q2⟩ := q
  unfold faultV at hP
  simp only at hf hP
  subst hf
  replace hc := Lib.hid hc
  replace hrx := Lib.hid hrx
  replace hw := Lib.hid hw
  go_enter Tryd.func20, Tryd.ntmps20
  go_wp2_with (go_at_call 44; refine hP.out.mono ?_; rintro e w1 ⟨rfl, hb1⟩; have hz1 := hb1.size; simp at hz1; have B1 := B0.below hb1 (by simp))
  have hb2 : Below w.heap.size w w1 := hbA.trans (hb1.mono (by simp))
  go_loopg [18] l.length (fun n k wr => ∃ j : Nat, j ≤ l.length ∧ n = l.length - j ∧ k = .int .i64 j ∧ Hid (firstErr (dupErr l) j (l.drop j) = firstErr (dupErr l) 0 l) ∧ Below w.heap.size w wr ∧ Blk wr w.heap.size 26 #[.int .i64 0, .int .i64 0])
  case atStart => exact ⟨0, by omega, rfl, rfl, Lib.hid rfl, hb2.alloc (by omega) _, B1.alloc _⟩
  case round =>
    obtain ⟨j, hj, hn, rfl, hf, hb, B2⟩ := hrel
    replace hn := Lib.hid hn
    have zb := hb.size
    have zr := B2.lt
    by_cases hlt : j < l.length
    · obtain ⟨r, hx⟩ : ∃ r, l[j]? = some r := ⟨_, List.getElem?_eq_getElem hlt⟩
      obtain ⟨b, o, rfl, hbl, k0, hnl, hE⟩ := hc.out j r hx
      have hst : firstErr (dupErr l) 0 l = if dupErr l j r = 0 then firstErr (dupErr l) (j + 1) (l.drop (j + 1)) else (dupErr l j r, (j : Int)) := hf.out.symm.trans (firstErr_at _ hx)
      rw [dup_place hx] at hst
      have zbl : b < wr.heap.size := by omega
      obtain ⟨v0, v1, v2, v3, hnl1, A1, cap1, v4, hkl1, hkv1⟩ := (hE.below hb (Nat.le_refl _) (Nat.le_refl _) hbl).out
      have d0 : wr.cell? ⟨b, o + j * 6, none⟩ = some (strV r.name) := (hb.cell (p := ⟨b, _, none⟩) hbl).trans k0
      have d1 : wr.cell? ⟨b, o + j * 6 + 1, none⟩ = some (.int .i64 r.expr.kind) := v0
      have d2 : wr.cell? ⟨b, o + j * 6 + 2, none⟩ = some (.int .i64 r.expr.a) := v1
      have d3 : wr.cell? ⟨b, o + j * 6 + 3, none⟩ = some (.int .i64 r.expr.b) := v2
      have d4 : wr.cell? ⟨b, o + j * 6 + 4, none⟩ = some (strV r.expr.name) := v3
      have d5 : wr.cell? ⟨b, o + j * 6 + 5, none⟩ = some (.slice A1 r.expr.kids.length cap1) := v4
      have B3 := B2.alloc (.cells #[strV r.name, .int .i64 r.expr.kind, .int .i64 r.expr.a, .int .i64 r.expr.b, strV r.expr.name, .slice A1 r.expr.kids.length cap1] 50)
      have hb3 : Below w.heap.size w (wr.alloc (.cells #[strV r.name, .int .i64 r.expr.kind, .int .i64 r.expr.a, .int .i64 r.expr.b, strV r.expr.name, .slice A1 r.expr.kids.length cap1] 50)) := hb.alloc zb _
      have hA := Lib.hid (At_any _ l r.name (wr.alloc (.cells #[strV r.name, .int .i64 r.expr.kind, .int .i64 r.expr.a, .int .i64 r.expr.b, strV r.expr.name, .slice A1 r.expr.kids.length cap1] 50)) (hrr.out.below hb3 (Nat.le_refl _) (by simp; omega)))
      clear v0 v1 v2 v3 v4 k0 hx hE hkv1
      by_cases hfi : findI l r.name = j
      · rw [if_pos hfi, if_pos rfl] at hst
        rw [hfi] at hA
        replace hst := Lib.hid hst
        clear hfi
        go_wp2_with (go_at_call 45; refine hA.out.mono ?_; rintro e w5 ⟨rfl, hb5⟩)
        have hz5 := hb5.size
        simp at hz5
        go_roundg (l.length - (j + 1))
        case measure => rw [hn.out]; omega
        case rel => exact ⟨j + 1, by omega, rfl, by go_num, Lib.hid hst.out.symm, hb3.trans (hb5.mono (by simp; omega)), B3.below hb5 (by simp; omega)⟩
      · rw [if_neg hfi, if_neg (by decide)] at hst
        have hw2 := Lib.hid (show wrongR l = (7, (j : Int)) by rw [hw.out, if_neg (by rw [hst]; simp), hst])
        have g : (findI l r.name != (j : Int)) = true := by simpa using hfi
        generalize findI l r.name = fi at *
        clear hfi hst
        go_wp2_with (go_at_call 45; refine hA.out.mono ?_; rintro e w5 ⟨rfl, hb5⟩; have hz5 := hb5.size; simp at hz5; have B5 := B3.below hb5 (by simp; omega); have s0 : w5.cell? ⟨w.heap.size, 0, none⟩ = some (.int .i64 0) := B5.cell 0; have s1 : w5.cell? ⟨w.heap.size, 1, none⟩ = some (.int .i64 0) := B5.cell 1; have t0 : w5.frozen? ⟨w.heap.size, 0, none⟩ = false := B5.frozen 0; have t1 : w5.frozen? ⟨w.heap.size, 1, none⟩ = false := B5.frozen 1)
        have hb6 : Below w.heap.size w w5 := hb3.trans (hb5.mono (by simp; omega))
        have E := (B5.set 0 (.int .i64 7)).set 1 (.int .i64 j)
        have e0 := (E.cell 0).trans (show _ = some (Value.int .i64 7) from rfl)
        have e1 := (E.cell 1).trans (show _ = some (Value.int .i64 j) from rfl)
        exact bodyPost_ret (v := faultV (7, (j : Nat))) (by simp [results, Tryd.results20, e0, e1, go_sem, faultV]) rfl ⟨by rw [hw2.out], (hb6.setCell (by simp) _).setCell (by simp) _⟩
    · obtain rfl : j = l.length := by omega
      have hz0 : (firstErr (dupErr l) 0 l).1 = 0 := by rw [← hf.out, List.drop_length]; rfl
      have hw3 : wrongR l = if (firstErr (fun i _ => noneErr l i) 0 l).1 = 0 then firstErr (fun i _ => ringErr l i) 0 l else firstErr (fun i _ => noneErr l i) 0 l := by rw [hw.out, if_pos hz0]
      replace hw3 := Lib.hid hw3
      clear hz0 hf hn hw zb zr
      obtain ⟨w2, hw2⟩ : ∃ w2 : World, w2 = wr := ⟨_, rfl⟩
      subst hw2
      go_wp2
      go_loopg [34] l.length (fun n k wr => ∃ j : Nat, j ≤ l.length ∧ n = l.length - j ∧ k = .int .i64 j ∧ Hid (firstErr (fun i _ => noneErr l i) j (l.drop j) = firstErr (fun i _ => noneErr l i) 0 l) ∧ Below w.heap.size w wr ∧ Blk wr w.heap.size 26 #[.int .i64 0, .int .i64 0])
      case atStart => exact ⟨0, by omega, rfl, rfl, Lib.hid rfl, hb, B2⟩
      case round =>
        clear hb B2
        obtain ⟨j, hj, hn, rfl, hf, hb, B2⟩ := hrel
        replace hn := Lib.hid hn
        have zb := hb.size
        have zr := B2.lt
        by_cases hlt : j < l.length
        · obtain ⟨r, hx⟩ : ∃ r, l[j]? = some r := ⟨_, List.getElem?_eq_getElem hlt⟩
          obtain ⟨b, o, rfl, hbl, k0, hnl, hE⟩ := hc.out j r hx
          have hst : firstErr (fun i _ => noneErr l i) 0 l = if noneErr l j = 0 then firstErr (fun i _ => noneErr l i) (j + 1) (l.drop (j + 1)) else (noneErr l j, (j : Int)) := hf.out.symm.trans (firstErr_at _ hx)
          rw [noneErr_at hx] at hst
          have zbl : b < wr.heap.size := by omega
          obtain ⟨v0, v1, v2, v3, hnl1, A1, cap1, v4, hkl1, hkv1⟩ := (hE.below hb (Nat.le_refl _) (Nat.le_refl _) hbl).out
          have d0 : wr.cell? ⟨b, o + j * 6, none⟩ = some (strV r.name) := (hb.cell (p := ⟨b, _, none⟩) hbl).trans k0
          have d1 : wr.cell? ⟨b, o + j * 6 + 1, none⟩ = some (.int .i64 r.expr.kind) := v0
          have d2 : wr.cell? ⟨b, o + j * 6 + 2, none⟩ = some (.int .i64 r.expr.a) := v1
          have d3 : wr.cell? ⟨b, o + j * 6 + 3, none⟩ = some (.int .i64 r.expr.b) := v2
          have d4 : wr.cell? ⟨b, o + j * 6 + 4, none⟩ = some (strV r.expr.name) := v3
          have d5 : wr.cell? ⟨b, o + j * 6 + 5, none⟩ = some (.slice A1 r.expr.kids.length cap1) := v4
          have B3 := B2.alloc (.cells #[strV r.name, .int .i64 r.expr.kind, .int .i64 r.expr.a, .int .i64 r.expr.b, strV r.expr.name, .slice A1 r.expr.kids.length cap1] 50)
          have hb3 : Below w.heap.size w (wr.alloc (.cells #[strV r.name, .int .i64 r.expr.kind, .int .i64 r.expr.a, .int .i64 r.expr.b, strV r.expr.name, .slice A1 r.expr.kids.length cap1] 50)) := hb.alloc zb _
          have hwr3 : Below w.heap.size wr (wr.alloc (.cells #[strV r.name, .int .i64 r.expr.kind, .int .i64 r.expr.a, .int .i64 r.expr.b, strV r.expr.name, .slice A1 r.expr.kids.length cap1] 50)) := (Below.refl _ _).alloc zb _
          have hA := Lib.hid (Unknown_any l (nodesE r.expr) r.expr (.agg #[.int .i64 r.expr.kind, .int .i64 r.expr.a, .int .i64 r.expr.b, strV r.expr.name, .slice A1 r.expr.kids.length cap1]) _ (wr.alloc (.cells #[strV r.name, .int .i64 r.expr.kind, .int .i64 r.expr.a, .int .i64 r.expr.b, strV r.expr.name, .slice A1 r.expr.kids.length cap1] 50)) w.heap.size (Nat.le_refl _) ⟨A1, cap1, rfl, hnl1, hkl1, hkv1.below hwr3 (Nat.le_refl _) (Nat.le_refl _)⟩ (by simp; omega) (hrr.out.below hb3 (Nat.le_refl _) (Nat.le_refl _)))
          clear v0 v1 v2 v3 v4 k0 hx hE hkv1
          cases hu : unknownE l r.expr with
          | false =>
            rw [hu, if_pos (show (if (false = true) then (6 : Int) else 0) = 0 from rfl)] at hst
            rw [hu] at hA
            replace hst := Lib.hid hst
            clear hu
            go_wp2_with (go_at_call 46; refine hA.out.mono ?_; rintro e w5 ⟨rfl, hb5⟩)
            have hz5 := hb5.size
            simp at hz5
            go_roundg (l.length - (j + 1))
            case measure => rw [hn.out]; omega
            case rel => exact ⟨j + 1, by omega, rfl, by go_num, Lib.hid hst.out.symm, hb3.trans (hb5.mono (by simp; omega)), B3.below hb5 (by simp; omega)⟩
          | true =>
            rw [hu, if_neg (show ¬ (if (true = true) then (6 : Int) else 0) = 0 by decide), if_pos rfl] at hst
            rw [hu] at hA
            have hw2 := Lib.hid (show wrongR l = (6, (j : Int)) by rw [hw3.out, if_neg (by rw [hst]; simp), hst])
            clear hu hst
            go_wp2_with (go_at_call 46; refine hA.out.mono ?_; rintro e w5 ⟨rfl, hb5⟩; have hz5 := hb5.size; simp at hz5; have B5 := B3.below hb5 (by simp; omega); have s0 : w5.cell? ⟨w.heap.size, 0, none⟩ = some (.int .i64 0) := B5.cell 0; have s1 : w5.cell? ⟨w.heap.size, 1, none⟩ = some (.int .i64 0) := B5.cell 1; have t0 : w5.frozen? ⟨w.heap.size, 0, none⟩ = false := B5.frozen 0; have t1 : w5.frozen? ⟨w.heap.size, 1, none⟩ = false := B5.frozen 1)
            have hb6 : Below w.heap.size w w5 := hb3.trans (hb5.mono (by simp; omega))
            have E := (B5.set 0 (.int .i64 6)).set 1 (.int .i64 j)
            have e0 := (E.cell 0).trans (show _ = some (Value.int .i64 6) from rfl)
            have e1 := (E.cell 1).trans (show _ = some (Value.int .i64 j) from rfl)
            exact bodyPost_ret (v := faultV (6, (j : Nat))) (by simp [results, Tryd.results20, e0, e1, go_sem, faultV]) rfl ⟨by rw [hw2.out], (hb6.setCell (by simp) _).setCell (by simp) _⟩
        · obtain rfl : j = l.length := by omega
          have hz0 : (firstErr (fun i _ => noneErr l i) 0 l).1 = 0 := by rw [← hf.out, List.drop_length]; rfl
          have hw4 : wrongR l = firstErr (fun i _ => ringErr l i) 0 l := by rw [hw3.out, if_pos hz0]
          replace hw4 := Lib.hid hw4
          clear hz0 hf hn hw3
          have hR := Lib.hid (Reach_any _ l wr (hrr.out.below hb (Nat.le_refl _) zb) h40)
          obtain ⟨w2, hw2⟩ : ∃ w2 : World, w2 = wr := ⟨_, rfl⟩
          subst hw2
          go_wp2_with (go_at_call 21; refine hR.out.mono ?_; rintro e w5 ⟨g, G, rfl, hg, hT, hb5⟩; have hz5 := hb5.size)
          replace hT := Lib.hid hT
          have hb6 : Below w.heap.size w w5 := hb.trans (hb5.mono zb)
          have B6 := B2.below hb5 zr
          go_loopg [49] l.length (fun n k wr => ∃ j : Nat, j ≤ l.length ∧ n = l.length - j ∧ k = .int .i64 j ∧ Hid (firstErr (fun i _ => ringErr l i) j (l.drop j) = firstErr (fun i _ => ringErr l i) 0 l) ∧ wr = w5)
          case atStart => exact ⟨0, by omega, rfl, rfl, Lib.hid rfl, rfl⟩
          case round =>
            obtain ⟨j, hj, hn, rfl, hf, rfl⟩ := hrel
            replace hn := Lib.hid hn
            have s0 : wr.cell? ⟨w.heap.size, 0, none⟩ = some (.int .i64 0) := B6.cell 0
            have s1 : wr.cell? ⟨w.heap.size, 1, none⟩ = some (.int .i64 0) := B6.cell 1
            have t0 : wr.frozen? ⟨w.heap.size, 0, none⟩ = false := B6.frozen 0
            have t1 : wr.frozen? ⟨w.heap.size, 1, none⟩ = false := B6.frozen 1
            by_cases hlt : j < l.length
            · obtain ⟨r, hx⟩ : ∃ r, l[j]? = some r := ⟨_, List.getElem?_eq_getElem hlt⟩
              have hst : firstErr (fun i _ => ringErr l i) 0 l = if ringErr l j = 0 then firstErr (fun i _ => ringErr l i) (j + 1) (l.drop (j + 1)) else (ringErr l j, (j : Int)) := hf.out.symm.trans (firstErr_at _ hx)
              obtain ⟨r0, _⟩ := hT.out.row hlt
              obtain ⟨r1, _⟩ := hT.out.at hlt hlt
              have hre : ringErr l j = if Wal.wal (stepB (directR l)) l.length j j = true then 9 else 0 := rfl
              rw [hre] at hst
              clear hre hx
              generalize G j = gj at *
              cases hu : Wal.wal (stepB (directR l)) l.length j j with
              | false =>
                rw [hu, if_pos (show (if (false = true) then (9 : Int) else 0) = 0 from rfl)] at hst
                rw [hu] at r1
                replace hst := Lib.hid hst
                clear hu
                go_wp2
                go_roundg (l.length - (j + 1))
                case measure => rw [hn.out]; omega
                case rel => exact ⟨j + 1, by omega, rfl, by go_num, Lib.hid hst.out.symm, rfl⟩
              | true =>
                rw [hu, if_neg (show ¬ (if (true = true) then (9 : Int) else 0) = 0 by decide), if_pos rfl] at hst
                rw [hu] at r1
                have hw2 := Lib.hid (show wrongR l = (9, (j : Int)) by rw [hw4.out, hst])
                clear hu hst
                go_wp2
                have E := (B6.set 0 (.int .i64 9)).set 1 (.int .i64 j)
                have e0 := (E.cell 0).trans (show _ = some (Value.int .i64 9) from rfl)
                have e1 := (E.cell 1).trans (show _ = some (Value.int .i64 j) from rfl)
                exact bodyPost_ret (v := faultV (9, (j : Nat))) (by simp [results, Tryd.results20, e0, e1, go_sem, faultV]) rfl ⟨by rw [hw2.out], (hb6.setCell (by simp) _).setCell (by simp) _⟩
            · obtain rfl : j = l.length := by omega
              have hw2 := Lib.hid (show wrongR l = (0, 0) by rw [hw4.out, ← hf.out, List.drop_length]; rfl)
              clear hn hf
              go_wp2
              have E := (B6.set 0 (.int .i64 0)).set 1 (.int .i64 0)
              have e0 := (E.cell 0).trans (show _ = some (Value.int .i64 0) from rfl)
              have e1 := (E.cell 1).trans (show _ = some (Value.int .i64 0) from rfl)
              exact bodyPost_ret (v := faultV (0, 0)) (by simp [results, Tryd.results20, e0, e1, go_sem, faultV]) rfl ⟨by rw [hw2.out], (hb6.setCell (by simp) _).setCell (by simp) _⟩

theorem RWrong_any (v : Value) (l : List Rule) (w : World) (hr : RulesV w w.heap.size v l) : Calls Tryd.prog 20 #[v] w fun e w' => e = .returned (faultV (wrongR l)) ∧ Below w.heap.size w w' := by
  by_cases hf : (wrongF l).1 = 0
  · exact RWrong_right v l w hr hf
  · exact RWrong_form v l w hr hf


end Ru
end Go.Proofs.YtbadplbdgpbdaaaDoor

namespace Go.Proofs.YtbadplbdgpbdaaaDoor
open Go.RowKit Go.Maps Go.ChangeShapes
namespace Ru
open Sl (IntsV Reads)

/-- a set of ints, as a map of truths keeps it -/
def setF (S : Int → Bool) : Lit → Option Value
  | .int .i64 x => if S x = true then some (.bool true) else none
  | _ => none
theorem put_setF (S : Int → Bool) (i : Int) : Mp.put (setF S) (.int .i64 i) (.bool true) = setF (putS S i) := by
  funext x
  unfold Mp.put
  cases e : x.sameKey (.int .i64 i) with
  | true =>
    have := WideAt.sameKey_eq e
    subst this
    simp [setF, putS_same]
  | false =>
    simp only [Bool.false_eq_true, if_false]
    unfold setF
    split
    · rename_i y
      have hy : ¬ y = i := fun e' => by subst e'; rw [WideAt.sameKey_self (show WideAt.IsKeyLit (.int .i64 y) from trivial)] at e; cases e
      rw [putS_other hy]
    · rfl
theorem none_setF : (fun _ => none : Lit → Option Value) = setF (fun _ => false) := by
  funext x
  unfold setF
  split <;> simp
theorem zero_bool (w : World) : (zeroValue 4).run Tryd.prog w = .ok (.bool false) w := by kernel_rfl

section
variable {w : World} {mb n c : Nat} {S : Int → Bool}
theorem look_set (hM : Mp.Is w Tryd.prog 3 mb n c (setF S)) {i : Int} (h : -9223372036854775808 ≤ i) (h2 : i ≤ 9223372036854775807) :
    (Instr.lookup 96 (.map (some mb)) (.int .i64 i) false).run Tryd.prog w = .ok (.bool (S i)) w := by
  have := hM.look (int_keyed Tryd.underlying3) Tryd.underlying96 (zero_bool w) (keyOf_int_mk Tryd.underlying3 (wf_int h h2))
  rw [this]
  have e : setF S (.int .i64 i) = if S i = true then some (.bool true) else none := rfl
  rw [e]
  cases S i <;> rfl
theorem store_set (hM : Mp.Is w Tryd.prog 3 mb n c (setF S)) {i : Int} (hn : n < 1000000) (h1 : -9223372036854775808 ≤ i) (h2 : i ≤ 9223372036854775807) :
    ∃ w' c', (Instr.mapUpdate 96 (.map (some mb)) (.int .i64 i) (.bool true)).run Tryd.prog w = .ok () w' ∧ Mp.Is w' Tryd.prog 3 mb (n + 1) c' (setF (putS S i)) ∧ w.grownBy w' (some mb) := by
  obtain ⟨w', hr, hI, hg⟩ := hM.store (val := .bool true) (int_keyed Tryd.underlying3) Tryd.underlying96 (by simp only [maxLen]; omega) (keyOf_int_mk Tryd.underlying3 (wf_int h1 h2))
  rw [put_setF] at hI
  exact ⟨w', _, hr, hI, hg⟩
theorem Is_map (hM : Mp.Is w Tryd.prog 3 mb n c (setF S)) : ∃ es k, w.heap[mb]? = some (.map es k) := by
  obtain ⟨D, ⟨es, clock, h1, _⟩, _⟩ := hM
  exact ⟨es, clock, h1⟩
end

/-- a row of sets of one's own; its first m are made -/
def MapsB (w : World) (g n m : Nat) (G K : Nat → Nat) (S : Nat → Int → Bool) : Prop :=
  (∀ i, i < m → g < G i) ∧ (∀ i j, i < m → j < m → G i = G j → i = j) ∧ m ≤ n ∧
  (∃ cs, Blk w g 96 cs ∧ cs.size = n ∧ ∀ i, i < n → cs[i]? = some (if i < m then .map (some (G i)) else .map none)) ∧
  ∀ i, i < m → ∃ c, Mp.Is w Tryd.prog 3 (G i) (K i) c (setF (S i))

section
variable {w w' : World} {g n m : Nat} {G K : Nat → Nat} {S : Nat → Int → Bool}
theorem MapsB.row (h : MapsB w g n m G K S) {i : Nat} (hi : i < m) : w.cell? ⟨g, i, none⟩ = some (.map (some (G i))) ∧ w.frozen? ⟨g, i, none⟩ = false := by
  obtain ⟨_, _, hm, ⟨cs, hB, _, hc⟩, _⟩ := h
  refine ⟨?_, hB.frozen i⟩
  rw [hB.cell, hc i (by omega), if_pos hi]
theorem MapsB.rest (h : MapsB w g n m G K S) {i : Nat} (hi : m ≤ i) (hn : i < n) : w.cell? ⟨g, i, none⟩ = some (.map none) ∧ w.frozen? ⟨g, i, none⟩ = false := by
  obtain ⟨_, _, hm, ⟨cs, hB, _, hc⟩, _⟩ := h
  refine ⟨?_, hB.frozen i⟩
  rw [hB.cell, hc i hn, if_neg (by omega)]
theorem MapsB.look (h : MapsB w g n m G K S) {i : Nat} (hi : i < m) : ∃ c, Mp.Is w Tryd.prog 3 (G i) (K i) c (setF (S i)) := h.2.2.2.2 i hi
theorem MapsB.lt (h : MapsB w g n m G K S) : g < w.heap.size ∧ ∀ i, i < m → g < G i ∧ G i < w.heap.size := by
  obtain ⟨h1, _, _, ⟨cs, hB, _, _⟩, hr⟩ := h
  exact ⟨hB.lt, fun i hi => ⟨h1 i hi, by obtain ⟨c, hb⟩ := hr i hi; exact hb.lt⟩⟩
theorem MapsB.start (w : World) (n : Nat) (G K : Nat → Nat) (S : Nat → Int → Bool) : MapsB (w.alloc (.cells (madeCells #[.map none] n) 96)) w.heap.size n 0 G K S := by
  refine ⟨fun i hi => by omega, fun i j hi => by omega, Nat.zero_le _, ⟨_, Blk.new _ _ _, size_madeCells _ _, fun i hi => ?_⟩, fun i hi => by omega⟩
  rw [if_neg (by omega), ← Array.getElem?_toList, toList_madeCells_one, List.getElem?_replicate, if_pos hi]
theorem MapsB.congr (h : MapsB w g n m G K S) {K' : Nat → Nat} {S' : Nat → Int → Bool} (e : ∀ i, i < m → K i = K' i ∧ S i = S' i) : MapsB w g n m G K' S' := by
  obtain ⟨h1, h2, h3, h4, hr⟩ := h
  exact ⟨h1, h2, h3, h4, fun i hi => by obtain ⟨c, hc⟩ := hr i hi; rw [← (e i hi).1, ← (e i hi).2]; exact ⟨c, hc⟩⟩
theorem MapsB.heap (h : MapsB w g n m G K S) {B : Nat} (hb : Below B w w') (hB : w.heap.size ≤ B) : MapsB w' g n m G K S := by
  have hl := h.lt
  obtain ⟨h1, h2, h3, ⟨cs, hC, hs, hc⟩, hr⟩ := h
  refine ⟨h1, h2, h3, ⟨cs, hC.below hb (by omega), hs, hc⟩, fun i hi => ?_⟩
  obtain ⟨c, hI⟩ := hr i hi
  exact ⟨c, hI.below hb (by have := (hl.2 i hi).2; omega)⟩
/-- a set is made -/
theorem MapsB.more (h : MapsB w g n m G K S) (hm : m < n) : MapsB ((w.setCell ⟨g, m, none⟩ (.map (some w.heap.size))).alloc (.map #[] 0)) g n (m + 1) (fun i => if i = m then w.heap.size else G i) (fun x => if x = m then 0 else K x) (fun x => if x = m then (fun _ => false) else S x) := by
  have hl := h.lt
  obtain ⟨h1, h2, h3, ⟨cs, hB, hs, hc⟩, hr⟩ := h
  refine ⟨fun i hi => ?_, fun i j hi hj e => ?_, hm, ⟨_, (hB.set m _).alloc _, by simpa using hs, fun i hi => ?_⟩, fun x hx => ?_⟩
  · dsimp only
    split
    · exact hl.1
    · exact h1 i (by omega)
  · dsimp only at e
    split at e <;> split at e
    · omega
    · have := (hl.2 j (by omega)).2; omega
    · have := (hl.2 i (by omega)).2; omega
    · exact h2 i j (by omega) (by omega) e
  · rw [Array.getElem?_setIfInBounds]
    dsimp only
    by_cases e : m = i
    · subst e
      rw [if_pos rfl, if_pos (by omega), if_pos (by omega), if_pos rfl]
    · rw [if_neg e, hc i hi]
      by_cases e2 : i < m
      · rw [if_pos e2, if_pos (by omega), if_neg (by omega)]
      · rw [if_neg e2, if_neg (by omega)]
  · dsimp only
    by_cases e : x = m
    · subst e
      rw [if_pos rfl, if_pos rfl, if_pos rfl, ← none_setF]
      have := Mp.Is.made (w.setCell ⟨g, x, none⟩ (.map (some w.heap.size))) Tryd.prog 3
      rw [World.size_setCell] at this
      exact ⟨0, this⟩
    · rw [if_neg e, if_neg e, if_neg e]
      obtain ⟨c, hI⟩ := hr x (by omega)
      exact ⟨c, (hI.setCell (a := ⟨g, m, none⟩) (by have := h1 x (by omega); show G x ≠ g; omega) _).alloc _⟩
/-- a set turns -/
theorem MapsB.put (h : MapsB w g n m G K S) {j : Nat} (hj : j < m) {T : Int → Bool} {k c : Nat} (hI : Mp.Is w' Tryd.prog 3 (G j) k c (setF T)) (hg : w.grownBy w' (some (G j))) :
    MapsB w' g n m G (fun x => if x = j then k else K x) (fun x => if x = j then T else S x) := by
  have hl := h.lt
  obtain ⟨h1, h2, h3, ⟨cs, hB, hs, hc⟩, hr⟩ := h
  refine ⟨h1, h2, h3, ⟨cs, blk_row hB hg (by have := h1 j hj; omega), hs, hc⟩, fun x hx => ?_⟩
  dsimp only
  by_cases e : x = j
  · subst e
    rw [if_pos rfl, if_pos rfl]
    exact ⟨c, hI⟩
  · rw [if_neg e, if_neg e]
    obtain ⟨c', hI'⟩ := hr x hx
    exact ⟨c', hI'.kept hg (fun e2 => e (h2 x j hx hj (by injection e2)))⟩
/-- a row of ints is appended to -/
theorem MapsB.row_grown (h : MapsB w g n m G K S) {base : Nat} {v : Value} {L : List Int} (hT : OffI w base v L) (hg : w.grownBy w' v.ownBlock) : MapsB w' g n m G K S := by
  obtain ⟨h1, h2, h3, ⟨cs, hB, hs, hc⟩, hr⟩ := h
  have hne : ∀ b, v.ownBlock = some b → ∃ cur, w.heap[b]? = some (.cells cur 3 (0, 0)) := fun b hb => by
    rcases hT with ⟨rfl, _⟩ | ⟨g', off, cap, cur, rfl, _, h2, _⟩
    · cases hb
    · cases hb; exact ⟨cur, h2⟩
  refine ⟨h1, h2, h3, ⟨cs, (hg.block g hB.lt (fun e => ?_)).trans hB, hs, hc⟩, fun i hi => ?_⟩
  · obtain ⟨cur, e2⟩ := hne g e.symm
    have e3 : w.heap[g]? = some (.cells cs 96 (0, 0)) := hB
    rw [e3] at e2
    simp at e2
  · obtain ⟨c, hI⟩ := hr i hi
    refine ⟨c, hI.kept hg (fun e => ?_)⟩
    obtain ⟨cur, e2⟩ := hne _ e.symm
    obtain ⟨es, k, e3⟩ := Is_map hI
    rw [e3] at e2
    cases e2
/-- .. and stays where a set turns -/
theorem OffI.set_grown {base : Nat} {v : Value} {L : List Int} (hT : OffI w base v L) {mb k c : Nat} {T : Int → Bool} (hI : Mp.Is w Tryd.prog 3 mb k c (setF T)) (hg : w.grownBy w' (some mb)) : OffI w' base v L := by
  refine hT.grown hg fun b hb e => ?_
  cases e
  obtain ⟨es, k, e3⟩ := Is_map hI
  rcases hT with ⟨rfl, _⟩ | ⟨g', off, cap, cur, rfl, _, h2, _⟩
  · cases hb
  · cases hb
    rw [e3] at h2
    cases h2
end

theorem info_set7 : (Tryd.prog.info? 96).map (fun i => (i.zero, i.size, i.bytes)) = some (some (.map none), 1, 8) := by kernel_rfl
theorem info_parts8 {t : TypeId} {z : Value} {n b : Nat} (h : (Tryd.prog.info? t).map (fun i => (i.zero, i.size, i.bytes)) = some (some z, n, b)) : ∃ i, Tryd.prog.info? t = some i ∧ i.zero = some z ∧ i.size = n ∧ i.bytes = b := by
  cases e : Tryd.prog.info? t with
  | none => rw [e] at h; simp at h
  | some i => rw [e] at h; simp at h; exact ⟨i, rfl, h.1, h.2.1, h.2.2⟩
theorem own_reads {w : World} {base c : Nat} {v : Value} {l : List Int} (h : w.ownsRow base 3 1 v l.length (l.map (Value.int .i64))) (hB : w.heap.size ≤ c) : IntsV w c v l := by
  have hc := own_max h
  rcases h.2 with ⟨rfl, h0⟩ | ⟨g, cap, cur, rfl, _, hh, hcap, _, _, ht⟩
  · exact ⟨none, 0, by rw [h0], hc, fun i x hx => by have := (List.getElem?_eq_some_iff.1 hx).1; omega⟩
  · refine ⟨_, cap, rfl, hc, fun i x hx => ⟨g, 0, rfl, ?_, ?_⟩⟩
    · have := (Array.getElem?_eq_some_iff.1 hh).1; omega
    · have := h.cells (g := g) rfl i (.int .i64 x) (by rw [List.getElem?_map, hx]; rfl)
      rw [Addr.add_lit] at this
      exact this
theorem ints2_below {w w' : World} {B B' base : Nat} {v : Value} {l : List (List Int)} (h : Ints2C w B base v l) (hb : Below w.heap.size w w') (hB : B ≤ w.heap.size) (hB2 : B ≤ B') : Ints2C w' B' base v l :=
  Reads.mono h hB2 fun b o i x hlt _ ⟨u, h1, h2⟩ => ⟨u, (hb.cell (p := ⟨b, _, none⟩) (by show b < _; omega)).trans h1, own_keep h2 hb (Nat.le_refl _)⟩
theorem cell_at {w : World} {base : Nat} {v : Value} {l : List Int} (h : w.ownsRow base 3 1 v l.length (l.map (Value.int .i64))) : v = .slice none 0 0 ∧ l = [] ∨ ∃ g cap, v = .slice (some ⟨g, 0, none⟩) l.length cap ∧ g < w.heap.size ∧ ∀ j u, (intV l)[j]? = some u → w.cell? ⟨g, j, none⟩ = some u := by
  rcases h.2 with ⟨rfl, h0⟩ | ⟨g, cap, cur, rfl, _, hh, _⟩
  · exact .inl ⟨rfl, List.length_eq_zero_iff.1 h0⟩
  · refine .inr ⟨g, cap, rfl, (Array.getElem?_eq_some_iff.1 hh).1, fun j u hu => ?_⟩
    have := h.cells (g := g) rfl j u hu
    rw [Addr.add_lit, Nat.zero_add] at this
    exact this
theorem OffI.tail1 {w : World} {base g off cap : Nat} {L : List Int} (h : OffI w base (.slice (some ⟨g, off + 1, none⟩) L.length (cap - 1)) L) (hc : L.length + 1 ≤ cap) :
    (cap = 1 ∧ L = [] ∧ OffI w base (.slice (some ⟨g, off, none⟩) 0 0) []) ∨ (cap ≠ 1 ∧ OffI w base (.slice (some ⟨g, off + 1, none⟩) L.length (cap - 1)) L) := by
  by_cases e : cap = 1
  · have hn : L = [] := List.eq_nil_of_length_eq_zero (by omega)
    subst hn
    rcases h with ⟨h, _⟩ | ⟨g', off', cap', cur, h, h1, h2, h3, h4, h5, h6⟩
    · cases h
    · cases h
      exact .inl ⟨e, rfl, .inr ⟨g, off, 0, cur, rfl, h1, h2, by simp, by omega, by omega, fun j u hu => by simp at hu⟩⟩
  · exact .inr ⟨e, h⟩

theorem leftS_le {d : Nat → List Int} (S : Int → Bool) : ∀ {n : Nat}, (∀ i, i < n → (d i).length ≤ 600) → leftS d S n ≤ 600 * n
  | 0, _ => by rw [leftS]; omega
  | n + 1, h => by
    have := leftS_le S (n := n) (fun i hi => h i (by omega))
    have := h n (by omega)
    rw [leftS]
    split <;> omega
theorem if_if {α : Type} (i : Nat) (a b : α) (f : Nat → α) : (fun x => if x = i then a else (fun x => if x = i then b else f x) x) = fun x => if x = i then a else f x := by
  funext x
  by_cases e : x = i
  · rw [if_pos e, if_pos e]
  · rw [if_neg e, if_neg e]; show (if x = i then b else f x) = _; rw [if_neg e]
theorem off_below {B base : Nat} {a w w' : World} {v : Value} {L : List Int} (hb : Below B a w) (hT : OffI w base v L) (hg : w.grownBy w' v.ownBlock) (hB : B ≤ base) (hs : B ≤ w.heap.size) : Below B a w' :=
  hb.trans ⟨hg.os, hg.tape, hg.output, hg.size, fun k hk => hg.block k (by omega) (fun e => by have := (hT.lt e.symm).1; omega)⟩

set_option maxRecDepth 100000 in
set_option maxHeartbeats 8000000 in
theorem closed_any (dv : Value) (d : Nat → List Int) (n : Nat) (w : World) (hd : Ints2C w w.heap.size 0 dv ((List.range n).map d)) (h40 : n ≤ 40) (hlen : ∀ i, i < n → (d i).length ≤ 600) (hin : ∀ i, i < n → ∀ y ∈ d i, 0 ≤ y ∧ y < n) :
    Calls Tryd.prog 38 #[dv] w fun e w' => ∃ (g : Nat) (G K : Nat → Nat) (S : Nat → Int → Bool), e = .returned (.slice (some ⟨g, 0, none⟩) n n) ∧ w.heap.size ≤ g ∧ MapsB w' g n n G K S ∧ (∀ i, i < n → Clo d n i (S i) []) ∧ Below w.heap.size w w' := by
  have hdd := Lib.hid hd
  obtain ⟨A, cap, rfl, hl63, hc⟩ := hd
  have hlL : ((List.range n).map d).length = n := by simp
  have hat : ∀ i, i < n → ((List.range n).map d)[i]? = some (d i) := fun i hi => by simp [hi]
  rw [hlL] at hl63 hdd ⊢
  obtain ⟨i5, hi5, hz5, hs5, hy5⟩ := info_parts8 info_set7
  replace hi5 := Lib.hid hi5
  replace hz5 := Lib.hid hz5
  replace hs5 := Lib.hid hs5
  have hl5 := Lib.hid (show i5.bytes * n ≤ 281474976710656 by rw [hy5]; omega)
  replace hl63 := Lib.hid hl63
  clear hy5
  have hrow := Lib.hid (fun i (hi : i < n) => hc i (d i) (hat i hi))
  replace hlen := Lib.hid hlen
  replace hin := Lib.hid hin
  clear hc hat hlL
  go_enter Tryd.func38, Tryd.ntmps38
  go_wp2_with (at_make; refine wpList_make_row _ rfl _ _ 94 rfl 96 i5 _ Tryd.underlying94 hi5.out hz5.out hs5.out rfl .i64 .i64 n rfl rfl hl5.out hl63.out ?_)
  go_loopg [12] n (fun q k wr => ∃ (i : Nat) (G K : Nat → Nat) (S : Nat → Int → Bool), i ≤ n ∧ q = n - i ∧ k = .int .i64 i ∧ Hid (MapsB wr w.heap.size n i G K S) ∧ Hid (∀ j, j < i → Clo d n j (S j) []) ∧ Below w.heap.size w wr)
  case atStart => exact ⟨0, fun _ => 0, fun _ => 0, fun _ _ => false, by omega, rfl, rfl, Lib.hid (MapsB.start w n _ _ _), Lib.hid (fun j hj => by omega), (by repeat (first | exact Below.refl _ _ | assumption | refine Below.n _ ?_ (by first | omega | (simp; done) | (simp; omega)) | refine Below.alloc ?_ (by first | omega | (simp; done) | (simp; omega)) _ | refine Below.setCell ?_ (by first | omega | (simp; done) | (simp; omega)) _ | refine Below.drew ?_ | refine Below.setRow ?_ (by first | omega | (simp; done) | (simp; omega)) _ | refine Below.drewN ?_ _))⟩
  case round =>
    obtain ⟨i, G, K, S, hi, hn, rfl, hT, hC, hbw⟩ := hrel
    replace hn := Lib.hid hn
    by_cases hlt : i < n
    · obtain ⟨b, o, rfl, hbl, u, k0, hu⟩ := hrow.out i hlt
      obtain ⟨A1, cap1, rfl⟩ := own_slice hu
      obtain ⟨d1, d2⟩ := hT.out.rest (Nat.le_refl _) hlt
      have z := hbw.size
      have zg := hT.out.lt.1
      have hb5 : Below w.heap.size w ((wr.setCell ⟨w.heap.size, i, none⟩ (.map (some wr.heap.size))).alloc (.map #[] 0)) := (hbw.setCell (Nat.le_refl _) _).alloc (by simp; omega) _
      have c1 : ((wr.setCell ⟨w.heap.size, i, none⟩ (.map (some wr.heap.size))).alloc (.map #[] 0)).cell? ⟨b, o + i, none⟩ = some (.slice A1 (d i).length cap1) := (hb5.cell (p := ⟨b, _, none⟩) hbl).trans k0
      have hmore := Lib.hid (hT.out.more hlt)
      have hcl := Lib.hid (Clone_ints _ (d i) ((wr.setCell ⟨w.heap.size, i, none⟩ (.map (some wr.heap.size))).alloc (.map #[] 0)) (own_reads (own_keep hu hb5 (Nat.le_refl _)) (Nat.le_refl _)) (by have := hlen.out i hlt; omega))
      have hmm := @run_makeMap Tryd.prog
      clear hu k0 hT
      go_wp2_with (go_at_call 79; refine hcl.out.mono ?_; rintro e w1 ⟨v1, rfl, hb1, ho1⟩)
      have z1 := hb1.size
      rw [World.size_alloc, World.size_setCell] at z1
      have hO1 := Lib.hid ((OffI.of_own ho1).mono (b' := w.heap.size) (by rw [World.size_alloc, World.size_setCell]; omega))
      obtain ⟨A2, cap2, rfl⟩ := hO1.out.slice
      have hT1 := Lib.hid (hmore.out.heap hb1 (Nat.le_refl _))
      have hbw1 : Below w.heap.size w w1 := hb5.trans (hb1.mono (by rw [World.size_alloc, World.size_setCell]; omega))
      obtain ⟨G2, hG2⟩ : ∃ G2 : Nat → Nat, G2 = fun x => if x = i then wr.heap.size else G x := ⟨_, rfl⟩
      rw [← hG2] at hT1
      have hGi : G2 i = wr.heap.size := by rw [hG2]; exact if_pos rfl
      rw [← hGi]
      have hl0 := leftS_le (fun _ => false) hlen.out
      have hM0 := hlen.out i hlt
      have hC0 := Lib.hid (Clo.start (d := d) (n := n) (i := i) (hin.out i hlt))
      obtain ⟨M0, hM⟩ : ∃ M0, M0 = (d i).length + leftS d (fun _ => false) n := ⟨_, rfl⟩
      have hM8 : M0 ≤ 30000 := by omega
      clear hG2 hGi hl0 hM0 hmore hcl c1 d1 d2 hb5 ho1
      go_loopg [5] M0 (fun m tv wr2 => ∃ (T : List Int) (Sc : Int → Bool) (kc : Nat) (tv0 : Value), tv = tv0 ∧ m = T.length + leftS d Sc n ∧ kc + (T.length + leftS d Sc n) ≤ M0 ∧ Hid (Clo d n i Sc T) ∧ Hid (OffI wr2 w.heap.size tv0 T) ∧ Hid (MapsB wr2 w.heap.size n (i + 1) G2 (fun x => if x = i then kc else K x) (fun x => if x = i then Sc else S x)) ∧ Below w.heap.size w wr2)
      case atStart => exact ⟨d i, fun _ => false, 0, _, rfl, hM, by omega, hC0, hO1, hT1, hbw1⟩
      case round =>
        clear hO1 hT1 hbw1 hC0
        obtain ⟨T, Sc, kc, tv, rfl, hm, hkc, hCl, hO, hT2, hbw2⟩ := hrel
        replace hm := Lib.hid hm
        replace hkc := Lib.hid hkc
        obtain ⟨wo, rfl⟩ : ∃ wo : World, wo = wr := ⟨_, rfl⟩
        have z2 := hbw2.size
        cases T with
        | nil =>
          obtain ⟨A3, cap3, rfl⟩ := hO.out.slice
          have hCC := Lib.hid (show ∀ j, j < i + 1 → Clo d n j ((fun x => if x = i then Sc else S x) j) [] from fun j hj => by
            show Clo d n j (if j = i then Sc else S j) []
            by_cases e : j = i
            · rw [if_pos e, e]; exact hCl.out
            · rw [if_neg e]; exact hC.out j (by omega))
          go_wp2
          go_roundg (n - (i + 1))
          case measure => rw [hn.out]; omega
          case rel => exact ⟨i + 1, G2, _, _, by omega, rfl, by go_num, hT2, hCC, hbw2⟩
        | cons x T =>
          obtain ⟨k, rfl, hkn, _⟩ := hCl.out.inT x (by simp)
          obtain ⟨g3, off3, cap3, rfl, hcap3, hg3, hg3l, e0, hO3⟩ := hO.out.head
          obtain ⟨m0, _⟩ := hT2.out.row (Nat.lt_succ_self i)
          obtain ⟨cc, hI⟩ := hT2.out.look (Nat.lt_succ_self i)
          rw [if_pos rfl, if_pos rfl] at hI
          have hlook := look_set hI (i := (k : Int)) (by omega) (by omega)
          obtain ⟨ws, c', hrun, hI2, hgr⟩ := store_set hI (i := (k : Int)) (by have := hkc.out; omega) (by omega) (by omega)
          have hGl := (hT2.out.lt.2 i (Nat.lt_succ_self i)).1
          have hput := Lib.hid (hT2.out.put (Nat.lt_succ_self i) hI2 hgr)
          rw [if_if, if_if] at hput
          have hOs := Lib.hid (fun (v : Value) (L : List Int) (h : OffI wo w.heap.size v L) => h.set_grown hI hgr)
          have hws : Below w.heap.size w ws := below_row hbw2 hgr (by omega) z2
          have zs := hws.size
          obtain ⟨b', o', he', _, uk, k1, huk⟩ := hrow.out k hkn
          cases he'
          have c2 : ws.cell? ⟨b, o + k, none⟩ = some uk := (hws.cell (p := ⟨b, _, none⟩) hbl).trans k1
          have huk2 := cell_at (own_keep huk hws (Nat.le_refl _))
          have hk6 := hlen.out k hkn
          have hTl : T.length ≤ 30000 := by have := hkc.out; rw [List.length_cons] at this; omega
          have hsz := fun hs => hCl.out.size (k := k) (t := T) hs
          have hnew := fun (_ : Sc k = false) => hCl.out.new (k := k) (t := T) (hin.out k hkn)
          have hseen := fun hs => hCl.out.seen (k := (k : Int)) (t := T) hs
          generalize G2 i = mb at *
          clear hO hCl huk k1
          rcases hO3.tail1 hcap3 with ⟨rfl, hTn, hO4⟩ | ⟨hcp1, hO4⟩
          · subst hTn
            cases hs : Sc k with
              | true =>
                have hC2 := Lib.hid (hseen hs)
                rw [hs] at hlook
                replace hO4 := Lib.hid hO4
                clear hnew hsz hs hseen
                go_wp2
                go_roundg (([] : List Int).length + leftS d Sc n)
                case measure => rw [hm.out]; simp
                case rel => exact ⟨([] : List Int), Sc, kc, _, rfl, rfl, by have := hkc.out; simp only [List.length_cons] at this; omega, hC2, hO4, hT2, hbw2⟩
              | false =>
                have hC2 := Lib.hid (hnew hs)
                have hs2 := Lib.hid (hsz hs)
                rw [hs] at hlook
                replace hO4 := Lib.hid (hOs.out _ _ hO4)
                clear hnew hsz hs hseen
                rcases huk2 with ⟨rfl, hkn0⟩ | ⟨g5, cap5, rfl, hg5, hnw⟩
                · rw [hkn0, List.append_nil] at hC2 hs2
                  clear hkn0
                  go_wp2_with (at_builtin; refine wp_offI_none hO4.out rfl (.tmp 44) (.tmp 48) rfl rfl rfl ?_)
                  go_roundg (([] : List Int).length + leftS d (putS Sc k) n)
                  case measure => rw [hm.out]; have := hs2.out; simp only [List.length_cons] at this ⊢; omega
                  case rel => exact ⟨([] : List Int), putS Sc k, kc + 1, _, rfl, rfl, by have := hkc.out; have := hs2.out; simp only [List.length_cons] at *; omega, hC2, hO4, hput, hws⟩
                · replace hnw := Lib.hid (show ∀ j u, (intV (d k))[j]? = some u → ws.cell? ((⟨g5, 0, none⟩ : Addr).add j) = some u from fun j u hu => by rw [Addr.add_lit, Nat.zero_add]; exact hnw j u hu)
                  go_wp2_with (at_builtin; refine wp_offI hO4.out (d k) ⟨g5, 0, none⟩ cap5 rfl (.tmp 44) (.tmp 48) rfl rfl rfl hnw.out zs (by first | omega | (simp; omega)) ?_; intro v6 w6 hO6 hg6 _)
                  go_roundg ((([] : List Int) ++ d k).length + leftS d (putS Sc k) n)
                  case measure => rw [hm.out]; have := hs2.out; simp only [List.length_cons] at this ⊢; omega
                  case rel => exact ⟨([] : List Int) ++ d k, putS Sc k, kc + 1, _, rfl, rfl, by have := hkc.out; have := hs2.out; simp only [List.length_cons] at *; omega, hC2, Lib.hid hO6, Lib.hid (hput.out.row_grown hO4.out hg6), off_below hws hO4.out hg6 (Nat.le_refl _) zs⟩
          · cases hs : Sc k with
              | true =>
                have hC2 := Lib.hid (hseen hs)
                rw [hs] at hlook
                replace hO4 := Lib.hid hO4
                clear hnew hsz hs hseen
                go_wp2
                go_roundg (T.length + leftS d Sc n)
                case measure => rw [hm.out]; simp
                case rel => exact ⟨T, Sc, kc, _, rfl, rfl, by have := hkc.out; simp only [List.length_cons] at this; omega, hC2, hO4, hT2, hbw2⟩
              | false =>
                have hC2 := Lib.hid (hnew hs)
                have hs2 := Lib.hid (hsz hs)
                rw [hs] at hlook
                replace hO4 := Lib.hid (hOs.out _ _ hO4)
                clear hnew hsz hs hseen
                rcases huk2 with ⟨rfl, hkn0⟩ | ⟨g5, cap5, rfl, hg5, hnw⟩
                · rw [hkn0, List.append_nil] at hC2 hs2
                  clear hkn0
                  go_wp2_with (at_builtin; refine wp_offI_none hO4.out rfl (.tmp 44) (.tmp 48) rfl rfl rfl ?_)
                  go_roundg (T.length + leftS d (putS Sc k) n)
                  case measure => rw [hm.out]; have := hs2.out; simp only [List.length_cons] at this ⊢; omega
                  case rel => exact ⟨T, putS Sc k, kc + 1, _, rfl, rfl, by have := hkc.out; have := hs2.out; simp only [List.length_cons] at *; omega, hC2, hO4, hput, hws⟩
                · replace hnw := Lib.hid (show ∀ j u, (intV (d k))[j]? = some u → ws.cell? ((⟨g5, 0, none⟩ : Addr).add j) = some u from fun j u hu => by rw [Addr.add_lit, Nat.zero_add]; exact hnw j u hu)
                  go_wp2_with (at_builtin; refine wp_offI hO4.out (d k) ⟨g5, 0, none⟩ cap5 rfl (.tmp 44) (.tmp 48) rfl rfl rfl hnw.out zs (by first | omega | (simp; omega)) ?_; intro v6 w6 hO6 hg6 _)
                  go_roundg ((T ++ d k).length + leftS d (putS Sc k) n)
                  case measure => rw [hm.out]; have := hs2.out; simp only [List.length_cons] at this ⊢; omega
                  case rel => exact ⟨T ++ d k, putS Sc k, kc + 1, _, rfl, rfl, by have := hkc.out; have := hs2.out; simp only [List.length_cons] at *; omega, hC2, Lib.hid hO6, Lib.hid (hput.out.row_grown hO4.out hg6), off_below hws hO4.out hg6 (Nat.le_refl _) zs⟩
    · obtain rfl : i = n := by omega
      go_wp2
      go_ret
      exact ⟨w.heap.size, G, K, S, rfl, Nat.le_refl _, hT.out, hC.out, hbw⟩

end Ru
end Go.Proofs.YtbadplbdgpbdaaaDoor

namespace Go.Proofs.YtbadplbdgpbdaaaDoor
open Go.RowKit
namespace Ru
open Sl (strV Reads IntsV)

theorem noneErr_all {l : List Rule} (h : (firstErr (fun i _ => noneErr l i) 0 l).1 = 0) : ∀ i, i < l.length → ∀ y ∈ directR l i, 0 ≤ y ∧ y < l.length := by
  intro i hi y hy
  have h1 := firstErr_zero _ l 0 h i _ (List.getElem?_eq_getElem hi)
  have h2 : noneErr l i = 0 := by rw [Nat.zero_add] at h1; exact h1
  unfold noneErr at h2
  split at h2
  · cases h2
  · rename_i h3
    have hr : -1 ≤ y ∧ y < l.length := by
      unfold directR at hy
      obtain ⟨nm, _, e⟩ := List.mem_map.1 hy
      rw [← e]
      exact findI_range l nm
    have : y ≠ -1 := fun e => h3 (by rw [List.contains_iff_mem, ← e]; exact hy)
    omega
theorem directR_len {l : List Rule} (hN : ∀ r ∈ l, nodesE r.expr ≤ 600) {i : Nat} (hi : i < l.length) : (directR l i).length ≤ 600 := by
  rw [directR_at (List.getElem?_eq_getElem hi), List.length_map]
  have h1 := names_len (l[i]).expr
  have h2 := hN _ (List.getElem_mem hi)
  omega

set_option maxRecDepth 100000 in
set_option maxHeartbeats 4000000 in
theorem CWrong_form (v : Value) (l : List Rule) (w : World) (hr : RulesV w w.heap.size v l) (hf : (wrongF l).1 ≠ 0) : Calls Tryd.prog 17 #[v] w fun e w' => e = .returned (faultV (wrongR l)) ∧ Below w.heap.size w w' := by
  have hw : wrongR l = wrongF l := if_neg hf
  rw [hw]
  clear hw
  have hbA : Below w.heap.size w (w.alloc (.cells #[.int .i64 0, .int .i64 0] 26)) := (Below.refl _ _).alloc (Nat.le_refl _) _
  have hP := Lib.hid (PWrong_any v l (w.alloc (.cells #[.int .i64 0, .int .i64 0] 26)) (hr.below hbA (Nat.le_refl _) (by simp)))
  have B0 := Blk.new w 26 #[.int .i64 0, .int .i64 0]
  obtain ⟨A, cap, rfl, _⟩ := hr
  have g : ((wrongF l).1 != 0) = true := by simpa using hf
  generalize wrongF l = q at *
  obtain ⟨q1, q2⟩ := q
  unfold faultV at hP ⊢
  simp only at g hP ⊢
  clear hf
  go_enter Tryd.func17, Tryd.ntmps17
  go_wp2_with (go_at_call 34; refine hP.out.mono ?_; rintro e w1 ⟨rfl, hb1⟩; have hz1 := hb1.size; simp at hz1; have B1 := B0.below hb1 (by simp); have s0 : w1.cell? ⟨w.heap.size, 0, none⟩ = some (.int .i64 0) := B1.cell 0; have s1 : w1.cell? ⟨w.heap.size, 1, none⟩ = some (.int .i64 0) := B1.cell 1; have t0 : w1.frozen? ⟨w.heap.size, 0, none⟩ = false := B1.frozen 0; have t1 : w1.frozen? ⟨w.heap.size, 1, none⟩ = false := B1.frozen 1)
  have hb2 : Below w.heap.size w w1 := hbA.trans (hb1.mono (by simp))
  have hlw : w.heap.size < w1.heap.size := by omega
  exact bodyPost_ret (v := .agg #[.int .i64 q1, .int .i64 q2]) (by simp [results, Tryd.results17, s0, s1, hlw, go_sem]) rfl ⟨rfl, ((hb2.alloc (by omega) _).setCell (by simp) _).setCell (by simp) _⟩

set_option maxRecDepth 100000 in
set_option maxHeartbeats 8000000 in
theorem CWrong_right (v : Value) (l : List Rule) (w : World) (hr : RulesV w w.heap.size v l) (hf : (wrongF l).1 = 0) : Calls Tryd.prog 17 #[v] w fun e w' => e = .returned (faultV (wrongR l)) ∧ Below w.heap.size w w' := by
  have hw : wrongR l = if (firstErr (dupErr l) 0 l).1 = 0 then if (firstErr (fun i _ => noneErr l i) 0 l).1 = 0 then firstErr (fun i _ => ringErr l i) 0 l else firstErr (fun i _ => noneErr l i) 0 l else firstErr (dupErr l) 0 l := if_pos hf
  have hbA : Below w.heap.size w (w.alloc (.cells #[.int .i64 0, .int .i64 0] 26)) := (Below.refl _ _).alloc (Nat.le_refl _) _
  have hP := Lib.hid (PWrong_any v l (w.alloc (.cells #[.int .i64 0, .int .i64 0] 26)) (hr.below hbA (Nat.le_refl _) (by simp)))
  have B0 := Blk.new w 26 #[.int .i64 0, .int .i64 0]
  have hrr := Lib.hid hr
  obtain ⟨h40, hrx⟩ := form_right hf
  obtain ⟨A, cap, rfl, hlen, hc⟩ := hr
  generalize wrongF l = q at *
  obtain ⟨q1, q2⟩ := q
  unfold faultV at hP
  simp only at hf hP
  subst hf
  replace hc := Lib.hid hc
  replace hrx := Lib.hid hrx
  replace hw := Lib.hid hw
  go_enter Tryd.func17, Tryd.ntmps17
  go_wp2_with (go_at_call 34; refine hP.out.mono ?_; rintro e w1 ⟨rfl, hb1⟩; have hz1 := hb1.size; simp at hz1; have B1 := B0.below hb1 (by simp))
  have hb2 : Below w.heap.size w w1 := hbA.trans (hb1.mono (by simp))
  go_loopg [19] l.length (fun n k wr => ∃ j : Nat, j ≤ l.length ∧ n = l.length - j ∧ k = .int .i64 j ∧ Hid (firstErr (dupErr l) j (l.drop j) = firstErr (dupErr l) 0 l) ∧ Below w.heap.size w wr ∧ Blk wr w.heap.size 26 #[.int .i64 0, .int .i64 0])
  case atStart => exact ⟨0, by omega, rfl, rfl, Lib.hid rfl, hb2.alloc (by omega) _, B1.alloc _⟩
  case round =>
    obtain ⟨j, hj, hn, rfl, hf, hb, B2⟩ := hrel
    replace hn := Lib.hid hn
    have zb := hb.size
    have zr := B2.lt
    by_cases hlt : j < l.length
    · obtain ⟨r, hx⟩ : ∃ r, l[j]? = some r := ⟨_, List.getElem?_eq_getElem hlt⟩
      obtain ⟨b, o, rfl, hbl, k0, hnl, hE⟩ := hc.out j r hx
      have hst : firstErr (dupErr l) 0 l = if dupErr l j r = 0 then firstErr (dupErr l) (j + 1) (l.drop (j + 1)) else (dupErr l j r, (j : Int)) := hf.out.symm.trans (firstErr_at _ hx)
      rw [show dupErr l j r = if findI l r.name < j then 7 else 0 from rfl] at hst
      have zbl : b < wr.heap.size := by omega
      obtain ⟨v0, v1, v2, v3, hnl1, A1, cap1, v4, hkl1, hkv1⟩ := (hE.below hb (Nat.le_refl _) (Nat.le_refl _) hbl).out
      have d0 : wr.cell? ⟨b, o + j * 6, none⟩ = some (strV r.name) := (hb.cell (p := ⟨b, _, none⟩) hbl).trans k0
      have d1 : wr.cell? ⟨b, o + j * 6 + 1, none⟩ = some (.int .i64 r.expr.kind) := v0
      have d2 : wr.cell? ⟨b, o + j * 6 + 2, none⟩ = some (.int .i64 r.expr.a) := v1
      have d3 : wr.cell? ⟨b, o + j * 6 + 3, none⟩ = some (.int .i64 r.expr.b) := v2
      have d4 : wr.cell? ⟨b, o + j * 6 + 4, none⟩ = some (strV r.expr.name) := v3
      have d5 : wr.cell? ⟨b, o + j * 6 + 5, none⟩ = some (.slice A1 r.expr.kids.length cap1) := v4
      have B3 := B2.alloc (.cells #[strV r.name, .int .i64 r.expr.kind, .int .i64 r.expr.a, .int .i64 r.expr.b, strV r.expr.name, .slice A1 r.expr.kids.length cap1] 50)
      have hb3 : Below w.heap.size w (wr.alloc (.cells #[strV r.name, .int .i64 r.expr.kind, .int .i64 r.expr.a, .int .i64 r.expr.b, strV r.expr.name, .slice A1 r.expr.kids.length cap1] 50)) := hb.alloc zb _
      have hA := Lib.hid (Find_any _ l r.name (wr.alloc (.cells #[strV r.name, .int .i64 r.expr.kind, .int .i64 r.expr.a, .int .i64 r.expr.b, strV r.expr.name, .slice A1 r.expr.kids.length cap1] 50)) (hrr.out.below hb3 (Nat.le_refl _) (by simp; omega)))
      clear v0 v1 v2 v3 v4 k0 hx hE hkv1
      by_cases hfi : findI l r.name < j
      · rw [if_pos hfi, if_neg (by decide)] at hst
        have hw2 := Lib.hid (show wrongR l = (7, (j : Int)) by rw [hw.out, if_neg (by rw [hst]; simp), hst])
        have g : decide (findI l r.name < (j : Int)) = true := by simpa using hfi
        generalize findI l r.name = fi at *
        clear hfi hst
        go_wp2_with (go_at_call 35; refine hA.out.mono ?_; rintro e w5 ⟨rfl, hb5⟩; have hz5 := hb5.size; simp at hz5; have B5 := B3.below hb5 (by simp; omega); have s0 : w5.cell? ⟨w.heap.size, 0, none⟩ = some (.int .i64 0) := B5.cell 0; have s1 : w5.cell? ⟨w.heap.size, 1, none⟩ = some (.int .i64 0) := B5.cell 1; have t0 : w5.frozen? ⟨w.heap.size, 0, none⟩ = false := B5.frozen 0; have t1 : w5.frozen? ⟨w.heap.size, 1, none⟩ = false := B5.frozen 1)
        have hb6 : Below w.heap.size w w5 := hb3.trans (hb5.mono (by simp; omega))
        have E := (B5.set 0 (.int .i64 7)).set 1 (.int .i64 j)
        have e0 := (E.cell 0).trans (show _ = some (Value.int .i64 7) from rfl)
        have e1 := (E.cell 1).trans (show _ = some (Value.int .i64 j) from rfl)
        exact bodyPost_ret (v := faultV (7, (j : Nat))) (by simp [results, Tryd.results17, e0, e1, go_sem, faultV]) rfl ⟨by rw [hw2.out], (hb6.setCell (by simp) _).setCell (by simp) _⟩
      · rw [if_neg hfi, if_pos rfl] at hst
        have g : decide (findI l r.name < (j : Int)) = false := by simpa using hfi
        replace hst := Lib.hid hst
        generalize findI l r.name = fi at *
        clear hfi
        go_wp2_with (go_at_call 35; refine hA.out.mono ?_; rintro e w5 ⟨rfl, hb5⟩)
        have hz5 := hb5.size
        simp at hz5
        go_roundg (l.length - (j + 1))
        case measure => rw [hn.out]; omega
        case rel => exact ⟨j + 1, by omega, rfl, by go_num, Lib.hid hst.out.symm, hb3.trans (hb5.mono (by simp; omega)), B3.below hb5 (by simp; omega)⟩
    · obtain rfl : j = l.length := by omega
      have hz0 : (firstErr (dupErr l) 0 l).1 = 0 := by rw [← hf.out, List.drop_length]; rfl
      have hw3 : wrongR l = if (firstErr (fun i _ => noneErr l i) 0 l).1 = 0 then firstErr (fun i _ => ringErr l i) 0 l else firstErr (fun i _ => noneErr l i) 0 l := by rw [hw.out, if_pos hz0]
      replace hw3 := Lib.hid hw3
      clear hz0 hf hn hw zb zr
      obtain ⟨w2, hw2⟩ : ∃ w2 : World, w2 = wr := ⟨_, rfl⟩
      subst hw2
      have zb := hb.size
      have zr := B2.lt
      have hD := Lib.hid (direct_any _ l w2 (hrr.out.below hb (Nat.le_refl _) zb) h40 (fun r hr => (hrx.out r hr).2))
      go_wp2_with (go_at_call 36; refine hD.out.mono ?_; rintro e w1 ⟨ov, rfl, hO, hb1⟩; obtain ⟨vs1, hv1, _⟩ := id hO; obtain ⟨A1, cap1, rfl⟩ := own_slice hv1)
      replace hv1 := Lib.hid hv1
      have hlr : ((List.range l.length).map (directR l)).length = l.length := by simp
      have z1 := hb1.size
      have hb6 : Below w.heap.size w w1 := hb.trans (hb1.mono zb)
      have B6 := B2.below hb1 zr
      have hI := Lib.hid hO.reads
      rw [hlr] at hI
      have hdn := Lib.hid (fun i (hi : i < l.length) => directR_len (fun r hr => (hrx.out r hr).2) hi)
      clear hD hb1 hO
      go_loopg [37] l.length (fun n k wr => ∃ j : Nat, j ≤ l.length ∧ n = l.length - j ∧ k = .int .i64 j ∧ Hid (firstErr (fun i _ => noneErr l i) j (l.drop j) = firstErr (fun i _ => noneErr l i) 0 l) ∧ wr = w1)
      case atStart => exact ⟨0, by omega, rfl, rfl, Lib.hid rfl, rfl⟩
      case round =>
        obtain ⟨j, hj, hn, rfl, hf, rfl⟩ := hrel
        replace hn := Lib.hid hn
        have s0 : wr.cell? ⟨w.heap.size, 0, none⟩ = some (.int .i64 0) := B6.cell 0
        have s1 : wr.cell? ⟨w.heap.size, 1, none⟩ = some (.int .i64 0) := B6.cell 1
        have t0 : wr.frozen? ⟨w.heap.size, 0, none⟩ = false := B6.frozen 0
        have t1 : wr.frozen? ⟨w.heap.size, 1, none⟩ = false := B6.frozen 1
        by_cases hlt : j < l.length
        · obtain ⟨r, hx⟩ : ∃ r, l[j]? = some r := ⟨_, List.getElem?_eq_getElem hlt⟩
          have hst : firstErr (fun i _ => noneErr l i) 0 l = if noneErr l j = 0 then firstErr (fun i _ => noneErr l i) (j + 1) (l.drop (j + 1)) else (noneErr l j, (j : Int)) := hf.out.symm.trans (firstErr_at _ hx)
          rw [show noneErr l j = if (directR l j).contains (-1) = true then 6 else 0 from rfl] at hst
          obtain ⟨A9, cap9, he9, _, hrd⟩ := hI.out
          obtain ⟨b, o, hee, hbl, u, k0, hu⟩ := hrd j (directR l j) (by simp [hlt])
          have hA1 : A1 = some ⟨b, o, none⟩ := by rw [← hee]; injection he9
          subst hA1
          clear he9 hee
          obtain ⟨A3, cap3, rfl⟩ := own_slice hu
          have hcon := Lib.hid (Contains_ints _ (directR l j) (-1) wr (own_reads hu (Nat.le_refl _)))
          clear hx hu hrd
          cases hu : (directR l j).contains (-1) with
          | false =>
            rw [hu, if_pos (show (if (false = true) then (6 : Int) else 0) = 0 from rfl)] at hst
            rw [hu] at hcon
            replace hst := Lib.hid hst
            clear hu
            go_wp2_with (go_at_call 37; refine hcon.out.mono ?_; rintro e w5 ⟨rfl, rfl⟩)
            go_roundg (l.length - (j + 1))
            case measure => rw [hn.out]; omega
            case rel => exact ⟨j + 1, by omega, rfl, by go_num, Lib.hid hst.out.symm, rfl⟩
          | true =>
            rw [hu, if_neg (show ¬ (if (true = true) then (6 : Int) else 0) = 0 by decide), if_pos rfl] at hst
            rw [hu] at hcon
            have hw2 := Lib.hid (show wrongR l = (6, (j : Int)) by rw [hw3.out, if_neg (by rw [hst]; simp), hst])
            clear hu hst
            go_wp2_with (go_at_call 37; refine hcon.out.mono ?_; rintro e w5 ⟨rfl, rfl⟩)
            have E := (B6.set 0 (.int .i64 6)).set 1 (.int .i64 j)
            have e0 := (E.cell 0).trans (show _ = some (Value.int .i64 6) from rfl)
            have e1 := (E.cell 1).trans (show _ = some (Value.int .i64 j) from rfl)
            exact bodyPost_ret (v := faultV (6, (j : Nat))) (by simp [results, Tryd.results17, e0, e1, go_sem, faultV]) rfl ⟨by rw [hw2.out], (hb6.setCell (by simp) _).setCell (by simp) _⟩
        · obtain rfl : j = l.length := by omega
          have hz0 : (firstErr (fun i _ => noneErr l i) 0 l).1 = 0 := by rw [← hf.out, List.drop_length]; rfl
          have hw4 : wrongR l = firstErr (fun i _ => ringErr l i) 0 l := by rw [hw3.out, if_pos hz0]
          replace hw4 := Lib.hid hw4
          have hR := Lib.hid (closed_any (.slice A1 l.length cap1) (directR l) l.length wr (hI.out.low (Nat.zero_le _)) h40 hdn.out (noneErr_all hz0))
          clear hz0 hf hn hw3
          obtain ⟨w2, hw2⟩ : ∃ w2 : World, w2 = wr := ⟨_, rfl⟩
          subst hw2
          go_wp2_with (go_at_call 38; refine hR.out.mono ?_; rintro e w5 ⟨g, G, K, S, rfl, hg, hT, hCl, hb5⟩; have hz5 := hb5.size)
          replace hT := Lib.hid hT
          replace hCl := Lib.hid hCl
          have B7 := B6.below hb5 (by omega)
          have hb7 : Below w.heap.size w w5 := hb6.trans (hb5.mono (by omega))
          go_loopg [50] l.length (fun n k wr => ∃ j : Nat, j ≤ l.length ∧ n = l.length - j ∧ k = .int .i64 j ∧ Hid (firstErr (fun i _ => ringErr l i) j (l.drop j) = firstErr (fun i _ => ringErr l i) 0 l) ∧ wr = w5)
          case atStart => exact ⟨0, by omega, rfl, rfl, Lib.hid rfl, rfl⟩
          case round =>
            obtain ⟨j, hj, hn, rfl, hf, rfl⟩ := hrel
            replace hn := Lib.hid hn
            have s0 : wr.cell? ⟨w.heap.size, 0, none⟩ = some (.int .i64 0) := B7.cell 0
            have s1 : wr.cell? ⟨w.heap.size, 1, none⟩ = some (.int .i64 0) := B7.cell 1
            have t0 : wr.frozen? ⟨w.heap.size, 0, none⟩ = false := B7.frozen 0
            have t1 : wr.frozen? ⟨w.heap.size, 1, none⟩ = false := B7.frozen 1
            by_cases hlt : j < l.length
            · obtain ⟨r, hx⟩ : ∃ r, l[j]? = some r := ⟨_, List.getElem?_eq_getElem hlt⟩
              have hst : firstErr (fun i _ => ringErr l i) 0 l = if ringErr l j = 0 then firstErr (fun i _ => ringErr l i) (j + 1) (l.drop (j + 1)) else (ringErr l j, (j : Int)) := hf.out.symm.trans (firstErr_at _ hx)
              obtain ⟨r0, _⟩ := hT.out.row hlt
              obtain ⟨cc, hIs⟩ := hT.out.look hlt
              have hlook := look_set hIs (i := (j : Int)) (by omega) (by omega)
              have hre : ringErr l j = if S j (j : Int) = true then 9 else 0 := by unfold ringErr; rw [table_set (hCl.out j hlt)]
              rw [hre] at hst
              clear hre hx hIs
              generalize G j = gj at *
              cases hu : S j (j : Int) with
              | false =>
                rw [hu, if_pos (show (if (false = true) then (9 : Int) else 0) = 0 from rfl)] at hst
                rw [hu] at hlook
                replace hst := Lib.hid hst
                clear hu
                go_wp2
                go_roundg (l.length - (j + 1))
                case measure => rw [hn.out]; omega
                case rel => exact ⟨j + 1, by omega, rfl, by go_num, Lib.hid hst.out.symm, rfl⟩
              | true =>
                rw [hu, if_neg (show ¬ (if (true = true) then (9 : Int) else 0) = 0 by decide), if_pos rfl] at hst
                rw [hu] at hlook
                have hw2 := Lib.hid (show wrongR l = (9, (j : Int)) by rw [hw4.out, hst])
                clear hu hst
                go_wp2
                have E := (B7.set 0 (.int .i64 9)).set 1 (.int .i64 j)
                have e0 := (E.cell 0).trans (show _ = some (Value.int .i64 9) from rfl)
                have e1 := (E.cell 1).trans (show _ = some (Value.int .i64 j) from rfl)
                exact bodyPost_ret (v := faultV (9, (j : Nat))) (by simp [results, Tryd.results17, e0, e1, go_sem, faultV]) rfl ⟨by rw [hw2.out], (hb7.setCell (by simp) _).setCell (by simp) _⟩
            · obtain rfl : j = l.length := by omega
              have hw2 := Lib.hid (show wrongR l = (0, 0) by rw [hw4.out, ← hf.out, List.drop_length]; rfl)
              clear hn hf
              go_wp2
              have E := (B7.set 0 (.int .i64 0)).set 1 (.int .i64 0)
              have e0 := (E.cell 0).trans (show _ = some (Value.int .i64 0) from rfl)
              have e1 := (E.cell 1).trans (show _ = some (Value.int .i64 0) from rfl)
              exact bodyPost_ret (v := faultV (0, 0)) (by simp [results, Tryd.results17, e0, e1, go_sem, faultV]) rfl ⟨by rw [hw2.out], (hb7.setCell (by simp) _).setCell (by simp) _⟩

theorem CWrong_any (v : Value) (l : List Rule) (w : World) (hr : RulesV w w.heap.size v l) : Calls Tryd.prog 17 #[v] w fun e w' => e = .returned (faultV (wrongR l)) ∧ Below w.heap.size w w' := by
  by_cases hf : (wrongF l).1 = 0
  · exact CWrong_right v l w hr hf
  · exact CWrong_form v l w hr hf

end Ru
end Go.Proofs.YtbadplbdgpbdaaaDoor

namespace Go.Proofs.YtbadplbdgpbdaaaDoor
open Go.RowKit
namespace Ru

open Vm (TabB)

open Sl (strV Reads IntsV)

/-- all those that a rule refers to, by way of others, too -/
def reachL (l : List Rule) (j : Nat) (n : Nat) : List Int := ((List.range n).filter fun k => Wal.wal (stepB (directR l)) l.length j k).map fun k => ((k : Nat) : Int)
def usesR (l : List Rule) (rule : Int) : List Int := if rule < 0 ∨ (l.length : Int) ≤ rule ∨ (wrongR l).1 ≠ 0 then [] else reachL l rule.toNat l.length
theorem reachL_succ (l : List Rule) (j n : Nat) : reachL l j (n + 1) = if Wal.wal (stepB (directR l)) l.length j n = true then reachL l j n ++ [(n : Int)] else reachL l j n := by
  unfold reachL
  rw [List.range_succ, List.filter_append, List.map_append]
  by_cases h : Wal.wal (stepB (directR l)) l.length j n = true
  · rw [if_pos h, List.filter_cons, if_pos h]
    rfl
  · rw [if_neg h, List.filter_cons, if_neg h]
    simp
theorem reachL_len (l : List Rule) (j n : Nat) : (reachL l j n).length ≤ n := by
  unfold reachL
  rw [List.length_map]
  have := List.length_filter_le (fun k => Wal.wal (stepB (directR l)) l.length j k) (List.range n)
  rwa [List.length_range] at this
theorem wrong_form {l : List Rule} (h : (wrongR l).1 = 0) : (wrongF l).1 = 0 := by
  unfold wrongR at h
  split at h
  · assumption
  · rename_i h2; exact absurd h h2

@[go_sem] theorem run_faultField (a b : Int) (w : World) : (Instr.field 26 (.agg #[.int .i64 a, .int .i64 b]) 0).run Tryd.prog w = .ok (.int .i64 a) w := by kernel_rfl

def UsesPost (l : List Rule) (rule : Int) (w : World) (e : Ending) (w' : World) : Prop := ∃ v, e = .returned v ∧ w'.ownsRow w.heap.size 3 1 v (usesR l rule).length ((usesR l rule).map (Value.int .i64)) ∧ Below w.heap.size w w'
theorem uses_none {l : List Rule} {rule : Int} (h : rule < 0 ∨ (l.length : Int) ≤ rule ∨ (wrongR l).1 ≠ 0) : usesR l rule = [] := if_pos h











































































































































end Ru
end Go.Proofs.YtbadplbdgpbdaaaDoor

namespace Go.Proofs.YtbadplbdgpbdaaaDoor
open Go.RowKit Go.Sort
namespace Ru



















end Ru
end Go.Proofs.YtbadplbdgpbdaaaDoor

namespace Go.Proofs.YtbadplbdgpbdaaaDoor
open Go.RowKit Go.Maps Go.ChangeShapes
namespace Ru
open Sl (strV Reads IntsV)

/-- what has been met so far of a set that is ranged over -/
def Met (S : Int → Bool) (left : Lit → Bool) (ks : List Int) : Prop := ks.Nodup ∧ ∀ x, x ∈ ks ↔ (S x = true ∧ left (.int .i64 x) = false)
theorem Met.start {S : Int → Bool} {left : Lit → Bool} (h : ∀ x, S x = true → left (.int .i64 x) = true) : Met S left [] := ⟨List.nodup_nil, fun x => by
  constructor
  · intro hx; cases hx
  · rintro ⟨h1, h2⟩; rw [h x h1] at h2; cases h2⟩
theorem Met.step {S : Int → Bool} {left : Lit → Bool} {ks : List Int} (h : Met S left ks) {x : Int} (hx : left (.int .i64 x) = true) (hS : S x = true) : Met S (fun z => left z && !z.sameKey (.int .i64 x)) (ks ++ [x]) := by
  have hs : ∀ y, (Lit.int .i64 y).sameKey (.int .i64 x) = decide (y = x) := fun y => by
    by_cases e : y = x
    · subst e
      rw [WideAt.sameKey_self (show WideAt.IsKeyLit (.int .i64 y) from trivial)]
      simp
    · cases e2 : (Lit.int .i64 y).sameKey (.int .i64 x) with
      | false => simp [e]
      | true =>
        have := WideAt.sameKey_eq e2
        injection this with _ h3
        exact absurd h3 e
  refine ⟨?_, fun y => ?_⟩
  · rw [List.nodup_append]
    refine ⟨h.1, by simp, fun a ha b hb e => ?_⟩
    simp at hb
    subst hb
    subst e
    have := ((h.2 a).1 ha).2
    rw [hx] at this
    cases this
  · show y ∈ ks ++ [x] ↔ S y = true ∧ (left (.int .i64 y) && !(Lit.int .i64 y).sameKey (.int .i64 x)) = false
    rw [List.mem_append, List.mem_singleton, h.2 y, hs y]
    by_cases e : y = x
    · subst e
      simp [hS]
    · simp [e]
theorem Met.done {S : Int → Bool} {left : Lit → Bool} {ks : List Int} (h : Met S left ks) (hl : ∀ kl, left kl = false) {n : Nat} (hS : ∀ x, S x = true → ∃ k : Nat, x = k ∧ k < n) : ks.Perm (((List.range n).filter fun k => S (k : Nat)).map fun k => ((k : Nat) : Int)) := by
  refine (List.perm_ext_iff_of_nodup h.1 ?_).2 fun x => ?_
  · refine List.pairwise_map.2 ((List.nodup_range.filter _).imp fun {a b} hab e => hab (by omega))
  · rw [h.2 x, List.mem_map]
    constructor
    · rintro ⟨h1, _⟩
      obtain ⟨k, rfl, hk⟩ := hS x h1
      exact ⟨k, by simp [hk, h1], rfl⟩
    · rintro ⟨k, hk, rfl⟩
      simp at hk
      exact ⟨hk.2, hl _⟩
theorem met_len {S : Int → Bool} {left : Lit → Bool} {ks : List Int} (h : Met S left ks) {n : Nat} (hS : ∀ x, S x = true → ∃ k : Nat, x = k ∧ k < n) : ks.length ≤ n := by
  have hp : ks.Perm (((List.range n).filter fun k => ks.contains ((k : Nat) : Int)).map fun k => ((k : Nat) : Int)) := by
    refine (List.perm_ext_iff_of_nodup h.1 ?_).2 fun x => ?_
    · refine List.pairwise_map.2 ((List.nodup_range.filter _).imp fun {a b} hab e => hab (by omega))
    · rw [List.mem_map]
      constructor
      · intro hx
        obtain ⟨k, rfl, hk⟩ := hS x ((h.2 x).1 hx).1
        exact ⟨k, by simp [hk, hx], rfl⟩
      · rintro ⟨k, hk, rfl⟩
        simp at hk
        exact hk.2
  rw [hp.length_eq, List.length_map]
  have := List.length_filter_le (fun k => ks.contains ((k : Nat) : Int)) (List.range n)
  rwa [List.length_range] at this
/-- what rises is what sorting makes of it -/
theorem sorted_same {ks r : List Int} (h : ks.Perm r) (hr : r.Pairwise (fun a b => a ≤ b)) : (ks.mergeSort fun x y => decide (x ≤ y)) = r := by
  have tr : ∀ a b c : Int, decide (a ≤ b) = true → decide (b ≤ c) = true → decide (a ≤ c) = true := fun a b c h1 h2 => by simp only [decide_eq_true_eq] at *; omega
  have tt : ∀ a b : Int, (decide (a ≤ b) || decide (b ≤ a)) = true := fun a b => by simp only [Bool.or_eq_true, decide_eq_true_eq]; omega
  refine List.Perm.eq_of_pairwise (le := fun a b => decide (a ≤ b) = true) (fun a b _ _ h1 h2 => ?_) (List.pairwise_mergeSort tr tt ks) (hr.imp fun h => by simpa using h) ((List.mergeSort_perm ks _).trans h)
  simp only [decide_eq_true_eq] at h1 h2
  omega
theorem reachL_up (l : List Rule) (j n : Nat) : (reachL l j n).Pairwise (fun a b => a ≤ b) := by
  unfold reachL
  refine List.pairwise_map.2 ((List.pairwise_lt_range.filter _).imp fun {a b} h => by omega)
theorem reachL_set {l : List Rule} {j : Nat} {S : Int → Bool} (h : Clo (directR l) l.length j S []) : reachL l j l.length = ((List.range l.length).filter fun k => S (k : Nat)).map fun k => ((k : Nat) : Int) := by
  unfold reachL
  congr 1
  refine List.filter_congr fun k _ => ?_
  exact table_set h
theorem wrong_none {l : List Rule} (h : (wrongR l).1 = 0) : (firstErr (fun i _ => noneErr l i) 0 l).1 = 0 := by
  unfold wrongR at h
  rw [if_pos (wrong_form (by unfold wrongR; exact h))] at h
  split at h
  · split at h
    · assumption
    · rename_i h2; exact absurd h h2
  · rename_i h2; exact absurd h h2
theorem ranges_below {H : Type} {P : Program} {k : TypeId} {R : Value → Option (DataW H × List MemPlace)} {w w' : World} {b r n : Nat} {D : DataW H} {left : Lit → Bool} {cnt B : Nat} (h : w.ranges P k R b r n D left cnt) (hb : Below B w w') (h1 : b < B) (h2 : r < B) : w'.ranges P k R b r n D left cnt := by
  obtain ⟨es, clock, since, seen, c0, hb', F, hs, hD, hr, rest⟩ := h
  exact ⟨es, clock, since, seen, c0, (hb.block b h1).trans hb', F, hs, hD, (hb.block r h2).trans hr, rest⟩













































































































































end Ru
end Go.Proofs.YtbadplbdgpbdaaaDoor
