/- The table of which rule leads to which: slotref5.Reach. What is wrong with rules: slotref5.Wrong. -/
import Derived.Test.YtbncbkaonkcgeaaAt
import Derived.Test.YtbncbkaonkcgeaaRfT
import Derived.Test.YtbncbkaonkcgeaaRul
import Derived.Test.YtbncbkaonkcgeaaQt
import Derived.Test.YtbncbkaonkcgeaaShp
import Derived.Test.YtbncbkaonkcgeaaFrmW
namespace Go.Proofs.Ytbncbkaonkcgeaa
open Go.RowKit
namespace Ru
open Vm (TabB)
open Sl (strV Reads)

theorem step_iff {l : List Rule} {i k : Nat} {ri rk : Rule} (hi : l[i]? = some ri) (hk : l[k]? = some rk) : stepB (directR l) i k = ((findI l rk.name == (k : Int)) && speaksE ri.expr rk.name) := by
  unfold stepB directR
  rw [hi, speaks_names, Bool.eq_iff_iff, Bool.and_eq_true, List.contains_iff_mem, List.contains_iff_mem, beq_iff_eq]
  simp only [Option.map_some, Option.getD_some, List.mem_map]
  have hkl := (List.getElem?_eq_some_iff.1 hk).1
  constructor
  · rintro ⟨n, hn, he⟩
    have hp : placeR l n = k := by
      unfold findI at he
      split at he
      · omega
      · omega
    have hnm := placeR_name (l := l) (nm := n) (r := rk) (by rw [hp]; exact hk)
    subst hnm
    exact ⟨he, hn⟩
  · rintro ⟨he, hn⟩
    exact ⟨_, hn, he⟩

def midB (r : Nat → Nat → Bool) (m i k : Nat) : Nat → Nat → Bool := fun x y => if x < i ∨ (x = i ∧ y < k) then Wal.wal r (m + 1) x y else Wal.wal r m x y
theorem midB_start (r : Nat → Nat → Bool) (m x y : Nat) : midB r m 0 0 x y = Wal.wal r m x y := by
  unfold midB
  rw [if_neg (by omega)]
theorem midB_row (r : Nat → Nat → Bool) (m i n x y : Nat) (hy : y < n) : midB r m i n x y = midB r m (i + 1) 0 x y := by
  unfold midB
  by_cases h : x < i ∨ x = i
  · rw [if_pos (by omega), if_pos (by omega)]
  · rw [if_neg (by omega), if_neg (by omega)]
theorem midB_end (r : Nat → Nat → Bool) (m n x y : Nat) (hx : x < n) : midB r m n 0 x y = Wal.wal r (m + 1) x y := by
  unfold midB
  rw [if_pos (by omega)]
theorem midB_here (r : Nat → Nat → Bool) (m i k : Nat) : midB r m i k i k = Wal.wal r m i k := by
  unfold midB
  rw [if_neg (by omega)]
theorem midB_col (r : Nat → Nat → Bool) (m i k : Nat) : midB r m i k i m = Wal.wal r m i m := by
  unfold midB
  split
  · exact Wal.step_col m _ i
  · rfl
theorem midB_way (r : Nat → Nat → Bool) (m i k : Nat) : midB r m i k m k = Wal.wal r m m k := by
  unfold midB
  split
  · exact Wal.step_row m _ k
  · rfl
theorem midB_next (r : Nat → Nat → Bool) (m i k x y : Nat) : (if x = i ∧ y = k then (Wal.wal r m i k || (Wal.wal r m i m && Wal.wal r m m k)) else midB r m i k x y) = midB r m i (k + 1) x y := by
  unfold midB
  by_cases h : x = i ∧ y = k
  · obtain ⟨rfl, rfl⟩ := h
    rw [if_pos ⟨rfl, rfl⟩, if_pos (by omega)]
    rfl
  · rw [if_neg h]
    by_cases h2 : x < i ∨ (x = i ∧ y < k)
    · rw [if_pos h2, if_pos (by omega)]
    · rw [if_neg h2, if_neg (by omega)]

theorem info_bools7 : (Try.prog.info? 72).map (fun i => (i.zero, i.size, i.bytes)) = some (some (.slice none 0 0), 1, 24) := by kernel_rfl
theorem info_bool7 : (Try.prog.info? 4).map (fun i => (i.zero, i.size, i.bytes)) = some (some (.bool false), 1, 1) := by kernel_rfl
theorem info_parts7 {t : TypeId} {z : Value} {n b : Nat} (h : (Try.prog.info? t).map (fun i => (i.zero, i.size, i.bytes)) = some (some z, n, b)) : ∃ i, Try.prog.info? t = some i ∧ i.zero = some z ∧ i.size = n ∧ i.bytes = b := by
  cases e : Try.prog.info? t with
  | none => rw [e] at h; simp at h
  | some i => rw [e] at h; simp at h; exact ⟨i, rfl, h.1, h.2.1, h.2.2⟩

set_option maxRecDepth 100000 in
set_option maxHeartbeats 4000000 in
theorem Reach_any (rv : Value) (l : List Rule) (w : World) (hr : RulesV w w.heap.size rv l) (h40 : l.length ≤ 40) :
    Calls Try.prog 78 #[rv] w fun e w' => ∃ (g : Nat) (G : Nat → Nat), e = .returned (.slice (some ⟨g, 0, none⟩) l.length l.length) ∧ w.heap.size ≤ g ∧ TabB w' g l.length l.length G (Wal.wal (stepB (directR l)) l.length) ∧ Below w.heap.size w w' := by
  have hrh := Lib.hid hr
  obtain ⟨A, cap, rfl, hlen, hc⟩ := hr
  replace hc := Lib.hid hc
  obtain ⟨i5, hi5, hz5, hs5, hy5⟩ := info_parts7 info_bools7
  obtain ⟨i6, hi6, hz6, hs6, hy6⟩ := info_parts7 info_bool7
  replace hi5 := Lib.hid hi5
  replace hz5 := Lib.hid hz5
  replace hs5 := Lib.hid hs5
  replace hi6 := Lib.hid hi6
  replace hz6 := Lib.hid hz6
  replace hs6 := Lib.hid hs6
  have hl5 := Lib.hid (show i5.bytes * l.length ≤ 281474976710656 by rw [hy5]; omega)
  have hl6 := Lib.hid (show i6.bytes * l.length ≤ 281474976710656 by rw [hy6]; omega)
  have hl63 := Lib.hid (show l.length ≤ 9223372036854775807 by omega)
  clear hy5 hy6
  go_enter Try.func78, Try.ntmps78
  go_wp2_with (at_make; refine wpList_make_row _ rfl _ _ 121 rfl 72 i5 _ Try.underlying121 hi5.out hz5.out hs5.out rfl .i64 .i64 l.length rfl rfl hl5.out hl63.out ?_)
  go_loopg [14] l.length (fun n k wr => ∃ (i : Nat) (G : Nat → Nat), i ≤ l.length ∧ n = l.length - i ∧ k = .int .i64 i ∧ Hid (TabB wr w.heap.size l.length i G (stepB (directR l))) ∧ Below w.heap.size w wr)
  case atStart => exact ⟨0, fun _ => 0, by omega, rfl, rfl, Lib.hid (TabB.start w l.length _ _), (by repeat (first | exact Below.refl _ _ | assumption | refine Below.n _ ?_ (by first | omega | (simp; done) | (simp; omega)) | refine Below.alloc ?_ (by first | omega | (simp; done) | (simp; omega)) _ | refine Below.setCell ?_ (by first | omega | (simp; done) | (simp; omega)) _ | refine Below.drew ?_ | refine Below.setRow ?_ (by first | omega | (simp; done) | (simp; omega)) _ | refine Below.drewN ?_ _))⟩
  case round =>
    obtain ⟨i, G, hi, hn, rfl, hT, hbw⟩ := hrel
    replace hn := Lib.hid hn
    by_cases hlt : i < l.length
    · obtain ⟨ri, hri⟩ : ∃ c, l[i]? = some c := ⟨_, List.getElem?_eq_getElem hlt⟩
      obtain ⟨d1, d2⟩ := hT.out.rest (Nat.le_refl _) hlt
      have z := hbw.size
      have zg := hT.out.lt.1
      go_wp2_with (at_make; refine wpList_make_row _ rfl _ _ 72 rfl 4 i6 _ Try.underlying72 hi6.out hz6.out hs6.out rfl .i64 .i64 l.length rfl rfl hl6.out hl63.out ?_)
      have hmore := hT.out.more hlt
      have hT2 := Lib.hid (hmore.congr (r' := fun x y => if x = i then (decide (y < 0) && stepB (directR l) i y) else stepB (directR l) x y) (fun x y _ _ => by by_cases e : x = i <;> simp [e]))
      clear hmore hT d1 d2
      obtain ⟨G2, hG2⟩ : ∃ G2 : Nat → Nat, G2 = fun x => if x = i then wr.heap.size else G x := ⟨_, rfl⟩
      rw [← hG2] at hT2
      clear hG2
      replace hri := Lib.hid hri
      obtain ⟨wo, rfl⟩ : ∃ wo : World, wo = wr := ⟨_, rfl⟩
      go_loopg [25] l.length (fun n s wr2 => ∃ k : Nat, k ≤ l.length ∧ n = l.length - k ∧ s = .int .i64 k ∧ Hid (TabB wr2 w.heap.size l.length (i + 1) G2 (fun x y => if x = i then (decide (y < k) && stepB (directR l) i y) else stepB (directR l) x y)) ∧ Below w.heap.size w wr2)
      case atStart => exact ⟨0, Nat.zero_le _, rfl, rfl, hT2, (by repeat (first | exact Below.refl _ _ | assumption | refine Below.n _ ?_ (by first | omega | (simp; done) | (simp; omega)) | refine Below.alloc ?_ (by first | omega | (simp; done) | (simp; omega)) _ | refine Below.setCell ?_ (by first | omega | (simp; done) | (simp; omega)) _ | refine Below.drew ?_ | refine Below.setRow ?_ (by first | omega | (simp; done) | (simp; omega)) _ | refine Below.drewN ?_ _))⟩
      case round =>
        clear hbw hT2
        obtain ⟨k, hk, hq, rfl, hT, hbw⟩ := hrel
        replace hq := Lib.hid hq
        by_cases hlk : k < l.length
        · obtain ⟨rk, hrk⟩ : ∃ c, l[k]? = some c := ⟨_, List.getElem?_eq_getElem hlk⟩
          obtain ⟨b, o, rfl, hbl, k0, hnl, _⟩ := hc.out k rk hrk
          obtain ⟨b', o', he', _, _, _, hE⟩ := hc.out i ri hri.out
          cases he'
          have hstep := step_iff hri.out hrk
          have zz := hbw.size
          have zbl : b < wr.heap.size := by omega
          obtain ⟨v0, v1, v2, v3, hnl1, A1, cap1, v4, hkl1, hkv1⟩ := (hE.below hbw (Nat.le_refl _) (Nat.le_refl _) hbl).out
          have c0 : wr.cell? ⟨b, o + k * 6, none⟩ = some (strV rk.name) := (hbw.cell (p := ⟨b, _, none⟩) hbl).trans k0
          have c1 : wr.cell? ⟨b, o + i * 6 + 1, none⟩ = some (.int .i64 ri.expr.kind) := v0
          have c2 : wr.cell? ⟨b, o + i * 6 + 2, none⟩ = some (.int .i64 ri.expr.a) := v1
          have c3 : wr.cell? ⟨b, o + i * 6 + 3, none⟩ = some (.int .i64 ri.expr.b) := v2
          have c4 : wr.cell? ⟨b, o + i * 6 + 4, none⟩ = some (strV ri.expr.name) := v3
          have c5 : wr.cell? ⟨b, o + i * 6 + 5, none⟩ = some (.slice A1 ri.expr.kids.length cap1) := v4
          obtain ⟨r0, _⟩ := hT.out.row (Nat.lt_succ_self i)
          have hlG := (hT.out.lt.2 i (Nat.lt_succ_self i))
          obtain ⟨t0, t1⟩ := hT.out.at (Nat.lt_succ_self i) hlk
          have hA := Lib.hid (fun m : After wr.heap.size wr => At_any _ l rk.name m.w (hrh.out.below (hbw.trans (m.below.mono zz)) (Nat.le_refl _) (by have := m.size; omega)))
          have hS := Lib.hid (fun m : After wr.heap.size wr => Speaks_any (nodesE ri.expr) ri.expr (.agg #[.int .i64 ri.expr.kind, .int .i64 ri.expr.a, .int .i64 ri.expr.b, strV ri.expr.name, .slice A1 ri.expr.kids.length cap1]) rk.name m.w w.heap.size (Nat.le_refl _) ⟨A1, cap1, rfl, hnl1, hkl1, hkv1.below m.below zz (Nat.le_refl _)⟩ (by have := m.size; omega))
          have hput := Lib.hid (fun (W : World) (hW : TabB W w.heap.size l.length (i + 1) G2 (fun x y => if x = i then (decide (y < k) && stepB (directR l) i y) else stepB (directR l) x y)) => (hW.put (Nat.lt_succ_self i) hlk (stepB (directR l) i k)).congr (r' := fun x y => if x = i then (decide (y < k + 1) && stepB (directR l) i y) else stepB (directR l) x y) (fun x y _ _ => by
            by_cases e : x = i
            · subst e
              by_cases e2 : y = k
              · subst e2; simp
              · have e3 : (y < k + 1) = (y < k) := by apply propext; omega
                simp [e2, e3]
            · simp [e]))
          clear v0 v1 v2 v3 v4 hE k0 hrk hkv1
          generalize hgi : G2 i = gi at *
          cases hf : (findI l rk.name == (k : Int)) with
          | false =>
            rw [hf, Bool.false_and] at hstep
            rw [hstep] at hput
            clear hstep
            go_wp2_with fail
            refine wp_region_below_tail 28 (wr.heap.size) _ (Below.refl _ _) (by kernel_rfl) (by kernel_rfl) ?_
            simp only [List.take_succ_cons, List.take_zero, List.drop_succ_cons, List.drop_zero]
            iterate 28 (go_big_quiet_step (((go_at_call 76; exact quiet_below (Nat.le_refl _) (hA.out _)))))
            refine wpQuiet_nil ?_
            rintro _ ⟨m1, rfl⟩
            change wpList _ _ _ _ _ _
            have hb1 := m1.below
            have hT1 := hT.out.heap hb1 (Nat.le_refl _)
            go_wp2
            go_roundg (l.length - (k + 1))
            case measure => rw [hq.out]; omega
            case rel => exact ⟨k + 1, by omega, rfl, by go_num, Lib.hid (hput.out _ hT1), (by repeat (first | exact Below.refl _ _ | assumption | refine Below.n _ ?_ (by first | omega | (simp; done) | (simp; omega)) | refine Below.alloc ?_ (by first | omega | (simp; done) | (simp; omega)) _ | refine Below.setCell ?_ (by first | omega | (simp; done) | (simp; omega)) _ | refine Below.drew ?_ | refine Below.setRow ?_ (by first | omega | (simp; done) | (simp; omega)) _ | refine Below.drewN ?_ _))⟩
          | true =>
            rw [hf, Bool.true_and] at hstep
            rw [hstep] at hput
            clear hstep
            generalize speaksE ri.expr rk.name = sp at *
            go_wp2_with fail
            refine wp_region_below_tail 28 (wr.heap.size) _ (Below.refl _ _) (by kernel_rfl) (by kernel_rfl) ?_
            simp only [List.take_succ_cons, List.take_zero, List.drop_succ_cons, List.drop_zero]
            iterate 28 (go_big_quiet_step (((first | (go_at_call 76; exact quiet_below (Nat.le_refl _) (hA.out _)) | (go_at_call 22; exact quiet_below (Nat.le_refl _) (hS.out _))))))
            refine wpQuiet_nil ?_
            rintro _ ⟨m1, rfl⟩
            change wpList _ _ _ _ _ _
            have hb1 := m1.below
            have hT1 := hT.out.heap hb1 (Nat.le_refl _)
            go_wp2
            go_roundg (l.length - (k + 1))
            case measure => rw [hq.out]; omega
            case rel => exact ⟨k + 1, by omega, rfl, by go_num, Lib.hid (hput.out _ hT1), (by repeat (first | exact Below.refl _ _ | assumption | refine Below.n _ ?_ (by first | omega | (simp; done) | (simp; omega)) | refine Below.alloc ?_ (by first | omega | (simp; done) | (simp; omega)) _ | refine Below.setCell ?_ (by first | omega | (simp; done) | (simp; omega)) _ | refine Below.drew ?_ | refine Below.setRow ?_ (by first | omega | (simp; done) | (simp; omega)) _ | refine Below.drewN ?_ _))⟩
        · obtain rfl : k = l.length := by omega
          have hcg := Lib.hid (hT.out.congr (r' := stepB (directR l)) (fun x y _ hy => by
            by_cases e : x = i
            · subst e; simp [hy]
            · simp [e]))
          go_wp2
          go_roundg (l.length - (i + 1))
          case measure => rw [hn.out]; omega
          case rel => exact ⟨i + 1, G2, by omega, rfl, by go_num, hcg, hbw⟩
    · obtain rfl : i = l.length := by omega
      obtain ⟨wo, rfl⟩ : ∃ wo : World, wo = wr := ⟨_, rfl⟩
      clear hn
      go_wp2
      go_loopg [60] l.length (fun n s wr2 => ∃ m : Nat, m ≤ l.length ∧ n = l.length - m ∧ s = .int .i64 m ∧ Hid (TabB wr2 w.heap.size l.length l.length G (Wal.wal (stepB (directR l)) m)) ∧ Below w.heap.size w wr2)
      case atStart => exact ⟨0, Nat.zero_le _, rfl, rfl, hT, hbw⟩
      case round =>
        clear hbw hT
        obtain ⟨m, hm, hn, rfl, hT, hbw⟩ := hrel
        replace hn := Lib.hid hn
        by_cases hlm : m < l.length
        · have hT1 := Lib.hid (hT.out.congr (r' := midB (stepB (directR l)) m 0 0) (fun x y _ _ => (midB_start _ _ _ _).symm))
          clear hT
          obtain ⟨wo2, rfl⟩ : ∃ wo2 : World, wo2 = wr := ⟨_, rfl⟩
          go_wp2
          go_loopg [65] l.length (fun n s wr2 => ∃ i : Nat, i ≤ l.length ∧ n = l.length - i ∧ s = .int .i64 i ∧ Hid (TabB wr2 w.heap.size l.length l.length G (midB (stepB (directR l)) m i 0)) ∧ Below w.heap.size w wr2)
          case atStart => exact ⟨0, Nat.zero_le _, rfl, rfl, hT1, hbw⟩
          case round =>
            clear hbw hT1
            obtain ⟨i, hi, hq, rfl, hT, hbw⟩ := hrel
            replace hq := Lib.hid hq
            by_cases hli : i < l.length
            · obtain ⟨wo3, rfl⟩ : ∃ wo3 : World, wo3 = wr := ⟨_, rfl⟩
              go_wp2
              go_loopg [70] l.length (fun n s wr2 => ∃ k : Nat, k ≤ l.length ∧ n = l.length - k ∧ s = .int .i64 k ∧ Hid (TabB wr2 w.heap.size l.length l.length G (midB (stepB (directR l)) m i k)) ∧ Below w.heap.size w wr2)
              case atStart => exact ⟨0, Nat.zero_le _, rfl, rfl, hT, hbw⟩
              case round =>
                clear hbw hT
                obtain ⟨k, hk, hp, rfl, hT, hbw⟩ := hrel
                replace hp := Lib.hid hp
                by_cases hlk : k < l.length
                · obtain ⟨a0, _⟩ := hT.out.row hli
                  obtain ⟨b0, _⟩ := hT.out.row hlm
                  obtain ⟨a1, a2⟩ := hT.out.at hli hlk
                  obtain ⟨a3, _⟩ := hT.out.at hli hlm
                  obtain ⟨b1, _⟩ := hT.out.at hlm hlk
                  rw [midB_here] at a1
                  rw [midB_col] at a3
                  rw [midB_way] at b1
                  have hput := Lib.hid ((hT.out.put hli hlk (Wal.wal (stepB (directR l)) m i k || (Wal.wal (stepB (directR l)) m i m && Wal.wal (stepB (directR l)) m m k))).congr (fun x y _ _ => midB_next (stepB (directR l)) m i k x y))
                  have hgi := hT.out.lt.2 i hli
                  generalize G i = gi at *
                  generalize G m = gm at *
                  generalize Wal.wal (stepB (directR l)) m i k = q1 at *
                  generalize Wal.wal (stepB (directR l)) m i m = q2 at *
                  generalize Wal.wal (stepB (directR l)) m m k = q3 at *
                  have z := hbw.size
                  cases q1
                  · cases q2
                    · simp only [Bool.or_false, Bool.false_and] at hput
                      go_wp2_with fail
                      go_region
                      all_goals
                        go_wp2_with fail
                        go_roundg (l.length - (k + 1))
                        case measure => rw [hp.out]; omega
                        case rel => exact ⟨k + 1, by omega, rfl, by go_num, hput, (by repeat (first | exact Below.refl _ _ | assumption | refine Below.n _ ?_ (by first | omega | (simp; done) | (simp; omega)) | refine Below.alloc ?_ (by first | omega | (simp; done) | (simp; omega)) _ | refine Below.setCell ?_ (by first | omega | (simp; done) | (simp; omega)) _ | refine Below.drew ?_ | refine Below.setRow ?_ (by first | omega | (simp; done) | (simp; omega)) _ | refine Below.drewN ?_ _))⟩
                    · simp only [Bool.false_or, Bool.true_and] at hput
                      go_wp2_with fail
                      go_region
                      all_goals
                        go_wp2_with fail
                        go_roundg (l.length - (k + 1))
                        case measure => rw [hp.out]; omega
                        case rel => exact ⟨k + 1, by omega, rfl, by go_num, hput, (by repeat (first | exact Below.refl _ _ | assumption | refine Below.n _ ?_ (by first | omega | (simp; done) | (simp; omega)) | refine Below.alloc ?_ (by first | omega | (simp; done) | (simp; omega)) _ | refine Below.setCell ?_ (by first | omega | (simp; done) | (simp; omega)) _ | refine Below.drew ?_ | refine Below.setRow ?_ (by first | omega | (simp; done) | (simp; omega)) _ | refine Below.drewN ?_ _))⟩
                  · simp only [Bool.true_or] at hput
                    go_wp2_with fail
                    go_region
                    all_goals
                      go_wp2_with fail
                      go_roundg (l.length - (k + 1))
                      case measure => rw [hp.out]; omega
                      case rel => exact ⟨k + 1, by omega, rfl, by go_num, hput, (by repeat (first | exact Below.refl _ _ | assumption | refine Below.n _ ?_ (by first | omega | (simp; done) | (simp; omega)) | refine Below.alloc ?_ (by first | omega | (simp; done) | (simp; omega)) _ | refine Below.setCell ?_ (by first | omega | (simp; done) | (simp; omega)) _ | refine Below.drew ?_ | refine Below.setRow ?_ (by first | omega | (simp; done) | (simp; omega)) _ | refine Below.drewN ?_ _))⟩
                · obtain rfl : k = l.length := by omega
                  have hcg := Lib.hid (hT.out.congr (fun x y _ hy => midB_row (stepB (directR l)) m i _ x y hy))
                  go_wp2
                  go_roundg (l.length - (i + 1))
                  case measure => rw [hq.out]; omega
                  case rel => exact ⟨i + 1, by omega, rfl, by go_num, hcg, hbw⟩
            · obtain rfl : i = l.length := by omega
              have hcg := Lib.hid (hT.out.congr (fun x y hx _ => midB_end (stepB (directR l)) m _ x y hx))
              go_wp2
              go_roundg (l.length - (m + 1))
              case measure => rw [hn.out]; omega
              case rel => exact ⟨m + 1, by omega, rfl, by go_num, hcg, hbw⟩
        · obtain rfl : m = l.length := by omega
          go_wp2
          go_ret
          exact ⟨_, G, rfl, Nat.le_refl _, hT.out, hbw⟩

end Ru
end Go.Proofs.Ytbncbkaonkcgeaa

namespace Go.Proofs.Ytbncbkaonkcgeaa
open Go.RowKit
namespace Ru
open Vm (TabB)
open Sl (strV Reads)

def ringErr (l : List Rule) (i : Nat) : Int := if Wal.wal (stepB (directR l)) l.length i i = true then 9 else 0
/-- what is wrong with rules -/
def wrongR (l : List Rule) : Int × Int :=
  if (wrongF l).1 = 0 then
    if (firstErr (dupErr l) 0 l).1 = 0 then
      if (firstErr (fun i _ => noneErr l i) 0 l).1 = 0 then firstErr (fun i _ => ringErr l i) 0 l
      else firstErr (fun i _ => noneErr l i) 0 l
    else firstErr (dupErr l) 0 l
  else wrongF l

theorem noneErr_at {l : List Rule} {i : Nat} {r : Rule} (h : l[i]? = some r) : noneErr l i = if unknownE l r.expr = true then 6 else 0 := by
  unfold noneErr directR
  rw [h, unknown_names]
  rfl

set_option maxRecDepth 100000 in
set_option maxHeartbeats 4000000 in
theorem RWrong_form (v : Value) (l : List Rule) (w : World) (hr : RulesV w w.heap.size v l) (hf : (wrongF l).1 ≠ 0) : Calls Try.prog 37 #[v] w fun e w' => e = .returned (faultV (wrongR l)) ∧ Below w.heap.size w w' := by
  have hw : wrongR l = wrongF l := if_neg hf
  rw [hw]
  clear hw
  have hbA : Below w.heap.size w (w.alloc (.cells #[.int .i64 0, .int .i64 0] 26)) := (Below.refl _ _).alloc (Nat.le_refl _) _
  have hP := Lib.hid (RfWrong_any v l (w.alloc (.cells #[.int .i64 0, .int .i64 0] 26)) (hr.below hbA (Nat.le_refl _) (by simp)))
  have B0 := Blk.new w 26 #[.int .i64 0, .int .i64 0]
  obtain ⟨A, cap, rfl, _⟩ := hr
  have g : ((wrongF l).1 != 0) = true := by simpa using hf
  generalize wrongF l = q at *
  obtain ⟨q1, q2⟩ := q
  unfold faultV at hP ⊢
  simp only at g hP ⊢
  clear hf
  go_enter Try.func37, Try.ntmps37
  go_wp2_with (go_at_call 75; refine hP.out.mono ?_; rintro e w1 ⟨rfl, hb1⟩; have hz1 := hb1.size; simp at hz1; have B1 := B0.below hb1 (by simp); have s0 : w1.cell? ⟨w.heap.size, 0, none⟩ = some (.int .i64 0) := B1.cell 0; have s1 : w1.cell? ⟨w.heap.size, 1, none⟩ = some (.int .i64 0) := B1.cell 1; have t0 : w1.frozen? ⟨w.heap.size, 0, none⟩ = false := B1.frozen 0; have t1 : w1.frozen? ⟨w.heap.size, 1, none⟩ = false := B1.frozen 1)
  have hb2 : Below w.heap.size w w1 := hbA.trans (hb1.mono (by simp))
  have hlw : w.heap.size < w1.heap.size := by omega
  exact bodyPost_ret (v := .agg #[.int .i64 q1, .int .i64 q2]) (by simp [results, Try.results37, s0, s1, hlw, go_sem]) rfl ⟨rfl, ((hb2.alloc (by omega) _).setCell (by simp) _).setCell (by simp) _⟩

set_option maxRecDepth 100000 in
set_option maxHeartbeats 8000000 in
theorem RWrong_right (v : Value) (l : List Rule) (w : World) (hr : RulesV w w.heap.size v l) (hf : (wrongF l).1 = 0) : Calls Try.prog 37 #[v] w fun e w' => e = .returned (faultV (wrongR l)) ∧ Below w.heap.size w w' := by
  have hw : wrongR l = if (firstErr (dupErr l) 0 l).1 = 0 then if (firstErr (fun i _ => noneErr l i) 0 l).1 = 0 then firstErr (fun i _ => ringErr l i) 0 l else firstErr (fun i _ => noneErr l i) 0 l else firstErr (dupErr l) 0 l := if_pos hf
  have hbA : Below w.heap.size w (w.alloc (.cells #[.int .i64 0, .int .i64 0] 26)) := (Below.refl _ _).alloc (Nat.le_refl _) _
  have hP := Lib.hid (RfWrong_any v l (w.alloc (.cells #[.int .i64 0, .int .i64 0] 26)) (hr.below hbA (Nat.le_refl _) (by simp)))
  have B0 := Blk.new w 26 #[.int .i64 0, .int .i64 0]
  have hrr := Lib.hid hr
  obtain ⟨h40, hrx⟩ := form_right hf
  obtain ⟨A, cap, rfl, hlen, hc⟩ := hr
  generalize wrongF l = q at *
  obtain ⟨q1, q2⟩ := q
  unfold faultV at hP
  simp only at hf hP
  subst hf
  replace hc := Lib.hid hc
  replace hrx := Lib.hid hrx
  replace hw := Lib.hid hw
  go_enter Try.func37, Try.ntmps37
  go_wp2_with (go_at_call 75; refine hP.out.mono ?_; rintro e w1 ⟨rfl, hb1⟩; have hz1 := hb1.size; simp at hz1; have B1 := B0.below hb1 (by simp))
  have hb2 : Below w.heap.size w w1 := hbA.trans (hb1.mono (by simp))
  go_loopg [18] l.length (fun n k wr => ∃ j : Nat, j ≤ l.length ∧ n = l.length - j ∧ k = .int .i64 j ∧ Hid (firstErr (dupErr l) j (l.drop j) = firstErr (dupErr l) 0 l) ∧ Below w.heap.size w wr ∧ Blk wr w.heap.size 26 #[.int .i64 0, .int .i64 0])
  case atStart => exact ⟨0, by omega, rfl, rfl, Lib.hid rfl, hb2.alloc (by omega) _, B1.alloc _⟩
  case round =>
    obtain ⟨j, hj, hn, rfl, hf, hb, B2⟩ := hrel
    replace hn := Lib.hid hn
    have zb := hb.size
    have zr := B2.lt
    by_cases hlt : j < l.length
    · obtain ⟨r, hx⟩ : ∃ r, l[j]? = some r := ⟨_, List.getElem?_eq_getElem hlt⟩
      obtain ⟨b, o, rfl, hbl, k0, hnl, hE⟩ := hc.out j r hx
      have hst : firstErr (dupErr l) 0 l = if dupErr l j r = 0 then firstErr (dupErr l) (j + 1) (l.drop (j + 1)) else (dupErr l j r, (j : Int)) := hf.out.symm.trans (firstErr_at _ hx)
      rw [dup_place hx] at hst
      have zbl : b < wr.heap.size := by omega
      obtain ⟨v0, v1, v2, v3, hnl1, A1, cap1, v4, hkl1, hkv1⟩ := (hE.below hb (Nat.le_refl _) (Nat.le_refl _) hbl).out
      have d0 : wr.cell? ⟨b, o + j * 6, none⟩ = some (strV r.name) := (hb.cell (p := ⟨b, _, none⟩) hbl).trans k0
      have d1 : wr.cell? ⟨b, o + j * 6 + 1, none⟩ = some (.int .i64 r.expr.kind) := v0
      have d2 : wr.cell? ⟨b, o + j * 6 + 2, none⟩ = some (.int .i64 r.expr.a) := v1
      have d3 : wr.cell? ⟨b, o + j * 6 + 3, none⟩ = some (.int .i64 r.expr.b) := v2
      have d4 : wr.cell? ⟨b, o + j * 6 + 4, none⟩ = some (strV r.expr.name) := v3
      have d5 : wr.cell? ⟨b, o + j * 6 + 5, none⟩ = some (.slice A1 r.expr.kids.length cap1) := v4
      have B3 := B2.alloc (.cells #[strV r.name, .int .i64 r.expr.kind, .int .i64 r.expr.a, .int .i64 r.expr.b, strV r.expr.name, .slice A1 r.expr.kids.length cap1] 45)
      have hb3 : Below w.heap.size w (wr.alloc (.cells #[strV r.name, .int .i64 r.expr.kind, .int .i64 r.expr.a, .int .i64 r.expr.b, strV r.expr.name, .slice A1 r.expr.kids.length cap1] 45)) := hb.alloc zb _
      have hA := Lib.hid (At_any _ l r.name (wr.alloc (.cells #[strV r.name, .int .i64 r.expr.kind, .int .i64 r.expr.a, .int .i64 r.expr.b, strV r.expr.name, .slice A1 r.expr.kids.length cap1] 45)) (hrr.out.below hb3 (Nat.le_refl _) (by simp; omega)))
      clear v0 v1 v2 v3 v4 k0 hx hE hkv1
      by_cases hfi : findI l r.name = j
      · rw [if_pos hfi, if_pos rfl] at hst
        rw [hfi] at hA
        replace hst := Lib.hid hst
        clear hfi
        go_wp2_with (go_at_call 76; refine hA.out.mono ?_; rintro e w5 ⟨rfl, hb5⟩)
        have hz5 := hb5.size
        simp at hz5
        go_roundg (l.length - (j + 1))
        case measure => rw [hn.out]; omega
        case rel => exact ⟨j + 1, by omega, rfl, by go_num, Lib.hid hst.out.symm, hb3.trans (hb5.mono (by simp; omega)), B3.below hb5 (by simp; omega)⟩
      · rw [if_neg hfi, if_neg (by decide)] at hst
        have hw2 := Lib.hid (show wrongR l = (7, (j : Int)) by rw [hw.out, if_neg (by rw [hst]; simp), hst])
        have g : (findI l r.name != (j : Int)) = true := by simpa using hfi
        generalize findI l r.name = fi at *
        clear hfi hst
        go_wp2_with (go_at_call 76; refine hA.out.mono ?_; rintro e w5 ⟨rfl, hb5⟩; have hz5 := hb5.size; simp at hz5; have B5 := B3.below hb5 (by simp; omega); have s0 : w5.cell? ⟨w.heap.size, 0, none⟩ = some (.int .i64 0) := B5.cell 0; have s1 : w5.cell? ⟨w.heap.size, 1, none⟩ = some (.int .i64 0) := B5.cell 1; have t0 : w5.frozen? ⟨w.heap.size, 0, none⟩ = false := B5.frozen 0; have t1 : w5.frozen? ⟨w.heap.size, 1, none⟩ = false := B5.frozen 1)
        have hb6 : Below w.heap.size w w5 := hb3.trans (hb5.mono (by simp; omega))
        have E := (B5.set 0 (.int .i64 7)).set 1 (.int .i64 j)
        have e0 := (E.cell 0).trans (show _ = some (Value.int .i64 7) from rfl)
        have e1 := (E.cell 1).trans (show _ = some (Value.int .i64 j) from rfl)
        exact bodyPost_ret (v := faultV (7, (j : Nat))) (by simp [results, Try.results37, e0, e1, go_sem, faultV]) rfl ⟨by rw [hw2.out], (hb6.setCell (by simp) _).setCell (by simp) _⟩
    · obtain rfl : j = l.length := by omega
      have hz0 : (firstErr (dupErr l) 0 l).1 = 0 := by rw [← hf.out, List.drop_length]; rfl
      have hw3 : wrongR l = if (firstErr (fun i _ => noneErr l i) 0 l).1 = 0 then firstErr (fun i _ => ringErr l i) 0 l else firstErr (fun i _ => noneErr l i) 0 l := by rw [hw.out, if_pos hz0]
      replace hw3 := Lib.hid hw3
      clear hz0 hf hn hw zb zr
      obtain ⟨w2, hw2⟩ : ∃ w2 : World, w2 = wr := ⟨_, rfl⟩
      subst hw2
      go_wp2
      go_loopg [34] l.length (fun n k wr => ∃ j : Nat, j ≤ l.length ∧ n = l.length - j ∧ k = .int .i64 j ∧ Hid (firstErr (fun i _ => noneErr l i) j (l.drop j) = firstErr (fun i _ => noneErr l i) 0 l) ∧ Below w.heap.size w wr ∧ Blk wr w.heap.size 26 #[.int .i64 0, .int .i64 0])
      case atStart => exact ⟨0, by omega, rfl, rfl, Lib.hid rfl, hb, B2⟩
      case round =>
        clear hb B2
        obtain ⟨j, hj, hn, rfl, hf, hb, B2⟩ := hrel
        replace hn := Lib.hid hn
        have zb := hb.size
        have zr := B2.lt
        by_cases hlt : j < l.length
        · obtain ⟨r, hx⟩ : ∃ r, l[j]? = some r := ⟨_, List.getElem?_eq_getElem hlt⟩
          obtain ⟨b, o, rfl, hbl, k0, hnl, hE⟩ := hc.out j r hx
          have hst : firstErr (fun i _ => noneErr l i) 0 l = if noneErr l j = 0 then firstErr (fun i _ => noneErr l i) (j + 1) (l.drop (j + 1)) else (noneErr l j, (j : Int)) := hf.out.symm.trans (firstErr_at _ hx)
          rw [noneErr_at hx] at hst
          have zbl : b < wr.heap.size := by omega
          obtain ⟨v0, v1, v2, v3, hnl1, A1, cap1, v4, hkl1, hkv1⟩ := (hE.below hb (Nat.le_refl _) (Nat.le_refl _) hbl).out
          have d0 : wr.cell? ⟨b, o + j * 6, none⟩ = some (strV r.name) := (hb.cell (p := ⟨b, _, none⟩) hbl).trans k0
          have d1 : wr.cell? ⟨b, o + j * 6 + 1, none⟩ = some (.int .i64 r.expr.kind) := v0
          have d2 : wr.cell? ⟨b, o + j * 6 + 2, none⟩ = some (.int .i64 r.expr.a) := v1
          have d3 : wr.cell? ⟨b, o + j * 6 + 3, none⟩ = some (.int .i64 r.expr.b) := v2
          have d4 : wr.cell? ⟨b, o + j * 6 + 4, none⟩ = some (strV r.expr.name) := v3
          have d5 : wr.cell? ⟨b, o + j * 6 + 5, none⟩ = some (.slice A1 r.expr.kids.length cap1) := v4
          have B3 := B2.alloc (.cells #[strV r.name, .int .i64 r.expr.kind, .int .i64 r.expr.a, .int .i64 r.expr.b, strV r.expr.name, .slice A1 r.expr.kids.length cap1] 45)
          have hb3 : Below w.heap.size w (wr.alloc (.cells #[strV r.name, .int .i64 r.expr.kind, .int .i64 r.expr.a, .int .i64 r.expr.b, strV r.expr.name, .slice A1 r.expr.kids.length cap1] 45)) := hb.alloc zb _
          have hwr3 : Below w.heap.size wr (wr.alloc (.cells #[strV r.name, .int .i64 r.expr.kind, .int .i64 r.expr.a, .int .i64 r.expr.b, strV r.expr.name, .slice A1 r.expr.kids.length cap1] 45)) := (Below.refl _ _).alloc zb _
          have hA := Lib.hid (Unknown_any l (nodesE r.expr) r.expr (.agg #[.int .i64 r.expr.kind, .int .i64 r.expr.a, .int .i64 r.expr.b, strV r.expr.name, .slice A1 r.expr.kids.length cap1]) _ (wr.alloc (.cells #[strV r.name, .int .i64 r.expr.kind, .int .i64 r.expr.a, .int .i64 r.expr.b, strV r.expr.name, .slice A1 r.expr.kids.length cap1] 45)) w.heap.size (Nat.le_refl _) ⟨A1, cap1, rfl, hnl1, hkl1, hkv1.below hwr3 (Nat.le_refl _) (Nat.le_refl _)⟩ (by simp; omega) (hrr.out.below hb3 (Nat.le_refl _) (Nat.le_refl _)))
          clear v0 v1 v2 v3 v4 k0 hx hE hkv1
          cases hu : unknownE l r.expr with
          | false =>
            rw [hu, if_pos (show (if (false = true) then (6 : Int) else 0) = 0 from rfl)] at hst
            rw [hu] at hA
            replace hst := Lib.hid hst
            clear hu
            go_wp2_with (go_at_call 77; refine hA.out.mono ?_; rintro e w5 ⟨rfl, hb5⟩)
            have hz5 := hb5.size
            simp at hz5
            go_roundg (l.length - (j + 1))
            case measure => rw [hn.out]; omega
            case rel => exact ⟨j + 1, by omega, rfl, by go_num, Lib.hid hst.out.symm, hb3.trans (hb5.mono (by simp; omega)), B3.below hb5 (by simp; omega)⟩
          | true =>
            rw [hu, if_neg (show ¬ (if (true = true) then (6 : Int) else 0) = 0 by decide), if_pos rfl] at hst
            rw [hu] at hA
            have hw2 := Lib.hid (show wrongR l = (6, (j : Int)) by rw [hw3.out, if_neg (by rw [hst]; simp), hst])
            clear hu hst
            go_wp2_with (go_at_call 77; refine hA.out.mono ?_; rintro e w5 ⟨rfl, hb5⟩; have hz5 := hb5.size; simp at hz5; have B5 := B3.below hb5 (by simp; omega); have s0 : w5.cell? ⟨w.heap.size, 0, none⟩ = some (.int .i64 0) := B5.cell 0; have s1 : w5.cell? ⟨w.heap.size, 1, none⟩ = some (.int .i64 0) := B5.cell 1; have t0 : w5.frozen? ⟨w.heap.size, 0, none⟩ = false := B5.frozen 0; have t1 : w5.frozen? ⟨w.heap.size, 1, none⟩ = false := B5.frozen 1)
            have hb6 : Below w.heap.size w w5 := hb3.trans (hb5.mono (by simp; omega))
            have E := (B5.set 0 (.int .i64 6)).set 1 (.int .i64 j)
            have e0 := (E.cell 0).trans (show _ = some (Value.int .i64 6) from rfl)
            have e1 := (E.cell 1).trans (show _ = some (Value.int .i64 j) from rfl)
            exact bodyPost_ret (v := faultV (6, (j : Nat))) (by simp [results, Try.results37, e0, e1, go_sem, faultV]) rfl ⟨by rw [hw2.out], (hb6.setCell (by simp) _).setCell (by simp) _⟩
        · obtain rfl : j = l.length := by omega
          have hz0 : (firstErr (fun i _ => noneErr l i) 0 l).1 = 0 := by rw [← hf.out, List.drop_length]; rfl
          have hw4 : wrongR l = firstErr (fun i _ => ringErr l i) 0 l := by rw [hw3.out, if_pos hz0]
          replace hw4 := Lib.hid hw4
          clear hz0 hf hn hw3
          have hR := Lib.hid (Reach_any _ l wr (hrr.out.below hb (Nat.le_refl _) zb) h40)
          obtain ⟨w2, hw2⟩ : ∃ w2 : World, w2 = wr := ⟨_, rfl⟩
          subst hw2
          go_wp2_with (go_at_call 78; refine hR.out.mono ?_; rintro e w5 ⟨g, G, rfl, hg, hT, hb5⟩; have hz5 := hb5.size)
          replace hT := Lib.hid hT
          have hb6 : Below w.heap.size w w5 := hb.trans (hb5.mono zb)
          have B6 := B2.below hb5 zr
          go_loopg [49] l.length (fun n k wr => ∃ j : Nat, j ≤ l.length ∧ n = l.length - j ∧ k = .int .i64 j ∧ Hid (firstErr (fun i _ => ringErr l i) j (l.drop j) = firstErr (fun i _ => ringErr l i) 0 l) ∧ wr = w5)
          case atStart => exact ⟨0, by omega, rfl, rfl, Lib.hid rfl, rfl⟩
          case round =>
            obtain ⟨j, hj, hn, rfl, hf, rfl⟩ := hrel
            replace hn := Lib.hid hn
            have s0 : wr.cell? ⟨w.heap.size, 0, none⟩ = some (.int .i64 0) := B6.cell 0
            have s1 : wr.cell? ⟨w.heap.size, 1, none⟩ = some (.int .i64 0) := B6.cell 1
            have t0 : wr.frozen? ⟨w.heap.size, 0, none⟩ = false := B6.frozen 0
            have t1 : wr.frozen? ⟨w.heap.size, 1, none⟩ = false := B6.frozen 1
            by_cases hlt : j < l.length
            · obtain ⟨r, hx⟩ : ∃ r, l[j]? = some r := ⟨_, List.getElem?_eq_getElem hlt⟩
              have hst : firstErr (fun i _ => ringErr l i) 0 l = if ringErr l j = 0 then firstErr (fun i _ => ringErr l i) (j + 1) (l.drop (j + 1)) else (ringErr l j, (j : Int)) := hf.out.symm.trans (firstErr_at _ hx)
              obtain ⟨r0, _⟩ := hT.out.row hlt
              obtain ⟨r1, _⟩ := hT.out.at hlt hlt
              have hre : ringErr l j = if Wal.wal (stepB (directR l)) l.length j j = true then 9 else 0 := rfl
              rw [hre] at hst
              clear hre hx
              generalize G j = gj at *
              cases hu : Wal.wal (stepB (directR l)) l.length j j with
              | false =>
                rw [hu, if_pos (show (if (false = true) then (9 : Int) else 0) = 0 from rfl)] at hst
                rw [hu] at r1
                replace hst := Lib.hid hst
                clear hu
                go_wp2
                go_roundg (l.length - (j + 1))
                case measure => rw [hn.out]; omega
                case rel => exact ⟨j + 1, by omega, rfl, by go_num, Lib.hid hst.out.symm, rfl⟩
              | true =>
                rw [hu, if_neg (show ¬ (if (true = true) then (9 : Int) else 0) = 0 by decide), if_pos rfl] at hst
                rw [hu] at r1
                have hw2 := Lib.hid (show wrongR l = (9, (j : Int)) by rw [hw4.out, hst])
                clear hu hst
                go_wp2
                have E := (B6.set 0 (.int .i64 9)).set 1 (.int .i64 j)
                have e0 := (E.cell 0).trans (show _ = some (Value.int .i64 9) from rfl)
                have e1 := (E.cell 1).trans (show _ = some (Value.int .i64 j) from rfl)
                exact bodyPost_ret (v := faultV (9, (j : Nat))) (by simp [results, Try.results37, e0, e1, go_sem, faultV]) rfl ⟨by rw [hw2.out], (hb6.setCell (by simp) _).setCell (by simp) _⟩
            · obtain rfl : j = l.length := by omega
              have hw2 := Lib.hid (show wrongR l = (0, 0) by rw [hw4.out, ← hf.out, List.drop_length]; rfl)
              clear hn hf
              go_wp2
              have E := (B6.set 0 (.int .i64 0)).set 1 (.int .i64 0)
              have e0 := (E.cell 0).trans (show _ = some (Value.int .i64 0) from rfl)
              have e1 := (E.cell 1).trans (show _ = some (Value.int .i64 0) from rfl)
              exact bodyPost_ret (v := faultV (0, 0)) (by simp [results, Try.results37, e0, e1, go_sem, faultV]) rfl ⟨by rw [hw2.out], (hb6.setCell (by simp) _).setCell (by simp) _⟩

theorem RWrong_any (v : Value) (l : List Rule) (w : World) (hr : RulesV w w.heap.size v l) : Calls Try.prog 37 #[v] w fun e w' => e = .returned (faultV (wrongR l)) ∧ Below w.heap.size w w' := by
  by_cases hf : (wrongF l).1 = 0
  · exact RWrong_right v l w hr hf
  · exact RWrong_form v l w hr hf

end Ru
end Go.Proofs.Ytbncbkaonkcgeaa
