/- The walk of masks.Shift. -/
import Derived.Test.YtbadplbdgpbdaaaDoorMskB
import Derived.Test.YtbadplbdgpbdaaaDoorMask
import Derived.BigRegion
import Derived.Outline
namespace Go.Proofs.YtbadplbdgpbdaaaDoor
open Go.RowKit
namespace Msk

/-- a mask, the first so many words of which are made -/
def shTo (f : Nat → Nat) (W : Int) (r j k : Nat) : Nat := if k < j then shF f W r k else 0
theorem shTo_0 (f : Nat → Nat) (W : Int) (r : Nat) : shTo f W r 0 = fun _ => 0 := by funext k; simp [shTo]
theorem shTo_succ (f : Nat → Nat) (W : Int) (r j : Nat) : (fun k => if k = j then shF f W r j else shTo f W r j k) = shTo f W r (j + 1) := by
  funext k
  unfold shTo
  by_cases h : k = j
  · subst h; simp
  · by_cases h2 : k < j
    · simp [h, h2, show k < j + 1 by omega]
    · simp [h, h2, show ¬ k < j + 1 by omega]

theorem shTo_at (f : Nat → Nat) (W : Int) (r j : Nat) : shTo f W r j j = 0 := by simp [shTo]
theorem wrap_shl (x r : Nat) : IntKind.u64.wrap ((x : Int) * 2 ^ r) = ((x * 2 ^ r % 18446744073709551616 : Nat) : Int) := by
  have e : (x : Int) * 2 ^ r = ((x * 2 ^ r : Nat) : Int) := by norm_cast
  rw [e, IntKind.wrap_u64]
  generalize x * 2 ^ r = y
  omega
theorem div_pow (y k : Nat) : (y : Int) / 2 ^ k = ((y / 2 ^ k : Nat) : Int) := by norm_cast
theorem valA (z x r : Nat) (hz : z = 0) : bits .or .u64 (z : Int) (IntKind.u64.wrap ((x : Int) * 2 ^ r)) = ((x * 2 ^ r % 18446744073709551616 : Nat) : Int) := by
  subst hz
  rw [wrap_shl, u64_or_nat 0 _ (by omega) (by omega), Nat.zero_or]
theorem valB (z y k : Nat) (hz : z = 0) (hy : y < 18446744073709551616) : bits .or .u64 (z : Int) ((y : Int) / 2 ^ k) = ((y / 2 ^ k : Nat) : Int) := by
  subst hz
  rw [div_pow, u64_or_nat 0 _ (by omega) (Nat.lt_of_le_of_lt (Nat.div_le_self _ _) hy), Nat.zero_or]
theorem valAB (z x y r k : Nat) (hz : z = 0) (hy : y < 18446744073709551616) : bits .or .u64 (bits .or .u64 (z : Int) (IntKind.u64.wrap ((x : Int) * 2 ^ r))) ((y : Int) / 2 ^ k) = ((x * 2 ^ r % 18446744073709551616 ||| y / 2 ^ k : Nat) : Int) := by
  rw [valA z x r hz, div_pow, u64_or_nat _ _ (by omega) (Nat.lt_of_le_of_lt (Nat.div_le_self _ _) hy)]
section
variable {wr : World} {g : Nat} {t : TypeId} {f : Nat → Nat} {W : Int} {r j : Nat}
theorem sh_rel0 (B : Blk wr g t (maskA (shTo f W r j))) (h : shF f W r j = 0) : Blk wr g t (maskA (shTo f W r (j + 1))) := by
  rw [← shTo_succ, h]
  have e : (fun k => if k = j then 0 else shTo f W r j k) = shTo f W r j := by
    funext k
    split
    · rename_i h; rw [h, shTo_at]
    · rfl
  rw [e]; exact B
theorem sh_rel1 (B : Blk wr g t (maskA (shTo f W r j))) {V : Int} (h : V = (shF f W r j : Nat)) : Blk (wr.setCell ⟨g, j, none⟩ (.int .u64 V)) g t (maskA (shTo f W r (j + 1))) := by
  subst h
  have := B.set j (.int .u64 (shF f W r j : Nat))
  rw [maskA_set, shTo_succ] at this
  exact this
theorem sh_rel2 (B : Blk wr g t (maskA (shTo f W r j))) {U : Value} {V : Int} (h : V = (shF f W r j : Nat)) : Blk ((wr.setCell ⟨g, j, none⟩ U).setCell ⟨g, j, none⟩ (.int .u64 V)) g t (maskA (shTo f W r (j + 1))) := by
  subst h
  have := (B.set j U).set j (.int .u64 (shF f W r j : Nat))
  rw [show ((maskA (shTo f W r j)).setIfInBounds j U).setIfInBounds j (.int .u64 (shF f W r j : Nat)) = (maskA (shTo f W r j)).setIfInBounds j (.int .u64 (shF f W r j : Nat)) from Array.setIfInBounds_setIfInBounds .., maskA_set, shTo_succ] at this
  exact this
end

set_option maxHeartbeats 400000 in
theorem Shift_out (f : Nat → Nat) (n : Int) (w : World) (hf : ∀ k, k < 23 → f k < 18446744073709551616) (h : n ≤ -1440 ∨ 1440 ≤ n) :
    Calls Tryd.prog 61 #[.agg (maskA f), .int .i64 n] w fun e w' => e = .returned (.agg (maskA (fun _ => 0))) ∧ Below w.heap.size w w' := by
  have h' : decide (n ≤ -1440) = true ∨ decide (n ≤ -1440) = false ∧ decide (1440 ≤ n) = true := by
    by_cases h1 : n ≤ -1440
    · exact .inl (by simpa using h1)
    · exact .inr ⟨by simpa using h1, by simp; omega⟩
  clear h
  rcases h' with g1 | ⟨g1, g2⟩
  all_goals
    go_enter Tryd.func61, Tryd.ntmps61
    go_wp2_with fail
    refine (clean_any f _ hf).mono ?_
    rintro e w1 ⟨rfl, hb1⟩
    obtain ⟨n1, rfl⟩ := After.of hb1
    have s1 := n1.size
    simp at s1
    have B0 := (((Blk.new w 38 (maskA f)).alloc (.cells (maskA fun x => 0) 38)).alloc (.cells (maskA fun x => 0) 38)).after n1 (by simp; omega)
    have B1 := ((Blk.new (w.alloc (.cells (maskA f) 38)) 38 (maskA fun x => 0)).alloc (.cells (maskA fun x => 0) 38)).after n1 (by simp)
    have B2 := (Blk.new ((w.alloc (.cells (maskA f) 38)).alloc (.cells (maskA fun x => 0) 38)) 38 (maskA fun x => 0)).after n1 (by simp)
    simp at B1 B2
    have k0 := blk_free B0
    have k1 := blk_free B1
    have k2 := blk_cells B2
    go_wp2
    refine bodyPost_ret (v := .agg (maskA fun _ => 0)) ?_ rfl ⟨rfl, (by repeat (first | exact Below.refl _ _ | assumption | refine Below.n _ ?_ (by first | omega | (simp; done) | (simp; omega)) | refine Below.alloc ?_ (by first | omega | (simp; done) | (simp; omega)) _ | refine Below.setCell ?_ (by first | omega | (simp; done) | (simp; omega)) _ | refine Below.drew ?_ | refine Below.setRow ?_ (by first | omega | (simp; done) | (simp; omega)) _ | refine Below.drewN ?_ _))⟩
    have k3 := blk_cells ((B1.farRow (k := w.heap.size) (by omega) (maskA (setW (has f)))).setRow (maskA fun _ => 0))
    simp [results, Tryd.results61, go_sem, k3]

set_option maxHeartbeats 4000000 in
theorem Shift_in (f : Nat → Nat) (n W : Int) (r : Nat) (w : World) (hf : ∀ k, k < 23 → f k < 18446744073709551616) (h1 : -1440 < n) (h2 : n < 1440) (hn : n = 64 * W + r) (hr : r < 64) :
    Calls Tryd.prog 61 #[.agg (maskA f), .int .i64 n] w fun e w' => e = .returned (.agg (setA (shS (has f) n))) ∧ Below w.heap.size w w' := by
  have g1 : decide (n ≤ -1440) = false := by simp; omega
  have g2 : decide (1440 ≤ n) = false := by simp; omega
  have hW1 : -23 ≤ W := by omega
  have hW2 : W ≤ 22 := by omega
  have hcase : (0 ≤ n ∧ n / 64 = W ∧ n % 64 = r) ∨ (n < 0 ∧ n.tdiv 64 = W ∧ n.tmod 64 = (r : Int)) ∨ (n < 0 ∧ n.tdiv 64 = W + 1 ∧ n.tmod 64 = (r : Int) - 64 ∧ 0 < r) := by
    by_cases h0 : 0 ≤ n
    · exact .inl ⟨h0, by omega, by omega⟩
    · have e1 : n.tdiv 64 = -((-n) / 64) := by
        have := Int.neg_tdiv (-n) 64
        rw [Int.neg_neg] at this
        rw [this, Int.tdiv_eq_ediv_of_nonneg (by omega)]
      have e2 : n.tmod 64 = n - 64 * n.tdiv 64 := by have := Int.tmod_add_mul_tdiv n 64; omega
      rw [e2, e1]
      by_cases hr0 : r = 0
      · exact .inr (.inl ⟨by omega, by omega, by omega⟩)
      · exact .inr (.inr ⟨by omega, by omega, by omega, by omega⟩)
  have hset := Lib.hid (shift_set (has f) W r hr)
  rw [← hn] at hset
  replace hn := Lib.hid hn
  rcases hcase with ⟨h0, e1, e2⟩ | ⟨h0, e1, e2⟩ | ⟨h0, e1, e2, hr0⟩
  all_goals
    go_enter Tryd.func61, Tryd.ntmps61
    go_wp2_with fail
    refine (clean_any f _ hf).mono ?_
    rintro e w1 ⟨rfl, hb1⟩
    obtain ⟨n1, rfl⟩ := After.of hb1
    have s1 := n1.size
    simp at s1
    have B0 := (((Blk.new w 38 (maskA f)).alloc (.cells (maskA fun x => 0) 38)).alloc (.cells (maskA fun x => 0) 38)).after n1 (by simp; omega)
    have B1 := ((Blk.new (w.alloc (.cells (maskA f) 38)) 38 (maskA fun x => 0)).alloc (.cells (maskA fun x => 0) 38)).after n1 (by simp)
    have B2 := (Blk.new ((w.alloc (.cells (maskA f) 38)).alloc (.cells (maskA fun x => 0) 38)) 38 (maskA fun x => 0)).after n1 (by simp)
    simp at B1 B2
    have k0 := blk_free B0
    go_wp2_with fail
    try rw [e1, e2]
    have hfs := Lib.hid (fun k (_ : k < 23) => setW_lt (has f) k)
    have Bm : Blk (n1.w.setRow w.heap.size (maskA (setW (has f)))) w.heap.size 38 (maskA (setW (has f))) := B0.setRow _
    have Br : Blk (n1.w.setRow w.heap.size (maskA (setW (has f)))) (w.heap.size + 1) 38 (maskA fun x => 0) := B1.farRow (by omega) _
    have Bo : Blk (n1.w.setRow w.heap.size (maskA (setW (has f)))) (w.heap.size + 1 + 1) 38 (maskA fun x => 0) := B2.farRow (by omega) _
    have hbm : Below w.heap.size w (n1.w.setRow w.heap.size (maskA (setW (has f)))) := (by repeat (first | exact Below.refl _ _ | assumption | refine Below.n _ ?_ (by first | omega | (simp; done) | (simp; omega)) | refine Below.alloc ?_ (by first | omega | (simp; done) | (simp; omega)) _ | refine Below.setCell ?_ (by first | omega | (simp; done) | (simp; omega)) _ | refine Below.drew ?_ | refine Below.setRow ?_ (by first | omega | (simp; done) | (simp; omega)) _ | refine Below.drewN ?_ _))
    replace hf := Lib.hid hf
    clear B0 B1 B2 k0 s1 hb1 e1 e2 h0 g1 g2
    try clear hr0
    generalize n1.w.setRow w.heap.size (maskA (setW (has f))) = wm at *
    generalize hpe : has f = p at *
    replace hpe := Lib.hid hpe
    clear n1
    go_loopg [29] 23 (fun q k wr => ∃ j : Nat, j ≤ 23 ∧ q = 23 - j ∧ k = .int .i64 j ∧ Below w.heap.size w wr ∧ Blk wr w.heap.size 38 (maskA (setW p)) ∧ Blk wr (w.heap.size + 1) 38 (maskA (fun _ => 0)) ∧ Blk wr (w.heap.size + 1 + 1) 38 (maskA (shTo (setW p) W r j)))
    case atStart => exact ⟨0, by omega, rfl, rfl, hbm, Bm, Br, by rw [shTo_0]; exact Bo⟩
    case round =>
      clear hbm Bm Br Bo
      obtain ⟨j, hj, hq, rfl, hb, B0, B1, B2⟩ := hrel
      replace hq := Lib.hid hq
      by_cases hlt : j < 23
      · have hji : (j : Int) < 23 := by omega
        have c2 : ∃ z : Nat, z = 0 ∧ wr.cell? ⟨w.heap.size + 1 + 1, j, none⟩ = some (.int .u64 (z : Nat)) := ⟨_, shTo_at (setW p) W r j, by rw [B2.cell, maskA_get, if_pos (by omega)]⟩
        obtain ⟨z, hz, c2⟩ := c2
        replace hz := Lib.hid hz
        have f2 : wr.frozen? ⟨w.heap.size + 1 + 1, j, none⟩ = false := B2.frozen j
        have hfin : ∀ D : Int, (j : Int) - W = D → D < 0 ∨ D = 0 ∨ (0 < D ∧ D < 23) ∨ D = 23 ∨ 23 < D := by omega
        obtain ⟨D, hD⟩ : ∃ D : Int, (j : Int) - W = D := ⟨_, rfl⟩
        have hr1 : decide (0 < (r : Int)) = false ∧ ¬ 0 < r ∨ decide (0 < (r : Int)) = true ∧ 0 < r := by
          by_cases h : 0 < r
          · exact .inr ⟨by simpa using h, h⟩
          · exact .inl ⟨by simp; omega, h⟩
        rcases hfin D hD with h | rfl | ⟨h, h'⟩ | rfl | h
        · have d1 : decide (0 ≤ D) = false := by simp; omega
          have hE := Lib.hid (show shF (setW p) W r j = 0 by unfold shF shA shB; rw [if_neg (by omega), if_neg (by omega)]; rfl)
          have d2 : decide (0 ≤ D - 1) = false := by simp; omega
          have d3 : decide (1 ≤ D) = false := by simp; omega
          clear hfin
          rcases hr1 with ⟨r1, _⟩ | ⟨r1, _⟩
          all_goals
            go_wp2
            go_roundg (23 - (j + 1))
            case measure => rw [hq.out]; omega
            case rel => exact ⟨j + 1, by omega, rfl, by go_num, hb, B0, B1, sh_rel0 B2 hE.out⟩
        · have hW : W = j := by omega
          have c0 : wr.cell? ⟨w.heap.size, 0, none⟩ = some (.int .u64 (setW p 0)) := by rw [B0.cell, maskA_get, if_pos (by omega)]
          have hE := Lib.hid (show shF (setW p) W r j = setW p 0 * 2 ^ r % 18446744073709551616 by
            unfold shF shA shB; rw [if_pos (by omega), if_neg (by omega), show ((j : Int) - W).toNat = 0 by omega, Nat.or_zero])
          clear hfin
          replace hW := Lib.hid hW
          rcases hr1 with ⟨r1, _⟩ | ⟨r1, _⟩
          all_goals
            go_wp2
            go_region
            all_goals
              go_wp2
              go_roundg (23 - (j + 1))
              case measure => rw [hq.out]; omega
              case rel => exact ⟨j + 1, by omega, rfl, by go_num, (by repeat (first | exact Below.refl _ _ | assumption | refine Below.n _ ?_ (by first | omega | (simp; done) | (simp; omega)) | refine Below.alloc ?_ (by first | omega | (simp; done) | (simp; omega)) _ | refine Below.setCell ?_ (by first | omega | (simp; done) | (simp; omega)) _ | refine Below.drew ?_ | refine Below.setRow ?_ (by first | omega | (simp; done) | (simp; omega)) _ | refine Below.drewN ?_ _)), B0.far (by first | omega | (simp; done) | (simp; omega)) _, B1.far (by first | omega | (simp; done) | (simp; omega)) _, sh_rel1 B2 (by rw [hE.out]; exact valA z _ r hz.out)⟩
        · obtain ⟨q, rfl⟩ := Int.eq_ofNat_of_zero_le (show 0 ≤ D by omega)
          have hq1 : 1 ≤ (q : Int) := by omega
          have c0 : wr.cell? ⟨w.heap.size, q, none⟩ = some (.int .u64 (setW p q)) := by rw [B0.cell, maskA_get, if_pos (by omega)]
          have d3 : decide ((q : Int) - 1 < 23) = true := by simp; omega
          clear hfin
          rcases hr1 with ⟨r1, r2⟩ | ⟨r1, r2⟩
          · have hE := Lib.hid (show shF (setW p) W r j = setW p q * 2 ^ r % 18446744073709551616 by
              unfold shF shA shB; rw [if_pos (by omega), if_neg (by omega), show ((j : Int) - W).toNat = q by omega, Nat.or_zero])
            go_wp2
            go_region
            all_goals
              go_wp2
              go_roundg (23 - (j + 1))
              case measure => rw [hq.out]; omega
              case rel => exact ⟨j + 1, by omega, rfl, by go_num, (by repeat (first | exact Below.refl _ _ | assumption | refine Below.n _ ?_ (by first | omega | (simp; done) | (simp; omega)) | refine Below.alloc ?_ (by first | omega | (simp; done) | (simp; omega)) _ | refine Below.setCell ?_ (by first | omega | (simp; done) | (simp; omega)) _ | refine Below.drew ?_ | refine Below.setRow ?_ (by first | omega | (simp; done) | (simp; omega)) _ | refine Below.drewN ?_ _)), B0.far (by first | omega | (simp; done) | (simp; omega)) _, B1.far (by first | omega | (simp; done) | (simp; omega)) _, sh_rel1 B2 (by rw [hE.out]; exact valA z _ r hz.out)⟩
          · have c1 : wr.cell? ⟨w.heap.size, q - 1, none⟩ = some (.int .u64 (setW p (q - 1))) := by rw [B0.cell, maskA_get, if_pos (by omega)]
            have hE := Lib.hid (show shF (setW p) W r j = setW p q * 2 ^ r % 18446744073709551616 ||| setW p (q - 1) / 2 ^ (64 - r) by
              unfold shF shA shB; rw [if_pos (by omega), if_pos (by omega), show ((j : Int) - W).toNat = q by omega, show ((j : Int) - W - 1).toNat = q - 1 by omega])
            go_wp2
            go_region
            all_goals
              go_wp2
              go_region
              all_goals
                go_wp2
                go_roundg (23 - (j + 1))
                case measure => rw [hq.out]; omega
                case rel => exact ⟨j + 1, by omega, rfl, by go_num, (by repeat (first | exact Below.refl _ _ | assumption | refine Below.n _ ?_ (by first | omega | (simp; done) | (simp; omega)) | refine Below.alloc ?_ (by first | omega | (simp; done) | (simp; omega)) _ | refine Below.setCell ?_ (by first | omega | (simp; done) | (simp; omega)) _ | refine Below.drew ?_ | refine Below.setRow ?_ (by first | omega | (simp; done) | (simp; omega)) _ | refine Below.drewN ?_ _)), (B0.far (by first | omega | (simp; done) | (simp; omega)) _).far (by first | omega | (simp; done) | (simp; omega)) _, (B1.far (by first | omega | (simp; done) | (simp; omega)) _).far (by first | omega | (simp; done) | (simp; omega)) _, sh_rel2 B2 (by rw [hE.out]; exact valAB z _ _ r _ hz.out (hfs.out _ (by omega)))⟩
        · have c1 : wr.cell? ⟨w.heap.size, 22, none⟩ = some (.int .u64 (setW p 22)) := by rw [B0.cell, maskA_get, if_pos (by omega)]
          clear hfin
          rcases hr1 with ⟨r1, r2⟩ | ⟨r1, r2⟩
          · have hE := Lib.hid (show shF (setW p) W r j = 0 by unfold shF shA shB; rw [if_neg (by omega), if_neg (by omega)]; rfl)
            go_wp2
            go_roundg (23 - (j + 1))
            case measure => rw [hq.out]; omega
            case rel => exact ⟨j + 1, by omega, rfl, by go_num, hb, B0, B1, sh_rel0 B2 hE.out⟩
          · have hE := Lib.hid (show shF (setW p) W r j = setW p 22 / 2 ^ (64 - r) by
              unfold shF shA shB; rw [if_neg (by omega), if_pos (by omega), show ((j : Int) - W - 1).toNat = 22 by omega, Nat.zero_or])
            go_wp2
            go_region
            all_goals
              go_wp2
              go_roundg (23 - (j + 1))
              case measure => rw [hq.out]; omega
              case rel => exact ⟨j + 1, by omega, rfl, by go_num, (by repeat (first | exact Below.refl _ _ | assumption | refine Below.n _ ?_ (by first | omega | (simp; done) | (simp; omega)) | refine Below.alloc ?_ (by first | omega | (simp; done) | (simp; omega)) _ | refine Below.setCell ?_ (by first | omega | (simp; done) | (simp; omega)) _ | refine Below.drew ?_ | refine Below.setRow ?_ (by first | omega | (simp; done) | (simp; omega)) _ | refine Below.drewN ?_ _)), B0.far (by first | omega | (simp; done) | (simp; omega)) _, B1.far (by first | omega | (simp; done) | (simp; omega)) _, sh_rel1 B2 (by rw [hE.out]; exact valB z _ _ hz.out (hfs.out _ (by omega)))⟩
        · have d1 : decide (D < 23) = false := by simp; omega
          have d2 : decide (D - 1 < 23) = false := by simp; omega
          have d3 : decide (0 ≤ D) = true := by simp; omega
          have d4 : decide (0 ≤ D - 1) = true := by simp; omega
          have d5 : decide (1 ≤ D) = true := by simp; omega
          have hE := Lib.hid (show shF (setW p) W r j = 0 by unfold shF shA shB; rw [if_neg (by omega), if_neg (by omega)]; rfl)
          clear hfin
          rcases hr1 with ⟨r1, _⟩ | ⟨r1, _⟩
          all_goals
            go_wp2
            go_roundg (23 - (j + 1))
            case measure => rw [hq.out]; omega
            case rel => exact ⟨j + 1, by omega, rfl, by go_num, hb, B0, B1, sh_rel0 B2 hE.out⟩
      · obtain rfl : j = 23 := by omega
        have hto : has (shTo (setW p) W r 23) = has (shF (setW p) W r) := by
          funext i
          unfold has shTo
          by_cases hi : i < 1440
          · rw [if_pos (by omega)]
          · simp [hi]
        have hset2 := Lib.hid (show setW (has (shTo (setW p) W r 23)) = setW (shS (has f) n) by rw [hto, hset.out, hpe.out])
        have hlt2 := Lib.hid (fun k (hk : k < 23) => show shTo (setW p) W r 23 k < 18446744073709551616 by unfold shTo; rw [if_pos hk]; exact shF_lt hfs.out W r k)
        clear hto
        generalize shTo (setW p) W r 23 = F at *
        have k2 := blk_cells B2
        have k1 := blk_free B1
        have s1 := B2.lt
        go_wp2_with fail
        refine (clean_any F _ hlt2.out).mono ?_
        rintro e w1 ⟨rfl, hb1⟩
        obtain ⟨n1, rfl⟩ := After.of hb1
        have s2 := n1.size
        go_wp2
        refine bodyPost_ret (v := .agg (setA (shS (has f) n))) ?_ rfl ⟨rfl, (by repeat (first | exact Below.refl _ _ | assumption | refine Below.n _ ?_ (by first | omega | (simp; done) | (simp; omega)) | refine Below.alloc ?_ (by first | omega | (simp; done) | (simp; omega)) _ | refine Below.setCell ?_ (by first | omega | (simp; done) | (simp; omega)) _ | refine Below.drew ?_ | refine Below.setRow ?_ (by first | omega | (simp; done) | (simp; omega)) _ | refine Below.drewN ?_ _))⟩
        have k3 := blk_cells ((B1.after n1 (by omega)).setRow (maskA (setW (has F))))
        rw [hset2.out] at k3
        simp [results, Tryd.results61, go_sem, k3, hset2.out]

theorem Shift_any (f : Nat → Nat) (n : Int) (w : World) (hf : ∀ k, k < 23 → f k < 18446744073709551616) :
    Calls Tryd.prog 61 #[.agg (maskA f), .int .i64 n] w fun e w' => e = .returned (.agg (setA (shS (has f) n))) ∧ Below w.heap.size w w' := by
  by_cases h : n ≤ -1440 ∨ 1440 ≤ n
  · unfold setA
    rw [shS_far h]
    exact Shift_out f n w hf h
  · exact Shift_in f n (n / 64) (n % 64).toNat w hf (by omega) (by omega) (by omega) (by omega)

end Msk
end Go.Proofs.YtbadplbdgpbdaaaDoor
