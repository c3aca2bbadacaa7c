/- The walk of masks.Of. -/
import Derived.Test.YtfhedopfjgjffaaMsk
import Derived.Lib.MinMax
import Derived.BigRegion
namespace Go.Proofs.Ytfhedopfjgjffaa
open Go.RowKit
namespace Msk

/-- a slice that reads as a list of spans, all below block B -/
def SpansV (w : World) (B : Nat) (v : Value) (l : List (Int × Int)) : Prop :=
  ∃ A cap, v = .slice A l.length cap ∧ l.length ≤ 9223372036854775807 ∧ ∀ (i : Nat) (s : Int × Int), l[i]? = some s → ∃ b o, A = some ⟨b, o, none⟩ ∧ b < B ∧ w.cell? ⟨b, o + i * 2, none⟩ = some (.int .i64 s.1) ∧ w.cell? ⟨b, o + i * 2 + 1, none⟩ = some (.int .i64 s.2)
theorem SpansV.below {w w' : World} {B B' : Nat} {v : Value} {l : List (Int × Int)} (h : SpansV w B v l) (hb : Below B' w w') (hB : B ≤ B') : SpansV w' B v l := by
  obtain ⟨A, cap, hv, hl, hc⟩ := h
  refine ⟨A, cap, hv, hl, fun i s hs => ?_⟩
  obtain ⟨b, o, hA, hlt, h1, h2⟩ := hc i s hs
  exact ⟨b, o, hA, hlt, (hb.cell (p := ⟨b, _, none⟩) (by simp; omega)).trans h1, (hb.cell (p := ⟨b, _, none⟩) (by simp; omega)).trans h2⟩
theorem SpansV.more {w : World} {B B' : Nat} {v : Value} {l : List (Int × Int)} (h : SpansV w B v l) (hB : B ≤ B') : SpansV w B' v l := by
  obtain ⟨A, cap, hv, hl, hc⟩ := h
  refine ⟨A, cap, hv, hl, fun i s hs => ?_⟩
  obtain ⟨b, o, hA, hlt, h1, h2⟩ := hc i s hs
  exact ⟨b, o, hA, by omega, h1, h2⟩

theorem IntMax (a : Int) : 0 ≤ max a 0 := by omega

set_option maxHeartbeats 2000000 in
theorem Of_any (v : Value) (l : List (Int × Int)) (w : World) (hl : SpansV w w.heap.size v l) :
    Calls Try.prog 89 #[v] w fun e w' => e = .returned (.agg (setA (inSpans l))) ∧ Below w.heap.size w w' := by
  obtain ⟨A, cap, rfl, hlen, hc⟩ := hl
  replace hc := Lib.hid hc
  go_enter Try.func89, Try.ntmps89
  go_wp2
  go_loopg [9] l.length (fun n k wr => ∃ j : Nat, j ≤ l.length ∧ n = l.length - j ∧ k = .int .i64 j ∧ Below w.heap.size w wr ∧ w.heap.size + 1 < wr.heap.size ∧ Blk wr w.heap.size 46 (maskA (fun _ => 0)) ∧ Blk wr (w.heap.size + 1) 46 (maskA (setW (inSpans (l.take j)))))
  case atStart =>
    refine ⟨0, by omega, rfl, rfl, (by repeat (first | exact Below.refl _ _ | assumption | refine Below.n _ ?_ (by first | omega | (simp; done) | (simp; omega)) | refine Below.alloc ?_ (by first | omega | (simp; done) | (simp; omega)) _ | refine Below.setCell ?_ (by first | omega | (simp; done) | (simp; omega)) _ | refine Below.drew ?_ | refine Below.setRow ?_ (by first | omega | (simp; done) | (simp; omega)) _ | refine Below.drewN ?_ _)), by simp, (Blk.new _ _ _).alloc _, ?_⟩
    have := Blk.new (w.alloc (.cells (maskA fun x => 0) 46)) 46 (maskA fun x => 0)
    have e : maskA (setW (inSpans (l.take 0))) = maskA (fun _ => 0) := zero_set
    rw [e]
    simpa using this
  case round =>
    obtain ⟨j, hj, hn, rfl, hb, hsz, B0, B1⟩ := hrel
    replace hn := Lib.hid hn
    by_cases hlt : j < l.length
    · obtain ⟨s, hs⟩ : ∃ s, l[j]? = some s := ⟨_, List.getElem?_eq_getElem hlt⟩
      obtain ⟨b, o, rfl, hblt, c0, c1⟩ := hc.out j s hs
      have d0 : wr.cell? ⟨b, o + j * 2, none⟩ = some (.int .i64 s.1) := (hb.cell (p := ⟨b, _, none⟩) hblt).trans c0
      have d1 : wr.cell? ⟨b, o + j * 2 + 1, none⟩ = some (.int .i64 s.2) := (hb.cell (p := ⟨b, _, none⟩) hblt).trans c1
      have hm := IntMax s.1
      go_wp2
      obtain ⟨wo, rfl⟩ : ∃ wo : World, wo = wr := ⟨_, rfl⟩
      go_loopg [6] (1440 - max s.1 0).toNat (fun n v w2 => ∃ i : Int, max s.1 0 ≤ i ∧ (i ≤ max s.1 0 ∨ i ≤ min s.2 1440) ∧ n = (1440 - i).toNat ∧ v = .int .i64 i ∧ Below w.heap.size w w2 ∧ w.heap.size + 1 < w2.heap.size ∧ w.heap.size + 1 < wo.heap.size ∧ Blk w2 w.heap.size 46 (maskA (fun _ => 0)) ∧
        Blk w2 (w.heap.size + 1) 46 (maskA (setW (fun q => inSpans (l.take j) q || (decide (max s.1 0 ≤ (q : Int)) && decide ((q : Int) < i))))) ∧ Blk w2 wo.heap.size 103 #[.int .i64 s.1, .int .i64 s.2])
      case atStart =>
        refine ⟨max s.1 0, by omega, by omega, rfl, rfl, (by repeat (first | exact Below.refl _ _ | assumption | refine Below.n _ ?_ (by first | omega | (simp; done) | (simp; omega)) | refine Below.alloc ?_ (by first | omega | (simp; done) | (simp; omega)) _ | refine Below.setCell ?_ (by first | omega | (simp; done) | (simp; omega)) _ | refine Below.drew ?_ | refine Below.setRow ?_ (by first | omega | (simp; done) | (simp; omega)) _ | refine Below.drewN ?_ _)), (by first | omega | (simp; done) | (simp; omega)), hsz, B0.alloc _, ?_, Blk.new _ _ _⟩
        have e : setW (fun q => inSpans (l.take j) q || (decide (max s.1 0 ≤ (q : Int)) && decide ((q : Int) < max s.1 0))) = setW (inSpans (l.take j)) := setW_congr fun q _ => by
          have : (decide (max s.1 0 ≤ (q : Int)) && decide ((q : Int) < max s.1 0)) = false := (by first | (simp; done) | (simp; omega))
          rw [this, Bool.or_false]
        rw [e]
        exact B1.alloc _
      case round =>
        obtain ⟨i, hi0, hi1, hk, rfl, hb2, hsz2, hsz3, D0, D1, D2⟩ := hrel
        replace hk := Lib.hid hk
        have k0 : wr.cell? ⟨wo.heap.size, 0, none⟩ = some (.int .i64 s.1) := D2.cell 0
        have k1 : wr.cell? ⟨wo.heap.size, 1, none⟩ = some (.int .i64 s.2) := D2.cell 1
        by_cases hlt2 : i < min s.2 1440
        · obtain ⟨q, rfl⟩ := Int.eq_ofNat_of_zero_le (show 0 ≤ i by omega)
          have hq : q < 1440 := by omega
          have c1 : wr.cell? ⟨w.heap.size + 1, q / 64, none⟩ = some (.int .u64 (setW (fun x => inSpans (l.take j) x || (decide (max s.1 0 ≤ (x : Int)) && decide ((x : Int) < (q : Int)))) (q / 64))) := by rw [D1.cell, maskA_get, if_pos (by omega)]
          have f1 : wr.frozen? ⟨w.heap.size + 1, q / 64, none⟩ = false := D1.frozen _
          by_cases hw : ((q : Int) % 64 == 0) = true ∧ decide ((q : Int) + 64 ≤ min s.2 1440) = true
          · obtain ⟨g1, g2⟩ := hw
            have hq2 : (q : Int) + 64 ≤ min s.2 1440 := by simpa using g2
            go_wp2
            go_roundg (1440 - ((q : Int) + 64)).toNat
            case measure => rw [hk.out]; omega
            case rel =>
              have E := D1.set (q / 64) (.int .u64 18446744073709551615)
              rw [maskA_ones, grow_word _ _ _ hi0 (by simp at g1; omega) (by omega)] at E
              exact ⟨(q : Int) + 64, by omega, by omega, rfl, rfl, (by repeat (first | exact Below.refl _ _ | assumption | refine Below.n _ ?_ (by first | omega | (simp; done) | (simp; omega)) | refine Below.alloc ?_ (by first | omega | (simp; done) | (simp; omega)) _ | refine Below.setCell ?_ (by first | omega | (simp; done) | (simp; omega)) _ | refine Below.drew ?_ | refine Below.setRow ?_ (by first | omega | (simp; done) | (simp; omega)) _ | refine Below.drewN ?_ _)), by simpa using hsz2, hsz3, D0.far (by first | omega | (simp; done) | (simp; omega)) _, E, D2.far (by first | omega | (simp; done) | (simp; omega)) _⟩
          · have g : ((q : Int) % 64 == 0) = false ∨ ((q : Int) % 64 == 0) = true ∧ decide ((q : Int) + 64 ≤ min s.2 1440) = false := by
              cases h1 : ((q : Int) % 64 == 0)
              · exact .inl rfl
              · refine .inr ⟨rfl, ?_⟩
                cases h2 : decide ((q : Int) + 64 ≤ min s.2 1440)
                · rfl
                · exact absurd ⟨h1, h2⟩ hw
            clear hw
            rcases g with g1 | ⟨g1, g2⟩
            all_goals
              go_wp2
              go_region
              all_goals
                go_wp2
                go_roundg (1440 - ((q : Int) + 1)).toNat
                case measure => rw [hk.out]; omega
                case rel =>
                  have E : ∀ V : Int, V = ((setW (fun x => inSpans (l.take j) x || (decide (max s.1 0 ≤ (x : Int)) && decide ((x : Int) < (q : Int)))) (q / 64) ||| 2 ^ (q % 64) : Nat) : Int) →
                      Blk (wr.setCell ⟨w.heap.size + 1, q / 64, none⟩ (.int .u64 V)) (w.heap.size + 1) 46 (maskA (setW (fun x => inSpans (l.take j) x || (decide (max s.1 0 ≤ (x : Int)) && decide ((x : Int) < (q : Int) + 1))))) := by
                    rintro _ rfl
                    have E := D1.set (q / 64) (.int .u64 ((setW (fun x => inSpans (l.take j) x || (decide (max s.1 0 ≤ (x : Int)) && decide ((x : Int) < (q : Int)))) (q / 64) ||| 2 ^ (q % 64) : Nat) : Int))
                    rw [maskA_set, grow_bit _ _ _ hi0 hq] at E
                    exact E
                  refine ⟨(q : Int) + 1, by omega, by omega, rfl, rfl, (by repeat (first | exact Below.refl _ _ | assumption | refine Below.n _ ?_ (by first | omega | (simp; done) | (simp; omega)) | refine Below.alloc ?_ (by first | omega | (simp; done) | (simp; omega)) _ | refine Below.setCell ?_ (by first | omega | (simp; done) | (simp; omega)) _ | refine Below.drew ?_ | refine Below.setRow ?_ (by first | omega | (simp; done) | (simp; omega)) _ | refine Below.drewN ?_ _)), by simpa using hsz2, hsz3, D0.far (by first | omega | (simp; done) | (simp; omega)) _, E _ ?_, D2.far (by first | omega | (simp; done) | (simp; omega)) _⟩
                  rw [or_bit _ _ (setW_lt _ _) (by omega)]
                  simp
        · go_wp2
          go_roundg (l.length - (j + 1))
          case measure => rw [hn.out]; omega
          case rel =>
            refine ⟨j + 1, by omega, rfl, by go_num, hb2, hsz2, D0, ?_⟩
            have e : setW (fun q => inSpans (l.take j) q || (decide (max s.1 0 ≤ (q : Int)) && decide ((q : Int) < i))) = setW (inSpans (l.take (j + 1))) := setW_congr fun x hx => by
              rw [inSpans_snoc l j s hs]
              congr 1
              rw [Bool.eq_iff_iff]
              simp
              omega
            rw [← e]
            exact D1
    · obtain rfl : j = l.length := by omega
      rw [List.take_length] at B1
      have k1 := blk_cells B1
      have k2 := blk_free B0
      go_wp2
      have k3 := blk_cells (B0.setRow (maskA (setW (inSpans l))))
      refine bodyPost_ret (v := .agg (setA (inSpans l))) ?_ rfl ⟨rfl, (by repeat (first | exact Below.refl _ _ | assumption | refine Below.n _ ?_ (by first | omega | (simp; done) | (simp; omega)) | refine Below.alloc ?_ (by first | omega | (simp; done) | (simp; omega)) _ | refine Below.setCell ?_ (by first | omega | (simp; done) | (simp; omega)) _ | refine Below.drew ?_ | refine Below.setRow ?_ (by first | omega | (simp; done) | (simp; omega)) _ | refine Below.drewN ?_ _))⟩
      simp [results, Try.results89, go_sem, k3]

/-- a slice of one span that was just made -/
theorem SpansV.one {W : World} {g B : Nat} {a b : Int} (hg : g = W.heap.size) (hB : g < B) : SpansV (W.alloc (.cells #[.int .i64 a, .int .i64 b] 103)) B (.slice (some ⟨g, 0, none⟩) 1 1) [(a, b)] := by
  subst hg
  refine ⟨some ⟨W.heap.size, 0, none⟩, 1, rfl, by simp, fun i s hs => ?_⟩
  have B := Blk.new W 103 #[.int .i64 a, .int .i64 b]
  match i, hs with
  | 0, hs =>
    simp at hs
    subst hs
    exact ⟨W.heap.size, 0, rfl, hB, B.cell 0, B.cell 1⟩
theorem SpansV.drew {w : World} {B : Nat} {v : Value} {l : List (Int × Int)} (h : SpansV w B v l) : SpansV w.drew B v l := h

end Msk
end Go.Proofs.Ytfhedopfjgjffaa
