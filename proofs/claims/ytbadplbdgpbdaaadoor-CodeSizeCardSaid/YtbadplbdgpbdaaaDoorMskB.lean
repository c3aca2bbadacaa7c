/- The walks of package masks. The walks of masks.Union, Diff, Of and Holds. The walk of masks.Of. The walk of masks.Both. -/
import Derived.Test.YtbadplbdgpbdaaaDoorMask
import Derived.Deep.RegionWith
import Derived.Lib.MinMax
import Derived.BigRegion
namespace Go.Proofs.YtbadplbdgpbdaaaDoor
open Go.RowKit
namespace Msk

set_option maxHeartbeats 400000 in
theorem Union1 (x y : Nat) (w : World) (hx : x < 18446744073709551616) (hy : y < 18446744073709551616) :
    Calls Tryd.prog 86 #[.int .u64 x, .int .u64 y] w fun e w' => e = .returned (.int .u64 ((x ||| y : Nat) : Int)) ∧ w = w' := by
  go_enter Tryd.func86, Tryd.ntmps86
  go_wp2
  go_ret
  exact ⟨ret_int (by simp [u64_or_nat, hx, hy]), rfl⟩
set_option maxHeartbeats 400000 in
theorem Diff1 (x y : Nat) (w : World) (hx : x < 18446744073709551616) (hy : y < 18446744073709551616) :
    Calls Tryd.prog 87 #[.int .u64 x, .int .u64 y] w fun e w' => e = .returned (.int .u64 ((sans x y : Nat) : Int)) ∧ w = w' := by
  go_enter Tryd.func87, Tryd.ntmps87
  go_wp2
  go_ret
  exact ⟨ret_int (by simp [u64_andNot_nat, hx, hy, sans]), rfl⟩

set_option maxHeartbeats 200000 in
theorem clean_any (f : Nat → Nat) (w : World) (hf : ∀ k, k < 23 → f k < 18446744073709551616) :
    Calls Tryd.prog 51 #[.agg (maskA f)] w fun e w' => e = .returned (.agg (setA (has f))) ∧ Below w.heap.size w w' := by
  have hb : bits .and .u64 (f 22 : Int) 4294967295 = ((f 22 &&& 4294967295 : Nat) : Int) := u64_and_nat (f 22) 4294967295 (hf 22 (by omega)) (by omega)
  go_enter Tryd.func51, Tryd.ntmps51
  go_wp2
  refine bodyPost_ret (v := .agg (setA (has f))) ?_ rfl ⟨rfl, (by repeat (first | exact Below.refl _ _ | assumption | refine Below.n _ ?_ (by first | omega | (simp; done) | (simp; omega)) | refine Below.alloc ?_ (by first | omega | (simp; done) | (simp; omega)) _ | refine Below.setCell ?_ (by first | omega | (simp; done) | (simp; omega)) _ | refine Below.drew ?_ | refine Below.setRow ?_ (by first | omega | (simp; done) | (simp; omega)) _ | refine Below.drewN ?_ _))⟩
  have e : setA (has f) = maskA (fun j => if j = 22 then f 22 &&& 4294967295 else f j) := maskA_congr fun k hk => by
    rw [← cleanW_eq hk (hf k hk)]
    unfold cleanW
    split <;> simp_all
  rw [e]
  simp [results, Tryd.results51, go_sem]

theorem or_lt {x y : Nat} (hx : x < 18446744073709551616) (hy : y < 18446744073709551616) : (x ||| y) < 18446744073709551616 := Nat.or_lt_two_pow (n := 64) hx hy
theorem and_lt {x y : Nat} (_hx : x < 18446744073709551616) (_hy : y < 18446744073709551616) : (x &&& y) < 18446744073709551616 := Nat.and_lt_two_pow (n := 64) _ (by omega)
theorem sans_lt {x y : Nat} (hx : x < 18446744073709551616) (_hy : y < 18446744073709551616) : sans x y < 18446744073709551616 := Nat.lt_of_le_of_lt Nat.and_le_left hx

/-- two masks, the first so many words of which are made -/
def madeW (op : Nat → Nat → Nat) (f g : Nat → Nat) (n : Nat) (k : Nat) : Nat := if k < n then op (f k) (g k) else f k
theorem madeW_0 (op : Nat → Nat → Nat) (f g : Nat → Nat) : madeW op f g 0 = f := by funext k; simp [madeW]
theorem madeW_succ (op : Nat → Nat → Nat) (f g : Nat → Nat) (n : Nat) : (fun j => if j = n then op (f n) (g n) else madeW op f g n j) = madeW op f g (n + 1) := by
  funext k
  unfold madeW
  by_cases h : k = n
  · subst h; simp
  · by_cases h2 : k < n
    · simp [h, h2, show k < n + 1 by omega]
    · simp [h, h2, show ¬ k < n + 1 by omega]

set_option maxHeartbeats 1000000 in
theorem each_or (f g : Nat → Nat) (w : World) (hf : ∀ k, k < 23 → f k < 18446744073709551616) (hg : ∀ k, k < 23 → g k < 18446744073709551616) :
    Calls Tryd.prog 85 #[.agg (maskA f), .agg (maskA g), .func (.func 86) #[] #[]] w fun e w' => e = .returned (.agg (setA (has (fun k => (fun x y : Nat => x ||| y) (f k) (g k))))) ∧ Below w.heap.size w w' := by
  replace hf := Lib.hid hf
  replace hg := Lib.hid hg
  go_enter Tryd.func85, Tryd.ntmps85
  go_wp2_with fail
  go_loopg [8] 23 (fun n k wr => ∃ j : Nat, j ≤ 23 ∧ n = 23 - j ∧ k = .int .i64 j ∧ Below w.heap.size w wr ∧ w.heap.size + 2 < wr.heap.size ∧ Blk wr w.heap.size 38 (maskA (madeW (fun x y : Nat => x ||| y) f g j)) ∧ Blk wr (w.heap.size + 1) 38 (maskA g) ∧ Blk wr (w.heap.size + 1 + 1) 38 (maskA (fun _ => 0)))
  case atStart =>
    refine ⟨0, by omega, rfl, rfl, (by repeat (first | exact Below.refl _ _ | assumption | refine Below.n _ ?_ (by first | omega | (simp; done) | (simp; omega)) | refine Below.alloc ?_ (by first | omega | (simp; done) | (simp; omega)) _ | refine Below.setCell ?_ (by first | omega | (simp; done) | (simp; omega)) _ | refine Below.drew ?_ | refine Below.setRow ?_ (by first | omega | (simp; done) | (simp; omega)) _ | refine Below.drewN ?_ _)), by simp, ?_, ?_, ?_⟩
    · rw [madeW_0]; exact ((Blk.new _ _ _).alloc _).alloc _
    · have := (Blk.new (w.alloc (.cells (maskA f) 38)) 38 (maskA g)).alloc (.cells (maskA fun x => 0) 38)
      simpa using this
    · simpa using Blk.new ((w.alloc (.cells (maskA f) 38)).alloc (.cells (maskA g) 38)) 38 (maskA fun x => 0)
  case round =>
    obtain ⟨j, hj, hn, rfl, hb, hsz, B0, B1, B2⟩ := hrel
    replace hn := Lib.hid hn
    by_cases hlt : j < 23
    · have c0 : wr.cell? ⟨w.heap.size, j, none⟩ = some (.int .u64 (f j)) := by rw [B0.cell, maskA_get, if_pos hlt]; simp [madeW]
      have c1 : wr.cell? ⟨w.heap.size + 1, j, none⟩ = some (.int .u64 (g j)) := by rw [B1.cell, maskA_get, if_pos hlt]
      have f0 : wr.frozen? ⟨w.heap.size, j, none⟩ = false := B0.frozen j
      go_wp2_with fail
      go_region_with (go_at_call 86; refine (Union1 (f j) (g j) _ (hf.out j hlt) (hg.out j hlt)).mono ?_; rintro e w' ⟨rfl, rfl⟩)
      all_goals
        go_wp2
        go_roundg (23 - (j + 1))
        case measure => rw [hn.out]; omega
        case rel =>
          refine ⟨j + 1, by omega, rfl, by go_num, Below.setCell (Below.drew hb) (by simp) _, by simpa using hsz, ?_, ?_, ?_⟩
          · have := (show Blk wr.drew w.heap.size 38 _ from B0).set j (.int .u64 (((fun x y : Nat => x ||| y) (f j) (g j) : Nat) : Int))
            rw [maskA_set, madeW_succ (fun x y : Nat => x ||| y)] at this
            exact this
          · exact Blk.far (show Blk wr.drew (w.heap.size + 1) 38 _ from B1) (by simp) _
          · exact Blk.far (show Blk wr.drew (w.heap.size + 1 + 1) 38 _ from B2) (by simp; omega) _
    · obtain rfl : j = 23 := by omega
      have k0 : cellsAt wr w.heap.size 0 23 = some (maskA (madeW (fun x y : Nat => x ||| y) f g 23)) := blk_cells B0
      have k2 : freeRow wr (w.heap.size + 1 + 1) 23 = true := blk_free B2
      go_wp2_with fail
      refine (clean_any _ _ (fun k hk => by unfold madeW; rw [if_pos hk]; exact or_lt (hf.out k hk) (hg.out k hk))).mono ?_
      rintro e w1 ⟨rfl, hb1⟩
      obtain ⟨n1, rfl⟩ := After.of hb1
      have s1 := n1.size
      go_wp2
      have e : has (madeW (fun x y : Nat => x ||| y) f g 23) = has (fun k => (fun x y : Nat => x ||| y) (f k) (g k)) := by
        funext i
        unfold has madeW
        by_cases hi : i < 1440
        · rw [if_pos (show i / 64 < 23 by omega)]
        · simp [hi]
      rw [← e]
      refine bodyPost_ret (v := .agg (setA (has (madeW (fun x y : Nat => x ||| y) f g 23)))) ?_ rfl ⟨rfl, (by repeat (first | exact Below.refl _ _ | assumption | refine Below.n _ ?_ (by first | omega | (simp; done) | (simp; omega)) | refine Below.alloc ?_ (by first | omega | (simp; done) | (simp; omega)) _ | refine Below.setCell ?_ (by first | omega | (simp; done) | (simp; omega)) _ | refine Below.drew ?_ | refine Below.setRow ?_ (by first | omega | (simp; done) | (simp; omega)) _ | refine Below.drewN ?_ _))⟩
      have k3 := blk_cells ((B2.after n1 (by omega)).setRow (maskA (setW (has (madeW (fun x y : Nat => x ||| y) f g 23)))))
      simp [results, Tryd.results85, go_sem, k3]

set_option maxHeartbeats 1000000 in
theorem each_sans (f g : Nat → Nat) (w : World) (hf : ∀ k, k < 23 → f k < 18446744073709551616) (hg : ∀ k, k < 23 → g k < 18446744073709551616) :
    Calls Tryd.prog 85 #[.agg (maskA f), .agg (maskA g), .func (.func 87) #[] #[]] w fun e w' => e = .returned (.agg (setA (has (fun k => sans (f k) (g k))))) ∧ Below w.heap.size w w' := by
  replace hf := Lib.hid hf
  replace hg := Lib.hid hg
  go_enter Tryd.func85, Tryd.ntmps85
  go_wp2_with fail
  go_loopg [8] 23 (fun n k wr => ∃ j : Nat, j ≤ 23 ∧ n = 23 - j ∧ k = .int .i64 j ∧ Below w.heap.size w wr ∧ w.heap.size + 2 < wr.heap.size ∧ Blk wr w.heap.size 38 (maskA (madeW sans f g j)) ∧ Blk wr (w.heap.size + 1) 38 (maskA g) ∧ Blk wr (w.heap.size + 1 + 1) 38 (maskA (fun _ => 0)))
  case atStart =>
    refine ⟨0, by omega, rfl, rfl, (by repeat (first | exact Below.refl _ _ | assumption | refine Below.n _ ?_ (by first | omega | (simp; done) | (simp; omega)) | refine Below.alloc ?_ (by first | omega | (simp; done) | (simp; omega)) _ | refine Below.setCell ?_ (by first | omega | (simp; done) | (simp; omega)) _ | refine Below.drew ?_ | refine Below.setRow ?_ (by first | omega | (simp; done) | (simp; omega)) _ | refine Below.drewN ?_ _)), by simp, ?_, ?_, ?_⟩
    · rw [madeW_0]; exact ((Blk.new _ _ _).alloc _).alloc _
    · have := (Blk.new (w.alloc (.cells (maskA f) 38)) 38 (maskA g)).alloc (.cells (maskA fun x => 0) 38)
      simpa using this
    · simpa using Blk.new ((w.alloc (.cells (maskA f) 38)).alloc (.cells (maskA g) 38)) 38 (maskA fun x => 0)
  case round =>
    obtain ⟨j, hj, hn, rfl, hb, hsz, B0, B1, B2⟩ := hrel
    replace hn := Lib.hid hn
    by_cases hlt : j < 23
    · have c0 : wr.cell? ⟨w.heap.size, j, none⟩ = some (.int .u64 (f j)) := by rw [B0.cell, maskA_get, if_pos hlt]; simp [madeW]
      have c1 : wr.cell? ⟨w.heap.size + 1, j, none⟩ = some (.int .u64 (g j)) := by rw [B1.cell, maskA_get, if_pos hlt]
      have f0 : wr.frozen? ⟨w.heap.size, j, none⟩ = false := B0.frozen j
      go_wp2_with fail
      go_region_with (go_at_call 87; refine (Diff1 (f j) (g j) _ (hf.out j hlt) (hg.out j hlt)).mono ?_; rintro e w' ⟨rfl, rfl⟩)
      all_goals
        go_wp2
        go_roundg (23 - (j + 1))
        case measure => rw [hn.out]; omega
        case rel =>
          refine ⟨j + 1, by omega, rfl, by go_num, Below.setCell (Below.drew hb) (by simp) _, by simpa using hsz, ?_, ?_, ?_⟩
          · have := (show Blk wr.drew w.heap.size 38 _ from B0).set j (.int .u64 ((sans (f j) (g j) : Nat) : Int))
            rw [maskA_set, madeW_succ sans] at this
            exact this
          · exact Blk.far (show Blk wr.drew (w.heap.size + 1) 38 _ from B1) (by simp) _
          · exact Blk.far (show Blk wr.drew (w.heap.size + 1 + 1) 38 _ from B2) (by simp; omega) _
    · obtain rfl : j = 23 := by omega
      have k0 : cellsAt wr w.heap.size 0 23 = some (maskA (madeW sans f g 23)) := blk_cells B0
      have k2 : freeRow wr (w.heap.size + 1 + 1) 23 = true := blk_free B2
      go_wp2_with fail
      refine (clean_any _ _ (fun k hk => by unfold madeW; rw [if_pos hk]; exact sans_lt (hf.out k hk) (hg.out k hk))).mono ?_
      rintro e w1 ⟨rfl, hb1⟩
      obtain ⟨n1, rfl⟩ := After.of hb1
      have s1 := n1.size
      go_wp2
      have e : has (madeW sans f g 23) = has (fun k => sans (f k) (g k)) := by
        funext i
        unfold has madeW
        by_cases hi : i < 1440
        · rw [if_pos (show i / 64 < 23 by omega)]
        · simp [hi]
      rw [← e]
      refine bodyPost_ret (v := .agg (setA (has (madeW sans f g 23)))) ?_ rfl ⟨rfl, (by repeat (first | exact Below.refl _ _ | assumption | refine Below.n _ ?_ (by first | omega | (simp; done) | (simp; omega)) | refine Below.alloc ?_ (by first | omega | (simp; done) | (simp; omega)) _ | refine Below.setCell ?_ (by first | omega | (simp; done) | (simp; omega)) _ | refine Below.drew ?_ | refine Below.setRow ?_ (by first | omega | (simp; done) | (simp; omega)) _ | refine Below.drewN ?_ _))⟩
      have k3 := blk_cells ((B2.after n1 (by omega)).setRow (maskA (setW (has (madeW sans f g 23)))))
      simp [results, Tryd.results85, go_sem, k3]


end Msk
end Go.Proofs.YtbadplbdgpbdaaaDoor

namespace Go.Proofs.YtbadplbdgpbdaaaDoor
open Go.RowKit
namespace Msk

set_option maxHeartbeats 1000000 in
theorem Union_any (f g : Nat → Nat) (w : World) (hf : ∀ k, k < 23 → f k < 18446744073709551616) (hg : ∀ k, k < 23 → g k < 18446744073709551616) :
    Calls Tryd.prog 58 #[.agg (maskA f), .agg (maskA g)] w fun e w' => e = .returned (.agg (setA (fun i => has f i ||has g i))) ∧ Below w.heap.size w w' := by
  have c := fun W => each_or f g W hf hg
  have e : setA (has (fun k => (fun x y : Nat => x ||| y) (f k) (g k))) = setA (fun i => has f i ||has g i) := by congr 2; funext i; exact (has_or f g i)
  rw [e] at c
  replace c := Lib.hid c
  go_enter Tryd.func58, Tryd.ntmps58
  go_wp2_with fail
  refine (c.out _).mono ?_
  rintro e w1 ⟨rfl, hb1⟩
  obtain ⟨n1, rfl⟩ := After.of hb1
  have s1 := n1.size
  simp at s1
  have B2 := (Blk.new ((w.alloc (.cells (maskA f) 38)).alloc (.cells (maskA g) 38)) 38 (maskA fun x => 0)).after n1 (by simp)
  simp at B2
  have k2 := blk_free B2
  go_wp2
  refine bodyPost_ret (v := .agg (setA (fun i => has f i ||has g i))) ?_ rfl ⟨rfl, (by repeat (first | exact Below.refl _ _ | assumption | refine Below.n _ ?_ (by first | omega | (simp; done) | (simp; omega)) | refine Below.alloc ?_ (by first | omega | (simp; done) | (simp; omega)) _ | refine Below.setCell ?_ (by first | omega | (simp; done) | (simp; omega)) _ | refine Below.drew ?_ | refine Below.setRow ?_ (by first | omega | (simp; done) | (simp; omega)) _ | refine Below.drewN ?_ _))⟩
  have k3 := blk_cells (B2.setRow (maskA (setW (fun i => has f i ||has g i))))
  simp [results, Tryd.results58, go_sem, k3]
set_option maxHeartbeats 1000000 in
theorem Diff_any (f g : Nat → Nat) (w : World) (hf : ∀ k, k < 23 → f k < 18446744073709551616) (hg : ∀ k, k < 23 → g k < 18446744073709551616) :
    Calls Tryd.prog 59 #[.agg (maskA f), .agg (maskA g)] w fun e w' => e = .returned (.agg (setA (fun i => has f i && !has g i))) ∧ Below w.heap.size w w' := by
  have c := fun W => each_sans f g W hf hg
  have e : setA (has (fun k => sans (f k) (g k))) = setA (fun i => has f i && !has g i) := by congr 2; funext i; exact (has_sans (fun k hk => hf k hk) (fun k hk => hg k hk) i)
  rw [e] at c
  replace c := Lib.hid c
  go_enter Tryd.func59, Tryd.ntmps59
  go_wp2_with fail
  refine (c.out _).mono ?_
  rintro e w1 ⟨rfl, hb1⟩
  obtain ⟨n1, rfl⟩ := After.of hb1
  have s1 := n1.size
  simp at s1
  have B2 := (Blk.new ((w.alloc (.cells (maskA f) 38)).alloc (.cells (maskA g) 38)) 38 (maskA fun x => 0)).after n1 (by simp)
  simp at B2
  have k2 := blk_free B2
  go_wp2
  refine bodyPost_ret (v := .agg (setA (fun i => has f i && !has g i))) ?_ rfl ⟨rfl, (by repeat (first | exact Below.refl _ _ | assumption | refine Below.n _ ?_ (by first | omega | (simp; done) | (simp; omega)) | refine Below.alloc ?_ (by first | omega | (simp; done) | (simp; omega)) _ | refine Below.setCell ?_ (by first | omega | (simp; done) | (simp; omega)) _ | refine Below.drew ?_ | refine Below.setRow ?_ (by first | omega | (simp; done) | (simp; omega)) _ | refine Below.drewN ?_ _))⟩
  have k3 := blk_cells (B2.setRow (maskA (setW (fun i => has f i && !has g i))))
  simp [results, Tryd.results59, go_sem, k3]

end Msk
end Go.Proofs.YtbadplbdgpbdaaaDoor

namespace Go.Proofs.YtbadplbdgpbdaaaDoor
open Go.RowKit
namespace Msk

/-- a slice that reads as a list of spans, all below block B -/
def SpansV (w : World) (B : Nat) (v : Value) (l : List (Int × Int)) : Prop :=
  ∃ A cap, v = .slice A l.length cap ∧ l.length ≤ 9223372036854775807 ∧ ∀ (i : Nat) (s : Int × Int), l[i]? = some s → ∃ b o, A = some ⟨b, o, none⟩ ∧ b < B ∧ w.cell? ⟨b, o + i * 2, none⟩ = some (.int .i64 s.1) ∧ w.cell? ⟨b, o + i * 2 + 1, none⟩ = some (.int .i64 s.2)
theorem SpansV.below {w w' : World} {B B' : Nat} {v : Value} {l : List (Int × Int)} (h : SpansV w B v l) (hb : Below B' w w') (hB : B ≤ B') : SpansV w' B v l := by
  obtain ⟨A, cap, hv, hl, hc⟩ := h
  refine ⟨A, cap, hv, hl, fun i s hs => ?_⟩
  obtain ⟨b, o, hA, hlt, h1, h2⟩ := hc i s hs
  exact ⟨b, o, hA, hlt, (hb.cell (p := ⟨b, _, none⟩) (by simp; omega)).trans h1, (hb.cell (p := ⟨b, _, none⟩) (by simp; omega)).trans h2⟩
theorem SpansV.more {w : World} {B B' : Nat} {v : Value} {l : List (Int × Int)} (h : SpansV w B v l) (hB : B ≤ B') : SpansV w B' v l := by
  obtain ⟨A, cap, hv, hl, hc⟩ := h
  refine ⟨A, cap, hv, hl, fun i s hs => ?_⟩
  obtain ⟨b, o, hA, hlt, h1, h2⟩ := hc i s hs
  exact ⟨b, o, hA, by omega, h1, h2⟩

theorem IntMax (a : Int) : 0 ≤ max a 0 := by omega

set_option maxHeartbeats 2000000 in
theorem Of_any (v : Value) (l : List (Int × Int)) (w : World) (hl : SpansV w w.heap.size v l) :
    Calls Tryd.prog 56 #[v] w fun e w' => e = .returned (.agg (setA (inSpans l))) ∧ Below w.heap.size w w' := by
  obtain ⟨A, cap, rfl, hlen, hc⟩ := hl
  replace hc := Lib.hid hc
  go_enter Tryd.func56, Tryd.ntmps56
  go_wp2
  go_loopg [9] l.length (fun n k wr => ∃ j : Nat, j ≤ l.length ∧ n = l.length - j ∧ k = .int .i64 j ∧ Below w.heap.size w wr ∧ w.heap.size + 1 < wr.heap.size ∧ Blk wr w.heap.size 38 (maskA (fun _ => 0)) ∧ Blk wr (w.heap.size + 1) 38 (maskA (setW (inSpans (l.take j)))))
  case atStart =>
    refine ⟨0, by omega, rfl, rfl, (by repeat (first | exact Below.refl _ _ | assumption | refine Below.n _ ?_ (by first | omega | (simp; done) | (simp; omega)) | refine Below.alloc ?_ (by first | omega | (simp; done) | (simp; omega)) _ | refine Below.setCell ?_ (by first | omega | (simp; done) | (simp; omega)) _ | refine Below.drew ?_ | refine Below.setRow ?_ (by first | omega | (simp; done) | (simp; omega)) _ | refine Below.drewN ?_ _)), by simp, (Blk.new _ _ _).alloc _, ?_⟩
    have := Blk.new (w.alloc (.cells (maskA fun x => 0) 38)) 38 (maskA fun x => 0)
    have e : maskA (setW (inSpans (l.take 0))) = maskA (fun _ => 0) := zero_set
    rw [e]
    simpa using this
  case round =>
    obtain ⟨j, hj, hn, rfl, hb, hsz, B0, B1⟩ := hrel
    replace hn := Lib.hid hn
    by_cases hlt : j < l.length
    · obtain ⟨s, hs⟩ : ∃ s, l[j]? = some s := ⟨_, List.getElem?_eq_getElem hlt⟩
      obtain ⟨b, o, rfl, hblt, c0, c1⟩ := hc.out j s hs
      have d0 : wr.cell? ⟨b, o + j * 2, none⟩ = some (.int .i64 s.1) := (hb.cell (p := ⟨b, _, none⟩) hblt).trans c0
      have d1 : wr.cell? ⟨b, o + j * 2 + 1, none⟩ = some (.int .i64 s.2) := (hb.cell (p := ⟨b, _, none⟩) hblt).trans c1
      have hm := IntMax s.1
      go_wp2
      obtain ⟨wo, rfl⟩ : ∃ wo : World, wo = wr := ⟨_, rfl⟩
      go_loopg [6] (1440 - max s.1 0).toNat (fun n v w2 => ∃ i : Int, max s.1 0 ≤ i ∧ (i ≤ max s.1 0 ∨ i ≤ min s.2 1440) ∧ n = (1440 - i).toNat ∧ v = .int .i64 i ∧ Below w.heap.size w w2 ∧ w.heap.size + 1 < w2.heap.size ∧ w.heap.size + 1 < wo.heap.size ∧ Blk w2 w.heap.size 38 (maskA (fun _ => 0)) ∧
        Blk w2 (w.heap.size + 1) 38 (maskA (setW (fun q => inSpans (l.take j) q || (decide (max s.1 0 ≤ (q : Int)) && decide ((q : Int) < i))))) ∧ Blk w2 wo.heap.size 108 #[.int .i64 s.1, .int .i64 s.2])
      case atStart =>
        refine ⟨max s.1 0, by omega, by omega, rfl, rfl, (by repeat (first | exact Below.refl _ _ | assumption | refine Below.n _ ?_ (by first | omega | (simp; done) | (simp; omega)) | refine Below.alloc ?_ (by first | omega | (simp; done) | (simp; omega)) _ | refine Below.setCell ?_ (by first | omega | (simp; done) | (simp; omega)) _ | refine Below.drew ?_ | refine Below.setRow ?_ (by first | omega | (simp; done) | (simp; omega)) _ | refine Below.drewN ?_ _)), (by first | omega | (simp; done) | (simp; omega)), hsz, B0.alloc _, ?_, Blk.new _ _ _⟩
        have e : setW (fun q => inSpans (l.take j) q || (decide (max s.1 0 ≤ (q : Int)) && decide ((q : Int) < max s.1 0))) = setW (inSpans (l.take j)) := setW_congr fun q _ => by
          have : (decide (max s.1 0 ≤ (q : Int)) && decide ((q : Int) < max s.1 0)) = false := (by first | (simp; done) | (simp; omega))
          rw [this, Bool.or_false]
        rw [e]
        exact B1.alloc _
      case round =>
        obtain ⟨i, hi0, hi1, hk, rfl, hb2, hsz2, hsz3, D0, D1, D2⟩ := hrel
        replace hk := Lib.hid hk
        have k0 : wr.cell? ⟨wo.heap.size, 0, none⟩ = some (.int .i64 s.1) := D2.cell 0
        have k1 : wr.cell? ⟨wo.heap.size, 1, none⟩ = some (.int .i64 s.2) := D2.cell 1
        by_cases hlt2 : i < min s.2 1440
        · obtain ⟨q, rfl⟩ := Int.eq_ofNat_of_zero_le (show 0 ≤ i by omega)
          have hq : q < 1440 := by omega
          have c1 : wr.cell? ⟨w.heap.size + 1, q / 64, none⟩ = some (.int .u64 (setW (fun x => inSpans (l.take j) x || (decide (max s.1 0 ≤ (x : Int)) && decide ((x : Int) < (q : Int)))) (q / 64))) := by rw [D1.cell, maskA_get, if_pos (by omega)]
          have f1 : wr.frozen? ⟨w.heap.size + 1, q / 64, none⟩ = false := D1.frozen _
          by_cases hw : ((q : Int) % 64 == 0) = true ∧ decide ((q : Int) + 64 ≤ min s.2 1440) = true
          · obtain ⟨g1, g2⟩ := hw
            have hq2 : (q : Int) + 64 ≤ min s.2 1440 := by simpa using g2
            go_wp2
            go_roundg (1440 - ((q : Int) + 64)).toNat
            case measure => rw [hk.out]; omega
            case rel =>
              have E := D1.set (q / 64) (.int .u64 18446744073709551615)
              rw [maskA_ones, grow_word _ _ _ hi0 (by simp at g1; omega) (by omega)] at E
              exact ⟨(q : Int) + 64, by omega, by omega, rfl, rfl, (by repeat (first | exact Below.refl _ _ | assumption | refine Below.n _ ?_ (by first | omega | (simp; done) | (simp; omega)) | refine Below.alloc ?_ (by first | omega | (simp; done) | (simp; omega)) _ | refine Below.setCell ?_ (by first | omega | (simp; done) | (simp; omega)) _ | refine Below.drew ?_ | refine Below.setRow ?_ (by first | omega | (simp; done) | (simp; omega)) _ | refine Below.drewN ?_ _)), by simpa using hsz2, hsz3, D0.far (by first | omega | (simp; done) | (simp; omega)) _, E, D2.far (by first | omega | (simp; done) | (simp; omega)) _⟩
          · have g : ((q : Int) % 64 == 0) = false ∨ ((q : Int) % 64 == 0) = true ∧ decide ((q : Int) + 64 ≤ min s.2 1440) = false := by
              cases h1 : ((q : Int) % 64 == 0)
              · exact .inl rfl
              · refine .inr ⟨rfl, ?_⟩
                cases h2 : decide ((q : Int) + 64 ≤ min s.2 1440)
                · rfl
                · exact absurd ⟨h1, h2⟩ hw
            clear hw
            rcases g with g1 | ⟨g1, g2⟩
            all_goals
              go_wp2
              go_region
              all_goals
                go_wp2
                go_roundg (1440 - ((q : Int) + 1)).toNat
                case measure => rw [hk.out]; omega
                case rel =>
                  have E : ∀ V : Int, V = ((setW (fun x => inSpans (l.take j) x || (decide (max s.1 0 ≤ (x : Int)) && decide ((x : Int) < (q : Int)))) (q / 64) ||| 2 ^ (q % 64) : Nat) : Int) →
                      Blk (wr.setCell ⟨w.heap.size + 1, q / 64, none⟩ (.int .u64 V)) (w.heap.size + 1) 38 (maskA (setW (fun x => inSpans (l.take j) x || (decide (max s.1 0 ≤ (x : Int)) && decide ((x : Int) < (q : Int) + 1))))) := by
                    rintro _ rfl
                    have E := D1.set (q / 64) (.int .u64 ((setW (fun x => inSpans (l.take j) x || (decide (max s.1 0 ≤ (x : Int)) && decide ((x : Int) < (q : Int)))) (q / 64) ||| 2 ^ (q % 64) : Nat) : Int))
                    rw [maskA_set, grow_bit _ _ _ hi0 hq] at E
                    exact E
                  refine ⟨(q : Int) + 1, by omega, by omega, rfl, rfl, (by repeat (first | exact Below.refl _ _ | assumption | refine Below.n _ ?_ (by first | omega | (simp; done) | (simp; omega)) | refine Below.alloc ?_ (by first | omega | (simp; done) | (simp; omega)) _ | refine Below.setCell ?_ (by first | omega | (simp; done) | (simp; omega)) _ | refine Below.drew ?_ | refine Below.setRow ?_ (by first | omega | (simp; done) | (simp; omega)) _ | refine Below.drewN ?_ _)), by simpa using hsz2, hsz3, D0.far (by first | omega | (simp; done) | (simp; omega)) _, E _ ?_, D2.far (by first | omega | (simp; done) | (simp; omega)) _⟩
                  rw [or_bit _ _ (setW_lt _ _) (by omega)]
                  simp
        · go_wp2
          go_roundg (l.length - (j + 1))
          case measure => rw [hn.out]; omega
          case rel =>
            refine ⟨j + 1, by omega, rfl, by go_num, hb2, hsz2, D0, ?_⟩
            have e : setW (fun q => inSpans (l.take j) q || (decide (max s.1 0 ≤ (q : Int)) && decide ((q : Int) < i))) = setW (inSpans (l.take (j + 1))) := setW_congr fun x hx => by
              rw [inSpans_snoc l j s hs]
              congr 1
              rw [Bool.eq_iff_iff]
              simp
              omega
            rw [← e]
            exact D1
    · obtain rfl : j = l.length := by omega
      rw [List.take_length] at B1
      have k1 := blk_cells B1
      have k2 := blk_free B0
      go_wp2
      have k3 := blk_cells (B0.setRow (maskA (setW (inSpans l))))
      refine bodyPost_ret (v := .agg (setA (inSpans l))) ?_ rfl ⟨rfl, (by repeat (first | exact Below.refl _ _ | assumption | refine Below.n _ ?_ (by first | omega | (simp; done) | (simp; omega)) | refine Below.alloc ?_ (by first | omega | (simp; done) | (simp; omega)) _ | refine Below.setCell ?_ (by first | omega | (simp; done) | (simp; omega)) _ | refine Below.drew ?_ | refine Below.setRow ?_ (by first | omega | (simp; done) | (simp; omega)) _ | refine Below.drewN ?_ _))⟩
      simp [results, Tryd.results56, go_sem, k3]

/-- a slice of one span that was just made -/
theorem SpansV.one {W : World} {g B : Nat} {a b : Int} (hg : g = W.heap.size) (hB : g < B) : SpansV (W.alloc (.cells #[.int .i64 a, .int .i64 b] 108)) B (.slice (some ⟨g, 0, none⟩) 1 1) [(a, b)] := by
  subst hg
  refine ⟨some ⟨W.heap.size, 0, none⟩, 1, rfl, by simp, fun i s hs => ?_⟩
  have B := Blk.new W 108 #[.int .i64 a, .int .i64 b]
  match i, hs with
  | 0, hs =>
    simp at hs
    subst hs
    exact ⟨W.heap.size, 0, rfl, hB, B.cell 0, B.cell 1⟩
theorem SpansV.drew {w : World} {B : Nat} {v : Value} {l : List (Int × Int)} (h : SpansV w B v l) : SpansV w.drew B v l := h

end Msk
end Go.Proofs.YtbadplbdgpbdaaaDoor

namespace Go.Proofs.YtbadplbdgpbdaaaDoor
open Go.RowKit
namespace Msk

set_option maxHeartbeats 400000 in
theorem Both1 (x y : Nat) (w : World) (hx : x < 18446744073709551616) (hy : y < 18446744073709551616) :
    Calls Tryd.prog 88 #[.int .u64 x, .int .u64 y] w fun e w' => e = .returned (.int .u64 ((x &&& y : Nat) : Int)) ∧ w = w' := by
  go_enter Tryd.func88, Tryd.ntmps88
  go_wp2
  go_ret
  exact ⟨ret_int (by simp [u64_and_nat, hx, hy]), rfl⟩

set_option maxHeartbeats 1000000 in
theorem each_and (f g : Nat → Nat) (w : World) (hf : ∀ k, k < 23 → f k < 18446744073709551616) (hg : ∀ k, k < 23 → g k < 18446744073709551616) :
    Calls Tryd.prog 85 #[.agg (maskA f), .agg (maskA g), .func (.func 88) #[] #[]] w fun e w' => e = .returned (.agg (setA (has (fun k => (fun x y : Nat => x &&& y) (f k) (g k))))) ∧ Below w.heap.size w w' := by
  replace hf := Lib.hid hf
  replace hg := Lib.hid hg
  go_enter Tryd.func85, Tryd.ntmps85
  go_wp2_with fail
  go_loopg [8] 23 (fun n k wr => ∃ j : Nat, j ≤ 23 ∧ n = 23 - j ∧ k = .int .i64 j ∧ Below w.heap.size w wr ∧ w.heap.size + 2 < wr.heap.size ∧ Blk wr w.heap.size 38 (maskA (madeW (fun x y : Nat => x &&& y) f g j)) ∧ Blk wr (w.heap.size + 1) 38 (maskA g) ∧ Blk wr (w.heap.size + 1 + 1) 38 (maskA (fun _ => 0)))
  case atStart =>
    refine ⟨0, by omega, rfl, rfl, (by repeat (first | exact Below.refl _ _ | assumption | refine Below.n _ ?_ (by first | omega | (simp; done) | (simp; omega)) | refine Below.alloc ?_ (by first | omega | (simp; done) | (simp; omega)) _ | refine Below.setCell ?_ (by first | omega | (simp; done) | (simp; omega)) _ | refine Below.drew ?_ | refine Below.setRow ?_ (by first | omega | (simp; done) | (simp; omega)) _ | refine Below.drewN ?_ _)), by simp, ?_, ?_, ?_⟩
    · rw [madeW_0]; exact ((Blk.new _ _ _).alloc _).alloc _
    · have := (Blk.new (w.alloc (.cells (maskA f) 38)) 38 (maskA g)).alloc (.cells (maskA fun x => 0) 38)
      simpa using this
    · simpa using Blk.new ((w.alloc (.cells (maskA f) 38)).alloc (.cells (maskA g) 38)) 38 (maskA fun x => 0)
  case round =>
    obtain ⟨j, hj, hn, rfl, hb, hsz, B0, B1, B2⟩ := hrel
    replace hn := Lib.hid hn
    by_cases hlt : j < 23
    · have c0 : wr.cell? ⟨w.heap.size, j, none⟩ = some (.int .u64 (f j)) := by rw [B0.cell, maskA_get, if_pos hlt]; simp [madeW]
      have c1 : wr.cell? ⟨w.heap.size + 1, j, none⟩ = some (.int .u64 (g j)) := by rw [B1.cell, maskA_get, if_pos hlt]
      have f0 : wr.frozen? ⟨w.heap.size, j, none⟩ = false := B0.frozen j
      go_wp2_with fail
      go_region_with (go_at_call 88; refine (Both1 (f j) (g j) _ (hf.out j hlt) (hg.out j hlt)).mono ?_; rintro e w' ⟨rfl, rfl⟩)
      all_goals
        go_wp2
        go_roundg (23 - (j + 1))
        case measure => rw [hn.out]; omega
        case rel =>
          refine ⟨j + 1, by omega, rfl, by go_num, Below.setCell (Below.drew hb) (by simp) _, by simpa using hsz, ?_, ?_, ?_⟩
          · have := (show Blk wr.drew w.heap.size 38 _ from B0).set j (.int .u64 (((fun x y : Nat => x &&& y) (f j) (g j) : Nat) : Int))
            rw [maskA_set, madeW_succ (fun x y : Nat => x &&& y)] at this
            exact this
          · exact Blk.far (show Blk wr.drew (w.heap.size + 1) 38 _ from B1) (by simp) _
          · exact Blk.far (show Blk wr.drew (w.heap.size + 1 + 1) 38 _ from B2) (by simp; omega) _
    · obtain rfl : j = 23 := by omega
      have k0 : cellsAt wr w.heap.size 0 23 = some (maskA (madeW (fun x y : Nat => x &&& y) f g 23)) := blk_cells B0
      have k2 : freeRow wr (w.heap.size + 1 + 1) 23 = true := blk_free B2
      go_wp2_with fail
      refine (clean_any _ _ (fun k hk => by unfold madeW; rw [if_pos hk]; exact and_lt (hf.out k hk) (hg.out k hk))).mono ?_
      rintro e w1 ⟨rfl, hb1⟩
      obtain ⟨n1, rfl⟩ := After.of hb1
      have s1 := n1.size
      go_wp2
      have e : has (madeW (fun x y : Nat => x &&& y) f g 23) = has (fun k => (fun x y : Nat => x &&& y) (f k) (g k)) := by
        funext i
        unfold has madeW
        by_cases hi : i < 1440
        · rw [if_pos (show i / 64 < 23 by omega)]
        · simp [hi]
      rw [← e]
      refine bodyPost_ret (v := .agg (setA (has (madeW (fun x y : Nat => x &&& y) f g 23)))) ?_ rfl ⟨rfl, (by repeat (first | exact Below.refl _ _ | assumption | refine Below.n _ ?_ (by first | omega | (simp; done) | (simp; omega)) | refine Below.alloc ?_ (by first | omega | (simp; done) | (simp; omega)) _ | refine Below.setCell ?_ (by first | omega | (simp; done) | (simp; omega)) _ | refine Below.drew ?_ | refine Below.setRow ?_ (by first | omega | (simp; done) | (simp; omega)) _ | refine Below.drewN ?_ _))⟩
      have k3 := blk_cells ((B2.after n1 (by omega)).setRow (maskA (setW (has (madeW (fun x y : Nat => x &&& y) f g 23)))))
      simp [results, Tryd.results85, go_sem, k3]


set_option maxHeartbeats 1000000 in
theorem Both_any (f g : Nat → Nat) (w : World) (hf : ∀ k, k < 23 → f k < 18446744073709551616) (hg : ∀ k, k < 23 → g k < 18446744073709551616) :
    Calls Tryd.prog 60 #[.agg (maskA f), .agg (maskA g)] w fun e w' => e = .returned (.agg (setA (fun i => has f i &&has g i))) ∧ Below w.heap.size w w' := by
  have c := fun W => each_and f g W hf hg
  have e : setA (has (fun k => (fun x y : Nat => x &&& y) (f k) (g k))) = setA (fun i => has f i &&has g i) := by congr 2; funext i; exact (has_and f g i)
  rw [e] at c
  replace c := Lib.hid c
  go_enter Tryd.func60, Tryd.ntmps60
  go_wp2_with fail
  refine (c.out _).mono ?_
  rintro e w1 ⟨rfl, hb1⟩
  obtain ⟨n1, rfl⟩ := After.of hb1
  have s1 := n1.size
  simp at s1
  have B2 := (Blk.new ((w.alloc (.cells (maskA f) 38)).alloc (.cells (maskA g) 38)) 38 (maskA fun x => 0)).after n1 (by simp)
  simp at B2
  have k2 := blk_free B2
  go_wp2
  refine bodyPost_ret (v := .agg (setA (fun i => has f i &&has g i))) ?_ rfl ⟨rfl, (by repeat (first | exact Below.refl _ _ | assumption | refine Below.n _ ?_ (by first | omega | (simp; done) | (simp; omega)) | refine Below.alloc ?_ (by first | omega | (simp; done) | (simp; omega)) _ | refine Below.setCell ?_ (by first | omega | (simp; done) | (simp; omega)) _ | refine Below.drew ?_ | refine Below.setRow ?_ (by first | omega | (simp; done) | (simp; omega)) _ | refine Below.drewN ?_ _))⟩
  have k3 := blk_cells (B2.setRow (maskA (setW (fun i => has f i &&has g i))))
  simp [results, Tryd.results60, go_sem, k3]

end Msk
end Go.Proofs.YtbadplbdgpbdaaaDoor
