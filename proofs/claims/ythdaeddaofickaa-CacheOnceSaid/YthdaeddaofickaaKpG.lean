/- What is kept, as it lies in memory: 26 cells an entry; loaded, stored, laid into a row whole. The walk of slices.IndexFunc at kept entries, with cache.Get's test. The walk of slices.Clone at kept entries. clear, at a slice whose elements have many cells. The walk of slices.Delete at kept entries. A cache of the call's own: its block, and the row that it keeps. -/
import Derived.Test.YthdaeddaofickaaKp
import Derived.Test.YthdaeddaofickaaVmM
import Derived.Test.YthdaeddaofickaaRd
import Derived.Lib.SliceRun
import Derived.Test.YthdaeddaofickaaPut
import Derived.Deep.RegionLaw
import Derived.Test.YthdaeddaofickaaStep
import Derived.Deep.AppendLies
namespace Go.Proofs.Ythdaeddaofickaa
open Go.RowKit
namespace Kp
open Msk Sl

def keptA (x : Kept) : Array Value := #[.int .i64 x.rule, .int .i64 x.day, .int .i64 x.ver] ++ maskA x.mask
theorem keptA_size (x : Kept) : (keptA x).size = 26 := by unfold keptA; rw [Array.size_append, maskA_size]; rfl
theorem keptA_mask (x : Kept) (i : Nat) : (keptA x)[3 + i]? = (maskA x.mask)[i]? := by
  unfold keptA
  rw [Array.getElem?_append_right (by simp)]
  simp
theorem keptA_0 (x : Kept) : (keptA x)[0]? = some (.int .i64 x.rule) := by unfold keptA; rw [Array.getElem?_append_left (by simp)]; rfl
theorem keptA_1 (x : Kept) : (keptA x)[1]? = some (.int .i64 x.day) := by unfold keptA; rw [Array.getElem?_append_left (by simp)]; rfl
theorem keptA_2 (x : Kept) : (keptA x)[2]? = some (.int .i64 x.ver) := by unfold keptA; rw [Array.getElem?_append_left (by simp)]; rfl
theorem keptA_one (x : Kept) : ∀ v ∈ (keptA x).toList, v.oneCell' = true := by
  intro v hv
  unfold keptA at hv
  rw [Array.toList_append] at hv
  rcases List.mem_append.1 hv with h | h
  · simp at h
    rcases h with rfl | rfl | rfl <;> rfl
  · exact one_cell x.mask v h
@[go_sem ↓] theorem fold_load26 (a : Addr) : loadCellsFrom a 0 26 #[] = loadRow 26 a := rfl
@[go_sem] theorem run_store26 {P : Program} (w : World) (g : Nat) (x : Kept) :
    (storeCells ⟨g, 0, none⟩ (keptA x).toList 0).run P w = if freeRow w g 26 = true then .ok () (w.setRow g (keptA x)) else (storeRaw ⟨g, 0, none⟩ (keptA x)).run P w :=
  run_storeRow w g 26 _ (keptA_size x) (keptA_one x)
/-- entries in a slice -/
def KeptV (w : World) (B : Nat) (v : Value) (l : List Kept) : Prop := Reads B v l fun b o i x => cellsAt w b (o + i * 26) 26 = some (keptA x) ∧ okW x.mask
theorem KeptV.below {w w' : World} {B B' B'' : Nat} {v : Value} {l : List Kept} (h : KeptV w B v l) (hb : Below B' w w') (hB : B ≤ B') (hB2 : B ≤ B'') : KeptV w' B'' v l :=
  Reads.mono h hB2 fun b o i x hlt _ ⟨h1, h2⟩ => ⟨(cellsAt_congr fun j _ => hb.cell (p := ⟨b, _, none⟩) (by simp; omega)).trans h1, h2⟩
theorem el_kept : El Try.prog 22 45 26 208 := El.mk' Try.underlying22 (by kernel_rfl) (by omega)

end Kp
end Go.Proofs.Ythdaeddaofickaa

namespace Go.Proofs.Ythdaeddaofickaa
open Go.RowKit
namespace Kp
open Msk Sl

set_option maxHeartbeats 1000000 in
theorem test_any (cs : Array Value) (r d rule day : Int) (h0 : cs[0]? = some (.int .i64 r)) (h1 : cs[1]? = some (.int .i64 d)) (pr pd : Nat) (w : World) (hr : w.cell? ⟨pr, 0, none⟩ = some (.int .i64 rule)) (hd : w.cell? ⟨pd, 0, none⟩ = some (.int .i64 day)) (hpr : pr < w.heap.size) (hpd : pd < w.heap.size) :
    Calls Try.prog 21 #[.agg cs, .pointer (some ⟨pr, 0, none⟩), .pointer (some ⟨pd, 0, none⟩)] w fun e w' => e = .returned (.bool (decide (r = rule) && decide (d = day))) ∧ Below w.heap.size w w' := by
  have k0 : (r == rule) = decide (r = rule) := by rw [Bool.eq_iff_iff]; simp
  have k1 : (d == day) = decide (d = day) := by rw [Bool.eq_iff_iff]; simp
  rw [← k0, ← k1]
  clear k0 k1
  cases hg : (r == rule) with
  | true =>
    go_enter Try.func21, Try.ntmps21
    go_wp2
    go_ret
    exact ⟨rfl, (by repeat (first | exact Below.refl _ _ | assumption | refine Below.n _ ?_ (by first | omega | (simp; done) | (simp; omega)) | refine Below.alloc ?_ (by first | omega | (simp; done) | (simp; omega)) _ | refine Below.setCell ?_ (by first | omega | (simp; done) | (simp; omega)) _ | refine Below.drew ?_ | refine Below.setRow ?_ (by first | omega | (simp; done) | (simp; omega)) _ | refine Below.drewN ?_ _))⟩
  | false =>
    go_enter Try.func21, Try.ntmps21
    go_wp2
    go_ret
    exact ⟨rfl, (by repeat (first | exact Below.refl _ _ | assumption | refine Below.n _ ?_ (by first | omega | (simp; done) | (simp; omega)) | refine Below.alloc ?_ (by first | omega | (simp; done) | (simp; omega)) _ | refine Below.setCell ?_ (by first | omega | (simp; done) | (simp; omega)) _ | refine Below.drew ?_ | refine Below.setRow ?_ (by first | omega | (simp; done) | (simp; omega)) _ | refine Below.drewN ?_ _))⟩

theorem place_at {k : List Kept} {rule day : Int} {i : Nat} {x : Kept} (h : k[i]? = some x) (hn : i ≤ place k rule day) : (decide (x.rule = rule) && decide (x.day = day)) = true ↔ place k rule day = i := by
  obtain ⟨hi, rfl⟩ := List.getElem?_eq_some_iff.1 h
  constructor
  · intro hx
    have : place k rule day ≤ i := by
      rcases Nat.lt_or_ge i (place k rule day) with hlt | hge
      · have := List.not_of_lt_findIdx (xs := k) (p := fun x : Kept => decide (x.rule = rule) && decide (x.day = day)) hlt
        rw [hx] at this
        simp at this
      · exact hge
    omega
  · rintro hx
    have := place_key (k := k) (rule := rule) (day := day) (x := k[i]) (by rw [hx]; exact List.getElem?_eq_getElem hi)
    simp [this]

/-- where a rule's day is kept, as the code tells it -/
def placeI (k : List Kept) (rule day : Int) : Int := if place k rule day < k.length then place k rule day else -1

set_option maxRecDepth 100000 in
set_option maxHeartbeats 2000000 in
theorem index_any (v : Value) (k : List Kept) (rule day : Int) (pr pd : Nat) (w : World) (hk : KeptV w w.heap.size v k) (hr : w.cell? ⟨pr, 0, none⟩ = some (.int .i64 rule)) (hd : w.cell? ⟨pd, 0, none⟩ = some (.int .i64 day)) (hpr : pr < w.heap.size) (hpd : pd < w.heap.size) :
    Calls Try.prog 20 #[v, .func (.func 21) #[] #[.pointer (some ⟨pr, 0, none⟩), .pointer (some ⟨pd, 0, none⟩)]] w fun e w' => e = .returned (.int .i64 (placeI k rule day)) ∧ Below w.heap.size w w' := by
  obtain ⟨A, cap, rfl, hlen, hc⟩ := hk
  replace hc := Lib.hid hc
  go_enter Try.func20, Try.ntmps20
  go_wp2
  go_loopg [8] k.length (fun n i wr => ∃ j : Nat, j ≤ k.length ∧ n = k.length - j ∧ i = .int .i64 j ∧ Below w.heap.size w wr ∧ j ≤ place k rule day)
  case atStart => exact ⟨0, by omega, rfl, rfl, Below.refl _ _, Nat.zero_le _⟩
  case round =>
    obtain ⟨j, hj, hn, rfl, hb, hpl⟩ := hrel
    replace hn := Lib.hid hn
    by_cases hlt : j < k.length
    · obtain ⟨x, hx⟩ : ∃ x, k[j]? = some x := ⟨_, List.getElem?_eq_getElem hlt⟩
      obtain ⟨b, o, rfl, hbl, c5, hok⟩ := hc.out j x hx
      have z := hb.size
      replace c5 : cellsAt wr b (o + j * 26) 26 = some (keptA x) := (cellsAt_congr fun i _ => hb.cell (p := ⟨b, _, none⟩) hbl).trans c5
      have hpa := place_at (rule := rule) (day := day) hx hpl
      have ht := Lib.hid (test_any (keptA x) x.rule x.day rule day (keptA_0 x) (keptA_1 x) pr pd wr ((hb.cell (p := ⟨pr, _, none⟩) hpr).trans hr) ((hb.cell (p := ⟨pd, _, none⟩) hpd).trans hd) (by omega) (by omega))
      generalize keptA x = cs at *
      clear hx
      cases ht2 : (decide (x.rule = rule) && decide (x.day = day)) with
      | true =>
        have hp := hpa.1 ht2
        rw [ht2] at ht
        have hres := Lib.hid (show placeI k rule day = (j : Int) by unfold placeI; rw [hp, if_pos hlt])
        clear ht2 hpa hp
        go_wp2_with (go_at_call 21; refine ht.out.mono ?_; rintro e w2 ⟨rfl, hb2⟩; obtain ⟨n2, rfl⟩ := After.of hb2)
        go_ret
        exact ⟨ret_int hres.out.symm, (by repeat (first | exact Below.refl _ _ | assumption | refine Below.n _ ?_ (by first | omega | (simp; done) | (simp; omega)) | refine Below.alloc ?_ (by first | omega | (simp; done) | (simp; omega)) _ | refine Below.setCell ?_ (by first | omega | (simp; done) | (simp; omega)) _ | refine Below.drew ?_ | refine Below.setRow ?_ (by first | omega | (simp; done) | (simp; omega)) _ | refine Below.drewN ?_ _))⟩
      | false =>
        have hp : j + 1 ≤ place k rule day := by
          rcases Nat.lt_or_ge j (place k rule day) with h | h
          · exact h
          · have := hpa.2 (by omega); rw [ht2] at this; cases this
        rw [ht2] at ht
        clear ht2 hpa
        go_wp2_with (go_at_call 21; refine ht.out.mono ?_; rintro e w2 ⟨rfl, hb2⟩; obtain ⟨n2, rfl⟩ := After.of hb2)
        go_roundg (k.length - (j + 1))
        case measure => rw [hn.out]; omega
        case rel => exact ⟨j + 1, by omega, rfl, by go_num, (by repeat (first | exact Below.refl _ _ | assumption | refine Below.n _ ?_ (by first | omega | (simp; done) | (simp; omega)) | refine Below.alloc ?_ (by first | omega | (simp; done) | (simp; omega)) _ | refine Below.setCell ?_ (by first | omega | (simp; done) | (simp; omega)) _ | refine Below.drew ?_ | refine Below.setRow ?_ (by first | omega | (simp; done) | (simp; omega)) _ | refine Below.drewN ?_ _)), hp⟩
    · have hp := place_le k rule day
      have hres := Lib.hid (show placeI k rule day = -1 by unfold placeI; rw [if_neg (by omega)])
      obtain rfl : j = k.length := by omega
      go_wp2
      go_ret
      exact ⟨ret_int hres.out.symm, (by repeat (first | exact Below.refl _ _ | assumption | refine Below.n _ ?_ (by first | omega | (simp; done) | (simp; omega)) | refine Below.alloc ?_ (by first | omega | (simp; done) | (simp; omega)) _ | refine Below.setCell ?_ (by first | omega | (simp; done) | (simp; omega)) _ | refine Below.drew ?_ | refine Below.setRow ?_ (by first | omega | (simp; done) | (simp; omega)) _ | refine Below.drewN ?_ _))⟩

end Kp
end Go.Proofs.Ythdaeddaofickaa

namespace Go.Proofs.Ythdaeddaofickaa
open Go.RowKit
namespace Kp
open Msk Sl

def keptL (x : Kept) : List Value := (keptA x).toList
theorem keptL_len (x : Kept) : (keptL x).length = 26 := by unfold keptL; rw [Array.length_toList, keptA_size]
theorem flat_len (k : List Kept) : (k.flatMap keptL).length = k.length * 26 := by
  induction k with
  | nil => rfl
  | cons x k ih => rw [List.flatMap_cons, List.length_append, ih, keptL_len, List.length_cons]; omega
theorem flat_at (k : List Kept) : ∀ (j : Nat) (u : Value), (k.flatMap keptL)[j]? = some u → ∃ x, k[j / 26]? = some x ∧ (keptA x)[j % 26]? = some u := by
  induction k with
  | nil => intro j u h; simp at h
  | cons x k ih =>
    intro j u h
    have hl := keptL_len x
    have hx : ∀ i, (keptL x)[i]? = (keptA x)[i]? := fun i => by unfold keptL; rw [Array.getElem?_toList]
    rw [List.flatMap_cons] at h
    generalize keptL x = cs at hl hx h
    by_cases hj : j < 26
    · have h2 : cs[j]? = some u := by
        rw [← h]
        exact (List.getElem?_append_left (by omega)).symm
      exact ⟨x, by rw [Nat.div_eq_of_lt hj]; rfl, by rw [Nat.mod_eq_of_lt hj, ← hx, h2]⟩
    · rw [List.getElem?_append_right (by omega), hl] at h
      obtain ⟨y, h1, h2⟩ := ih (j - 26) u h
      refine ⟨y, ?_, ?_⟩
      · rw [show j / 26 = (j - 26) / 26 + 1 by omega]; simpa using h1
      · rw [show j % 26 = (j - 26) % 26 by omega]; exact h2
theorem flat_one (k : List Kept) : ∀ u ∈ k.flatMap keptL, u.oneCell' = true := fun u hu => by
  obtain ⟨x, _, hx⟩ := List.mem_flatMap.1 hu
  exact keptA_one x u hx
theorem info_kept : (Try.prog.info? 45).map (fun i => (i.zero.map (·.cells.size), i.size, i.bytes)) = some (some 26, 26, 208) := by kernel_rfl

set_option maxRecDepth 100000 in
set_option maxHeartbeats 2000000 in
theorem Clone_any (v : Value) (k : List Kept) (w : World) (hk : KeptV w w.heap.size v k) (hlen : k.length * 208 ≤ 140737488355328) :
    Calls Try.prog 19 #[v] w fun e w' => ∃ v', e = .returned v' ∧ Below w.heap.size w w' ∧ w'.ownsRow w.heap.size 45 26 v' k.length (k.flatMap keptL) := by
  obtain ⟨A, cap, rfl, hl63, hc⟩ := hk
  cases A with
  | none =>
    have e0 : k = [] := by
      cases k with
      | nil => rfl
      | cons x k => obtain ⟨b, o, h, _⟩ := hc 0 x rfl; cases h
    subst e0
    have hnil := fun w => Lib.run_eql_slice_nil (P := Try.prog) w 22 45 none 0 cap 0 0 Try.underlying22
    clear hc
    go_enter Try.func19, Try.ntmps19
    go_wp2
    go_ret
    exact ⟨_, rfl, Below.refl _ _, World.ownsRow_nil _ _ _ _⟩
  | some ad =>
    have hnil := fun w => Lib.run_eql_slice_nil (P := Try.prog) w 22 45 (some ad) k.length cap 0 0 Try.underlying22
    obtain ⟨i0, z0, hi, hz0, hz1, hz2, hz3⟩ := el_kept.inf
    have hn1 := Lib.hid (show ∀ (j : Nat) (u : Value), (k.flatMap keptL)[j]? = some u → (w.alloc (.cells #[] 45)).cell? (ad.add j) = some u from fun j u hu => by
      obtain ⟨x, h1, h2⟩ := flat_at k j u hu
      obtain ⟨b, o, e, hb, c5, _⟩ := hc _ x h1
      cases e
      rw [Addr.add_lit, cell_alloc_ite, if_pos hb]
      have h3 := (cellsAt_some.1 c5).2 (j % 26) (Nat.mod_lt _ (by omega))
      rw [show o + j = o + j / 26 * 26 + j % 26 by omega, h3]
      exact h2)
    have hn2 := Lib.hid (flat_one k)
    have hn3 := Lib.hid (flat_len k)
    clear hc
    go_enter Try.func19, Try.ntmps19
    go_wp2_with (at_builtin; refine wpList_append_own _ rfl (.tmp 5) (.tmp 6) _ rfl w.heap.size 45 i0 z0 26 208 Try.underlying22 hi hz0 hz1 hz2 hz3 (by omega) (.slice (some ⟨w.heap.size, 0, none⟩) 0 0) 0 [] rfl (World.ownsRow_lit w #[] 0 (Nat.le_refl _) (by simp) (by simp)) ad k.length cap (k.flatMap keptL) rfl hn3.out hn1.out hn2.out (by simp only [maxLen]; omega) (by omega) (by simp) ?_; intro v1 w1 hown hg _)
    go_ret
    simp only [Nat.zero_add, List.nil_append] at hown
    exact ⟨v1, rfl, ((Below.refl _ _).alloc (Nat.le_refl _) _).grown hg (by simp) (by simp [Value.ownBlock]), hown⟩

end Kp
end Go.Proofs.Ythdaeddaofickaa

namespace Go.Proofs.Ythdaeddaofickaa
namespace Kp
variable {P : Program}

theorem run_clear_cells (w : World) (t e ty : TypeId) (z : Value) (ht : P.underlying t = some (.slice e)) (hv : ∀ w, (zeroValue e).run P w = .ok z w) (b o n c : Nat) (hn : 0 < n) (h1 : ∀ v ∈ (Builtin.zeroCells z.cells n).toList, v.oneCell' = true)
    (hc : ∀ j, j < (Builtin.zeroCells z.cells n).toList.length → (w.cell? ⟨b, o + j, none⟩).isSome = true) (hf : ∀ j, j < (Builtin.zeroCells z.cells n).toList.length → w.frozen? ⟨b, o + j, none⟩ = false) :
    (Builtin.clear_ #[t] ty #[.slice (some ⟨b, o, none⟩) n c]).run P w = .ok (.tuple #[]) (w.setCells b o (Builtin.zeroCells z.cells n).toList) := by
  have hst := run_storeCells_cells (P := P) b o (Builtin.zeroCells z.cells n).toList 0 w (by simpa using hc) (by simpa using hf) h1
  simp only [Nat.add_zero] at hst
  obtain ⟨m, rfl⟩ : ∃ m, n = m + 1 := ⟨n - 1, by omega⟩
  simp [Builtin.clear_, run_underlying ht, hv, hst]

theorem zeroCells_one (z : Array Value) (n : Nat) (h : ∀ v ∈ z.toList, v.oneCell' = true) (h0 : 0 < z.size) : ∀ v ∈ (Builtin.zeroCells z n).toList, v.oneCell' = true := by
  intro v hv
  simp [Builtin.zeroCells] at hv
  obtain ⟨i, hi, rfl⟩ := hv
  refine h _ ?_
  rw [getElem!_pos z (i % z.size) (Nat.mod_lt _ h0)]
  simp

end Kp
end Go.Proofs.Ythdaeddaofickaa

namespace Go.Proofs.Ythdaeddaofickaa
open Go.RowKit
namespace Kp
open Msk Sl

theorem setCells_put (g : Nat) : ∀ (vs : List Value) (o : Nat) (w : World), w.setCells g o vs = putList w g o vs
  | [], _, _ => rfl
  | v :: vs, o, w => by rw [World.setCells, putList, setCells_put g vs]
theorem flat_take (k : List Kept) (i : Nat) : (k.take i).flatMap keptL = (k.flatMap keptL).take (i * 26) := by
  induction k generalizing i with
  | nil => simp
  | cons x k ih =>
    cases i with
    | zero => simp
    | succ i =>
      have hl := keptL_len x
      rw [List.take_succ_cons, List.flatMap_cons, List.flatMap_cons, ih]
      generalize keptL x = cs at hl
      have e : cs.take ((i + 1) * 26) = cs := List.take_of_length_le (by omega)
      rw [List.take_append, hl, e, show (i + 1) * 26 - 26 = i * 26 by omega]
theorem flat_drop (k : List Kept) (j : Nat) (hj : j ≤ k.length) : (k.drop j).flatMap keptL = (k.flatMap keptL).drop (j * 26) := by
  have h1 : (k.take j ++ k.drop j).flatMap keptL = k.flatMap keptL := by rw [List.take_append_drop]
  rw [← h1, List.flatMap_append]
  have hl : ((k.take j).flatMap keptL).length = j * 26 := by rw [flat_len, List.length_take, Nat.min_eq_left hj]
  rw [← hl, List.drop_left]
/-- the cells of a block behind a removal -/
theorem moved_row {w : World} {base g cap : Nat} {cur : Array Value} {k : List Kept} {i j : Nat} (hb : base ≤ g) (hg : w.heap[g]? = some (.cells cur 45 (0, 0))) (hn : k.length ≤ cap) (hm : cap ≤ maxLen) (hs : cur.size = cap * 26) (ht : cur.toList.take (k.length * 26) = k.flatMap keptL) (hij : i < j) (hj : j ≤ k.length) (Z : List Value) :
    ((w.setCells g (i * 26) ((k.drop j).flatMap keptL)).setCells g ((i + (k.length - j)) * 26) Z).ownsRow base 45 26 (.slice (some ⟨g, 0, none⟩) (i + (k.length - j)) cap) (i + (k.length - j)) ((k.take i ++ k.drop j).flatMap keptL) := by
  have hB : Blk w g 45 cur := hg
  have h2 := (hB.putList (i * 26) ((k.drop j).flatMap keptL)).putList ((i + (k.length - j)) * 26) Z
  rw [setCells_put, setCells_put]
  have hl : ((k.take i ++ k.drop j).flatMap keptL).length = (i + (k.length - j)) * 26 := by rw [flat_len, List.length_append, List.length_take, List.length_drop, Nat.min_eq_left (by omega)]
  have hld : ((k.drop j).flatMap keptL).length = (k.length - j) * 26 := by rw [flat_len, List.length_drop]
  have hlt : ((k.take i).flatMap keptL).length = i * 26 := by rw [flat_len, List.length_take, Nat.min_eq_left (by omega)]
  refine ⟨hl, .inr ⟨g, cap, _, rfl, hb, h2, by omega, hm, by rw [spliceAt_size, spliceAt_size]; exact hs, ?_⟩⟩
  apply List.ext_getElem?
  intro x
  rw [List.getElem?_take]
  split
  · rename_i hx
    rw [Array.getElem?_toList, spliceAt_get, if_neg (by omega), spliceAt_get, List.flatMap_append]
    by_cases h : i * 26 ≤ x
    · rw [if_pos ⟨h, by omega, by omega⟩, List.getElem?_append_right (by omega), hlt]
    · rw [if_neg (by omega), List.getElem?_append_left (by omega), flat_take, ← ht, List.getElem?_take, if_pos (by omega), List.getElem?_take, if_pos (by omega), Array.getElem?_toList]
  · rw [List.getElem?_eq_none (by omega)]

theorem grown_putList {a : World} {g : Nat} : ∀ {w : World} (_ : a.grownBy w (some g)) (o : Nat) (vs : List Value), a.grownBy (putList w g o vs) (some g)
  | _, h, _, [] => h
  | w, h, o, v :: vs => grown_putList (w := w.setCell ⟨g, o, none⟩ v) ⟨h.os, h.tape, h.output, by have := h.size; simpa [World.setCell] using this, fun k hk hne => (Below.heap_setCell w ⟨g, o, none⟩ v k (by intro e; exact hne (by rw [e]))).trans (h.block k hk hne)⟩ (o + 1) vs
theorem grown_drew (w : World) (r : Option Nat) : w.grownBy w.drew r := ⟨rfl, rfl, rfl, Nat.le_refl _, fun _ _ _ => rfl⟩

theorem zero_kept : ∃ z : Value, (∀ w, (zeroValue 45).run Try.prog w = .ok z w) ∧ z.cells.size = 26 ∧ ∀ v ∈ z.cells.toList, v.oneCell' = true := by
  refine ⟨.agg #[.int .i64 0, .int .i64 0, .int .i64 0, .int .u64 0, .int .u64 0, .int .u64 0, .int .u64 0, .int .u64 0, .int .u64 0, .int .u64 0, .int .u64 0, .int .u64 0, .int .u64 0, .int .u64 0, .int .u64 0, .int .u64 0, .int .u64 0, .int .u64 0, .int .u64 0, .int .u64 0, .int .u64 0, .int .u64 0, .int .u64 0, .int .u64 0, .int .u64 0, .int .u64 0], fun w => by kernel_rfl, rfl, fun v hv => ?_⟩
  simp [Value.cells] at hv
  rcases hv with rfl | rfl <;> rfl

set_option maxRecDepth 100000 in
set_option maxHeartbeats 4000000 in
theorem Delete_any (base : Nat) (v : Value) (k : List Kept) (i j : Nat) (w : World) (h : w.ownsRow base 45 26 v k.length (k.flatMap keptL)) (hij : i < j) (hj : j ≤ k.length) :
    Calls Try.prog 22 #[v, .int .i64 i, .int .i64 j] w fun e w' => ∃ v', e = .returned v' ∧ w.grownBy w' v.ownBlock ∧ v'.ownBlock = v.ownBlock ∧ w'.ownsRow base 45 26 v' (k.take i ++ k.drop j).length ((k.take i ++ k.drop j).flatMap keptL) := by
  rcases h.2 with ⟨_, h0⟩ | ⟨g, cap, cur, rfl, hb, hg, hn, hm, hs, ht⟩
  · omega
  have hi1 : (0 : Int) ≤ (i : Int) := by omega
  have hj1 : (0 : Int) ≤ (j : Int) := by omega
  have hji : (i : Int) ≤ (j : Int) := by omega
  have hjn : (j : Int) ≤ (k.length : Int) := by omega
  have hne : ((i : Int) == (j : Int)) = false := by rw [beq_eq_false_iff_ne]; omega
  obtain ⟨i0, z0, hi0, hz0, hz1, hz2, hz3⟩ := el_kept.inf
  have hsl := el_kept.sl
  have s1 := Lib.hid (show ((k.drop j).flatMap keptL).length = (k.length - j) * 26 by rw [flat_len, List.length_drop])
  have s2 := Lib.hid (flat_one (k.drop j))
  obtain ⟨ad, hA, s0⟩ : ∃ ad : Addr, (if cap = j then some (⟨g, 0, none⟩ : Addr) else some ⟨g, j * 26, none⟩) = some ad ∧ Hid (∀ x u, ((k.drop j).flatMap keptL)[x]? = some u → w.drew.cell? (ad.add x) = some u) := by
    by_cases hcj : cap = j
    · refine ⟨_, if_pos hcj, Lib.hid fun x u hu => ?_⟩
      have hx := (List.getElem?_eq_some_iff.1 hu).1
      rw [s1.out] at hx
      omega
    · refine ⟨_, if_neg hcj, Lib.hid fun x u hu => ?_⟩
      rw [flat_drop k j hj, List.getElem?_drop, ← ht, List.getElem?_take] at hu
      split at hu
      · rw [Addr.add_lit]
        show w.cell? _ = _
        unfold World.cell?
        rw [hg]
        simpa using hu
      · cases hu
  have s3 := Lib.hid (show ∀ x, x < ((k.drop j).flatMap keptL).length → (w.drew.cell? ⟨g, 0 + i * 26 + x, none⟩).isSome = true ∧ w.drew.frozen? ⟨g, 0 + i * 26 + x, none⟩ = false from fun x hx => by
    rw [s1.out] at hx
    have hlt : 0 + i * 26 + x < cur.size := by omega
    constructor
    · show (w.cell? _).isSome = true
      unfold World.cell?
      rw [hg]
      simp
      omega
    · show w.frozen? _ = false
      simp [World.frozen?, hg])
  have hroom : i + (k.length - j) ≤ cap := by omega
  have hic : (i : Int) ≤ (cap : Int) := by omega
  have hic2 : i ≤ cap := by omega
  have hjc : (j : Int) ≤ (cap : Int) := by omega
  have hjk : j ≤ k.length := hj
  replace hs := Lib.hid hs
  replace ht := Lib.hid ht
  replace hm := Lib.hid hm
  clear h
  go_enter Try.func22, Try.ntmps22
  go_wp2
  go_region_law ((refine step_append_room (by rfl) _ _ _ (by rfl) 45 i0 26 hsl hi0 hz1 g 0 i cap (by rfl) ad (k.length - j) (cap - j) ((k.drop j).flatMap keptL) (by rfl) s1.out s0.out s2.out hroom s3.out ?_))
  obtain ⟨z, hz, hzs, hz1'⟩ := zero_kept
  have hZl : (Builtin.zeroCells z.cells (k.length - (i + (k.length - j)))).toList.length = (k.length - (i + (k.length - j))) * 26 := by rw [Array.length_toList, size_zeroCells, hzs]
  have hB1 : Blk (w.drew.setCells g (0 + i * 26) ((k.drop j).flatMap keptL)) g 45 (spliceAt cur (0 + i * 26) ((k.drop j).flatMap keptL)) := by
    rw [setCells_put]
    exact Blk.putList (show Blk w.drew g 45 cur from hg) _ _
  have hsz1 : (spliceAt cur (0 + i * 26) ((k.drop j).flatMap keptL)).size = cap * 26 := by rw [spliceAt_size]; exact hs.out
  have hcl : ∀ ty, (Builtin.clear_ #[22] ty #[.slice (some ⟨g, (i + (k.length - j)) * 26, none⟩) (k.length - (i + (k.length - j))) (cap - (i + (k.length - j)))]).run Try.prog (w.drew.setCells g (0 + i * 26) ((k.drop j).flatMap keptL)) = .ok (.tuple #[]) ((w.drew.setCells g (0 + i * 26) ((k.drop j).flatMap keptL)).setCells g ((i + (k.length - j)) * 26) (Builtin.zeroCells z.cells (k.length - (i + (k.length - j)))).toList) := fun ty =>
    run_clear_cells _ 22 45 ty z hsl hz g _ _ _ (by omega) (zeroCells_one _ _ hz1' (by omega)) (fun x hx => by
      rw [hB1.cell, Array.getElem?_eq_getElem (by rw [hsz1]; rw [hZl] at hx; omega)]; rfl) (fun x hx => hB1.frozen _)
  have hmv := Lib.hid (moved_row (w := w.drew) (base := base) (g := g) (cap := cap) (cur := cur) (k := k) (i := i) (j := j) hb hg hn hm.out hs.out ht.out hij hj (Builtin.zeroCells z.cells (k.length - (i + (k.length - j)))).toList)
  have hlen : (k.take i ++ k.drop j).length = i + (k.length - j) := by rw [List.length_append, List.length_take, List.length_drop, Nat.min_eq_left (by omega)]
  have hbelow := Lib.hid (show w.grownBy ((w.drew.setCells g (0 + i * 26) ((k.drop j).flatMap keptL)).setCells g ((i + (k.length - j)) * 26) (Builtin.zeroCells z.cells (k.length - (i + (k.length - j)))).toList) (some g) from by
    rw [setCells_put, setCells_put]
    exact grown_putList (grown_putList (grown_drew w (some g)) _ _) _ _)
  have q1 : ((i + (k.length - j) : Nat) : Int) ≤ (k.length : Int) := by omega
  have q2 : (k.length : Int) ≤ (cap : Int) := by omega
  have q3 : ¬ cap = i + (k.length - j) := by omega
  simp only [Nat.zero_add] at hcl hbelow hB1
  have hmv3 := Lib.hid hmv.out
  clear hmv hZl
  generalize (Builtin.zeroCells z.cells (k.length - (i + (k.length - j)))).toList = Z at *
  generalize (w.drew.setCells g (i * 26) ((k.drop j).flatMap keptL)) = W1 at *
  go_wp2
  go_ret
  refine ⟨_, rfl, hbelow.out, rfl, ?_⟩
  rw [hlen]
  exact hmv3.out

end Kp
end Go.Proofs.Ythdaeddaofickaa

namespace Go.Proofs.Ythdaeddaofickaa
open Go.RowKit
namespace Kp
open Msk Sl

/-- a store into another block than the row's -/
theorem own_off {base e size n : Nat} {v : Value} {xs : List Value} {w : World} (h : w.ownsRow base e size v n xs) {p : Addr} (hp : v.ownBlock ≠ some p.block) (u : Value) : (w.setCell p u).ownsRow base e size v n xs := by
  refine ⟨h.1, ?_⟩
  rcases h.2 with h0 | ⟨g, cap, cur, h1, h2, h3, h4⟩
  · exact .inl h0
  · refine .inr ⟨g, cap, cur, h1, h2, ?_, h4⟩
    rw [Below.heap_setCell w p u g (by intro e; apply hp; rw [h1, ← e]; rfl)]
    exact h3
theorem own_mono {b b' e size n : Nat} {v : Value} {xs : List Value} {w : World} (h : w.ownsRow b e size v n xs) (hb : b' ≤ b) : w.ownsRow b' e size v n xs := by
  refine ⟨h.1, ?_⟩
  rcases h.2 with h0 | ⟨g, cap, cur, h1, h2, h3⟩
  · exact .inl h0
  · exact .inr ⟨g, cap, cur, h1, Nat.le_trans hb h2, h3⟩
theorem blk_off {w w' : World} {r : Option Nat} {g : Nat} {t : TypeId} {cs : Array Value} (h : Blk w g t cs) (hg : w.grownBy w' r) (hr : r ≠ some g) : Blk w' g t cs :=
  (hg.block g h.lt (Ne.symm hr)).trans h

/-- the cache at block g: what it keeps lies in a row behind block N -/
def Cach (w : World) (N g : Nat) (k : List Kept) (runs : Int) : Prop :=
  ∃ v, Blk w g 24 #[v, .int .i64 runs] ∧ w.ownsRow N 45 26 v k.length (k.flatMap keptL) ∧ v.ownBlock ≠ some g
theorem Cach.lt {w : World} {N g : Nat} {k : List Kept} {runs : Int} (h : Cach w N g k runs) : g < w.heap.size := by
  obtain ⟨v, h, _⟩ := h
  exact h.lt
theorem Cach.below {w w' : World} {N g B : Nat} {k : List Kept} {runs : Int} (h : Cach w N g k runs) (hb : Below B w w') (hB : w.heap.size ≤ B) : Cach w' N g k runs := by
  have hlt := h.lt
  obtain ⟨v, h1, h2, h3⟩ := h
  exact ⟨v, h1.below hb (by omega), own_keep h2 hb hB, h3⟩
theorem Cach.alloc {w : World} {N g : Nat} {k : List Kept} {runs : Int} (h : Cach w N g k runs) (o : Obj) : Cach (w.alloc o) N g k runs := h.below ((Below.refl _ _).alloc (Nat.le_refl _) o) (Nat.le_refl _)
theorem Cach.set {w : World} {N g : Nat} {k : List Kept} {runs : Int} (h : Cach w N g k runs) {p : Addr} (hp : p.block < N) (hg : g ≠ p.block) (u : Value) : Cach (w.setCell p u) N g k runs := by
  obtain ⟨v, h1, h2, h3⟩ := h
  exact ⟨v, h1.far hg u, own_off h2 (fun e => by have := h2.lt _ e; omega) u, h3⟩
/-- a new row in the place of the old one -/
theorem Cach.put {w w' : World} {N g : Nat} {k' : List Kept} {runs : Int} {v v' : Value} (h : Blk w g 24 #[v, .int .i64 runs]) (hv : v.ownBlock ≠ some g) (hg : w.grownBy w' v.ownBlock) (h' : w'.ownsRow N 45 26 v' k'.length (k'.flatMap keptL)) (hv' : v'.ownBlock ≠ some g) :
    Cach (w'.setCell ⟨g, 0, none⟩ v') N g k' runs := by
  refine ⟨v', ?_, own_off h' hv' v', hv'⟩
  have := (blk_off h hg hv).set 0 v'
  exact this
theorem Cach.runs {w : World} {N g : Nat} {k : List Kept} {runs : Int} (h : Cach w N g k runs) (r : Int) : Cach (w.setCell ⟨g, 1, none⟩ (.int .i64 r)) N g k r := by
  obtain ⟨v, h1, h2, h3⟩ := h
  exact ⟨v, h1.set 1 (.int .i64 r), own_off h2 h3 _, h3⟩
theorem own_kept {w : World} {N : Nat} {k : List Kept} {v : Value} (h : w.ownsRow N 45 26 v k.length (k.flatMap keptL)) (hok : ∀ x ∈ k, okW x.mask) (hb : k.length ≤ 9223372036854775807) : KeptV w w.heap.size v k := by
  obtain ⟨A, cap, rfl⟩ := own_slice h
  refine ⟨A, cap, rfl, by omega, fun i x hx => ?_⟩
  obtain ⟨g, cap', e, h1, h2, h3⟩ := own_at h keptL_len hx
  cases e
  refine ⟨g, 0, rfl, h2, ?_, hok x (List.mem_of_getElem? hx)⟩
  refine cellsAt_some.2 ⟨keptA_size x, fun j hj => ?_⟩
  rw [Nat.zero_add]
  obtain ⟨u, hu⟩ : ∃ u, (keptA x)[j]? = some u := ⟨_, Array.getElem?_eq_getElem (by rw [keptA_size]; exact hj)⟩
  rw [hu]
  exact h3 j u (by unfold keptL; rw [Array.getElem?_toList]; exact hu)
theorem lay_any (cs z : Array Value) (n : Nat) (hs : cs.size = n) (hz : z.size = n) : Array.foldl (fun (cs : Array Value) (x : Value × Nat) => cs.setIfInBounds x.snd x.fst) z cs.zipIdx 0 n = cs := by
  have e : Array.foldl (fun (cs : Array Value) (x : Value × Nat) => cs.setIfInBounds x.snd x.fst) z cs.zipIdx 0 n = (cs.toList.zipIdx 0).foldl (fun (cs : Array Value) (x : Value × Nat) => cs.setIfInBounds x.snd x.fst) z := by
    have := Array.foldl_toList (f := fun (cs : Array Value) (x : Value × Nat) => cs.setIfInBounds x.snd x.fst) (init := z) (xs := cs.zipIdx)
    rw [Array.toList_zipIdx, Array.size_zipIdx, hs] at this
    exact this.symm
  rw [e]
  apply Array.ext_getElem?
  intro j
  rw [Vm.lay_list]
  by_cases h : j < n
  · rw [if_pos ⟨by omega, by simp [hs]; omega, by omega⟩]; simp
  · rw [if_neg (by simp [hs]; omega), Array.getElem?_eq_none (by omega), Array.getElem?_eq_none (by omega)]
/-- an entry that lies in a block of its own is appended, in a region that draws its order -/
theorem step_keep {W : World} {ops : Array Oper} {o : Oper} {a : Act} {K : Act → World → Prop} {Q : Exit → Act → World → Prop} {E : Prop} {base g : Nat} {v : Value} {k : List Kept} {x : Kept} {cs : Array Value} (hc : cs = keptA x) (hown : W.ownsRow base 45 26 v k.length (k.flatMap keptL)) (hB : Blk W g 45 cs)
    (hS : (k.length + 1) * 208 ≤ 140737488355328) (hbase : base ≤ W.heap.size) (hgd : o.guard = none) (so xo : Operand) (ho : o.op = .call { callee := .builtin .append, args := #[so, xo], argTypes := #[22, 22] })
    (hs : a.eval so = v) (hx : a.eval xo = .slice (some ⟨g, 0, none⟩) 1 1)
    (h : ∀ n c w', w'.ownsRow base 45 26 (.slice (some ⟨n, 0, none⟩) (k.length + 1) c) (k ++ [x]).length ((k ++ [x]).flatMap keptL) → W.grownBy w' v.ownBlock → (v.ownBlock = some n ∨ n = W.heap.size) → K (a.put o.dst (.slice (some ⟨n, 0, none⟩) (k.length + 1) c)) w') :
    if Region.wanted o (yielded ops a.tmps) = true then Oper.wp Try.prog o a W K Q else E := by
  have hl : keptL x = cs.toList := by rw [hc]; rfl
  have hone : ∀ u ∈ cs.toList, u.oneCell' = true := by rw [hc]; exact keptA_one x
  have hln : cs.toList.length = 1 * 26 := by rw [← hl, keptL_len]
  obtain ⟨i, z, hi, hz, hsi, hby, hzs⟩ := el_kept.inf
  refine step_append_lies _ hgd so xo 22 ho base 45 i z 26 208 el_kept.sl hi hz hsi hby hzs (by decide) v k.length _ hs hown ⟨g, 0, none⟩ 1 1 cs.toList hx hln (fun j u hu => ?_) hone (by decide) (by simp only [maxLen]; omega) (by omega) hbase W.heap.size rfl ?_
  · have := hB.cell j
    rw [Addr.add_lit, Nat.zero_add, this]
    simpa using hu
  · intro n c w' h2 h3 h4 _
    refine h n c w' ?_ h3 h4
    have e : (k ++ [x]).flatMap keptL = k.flatMap keptL ++ cs.toList := by rw [List.flatMap_append, ← hl]; simp
    rw [e, List.length_append, List.length_singleton]
    exact h2

theorem wpList_keep {W : World} {ops : Array Oper} {rest : List Oper} {o : Oper} {a : Act} {Q : Exit → Act → World → Prop} {base g : Nat} {v : Value} {k : List Kept} {x : Kept} {cs : Array Value} (hc : cs = keptA x) (hown : W.ownsRow base 45 26 v k.length (k.flatMap keptL)) (hB : Blk W g 45 cs)
    (hS : (k.length + 1) * 208 ≤ 140737488355328) (hbase : base ≤ W.heap.size) (hgd : o.guard = none) (so xo : Operand) (ho : o.op = .call { callee := .builtin .append, args := #[so, xo], argTypes := #[22, 22] })
    (hs : a.eval so = v) (hx : a.eval xo = .slice (some ⟨g, 0, none⟩) 1 1)
    (h : ∀ n c w', w'.ownsRow base 45 26 (.slice (some ⟨n, 0, none⟩) (k.length + 1) c) (k ++ [x]).length ((k ++ [x]).flatMap keptL) → W.grownBy w' v.ownBlock → (v.ownBlock = some n ∨ n = W.heap.size) → wpList Try.prog ops Q rest (a.put o.dst (.slice (some ⟨n, 0, none⟩) (k.length + 1) c)) w') :
    wpList Try.prog ops Q (o :: rest) a W :=
  wpList_plain hgd fun K hK => by
    have := step_keep (ops := ops) (K := K) (Q := Q) (E := True) hc hown hB hS hbase hgd so xo ho hs hx (fun n c w' h1 h2 h3 => hK _ _ (h n c w' h1 h2 h3))
    have hw : Region.wanted o (yielded ops a.tmps) = true := by simp [Region.wanted, hgd]
    rwa [if_pos hw] at this
/-- an entry built field by field -/
theorem lay_entry (rule day ver : Int) (m : Nat → Nat) : Array.foldl (fun (cs : Array Value) (x : Value × Nat) => cs.setIfInBounds (3 + x.snd) x.fst) #[.int .i64 rule, .int .i64 day, .int .i64 ver, .int .u64 0, .int .u64 0, .int .u64 0, .int .u64 0, .int .u64 0, .int .u64 0, .int .u64 0, .int .u64 0, .int .u64 0, .int .u64 0, .int .u64 0, .int .u64 0, .int .u64 0, .int .u64 0, .int .u64 0, .int .u64 0, .int .u64 0, .int .u64 0, .int .u64 0, .int .u64 0, .int .u64 0, .int .u64 0, .int .u64 0] (maskA m).zipIdx 0 23 = keptA ⟨rule, day, ver, m⟩ := by
  have key : ∀ (xs : List Value) (s : Nat) (cs : Array Value) (j : Nat), ((xs.zipIdx s).foldl (fun (cs : Array Value) (x : Value × Nat) => cs.setIfInBounds (3 + x.snd) x.fst) cs)[j]? = if 3 + s ≤ j ∧ j < 3 + s + xs.length ∧ j < cs.size then xs[j - (3 + s)]? else cs[j]? := by
    intro xs
    induction xs with
    | nil => intro s cs j; rw [if_neg (by simp; omega)]; rfl
    | cons x xs ih =>
      intro s cs j
      rw [List.zipIdx_cons, List.foldl_cons, ih]
      simp only [Array.size_setIfInBounds, Array.getElem?_setIfInBounds, List.length_cons]
      by_cases h1 : 3 + s = j
      · subst h1
        rw [if_neg (by omega), if_pos rfl]
        by_cases h2 : 3 + s < cs.size
        · rw [if_pos h2, if_pos ⟨by omega, by omega, h2⟩]; simp
        · rw [if_neg h2, if_neg (by omega), Array.getElem?_eq_none (by omega)]
      · rw [if_neg h1]
        by_cases h2 : 3 + (s + 1) ≤ j ∧ j < 3 + (s + 1) + xs.length ∧ j < cs.size
        · rw [if_pos h2, if_pos ⟨by omega, by omega, h2.2.2⟩, show j - (3 + s) = (j - (3 + (s + 1))) + 1 by omega]; simp
        · rw [if_neg h2, if_neg (by omega)]
  have hs := maskA_size m
  have e : ∀ z : Array Value, Array.foldl (fun (cs : Array Value) (x : Value × Nat) => cs.setIfInBounds (3 + x.snd) x.fst) z (maskA m).zipIdx 0 23 = ((maskA m).toList.zipIdx 0).foldl (fun (cs : Array Value) (x : Value × Nat) => cs.setIfInBounds (3 + x.snd) x.fst) z := fun z => by
    have := Array.foldl_toList (f := fun (cs : Array Value) (x : Value × Nat) => cs.setIfInBounds (3 + x.snd) x.fst) (init := z) (xs := (maskA m).zipIdx)
    rw [Array.toList_zipIdx, Array.size_zipIdx, hs] at this
    exact this.symm
  rw [e]
  apply Array.ext_getElem?
  intro j
  rw [key]
  have hk := keptA_size ⟨rule, day, ver, m⟩
  have h0 := keptA_0 ⟨rule, day, ver, m⟩
  have h1 := keptA_1 ⟨rule, day, ver, m⟩
  have h2 := keptA_2 ⟨rule, day, ver, m⟩
  have h3 := keptA_mask ⟨rule, day, ver, m⟩
  simp only at h0 h1 h2 h3
  generalize keptA ⟨rule, day, ver, m⟩ = cs at *
  generalize maskA m = ms at *
  by_cases h : 3 ≤ j
  · obtain ⟨i, rfl⟩ : ∃ i, j = 3 + i := ⟨j - 3, by omega⟩
    rw [h3]
    by_cases hi : i < 23
    · rw [if_pos ⟨by omega, by simp [hs]; omega, by simp; omega⟩, show 3 + i - (3 + 0) = i by omega]; simp
    · rw [if_neg (by simp [hs]; omega), Array.getElem?_eq_none (by simp; omega), Array.getElem?_eq_none (by omega)]
  · rw [if_neg (by omega)]
    match j, h with
    | 0, _ => rw [h0]; rfl
    | 1, _ => rw [h1]; rfl
    | 2, _ => rw [h2]; rfl
    | j + 3, h => exact absurd (by omega) h

theorem gone_len {k : List Kept} {P : Nat} (h : P < k.length) : (k.take P ++ k.drop (P + 1)).length + 1 = k.length := by
  rw [List.length_append, List.length_take, List.length_drop]
  omega
theorem gone_fits {k : List Kept} {P : Nat} (h : P < k.length) (hl : (k.length + 1) * 208 ≤ 140737488355328) : ((k.take P ++ k.drop (P + 1)).length + 1) * 208 ≤ 140737488355328 := by
  rw [gone_len h]
  omega
theorem snoc_len (k : List Kept) (x : Kept) : k.length + 1 = (k ++ [x]).length := by simp
/-- the cache behind an append to what it keeps, before the new row is stored -/
theorem keep_end {W6 w4 w5 : World} {N g g5 gg c n : Nat} {v0 v4 : Value} {runs : Int} {cs : Array Value} {k k' : List Kept} {t : TypeId} (b1 : Blk w4 g 24 #[v0, .int .i64 runs]) (b2 : Blk w4 g5 t cs) (b4 : Below N W6 w4) (ho4 : w4.ownsRow N 45 26 v4 k.length (k.flatMap keptL)) (n4 : N ≤ w4.heap.size)
    (hne4 : v4.ownBlock ≠ some g) (hne5 : v4.ownBlock ≠ some g5) (hN : N ≤ g) (h5 : g5 ≠ g) (_hn : n = k'.length) (ho5 : w5.ownsRow N 45 26 (.slice (some ⟨gg, 0, none⟩) n c) k'.length (k'.flatMap keptL)) (hg5 : w4.grownBy w5 v4.ownBlock) (hgg : v4.ownBlock = some gg ∨ gg = w4.heap.size) :
    w5.cell? ⟨g, 0, none⟩ = some v0 ∧ w5.frozen? ⟨g, 0, none⟩ = false ∧ Hid (Below N W6 (w5.setCell ⟨g, 0, none⟩ (.slice (some ⟨gg, 0, none⟩) n c)) ∧ Blk (w5.setCell ⟨g, 0, none⟩ (.slice (some ⟨gg, 0, none⟩) n c)) g5 t cs ∧ Cach (w5.setCell ⟨g, 0, none⟩ (.slice (some ⟨gg, 0, none⟩) n c)) N g k' runs) := by
  have c1 := blk_off b1 hg5 hne4
  have hl := b1.lt
  have hgn : (Value.slice (some ⟨gg, 0, none⟩) n c).ownBlock ≠ some g := fun e => by
    simp [Value.ownBlock] at e
    subst e
    rcases hgg with h | h
    · exact hne4 h
    · omega
  refine ⟨c1.cell 0, c1.frozen 0, Lib.hid ⟨(b4.trans (own_below n4 ho4 hg5)).setCell (p := ⟨g, 0, none⟩) hN _, (blk_off b2 hg5 hne5).far (p := ⟨g, 0, none⟩) h5 _, ⟨_, c1.set 0 _, own_off ho5 hgn _, hgn⟩⟩⟩

/-- the cache at block g, the machine's answer at block gm; the row is neither -/
def Kc (W6 : World) (N g gm : Nat) (k : List Kept) (runs : Int) (m : Nat → Nat) (w : World) : Prop :=
  ∃ v, Blk w g 24 #[v, .int .i64 runs] ∧ w.ownsRow N 45 26 v k.length (k.flatMap keptL) ∧ v.ownBlock ≠ some g ∧ v.ownBlock ≠ some gm ∧ Blk w gm 28 (maskA m) ∧ Below N W6 w
theorem Kc.put {W6 w w' : World} {N g gm : Nat} {k k' : List Kept} {runs : Int} {m : Nat → Nat} {v v' : Value} (hB : Blk w g 24 #[v, .int .i64 runs]) (hO : w.ownsRow N 45 26 v k.length (k.flatMap keptL)) (hg : v.ownBlock ≠ some g) (hgm : v.ownBlock ≠ some gm) (hM : Blk w gm 28 (maskA m)) (hb : Below N W6 w)
    (hN : N ≤ g) (hNw : N ≤ w.heap.size) (hne : gm ≠ g) (hw : w.grownBy w' v.ownBlock) (hO' : w'.ownsRow N 45 26 v' k'.length (k'.flatMap keptL)) (hv : ∀ b, v'.ownBlock = some b → v.ownBlock = some b ∨ b = w.heap.size) :
    w'.cell? ⟨g, 0, none⟩ = some v ∧ w'.frozen? ⟨g, 0, none⟩ = false ∧ Hid (Kc W6 N g gm k' runs m (w'.setCell ⟨g, 0, none⟩ v')) := by
  have c1 := blk_off hB hw hg
  have c2 := blk_off hM hw hgm
  have n1 : v'.ownBlock ≠ some g := fun e => by
    rcases hv _ e with h | h
    · exact hg h
    · have := hB.lt; omega
  have n2 : v'.ownBlock ≠ some gm := fun e => by
    rcases hv _ e with h | h
    · exact hgm h
    · have := hM.lt; omega
  exact ⟨c1.cell 0, c1.frozen 0, Lib.hid ⟨v', c1.set 0 _, own_off hO' n1 _, n1, n2, c2.far (p := ⟨g, 0, none⟩) hne _, (hb.trans (own_below hNw hO hw)).setCell (p := ⟨g, 0, none⟩) hN _⟩⟩

theorem Kc.append {W6 w w' : World} {N g gm n l c : Nat} {k k' : List Kept} {runs : Int} {m : Nat → Nat} {v : Value} {cs : Array Value} {t : TypeId} (hB : Blk w g 24 #[v, .int .i64 runs]) (hO : w.ownsRow N 45 26 v k.length (k.flatMap keptL)) (hg : v.ownBlock ≠ some g) (hgm : v.ownBlock ≠ some gm) (hM : Blk w gm 28 (maskA m)) (hb : Below N W6 w)
    (hN : N ≤ g) (hNw : N ≤ w.heap.size) (hne : gm ≠ g) (hw : (w.alloc (.cells cs t)).grownBy w' v.ownBlock) (hO' : w'.ownsRow N 45 26 (.slice (some ⟨n, 0, none⟩) l c) k'.length (k'.flatMap keptL)) (hv : v.ownBlock = some n ∨ n = (w.alloc (.cells cs t)).heap.size) :
    w'.cell? ⟨g, 0, none⟩ = some v ∧ w'.frozen? ⟨g, 0, none⟩ = false ∧ Hid (Kc W6 N g gm k' runs m (w'.setCell ⟨g, 0, none⟩ (.slice (some ⟨n, 0, none⟩) l c))) :=
  Kc.put (hB.alloc (.cells cs t)) (hO.alloc _) hg hgm (hM.alloc _) (hb.alloc hNw _) hN (by rw [World.size_alloc]; omega) hne hw hO' (fun b hb => by
    have e : n = b := by simpa [Value.ownBlock] using hb
    rw [← e]
    exact hv)

/-- the machine's answer, stored -/
theorem run_kept {V : World} (m : Nat → Nat) (a b : Int) (W : World) (hW : W = (((((V.alloc (.cells (maskA fun _ => 0) 28)).alloc (.cells #[.int .i64 0, .int .i64 0] 31)).setRow V.heap.size (maskA m)).setCell ⟨V.heap.size + 1, 0, none⟩ (.int .i64 a)).setCell ⟨V.heap.size + 1, 1, none⟩ (.int .i64 b))) :
    Blk W V.heap.size 28 (maskA m) ∧ Blk W (V.heap.size + 1) 31 #[.int .i64 a, .int .i64 b] ∧ Below V.heap.size V W ∧ V.heap.size + 1 < W.heap.size := by
  subst hW
  have h1 := (((((Blk.new V 28 (maskA fun _ => 0)).alloc (.cells #[.int .i64 0, .int .i64 0] 31)).setRow (maskA m)).far (p := ⟨V.heap.size + 1, 0, none⟩) (by simp) (.int .i64 a)).far (p := ⟨V.heap.size + 1, 1, none⟩) (by simp) (.int .i64 b))
  have h2 := Blk.new (V.alloc (.cells (maskA fun _ => 0) 28)) 31 #[.int .i64 0, .int .i64 0]
  rw [World.size_alloc] at h2
  have h3 := (((h2.farRow (k := V.heap.size) (by omega) (maskA m)).set 0 (.int .i64 a)).set 1 (.int .i64 b))
  exact ⟨h1, h3, (by repeat (first | exact Below.refl _ _ | assumption | refine Below.n _ ?_ (by first | omega | (simp; done) | (simp; omega)) | refine Below.alloc ?_ (by first | omega | (simp; done) | (simp; omega)) _ | refine Below.setCell ?_ (by first | omega | (simp; done) | (simp; omega)) _ | refine Below.drew ?_ | refine Below.setRow ?_ (by first | omega | (simp; done) | (simp; omega)) _ | refine Below.drewN ?_ _)), by simp⟩

/-- the three result cells behind their stores -/
theorem ret_end {w V : World} {N h : Nat} {v : Value} {m : Nat → Nat} {runs a b : Int} {n : Nat} {xs : List Value} (M : Blk V (h + 1 + 1 + 1) 28 (maskA fun _ => 0)) (K : Blk V (h + 1 + 1 + 1 + 1) 24 #[.slice none 0 0, .int .i64 0]) (F : Blk V (h + 1 + 1 + 1 + 1 + 1) 31 #[.int .i64 0, .int .i64 0])
    (hN : h + 5 < N) (hO : V.ownsRow N 45 26 v n xs) (hb : Below h w V) (W : World) (hW : W = ((((V.setRow (h + 1 + 1 + 1) (maskA m)).setCell ⟨h + 1 + 1 + 1 + 1, 0, none⟩ v).setCell ⟨h + 1 + 1 + 1 + 1, 1, none⟩ (.int .i64 runs)).setCell ⟨h + 1 + 1 + 1 + 1 + 1, 0, none⟩ (.int .i64 a)).setCell ⟨h + 1 + 1 + 1 + 1 + 1, 1, none⟩ (.int .i64 b)) :
    cellsAt W (h + 1 + 1 + 1) 0 23 = some (maskA m) ∧ W.cell? ⟨h + 1 + 1 + 1 + 1, 0, none⟩ = some v ∧ W.cell? ⟨h + 1 + 1 + 1 + 1, 1, none⟩ = some (.int .i64 runs) ∧ W.cell? ⟨h + 1 + 1 + 1 + 1 + 1, 0, none⟩ = some (.int .i64 a) ∧ W.cell? ⟨h + 1 + 1 + 1 + 1 + 1, 1, none⟩ = some (.int .i64 b) ∧
      Hid (W.ownsRow N 45 26 v n xs ∧ Below h w W) := by
  subst hW
  have M1 := ((((M.setRow (maskA m)).far (p := ⟨h + 1 + 1 + 1 + 1, 0, none⟩) (by simp) v).far (p := ⟨h + 1 + 1 + 1 + 1, 1, none⟩) (by simp) (.int .i64 runs)).far (p := ⟨h + 1 + 1 + 1 + 1 + 1, 0, none⟩) (by first | (simp; done) | (simp; omega)) (.int .i64 a)).far (p := ⟨h + 1 + 1 + 1 + 1 + 1, 1, none⟩) (by first | (simp; done) | (simp; omega)) (.int .i64 b)
  have K1 := ((((K.farRow (k := h + 1 + 1 + 1) (by omega) (maskA m)).set 0 v).set 1 (.int .i64 runs)).far (p := ⟨h + 1 + 1 + 1 + 1 + 1, 0, none⟩) (by simp) (.int .i64 a)).far (p := ⟨h + 1 + 1 + 1 + 1 + 1, 1, none⟩) (by simp) (.int .i64 b)
  have F1 := ((((F.farRow (k := h + 1 + 1 + 1) (by omega) (maskA m)).far (p := ⟨h + 1 + 1 + 1 + 1, 0, none⟩) (by simp) v).far (p := ⟨h + 1 + 1 + 1 + 1, 1, none⟩) (by simp) (.int .i64 runs)).set 0 (.int .i64 a)).set 1 (.int .i64 b)
  refine ⟨blk_cells M1, K1.cell 0, K1.cell 1, F1.cell 0, F1.cell 1, Lib.hid ⟨?_, ?_⟩⟩
  · have hB : ∀ q, q < N → v.ownBlock ≠ some q := fun q hq e => by have := hO.lt _ e; omega
    have o1 : (V.setRow (h + 1 + 1 + 1) (maskA m)).ownsRow N 45 26 v n xs := by
      refine ⟨hO.1, ?_⟩
      rcases hO.2 with h0 | ⟨g, cap, cur, h1, h2, h3, h4⟩
      · exact .inl h0
      · exact .inr ⟨g, cap, cur, h1, h2, by rw [setRow_other V (h + 1 + 1 + 1) g (maskA m) (by omega)]; exact h3, h4⟩
    exact own_off (own_off (own_off (own_off o1 (p := ⟨_, _, none⟩) (hB _ (by simp; omega)) _) (p := ⟨_, _, none⟩) (hB _ (by simp; omega)) _) (p := ⟨_, _, none⟩) (hB _ (by simp; omega)) _) (p := ⟨_, _, none⟩) (hB _ (by simp; omega)) _
  · exact ((((Below.setRow hb (by omega) _).setCell (p := ⟨_, _, none⟩) (by simp; omega) _).setCell (p := ⟨_, _, none⟩) (by simp; omega) _).setCell (p := ⟨_, _, none⟩) (by simp; omega) _).setCell (p := ⟨_, _, none⟩) (by simp; omega) _

end Kp
end Go.Proofs.Ythdaeddaofickaa
