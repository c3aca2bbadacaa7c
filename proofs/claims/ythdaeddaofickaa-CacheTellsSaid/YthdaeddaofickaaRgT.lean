/- The document's cache, plainly: what is kept, entry by entry. No walk. The document's cache: its result cells, what is kept read back. No walk. The walk of slotref7.Get. Kept entries compared; the walk of slotref7.SameCache at equal caches. The walk of slotlaw9.CacheTells. -/
import Derived.Test.YthdaeddaofickaaKpM
import Derived.Outline
import Derived.Test.YthdaeddaofickaaEqF
import Derived.Test.YthdaeddaofickaaRfY
namespace Go.Proofs.Ythdaeddaofickaa
namespace Kp

/-- what has gone over of the first j entries -/
def goneTo (k : List Kept) (rule day : Int) (j : Nat) : List Kept := if j ≤ place k rule day then k.take j else (k.take j).eraseIdx (place k rule day)
theorem goneTo_zero (k : List Kept) (rule day : Int) : goneTo k rule day 0 = [] := by
  unfold goneTo
  rw [if_pos (Nat.zero_le _)]
  rfl
theorem goneTo_all (k : List Kept) (rule day : Int) : goneTo k rule day k.length = gone k rule day := by
  unfold goneTo gone
  rw [List.take_length]
  split
  · rw [List.eraseIdx_of_length_le (by assumption)]
  · rfl
theorem goneTo_here {k : List Kept} {rule day : Int} {j : Nat} (h : j = place k rule day) (_hj : j < k.length) : goneTo k rule day (j + 1) = goneTo k rule day j := by
  subst h
  unfold goneTo
  rw [if_neg (by omega), if_pos (Nat.le_refl _)]
  rw [List.eraseIdx_eq_take_drop_succ, List.take_take, Nat.min_eq_left (by omega), List.drop_eq_nil_of_le (by simp; omega), List.append_nil]
theorem goneTo_else {k : List Kept} {rule day : Int} {j : Nat} {x : Kept} (h : j ≠ place k rule day) (hx : k[j]? = some x) : goneTo k rule day (j + 1) = goneTo k rule day j ++ [x] := by
  have hj := (List.getElem?_eq_some_iff.1 hx).1
  have ht : k.take (j + 1) = k.take j ++ [x] := by rw [List.take_add_one, hx]; rfl
  unfold goneTo
  by_cases h1 : j + 1 ≤ place k rule day
  · rw [if_pos h1, if_pos (by omega), ht]
  · rw [if_neg h1, if_neg (by omega), ht]
    have hl : place k rule day < (k.take j).length := by rw [List.length_take]; omega
    rw [List.eraseIdx_append_of_lt_length hl]
theorem goneTo_len {k : List Kept} {rule day : Int} {j : Nat} (hj : j ≤ k.length) : (goneTo k rule day j).length ≤ j := by
  unfold goneTo
  split
  · rw [List.length_take]; omega
  · exact Nat.le_trans ((List.eraseIdx_sublist _ _).length_le) (by rw [List.length_take]; omega)
theorem match_place {k : List Kept} {rule day : Int} {j : Nat} {x : Kept} (hx : k[j]? = some x) : (j < place k rule day → ¬ (x.rule = rule ∧ x.day = day)) ∧ (j = place k rule day → x.rule = rule ∧ x.day = day) := by
  refine ⟨fun h e => ?_, fun h => place_key (h ▸ hx)⟩
  have h1 := List.not_of_lt_findIdx (xs := k) (p := fun x : Kept => decide (x.rule = rule) && decide (x.day = day)) h
  obtain ⟨hi, rfl⟩ := List.getElem?_eq_some_iff.1 hx
  simp [e] at h1
theorem cut_drop (k : List Kept) : cut k = k.drop (k.length - 64) := by
  unfold cut
  split
  · rfl
  · rw [show k.length - 64 = 0 by omega]; rfl

end Kp
end Go.Proofs.Ythdaeddaofickaa

namespace Go.Proofs.Ythdaeddaofickaa
open Go.RowKit
namespace Kp
open Msk Sl Vm

/-- the three result cells behind their stores -/
theorem ret_end2 {w V : World} {B p : Nat} {v : Value} {m : Nat → Nat} {runs a b : Int} (M : Blk V p 28 (maskA fun _ => 0)) (K : Blk V (p + 1) 24 #[.slice none 0 0, .int .i64 0]) (F : Blk V (p + 1 + 1) 31 #[.int .i64 0, .int .i64 0])
    (hB : B ≤ p) (hb : Below B w V) (W : World) (hW : W = ((((V.setRow p (maskA m)).setCell ⟨p + 1, 0, none⟩ v).setCell ⟨p + 1, 1, none⟩ (.int .i64 runs)).setCell ⟨p + 1 + 1, 0, none⟩ (.int .i64 a)).setCell ⟨p + 1 + 1, 1, none⟩ (.int .i64 b)) :
    cellsAt W p 0 23 = some (maskA m) ∧ W.cell? ⟨p + 1, 0, none⟩ = some v ∧ W.cell? ⟨p + 1, 1, none⟩ = some (.int .i64 runs) ∧ W.cell? ⟨p + 1 + 1, 0, none⟩ = some (.int .i64 a) ∧ W.cell? ⟨p + 1 + 1, 1, none⟩ = some (.int .i64 b) ∧
      Hid (Below B w W ∧ W.heap.size = V.heap.size ∧ ∀ k, p + 1 + 1 < k → W.heap[k]? = V.heap[k]?) := by
  subst hW
  have M1 := ((((M.setRow (maskA m)).far (p := ⟨p + 1, 0, none⟩) (by simp) v).far (p := ⟨p + 1, 1, none⟩) (by simp) (.int .i64 runs)).far (p := ⟨p + 1 + 1, 0, none⟩) (by first | (simp; done) | (simp; omega)) (.int .i64 a)).far (p := ⟨p + 1 + 1, 1, none⟩) (by first | (simp; done) | (simp; omega)) (.int .i64 b)
  have K1 := ((((K.farRow (k := p) (by omega) (maskA m)).set 0 v).set 1 (.int .i64 runs)).far (p := ⟨p + 1 + 1, 0, none⟩) (by simp) (.int .i64 a)).far (p := ⟨p + 1 + 1, 1, none⟩) (by simp) (.int .i64 b)
  have F1 := ((((F.farRow (k := p) (by omega) (maskA m)).far (p := ⟨p + 1, 0, none⟩) (by simp) v).far (p := ⟨p + 1, 1, none⟩) (by simp) (.int .i64 runs)).set 0 (.int .i64 a)).set 1 (.int .i64 b)
  refine ⟨blk_cells M1, K1.cell 0, K1.cell 1, F1.cell 0, F1.cell 1, Lib.hid ⟨?_, by simp, fun k hk => ?_⟩⟩
  · exact ((((Below.setRow hb (by omega) _).setCell (p := ⟨_, _, none⟩) (by simp; omega) _).setCell (p := ⟨_, _, none⟩) (by simp; omega) _).setCell (p := ⟨_, _, none⟩) (by simp; omega) _).setCell (p := ⟨_, _, none⟩) (by simp; omega) _
  · rw [Below.heap_setCell _ _ _ k (by show k ≠ p + 1 + 1; omega), Below.heap_setCell _ _ _ k (by show k ≠ p + 1 + 1; omega), Below.heap_setCell _ _ _ k (by show k ≠ p + 1; omega), Below.heap_setCell _ _ _ k (by show k ≠ p + 1; omega), setRow_other V p k _ (by omega)]
/-- entries of a row, from a place on -/
theorem own_from {V W : World} {N gg n c i : Nat} {k : List Kept} (ho : V.ownsRow N 45 26 (.slice (some ⟨gg, 0, none⟩) n c) n (k.flatMap keptL)) (hn : k.length = n) (hi : i ≤ n) (hok : ∀ x ∈ k, okW x.mask) (hW : W.heap[gg]? = V.heap[gg]?) (hz : W.heap.size = V.heap.size) (c' : Nat) :
    KeptV W W.heap.size (.slice (some ⟨gg, i * 26, none⟩) (n - i) c') (k.drop i) := by
  subst hn
  have hm := own_max ho
  refine ⟨some ⟨gg, i * 26, none⟩, c', by rw [List.length_drop], by rw [List.length_drop]; omega, fun j x hx => ?_⟩
  rw [List.getElem?_drop] at hx
  obtain ⟨g', cap', e, _, hg, hat⟩ := own_at (F := keptL) ho (fun x => keptL_len x) hx
  cases e
  refine ⟨gg, i * 26, rfl, by omega, cellsAt_some.2 ⟨keptA_size x, fun q hq => ?_⟩, hok x (List.mem_of_getElem? hx)⟩
  have hq2 : q < (keptA x).size := by rw [keptA_size]; exact hq
  have h1 := hat q ((keptA x)[q]) (by unfold keptL; rw [Array.getElem?_toList, Array.getElem?_eq_getElem hq2])
  rw [World.cell?_of_block (w := V) (w' := W) (a := ⟨gg, i * 26 + j * 26 + q, none⟩) hW, ← Nat.add_mul, h1, Array.getElem?_eq_getElem hq2]
theorem hit_at {k : List Kept} {rule day ver : Int} (hh : hit k rule day ver = true) : ∃ x, k[place k rule day]? = some x ∧ x.ver = ver ∧ x.rule = rule ∧ x.day = day ∧ hitMask k rule day = x.mask ∧ after k rule day ver (fun _ => 0) = gone k rule day ++ [x] := by
  unfold hit at hh
  split at hh
  · rename_i x hx
    have hv : x.ver = ver := by simpa using hh
    have hk := place_key hx
    have hm : hitMask k rule day = x.mask := by unfold hitMask; rw [hx]; rfl
    refine ⟨x, hx, hv, hk.1, hk.2, hm, ?_⟩
    unfold after
    rw [if_pos (by unfold hit; rw [hx]; simpa using hv), hm, ← hv, ← hk.1, ← hk.2]
  · cases hh
theorem hit_none {k : List Kept} {rule day ver : Int} (h : k.length ≤ place k rule day) : hit k rule day ver = false := by
  unfold hit
  rw [List.getElem?_eq_none h]

end Kp
end Go.Proofs.Ythdaeddaofickaa

namespace Go.Proofs.Ythdaeddaofickaa
open Go.RowKit
namespace Kp
open Msk Sl Vm

/-- what the document's Get gives: a mask, and a cache that keeps so much -/
def RGet (w : World) (k : List Kept) (runs : Int) (m : Nat → Nat) (e : Ending) (w' : World) : Prop :=
  ∃ v, e = .returned (.tuple #[.agg (maskA m), .agg #[v, .int .i64 runs], .agg #[.int .i64 0, .int .i64 0]]) ∧ Below w.heap.size w w' ∧ KeptV w' w'.heap.size v k
def RPost (w : World) (k : List Kept) (runs rule day ver : Int) (m : Nat → Nat) (a b : Int) (e : Ending) (w' : World) : Prop :=
  (hit k rule day ver = true → RGet w (after k rule day ver fun _ => 0) runs (hitMask k rule day) e w') ∧
  (hit k rule day ver = false → (a ≠ 0 → e = .returned (.tuple #[.agg (maskA fun _ => 0), .agg #[.slice none 0 0, .int .i64 0], .agg #[.int .i64 a, .int .i64 b]]) ∧ Below w.heap.size w w') ∧
    (a = 0 → RGet w (after k rule day ver m) (wrap64 (runs + 1)) m e w'))

/-- the pointer to what was found, behind j entries -/
def foundV (P : Nat) (fv : Value) (j : Nat) : Value := if j ≤ P then .pointer none else fv

theorem Cach.app {W w' : World} {N g nn c : Nat} {k' : List Kept} {x : Kept} {runs : Int} {v : Value} {cs : Array Value} {t : TypeId} (hB : Blk W g 24 #[v, .int .i64 runs]) (hne : v.ownBlock ≠ some g) (hg : (W.alloc (.cells cs t)).grownBy w' v.ownBlock)
    (ho : w'.ownsRow N 45 26 (.slice (some ⟨nn, 0, none⟩) (k'.length + 1) c) (k' ++ [x]).length ((k' ++ [x]).flatMap keptL)) (hn : v.ownBlock = some nn ∨ nn = (W.alloc (.cells cs t)).heap.size) :
    w'.cell? ⟨g, 0, none⟩ = some v ∧ w'.frozen? ⟨g, 0, none⟩ = false ∧ g < w'.heap.size ∧ Hid (Cach (w'.setCell ⟨g, 0, none⟩ (.slice (some ⟨nn, 0, none⟩) (k'.length + 1) c)) N g (k' ++ [x]) runs) := by
  have hl := hB.lt
  have c1 := blk_off (hB.alloc (.cells cs t)) hg hne
  refine ⟨c1.cell 0, c1.frozen 0, c1.lt, Lib.hid (Cach.put (hB.alloc _) hne hg ho fun e => ?_)⟩
  have e' : nn = g := by simpa [Value.ownBlock] using e
  subst e'
  rcases hn with h | h
  · exact hne h
  · rw [World.size_alloc] at h; omega

theorem KeptV.heap {w w' : World} {B B' n c : Nat} {A : Option Addr} {k : List Kept} (h : KeptV w B (.slice A n c) k) (hw : ∀ q, A = some q → w'.heap[q.block]? = w.heap[q.block]?) (hB : B ≤ B') : KeptV w' B' (.slice A n c) k := by
  obtain ⟨A', cap', e, h1, h2⟩ := h
  cases e
  refine ⟨_, _, rfl, h1, fun i x hx => ?_⟩
  obtain ⟨b, o, e, h3, h4, h5⟩ := h2 i x hx
  subst e
  exact ⟨b, o, rfl, by omega, (cellsAt_congr fun q _ => World.cell?_of_block (a := ⟨b, o + i * 26 + q, none⟩) (hw ⟨b, o, none⟩ rfl)).trans h4, h5⟩

theorem grown_set {w w' : World} {g : Nat} (h : w.grownBy w' (some g)) (i : Nat) (u : Value) : w.grownBy (w'.setCell ⟨g, i, none⟩ u) (some g) :=
  ⟨h.os, h.tape, h.output, by simpa using h.size, fun k hk hne => (Below.heap_setCell w' _ _ k (fun e => hne (by rw [e]))).trans (h.block k hk hne)⟩
theorem grown_refl (w : World) (r : Option Nat) : w.grownBy w r := ⟨rfl, rfl, rfl, Nat.le_refl _, fun _ _ _ => rfl⟩
theorem grown_below {w w' : World} {g B : Nat} (h : w.grownBy w' (some g)) (hB : B ≤ g) (hw : B ≤ w.heap.size) : Below B w w' :=
  ⟨h.os, h.tape, h.output, h.size, fun k hk => h.block k (by omega) (fun e => by cases e; omega)⟩
theorem own_cap {w : World} {N gg n c : Nat} {xs : List Value} (h : w.ownsRow N 45 26 (.slice (some ⟨gg, 0, none⟩) n c) n xs) : n ≤ c ∧ c ≤ 9223372036854775807 := by
  rcases h.2 with ⟨e, _⟩ | ⟨g, cap, cur, e, _, _, h1, h2, _⟩
  · cases e
  · cases e; exact ⟨h1, h2⟩

set_option maxRecDepth 100000 in
set_option maxHeartbeats 8000000 in
theorem refGet_core (kv codeV : Value) (k : List Kept) (l : List Vm.Code) (runs ver rule day : Int) (w : World) (hk : KeptV w w.heap.size kv k) (hlen : (k.length + 1) * 208 ≤ 140737488355328) (hl : CodesV w w.heap.size codeV l) (m : Nat → Nat) (hm : okW m) (c a b : Int) (hab : a = 0 → b = 0)
    (hRun : ∀ W, CodesV W W.heap.size codeV l → Calls Try.prog 14 #[codeV, .int .i64 rule, .int .i64 day] W (fun e w' => e = .returned (.tuple #[.agg (maskA m), .int .i64 c, .agg #[.int .i64 a, .int .i64 b]]) ∧ Below W.heap.size W w')) :
    Calls Try.prog 10 #[.agg #[kv, .int .i64 runs], codeV, .int .i64 ver, .int .i64 rule, .int .i64 day] w (RPost w k runs rule day ver m a b) := by
  replace hab := Lib.hid hab
  replace hm := Lib.hid hm
  have hl' := Lib.hid hl
  have hRun' := Lib.hid hRun
  clear hl hRun
  have hk' := Lib.hid hk
  have hok := Lib.hid (show ∀ x ∈ k, okW x.mask from fun x hx => by
    obtain ⟨i, hi⟩ := List.getElem?_of_mem hx
    obtain ⟨_, _, _, _, h⟩ := hk
    obtain ⟨_, _, _, _, _, h⟩ := h i x hi
    exact h)
  obtain ⟨A0, cap0, rfl, hl63, hc⟩ := hk
  replace hc := Lib.hid hc
  obtain ⟨fv, hfv⟩ : ∃ fv : Value, (hit k rule day ver = false → fv = .pointer none) ∧ ∀ b o, A0 = some ⟨b, o, none⟩ → hit k rule day ver = true → fv = .pointer (some ⟨b, o + place k rule day * 26, none⟩) := by
    cases hh : hit k rule day ver with
    | false => exact ⟨.pointer none, fun _ => rfl, fun _ _ _ h => by cases h⟩
    | true =>
      cases A0 with
      | none => exact ⟨.pointer none, fun _ => rfl, fun _ _ h => by cases h⟩
      | some ad => exact ⟨.pointer (some ⟨ad.block, ad.off + place k rule day * 26, none⟩), fun h => (by cases h), fun b o h _ => by cases h; rfl⟩
  replace hfv := Lib.hid hfv
  replace hlen := Lib.hid hlen
  go_enter Try.func10, Try.ntmps10
  go_upto_region 2 with fail
  obtain ⟨W6, hW6⟩ : ∃ W6, W6 = (((((w.alloc (.cells #[.slice A0 k.length cap0, .int .i64 runs] 24)).alloc (.cells (maskA fun _ => 0) 28)).alloc (.cells #[.slice none 0 0, .int .i64 0] 24)).alloc (.cells #[.int .i64 0, .int .i64 0] 31)).alloc (.cells #[.slice none 0 0, .int .i64 runs] 24)) := ⟨_, rfl⟩
  have hb6 : Below w.heap.size w W6 := by rw [hW6]; exact (by repeat (first | exact Below.refl _ _ | assumption | refine Below.n _ ?_ (by first | omega | (simp; done) | (simp; omega)) | refine Below.alloc ?_ (by first | omega | (simp; done) | (simp; omega)) _ | refine Below.setCell ?_ (by first | omega | (simp; done) | (simp; omega)) _ | refine Below.drew ?_ | refine Below.setRow ?_ (by first | omega | (simp; done) | (simp; omega)) _ | refine Below.drewN ?_ _))
  have z6 : W6.heap.size = w.heap.size + 5 := by rw [hW6]; simp
  have M6 : Blk W6 (w.heap.size + 1) 28 (maskA fun _ => 0) := by
    have := (((Blk.new (w.alloc (.cells #[.slice A0 k.length cap0, .int .i64 runs] 24)) 28 (maskA fun _ => 0)).alloc (.cells #[.slice none 0 0, .int .i64 0] 24)).alloc (.cells #[.int .i64 0, .int .i64 0] 31)).alloc (.cells #[.slice none 0 0, .int .i64 runs] 24)
    rw [hW6]; simpa using this
  have K6 : Blk W6 (w.heap.size + 1 + 1) 24 #[.slice none 0 0, .int .i64 0] := by
    have := ((Blk.new ((w.alloc (.cells #[.slice A0 k.length cap0, .int .i64 runs] 24)).alloc (.cells (maskA fun _ => 0) 28)) 24 #[.slice none 0 0, .int .i64 0]).alloc (.cells #[.int .i64 0, .int .i64 0] 31)).alloc (.cells #[.slice none 0 0, .int .i64 runs] 24)
    rw [hW6]; simpa using this
  have F6 : Blk W6 (w.heap.size + 1 + 1 + 1) 31 #[.int .i64 0, .int .i64 0] := by
    have := (Blk.new (((w.alloc (.cells #[.slice A0 k.length cap0, .int .i64 runs] 24)).alloc (.cells (maskA fun _ => 0) 28)).alloc (.cells #[.slice none 0 0, .int .i64 0] 24)) 31 #[.int .i64 0, .int .i64 0]).alloc (.cells #[.slice none 0 0, .int .i64 runs] 24)
    rw [hW6]; simpa using this
  have G6 : Blk W6 (w.heap.size + 1 + 1 + 1 + 1) 24 #[.slice none 0 0, .int .i64 runs] := by
    have := Blk.new ((((w.alloc (.cells #[.slice A0 k.length cap0, .int .i64 runs] 24)).alloc (.cells (maskA fun _ => 0) 28)).alloc (.cells #[.slice none 0 0, .int .i64 0] 24)).alloc (.cells #[.int .i64 0, .int .i64 0] 31)) 24 #[.slice none 0 0, .int .i64 runs]
    rw [hW6]; simpa using this
  have c0 : W6.cell? ⟨w.heap.size, 0, none⟩ = some (.slice A0 k.length cap0) := by rw [hW6]; simp [go_sem]
  rw [← hW6]
  clear hW6
  obtain ⟨g, hg⟩ : ∃ g, g = w.heap.size + 1 + 1 + 1 + 1 := ⟨_, rfl⟩
  rw [← hg] at G6 ⊢
  have zg : g = w.heap.size + 4 := by omega
  have yg : w.heap.size + 3 < g := by omega
  have C6 : Cach W6 W6.heap.size g [] runs := ⟨_, G6, World.ownsRow_nil _ _ _ _, fun h => by cases h⟩
  have z6g : g < W6.heap.size := by omega
  obtain ⟨P, hP⟩ : ∃ P, P = place k rule day := ⟨_, rfl⟩
  replace hP := Lib.hid hP
  replace C6 := Lib.hid C6
  replace z6 := Lib.hid z6
  clear hg G6 zg
  go_wp2_with fail
  go_loopg [14, 15, 27] k.length (fun n fp ff i wr => ∃ j : Nat, j ≤ k.length ∧ n = k.length - j ∧ i = .int .i64 j ∧ ff = .bool (decide (j ≤ P)) ∧ fp = foundV P fv j ∧ Hid (Cach wr W6.heap.size g (goneTo k rule day j) runs) ∧ Below g W6 wr)
  case atStart => exact ⟨0, Nat.zero_le _, rfl, rfl, by simp, by unfold foundV; rw [if_pos (Nat.zero_le _)], Lib.hid (by rw [goneTo_zero]; exact C6.out), Below.refl _ _⟩
  case round =>
    clear C6
    obtain ⟨j, hj, hn, rfl, rfl, rfl, hC, hbr⟩ := hrel
    replace hn := Lib.hid hn
    have zr := hbr.size
    have d0 : wr.cell? ⟨w.heap.size, 0, none⟩ = some (.slice A0 k.length cap0) := (hbr.cell (p := ⟨_, _, none⟩) (by show w.heap.size < g; omega)).trans c0
    have hbw : Below w.heap.size w wr := hb6.trans (hbr.mono (by omega))
    by_cases hlt : j < k.length
    · obtain ⟨x, hx⟩ : ∃ x, k[j]? = some x := ⟨_, List.getElem?_eq_getElem hlt⟩
      obtain ⟨b0, o0, rfl, hbl, hcx, _⟩ := hc.out j x hx
      have c5 : cellsAt wr b0 (o0 + j * 26) 26 = some (keptA x) := (cellsAt_congr fun i _ => hbw.cell (p := ⟨b0, _, none⟩) hbl).trans hcx
      have zb0 : b0 < wr.heap.size := by omega
      obtain ⟨cs, hcs⟩ : ∃ cs, cs = keptA x := ⟨_, rfl⟩
      rw [← hcs] at c5
      have hsz : cs.size = 26 := by rw [hcs]; exact keptA_size _
      have hone : ∀ v ∈ cs.toList, v.oneCell' = true := by rw [hcs]; exact keptA_one x
      have hstore := fun (V : World) (g : Nat) => run_storeRow (P := Try.prog) V g 26 cs hsz hone
      replace hcs := Lib.hid hcs
      clear hcx
      go_upto_region 8 with fail
      have X1 : Blk ((wr.alloc (.cells #[.int .i64 0, .int .i64 0, .int .i64 0, .int .u64 0, .int .u64 0, .int .u64 0, .int .u64 0, .int .u64 0, .int .u64 0, .int .u64 0, .int .u64 0, .int .u64 0, .int .u64 0, .int .u64 0, .int .u64 0, .int .u64 0, .int .u64 0, .int .u64 0, .int .u64 0, .int .u64 0, .int .u64 0, .int .u64 0, .int .u64 0, .int .u64 0, .int .u64 0, .int .u64 0] 45)).setRow wr.heap.size cs) wr.heap.size 45 cs := (Blk.new wr 45 #[.int .i64 0, .int .i64 0, .int .i64 0, .int .u64 0, .int .u64 0, .int .u64 0, .int .u64 0, .int .u64 0, .int .u64 0, .int .u64 0, .int .u64 0, .int .u64 0, .int .u64 0, .int .u64 0, .int .u64 0, .int .u64 0, .int .u64 0, .int .u64 0, .int .u64 0, .int .u64 0, .int .u64 0, .int .u64 0, .int .u64 0, .int .u64 0, .int .u64 0, .int .u64 0]).setRow cs
      have hb1 : Below wr.heap.size wr ((wr.alloc (.cells #[.int .i64 0, .int .i64 0, .int .i64 0, .int .u64 0, .int .u64 0, .int .u64 0, .int .u64 0, .int .u64 0, .int .u64 0, .int .u64 0, .int .u64 0, .int .u64 0, .int .u64 0, .int .u64 0, .int .u64 0, .int .u64 0, .int .u64 0, .int .u64 0, .int .u64 0, .int .u64 0, .int .u64 0, .int .u64 0, .int .u64 0, .int .u64 0, .int .u64 0, .int .u64 0] 45)).setRow wr.heap.size cs) := (by repeat (first | exact Below.refl _ _ | assumption | refine Below.n _ ?_ (by first | omega | (simp; done) | (simp; omega)) | refine Below.alloc ?_ (by first | omega | (simp; done) | (simp; omega)) _ | refine Below.setCell ?_ (by first | omega | (simp; done) | (simp; omega)) _ | refine Below.drew ?_ | refine Below.setRow ?_ (by first | omega | (simp; done) | (simp; omega)) _ | refine Below.drewN ?_ _))
      have C1 := Lib.hid (hC.out.below hb1 (Nat.le_refl _))
      have zW1 : wr.heap.size < (((wr.alloc (.cells #[.int .i64 0, .int .i64 0, .int .i64 0, .int .u64 0, .int .u64 0, .int .u64 0, .int .u64 0, .int .u64 0, .int .u64 0, .int .u64 0, .int .u64 0, .int .u64 0, .int .u64 0, .int .u64 0, .int .u64 0, .int .u64 0, .int .u64 0, .int .u64 0, .int .u64 0, .int .u64 0, .int .u64 0, .int .u64 0, .int .u64 0, .int .u64 0, .int .u64 0, .int .u64 0] 45)).setRow wr.heap.size cs)).heap.size := X1.lt
      generalize ((wr.alloc (.cells #[.int .i64 0, .int .i64 0, .int .i64 0, .int .u64 0, .int .u64 0, .int .u64 0, .int .u64 0, .int .u64 0, .int .u64 0, .int .u64 0, .int .u64 0, .int .u64 0, .int .u64 0, .int .u64 0, .int .u64 0, .int .u64 0, .int .u64 0, .int .u64 0, .int .u64 0, .int .u64 0, .int .u64 0, .int .u64 0, .int .u64 0, .int .u64 0, .int .u64 0, .int .u64 0] 45)).setRow wr.heap.size cs) = W1 at *
      have hx0 : W1.cell? ⟨wr.heap.size, 0, none⟩ = some (.int .i64 x.rule) := by rw [X1.cell, hcs.out, keptA_0]
      have hx1 : W1.cell? ⟨wr.heap.size, 1, none⟩ = some (.int .i64 x.day) := by rw [X1.cell, hcs.out, keptA_1]
      have hx2 : W1.cell? ⟨wr.heap.size, 2, none⟩ = some (.int .i64 x.ver) := by rw [X1.cell, hcs.out, keptA_2]
      have X2 : cellsAt W1 wr.heap.size 0 26 = some cs := by have := X1.cells; rwa [hsz] at this
      have d1 : W1.cell? ⟨w.heap.size, 0, none⟩ = some (.slice (some ⟨b0, o0, none⟩) k.length cap0) := (hb1.cell (p := ⟨_, _, none⟩) (by show w.heap.size < wr.heap.size; omega)).trans d0
      have hbr1 : Below g W6 W1 := hbr.trans (hb1.mono (by omega))
      have hmp := match_place (rule := rule) (day := day) hx
      rw [← hP.out] at hmp
      replace hmp := Lib.hid hmp
      have hlay := fun (z : Array Value) (hz : z.size = 26) => lay_any cs z 26 hsz hz
      clear d0 hC hbr hstore c5 hb1
      rcases Nat.lt_trichotomy j P with hjp | hjp | hjp
      · have q0 : decide (j ≤ P) = true := by simp; omega
        have hel := Lib.hid (goneTo_else (rule := rule) (day := day) (show j ≠ place k rule day by rw [← hP.out]; omega) hx)
        have hq : (x.rule == rule) = false ∨ (x.rule == rule) = true ∧ (x.day == day) = false := by
          have := hmp.out.1 hjp
          by_cases h1 : x.rule = rule
          · exact .inr ⟨by simpa using h1, by simpa using fun h2 => this ⟨h1, h2⟩⟩
          · exact .inl (by simpa using h1)
        have hfn : foundV P fv j = foundV P fv (j + 1) := by unfold foundV; rw [if_pos (by omega), if_pos (by omega)]
        rcases hq with q1 | ⟨q1, q2⟩
        all_goals
          obtain ⟨v, hBg, hOv, hne⟩ := C1.out
          obtain ⟨A9, cap9, rfl⟩ := own_slice hOv
          obtain ⟨k1, hk1⟩ : ∃ k1, k1 = goneTo k rule day j := ⟨_, rfl⟩
          have hkl := goneTo_len (rule := rule) (day := day) (show j ≤ k.length by omega)
          rw [← hk1] at hBg hOv hne hkl hel
          replace hel := Lib.hid hel.out
          replace hk1 := Lib.hid hk1
          have e0 : W1.cell? ⟨g, 0, none⟩ = some (.slice A9 k1.length cap9) := hBg.cell 0
          have hfit := Lib.hid (show (k1.length + 1) * 208 ≤ 140737488355328 by have := hlen.out; omega)
          have hbase : W6.heap.size ≤ W1.heap.size := by omega
          have hbase2 : W6.heap.size ≤ (W1.alloc (.cells cs 45)).heap.size := by rw [World.size_alloc]; omega
          have zg1 := hBg.lt
          replace hOv := Lib.hid hOv
          replace hfn := Lib.hid hfn
          clear C1
          go_wp2_with (at_builtin; refine wpList_keep (x := x) hcs.out (hOv.out.alloc _) (Blk.new W1 45 cs) hfit.out hbase2 rfl (.tmp 57) (.tmp 59) rfl rfl rfl ?_; intro nn cc w11 ho11 hg11 hn11; obtain ⟨k11, f11, z11, hend⟩ := Cach.app hBg hne hg11 ho11 hn11; have hb11 := Lib.hid ((hbr1.alloc (by omega) (.cells cs 45)).trans ((own_below hbase2 (hOv.out.alloc _) hg11).mono (by omega))); clear ho11 hg11 hn11)
          go_roundg (k.length - (j + 1))
          case measure => rw [hn.out]; omega
          case rel => exact ⟨j + 1, by omega, rfl, by go_num, by rw [show decide (j + 1 ≤ P) = true by simp; omega], hfn.out, Lib.hid (by rw [hel.out]; exact hend.out), hb11.out.setCell (p := ⟨g, 0, none⟩) (Nat.le_refl _) _⟩
      · have q0 : decide (j ≤ P) = true := by simp; omega
        have hkey := hmp.out.2 hjp
        have q1 : (x.rule == rule) = true := by simpa using hkey.1
        have q2 : (x.day == day) = true := by simpa using hkey.2
        have hhit : hit k rule day ver = decide (x.ver = ver) := by unfold hit; rw [← hP.out, ← hjp, hx]
        have hgo := Lib.hid (goneTo_here (rule := rule) (day := day) (show j = place k rule day by rw [← hP.out]; exact hjp) hlt)
        have hf1 : foundV P fv (j + 1) = fv := by unfold foundV; rw [if_neg (by omega)]
        have hf0 : foundV P fv j = .pointer none := by unfold foundV; rw [if_pos (by omega)]
        have q9 : decide (j + 1 ≤ P) = false := by simp; omega
        clear hkey
        by_cases hv : x.ver = ver
        · have q3 : (x.ver == ver) = true := by simpa using hv
          have hfe := hfv.out.2 b0 o0 rfl (by rw [hhit]; simpa using hv)
          rw [← hP.out, ← hjp] at hfe
          have hf2 := Lib.hid (hf1.trans hfe)
          replace hf0 := Lib.hid hf0
          replace q9 := Lib.hid q9
          clear hhit hv hf1 hfe
          replace hjp := Lib.hid hjp
          go_wp2
          go_roundg (k.length - (j + 1))
          case measure => rw [hn.out]; omega
          case rel => exact ⟨j + 1, by omega, rfl, by go_num, by rw [q9.out], hf2.out.symm, Lib.hid (by rw [hgo.out]; exact C1.out), hbr1⟩
        · have q3 : (x.ver == ver) = false := by simpa using hv
          have hfe := hfv.out.1 (by rw [hhit]; simpa using hv)
          have hf2 := Lib.hid (hf0.trans (hfe.symm.trans hf1.symm))
          replace q9 := Lib.hid q9
          clear hhit hv hf1 hfe hf0
          replace hjp := Lib.hid hjp
          go_wp2
          go_roundg (k.length - (j + 1))
          case measure => rw [hn.out]; omega
          case rel => exact ⟨j + 1, by omega, rfl, by go_num, by rw [q9.out], hf2.out, Lib.hid (by rw [hgo.out]; exact C1.out), hbr1⟩
      · have q0 : decide (j ≤ P) = false := by simp; omega
        have hel := Lib.hid (goneTo_else (rule := rule) (day := day) (show j ≠ place k rule day by rw [← hP.out]; omega) hx)
        have hfn : foundV P fv j = foundV P fv (j + 1) := by unfold foundV; rw [if_neg (by omega), if_neg (by omega)]
        obtain ⟨v, hBg, hOv, hne⟩ := C1.out
        obtain ⟨A9, cap9, rfl⟩ := own_slice hOv
        obtain ⟨k1, hk1⟩ : ∃ k1, k1 = goneTo k rule day j := ⟨_, rfl⟩
        have hkl := goneTo_len (rule := rule) (day := day) (show j ≤ k.length by omega)
        rw [← hk1] at hBg hOv hne hkl hel
        replace hel := Lib.hid hel.out
        replace hk1 := Lib.hid hk1
        have e0 : W1.cell? ⟨g, 0, none⟩ = some (.slice A9 k1.length cap9) := hBg.cell 0
        have hfit := Lib.hid (show (k1.length + 1) * 208 ≤ 140737488355328 by have := hlen.out; omega)
        have hbase : W6.heap.size ≤ W1.heap.size := by omega
        have hbase2 : W6.heap.size ≤ (W1.alloc (.cells cs 45)).heap.size := by rw [World.size_alloc]; omega
        have zg1 := hBg.lt
        replace hOv := Lib.hid hOv
        replace hfn := Lib.hid hfn
        clear C1
        go_wp2_with (at_builtin; refine wpList_keep (x := x) hcs.out (hOv.out.alloc _) (Blk.new W1 45 cs) hfit.out hbase2 rfl (.tmp 57) (.tmp 59) rfl rfl rfl ?_; intro nn cc w11 ho11 hg11 hn11; obtain ⟨k11, f11, z11, hend⟩ := Cach.app hBg hne hg11 ho11 hn11; have hb11 := Lib.hid ((hbr1.alloc (by omega) (.cells cs 45)).trans ((own_below hbase2 (hOv.out.alloc _) hg11).mono (by omega))); clear ho11 hg11 hn11)
        go_roundg (k.length - (j + 1))
        case measure => rw [hn.out]; omega
        case rel => exact ⟨j + 1, by omega, rfl, by go_num, by rw [show decide (j + 1 ≤ P) = false by simp; omega], hfn.out, Lib.hid (by rw [hel.out]; exact hend.out), hb11.out.setCell (p := ⟨g, 0, none⟩) (Nat.le_refl _) _⟩
    · obtain rfl : j = k.length := by omega
      obtain ⟨k1, hk1⟩ : ∃ k1, k1 = gone k rule day := ⟨_, rfl⟩
      have C1 := hC.out
      rw [goneTo_all, ← hk1] at C1
      replace hk1 := Lib.hid hk1
      have hkl : k1.length ≤ k.length := by rw [hk1.out, gone_length]; split <;> omega
      have hM := M6.below hbr (by omega)
      have hK := K6.below hbr (by omega)
      have hF := F6.below hbr (by omega)
      clear hn hC
      cases hh : hit k rule day ver with
      | true =>
        obtain ⟨x, hx, hver, hrul, hday, hmk, haft⟩ := hit_at hh
        rw [← hP.out] at hx
        have hPl := (List.getElem?_eq_some_iff.1 hx).1
        obtain ⟨b0, o0, rfl, hbl, hcx, hokx⟩ := hc.out P x hx
        have hfe := hfv.out.2 b0 o0 rfl hh
        rw [← hP.out] at hfe
        have hff : foundV P fv k.length = .pointer (some ⟨b0, o0 + P * 26, none⟩) := by unfold foundV; rw [if_neg (by omega), hfe]
        have c5 : cellsAt wr b0 (o0 + P * 26) 26 = some (keptA x) := (cellsAt_congr fun i _ => hbw.cell (p := ⟨b0, _, none⟩) hbl).trans hcx
        have zb0 : b0 < wr.heap.size := by omega
        rw [hff]
        obtain ⟨cs, hcs⟩ : ∃ cs, cs = keptA x := ⟨_, rfl⟩
        rw [← hcs] at c5
        have hsz : cs.size = 26 := by rw [hcs]; exact keptA_size _
        replace hcs := Lib.hid hcs
        replace haft := Lib.hid haft
        replace hmk := Lib.hid hmk
        have hlay := fun (z : Array Value) (hz : z.size = 26) => lay_any cs z 26 hsz hz
        obtain ⟨v, hBg, hOv, hne⟩ := C1
        obtain ⟨A9, cap9, rfl⟩ := own_slice hOv
        have e0 : wr.cell? ⟨g, 0, none⟩ = some (.slice A9 k1.length cap9) := hBg.cell 0
        have hfit := Lib.hid (show (k1.length + 1) * 208 ≤ 140737488355328 by have := hlen.out; omega)
        have zg1 := hBg.lt
        have hBd : Blk wr.drew g 24 #[.slice A9 k1.length cap9, .int .i64 runs] := hBg
        have hOd := Lib.hid hOv.drew
        have hbd : Below g W6 wr.drew := hbr.drew
        have hbase2 : W6.heap.size ≤ (wr.drew.alloc (.cells cs 45)).heap.size := by rw [World.size_alloc]; show _ ≤ wr.heap.size + 1; omega
        have hzd : wr.drew.heap.size = wr.heap.size := rfl
        have hcell : ∀ W12 : World, Below g W6 W12 → cellsAt W12 b0 (o0 + P * 26 + 3) 23 = some (maskA x.mask) := fun W12 h => cellsAt_some.2 ⟨maskA_size _, fun i hi => by
          have h1 := (cellsAt_some.1 hcx).2 (3 + i) (by omega)
          rw [keptA_mask] at h1
          rw [show o0 + P * 26 + 3 + i = o0 + P * 26 + (3 + i) by omega]
          exact ((hb6.trans (h.mono (by omega))).cell (p := ⟨b0, _, none⟩) hbl).trans h1⟩
        replace hcell := Lib.hid hcell
        have hokall := Lib.hid (show ∀ y ∈ k1 ++ [x], okW y.mask from fun y hy => by
          rcases List.mem_append.1 hy with h | h
          · rw [hk1.out] at h
            exact hok.out y ((List.eraseIdx_sublist k _).subset h)
          · simp at h; subst h; exact hokx)
        clear hff hfe hcx hOv hx hver hrul hday
        replace hh := Lib.hid hh
        go_wp2_with fail
        go_region_law (refine step_keep (x := x) hcs.out (hOd.out.alloc _) (Blk.new wr.drew 45 cs) hfit.out hbase2 rfl _ _ rfl rfl rfl ?_; intro nn cc w11 ho11 hg11 hn11; obtain ⟨k11, f11, z11, hend⟩ := Cach.app hBd hne hg11 ho11 hn11; have hb11 := Lib.hid ((hbd.alloc (by omega) (.cells cs 45)).trans ((own_below hbase2 (hOd.out.alloc _) hg11).mono (by omega))); clear ho11 hg11 hn11)
        all_goals
          have hb12 : Below g W6 (w11.setCell ⟨g, 0, none⟩ (.slice (some ⟨nn, 0, none⟩) (k1.length + 1) cc)) := hb11.out.setCell (p := ⟨g, 0, none⟩) (Nat.le_refl _) _
          generalize (w11.setCell ⟨g, 0, none⟩ (.slice (some ⟨nn, 0, none⟩) (k1.length + 1) cc)) = W12 at *
          obtain ⟨v6, hB6, hO6, hne6⟩ := hend.out
          obtain ⟨A6, cap6, rfl⟩ := own_slice hO6
          have hl6 := own_max hO6
          have hKv := own_kept hO6 hokall.out hl6
          have m5 := hcell.out W12 hb12
          have M7 := M6.below hb12 (by omega)
          have K7 := K6.below hb12 (by omega)
          have F7 := F6.below hb12 (by omega)
          have d0 := hB6.cell 0
          have d1 := hB6.cell 1
          have t0 := blk_free M7
          have t1 := K7.cell 0
          have t2 := K7.cell 1
          have t3 := F7.cell 0
          have t4 := F7.cell 1
          simp only [List.getElem?_toArray, List.getElem?_cons_zero, List.getElem?_cons_succ] at d0 d1 t1 t2 t3 t4
          have t5 := K7.frozen 0
          have t6 := K7.frozen 1
          have t7 := F7.frozen 0
          have t8 := F7.frozen 1
          have y12 := hb12.size
          have y13 := hB6.lt
          have zb12 : b0 < W12.heap.size := by omega
          have hbw12 : Below w.heap.size w W12 := hb6.trans (hb12.mono (by omega))
          have hnm6 : ∀ q, A6 = some q → W6.heap.size ≤ q.block := fun q hq => (hO6.lt q.block (by rw [hq]; rfl)).1
          replace hKv := Lib.hid hKv
          replace hnm6 := Lib.hid hnm6
          obtain ⟨k2, hk2⟩ : ∃ k2, k2 = k1 ++ [x] := ⟨_, rfl⟩
          obtain ⟨n2, hn2⟩ : ∃ n2, n2 = k2.length := ⟨_, rfl⟩
          rw [← hk2] at hKv d0
          rw [← hn2] at hKv d0
          rw [← hk1.out, ← hk2] at haft
          replace hk2 := Lib.hid hk2
          replace hn2 := Lib.hid hn2
          clear hO6 hl6 hne6 hb11 hlay k11 f11 hend
          go_wp2_with fail
          go_region
          all_goals
            have E := ret_end2 (w := w) (B := w.heap.size) (p := w.heap.size + 1) (m := x.mask) (a := 0) (b := 0) (runs := runs) (v := .slice A6 n2 cap6) (show Blk W12.drew (w.heap.size + 1) 28 (maskA fun _ => 0) from M7) (show Blk W12.drew (w.heap.size + 1 + 1) 24 #[.slice none 0 0, .int .i64 0] from K7) (show Blk W12.drew (w.heap.size + 1 + 1 + 1) 31 #[.int .i64 0, .int .i64 0] from F7) (by omega) (hbw12.drew) _ rfl
            obtain ⟨r0, r1, r2, r3, r4, r5⟩ := E
            go_wp2_with fail
            refine bodyPost_ret (v := .tuple #[.agg (maskA x.mask), .agg #[.slice A6 n2 cap6, .int .i64 runs], .agg #[.int .i64 0, .int .i64 0]]) ?_ rfl ?_
            · simp [results, Try.results10, go_sem, r0, r1, r2, r3, r4]
            · refine ⟨fun _ => ⟨_, by rw [hmk.out], r5.out.1, ?_⟩, fun h => by rw [hh.out] at h; cases h⟩
              rw [haft.out]
              exact KeptV.heap hKv.out (fun q hq => r5.out.2.2 q.block (by have := hnm6.out q hq; have := z6.out; omega)) (Nat.le_of_eq r5.out.2.1.symm)
      | false =>
        have hff : foundV P fv k.length = .pointer none := by
          unfold foundV
          split
          · rfl
          · exact hfv.out.1 hh
        rw [hff]
        replace hh := Lib.hid hh
        have hcw := Lib.hid (hl'.out.below hbw (Nat.le_refl _) hbw.size)
        clear hff
        go_wp2_with fail
        refine (hRun'.out _ hcw.out).mono ?_
        rintro e w2 ⟨rfl, hb2⟩
        have z2 := hb2.size
        go_upto_region 18 with fail
        obtain ⟨W8, hW8⟩ : ∃ W8, W8 = (((((w2.alloc (.cells (maskA fun _ => 0) 28)).alloc (.cells #[.int .i64 0, .int .i64 0] 31)).setRow w2.heap.size (maskA m)).setCell ⟨w2.heap.size + 1, 0, none⟩ (.int .i64 a)).setCell ⟨w2.heap.size + 1, 1, none⟩ (.int .i64 b)) := ⟨_, rfl⟩
        rw [← hW8]
        obtain ⟨B8, F8, hb8, y8⟩ := run_kept m a b W8 hW8
        clear hW8
        have hb28 : Below wr.heap.size wr W8 := hb2.trans (hb8.mono z2)
        obtain ⟨v, hB1, hO1, hne⟩ := C1
        have hB8 := hB1.below hb28 hB1.lt
        have hO8 := own_keep hO1 hb28 (Nat.le_refl _)
        have hngm : v.ownBlock ≠ some w2.heap.size := fun e => by have := (hO1.lt _ e).2; omega
        have hbr8 : Below g W6 W8 := hbr.trans (hb28.mono (by omega))
        obtain ⟨gm, hgm⟩ : ∃ gm, gm = w2.heap.size := ⟨_, rfl⟩
        rw [← hgm] at B8 F8 y8 hngm ⊢
        have zgm : W6.heap.size ≤ gm := by omega
        have s0 := F8.cell 0
        simp only [List.getElem?_toArray, List.getElem?_cons_zero] at s0
        clear hgm hb8 hb2 hb28 z2 hB1 hO1 hcw
        have hbw8 : Below w.heap.size w W8 := hb6.trans (hbr8.mono (by omega))
        by_cases ha : a = 0
        · subst ha
          obtain rfl := hab.out rfl
          have zg8 := hB8.lt
          have e1 := hB8.cell 1
          have e2 := hB8.frozen 1
          simp only [List.getElem?_toArray, List.getElem?_cons_zero, List.getElem?_cons_succ] at e1
          replace hO8 := Lib.hid hO8
          go_upto_region 21 with fail
          have hBg := hB8.set 1 (.int .i64 (wrap64 (runs + 1)))
          have hOv := own_off hO8.out (p := ⟨g, 1, none⟩) hne (.int .i64 (wrap64 (runs + 1)))
          have B9 := B8.far (p := ⟨g, 1, none⟩) (by show gm ≠ g; omega) (.int .i64 (wrap64 (runs + 1)))
          have hbr9 : Below g W6 (W8.setCell ⟨g, 1, none⟩ (.int .i64 (wrap64 (runs + 1)))) := hbr8.setCell (p := ⟨g, 1, none⟩) (Nat.le_refl _) _
          clear e1 e2 hB8 hO8
          generalize (W8.setCell ⟨g, 1, none⟩ (.int .i64 (wrap64 (runs + 1)))) = W9 at *
          replace hBg : Blk W9 g 24 #[v, .int .i64 (wrap64 (runs + 1))] := by simpa using hBg
          obtain ⟨A9, cap9, rfl⟩ := own_slice hOv
          have e0 : W9.cell? ⟨g, 0, none⟩ = some (.slice A9 k1.length cap9) := hBg.cell 0
          have hlay3 := lay_entry rule day ver m
          have hfit := Lib.hid (show (k1.length + 1) * 208 ≤ 140737488355328 by have := hlen.out; omega)
          have zg9 := hBg.lt
          have zm9 := B9.lt
          have z9 := hbr9.size
          obtain ⟨cs, hcs⟩ : ∃ cs, cs = keptA ⟨rule, day, ver, m⟩ := ⟨_, rfl⟩
          have hsz : cs.size = 26 := by rw [hcs]; exact keptA_size _
          rw [← hcs] at hlay3
          have hlay := fun (z : Array Value) (hz : z.size = 26) => lay_any cs z 26 hsz hz
          have k8 := blk_cells B9
          obtain ⟨ms, hms⟩ : ∃ ms, ms = maskA m := ⟨_, rfl⟩
          rw [← hms] at k8 hlay3
          have hmz : ms.size = 23 := by rw [hms]; exact maskA_size m
          replace hms := Lib.hid hms
          replace hcs := Lib.hid hcs
          replace hOv := Lib.hid hOv
          have hbase2 : W6.heap.size ≤ (W9.alloc (.cells cs 45)).heap.size := by rw [World.size_alloc]; omega
          clear s0
          go_wp2_with (at_builtin; refine wpList_keep (x := ⟨rule, day, ver, m⟩) hcs.out (hOv.out.alloc _) (Blk.new W9 45 cs) hfit.out hbase2 rfl (.tmp 98) (.tmp 104) rfl rfl rfl ?_; intro nn cc w11 ho11 hg11 hn11; have hgm11 := Lib.hid (blk_off (B9.alloc (.cells cs 45)) hg11 hngm); obtain ⟨k11, f11, z11, hend⟩ := Cach.app hBg hne hg11 ho11 hn11; have hb11 := Lib.hid ((hbr9.alloc (by omega) (.cells cs 45)).trans ((own_below hbase2 (hOv.out.alloc _) hg11).mono (by omega))); clear ho11 hg11 hn11)
          have hb12 : Below g W6 (w11.setCell ⟨g, 0, none⟩ (.slice (some ⟨nn, 0, none⟩) (k1.length + 1) cc)) := hb11.out.setCell (p := ⟨g, 0, none⟩) (Nat.le_refl _) _
          have M12 := Lib.hid (hgm11.out.far (p := ⟨g, 0, none⟩) (by show gm ≠ g; omega) (.slice (some ⟨nn, 0, none⟩) (k1.length + 1) cc))
          generalize (w11.setCell ⟨g, 0, none⟩ (.slice (some ⟨nn, 0, none⟩) (k1.length + 1) cc)) = W12 at *
          obtain ⟨v6, hB6, hO6, hne6⟩ := hend.out
          obtain ⟨k2, hk2⟩ : ∃ k2, k2 = k1 ++ [(⟨rule, day, ver, m⟩ : Kept)] := ⟨_, rfl⟩
          have haft : after k rule day ver m = k2.drop (k2.length - 64) := by
            unfold after
            rw [hh.out, if_neg (by decide), cut_drop, hk2, hk1.out]
          have hokall := Lib.hid (show ∀ y ∈ k2, okW y.mask from fun y hy => by
            rw [hk2] at hy
            rcases List.mem_append.1 hy with h | h
            · rw [hk1.out] at h
              exact hok.out y ((List.eraseIdx_sublist k _).subset h)
            · simp at h; subst h; exact hm.out)
          have hpos : 0 < k2.length := by rw [hk2]; simp
          rw [← hk2] at hO6
          replace hk2 := Lib.hid hk2
          obtain ⟨gg, cap6, rfl, hgg1, hgg2⟩ := hO6.form hpos
          obtain ⟨n2, hn2⟩ : ∃ n2, n2 = k2.length := ⟨_, rfl⟩
          rw [← hn2] at hB6 hO6 hne6 haft
          replace hn2 := Lib.hid hn2
          replace haft := Lib.hid haft
          obtain ⟨hcap1, hcap2⟩ := own_cap hO6
          have hggg : gg ≠ g := fun e => hne6 (by rw [e]; rfl)
          replace hO6 := Lib.hid hO6
          have zg12 := hB6.lt
          clear hlay hlay3 k11 f11 z11 hend hb11 hgm11 e0 k8 hbr9 hbr8 hBg hne hOv hne6 hfit hpos y8 B8 F8
          go_loopg [] n2 (fun mm wx => ∃ i : Nat, i ≤ n2 ∧ mm = n2 - i ∧ (i = 0 ∨ 64 ≤ n2 - i) ∧ Blk wx g 24 #[.slice (some ⟨gg, i * 26, none⟩) (n2 - i) (cap6 - i), .int .i64 (wrap64 (runs + 1))] ∧ W12.grownBy wx (some g) ∧ wx.heap.size = W12.heap.size)
          case atStart => exact ⟨0, Nat.zero_le _, rfl, .inl rfl, by simpa using hB6, grown_refl _ _, rfl⟩
          case round =>
            clear hB6
            obtain ⟨i, hi, hq, hi64, hBx, hgx, hzx⟩ := hrel
            replace hq := Lib.hid hq
            have zgx := hBx.lt
            by_cases h64 : 64 < n2 - i
            · obtain ⟨r, hr⟩ : ∃ r, n2 - i = r + 1 := ⟨n2 - i - 1, by omega⟩
              obtain ⟨cr, hcr⟩ : ∃ cr, cap6 - i = cr + 1 := ⟨cap6 - i - 1, by omega⟩
              rw [hr] at h64
              have hrc : r ≤ cr := by omega
              have hcr2 : cr + 1 ≤ 9223372036854775807 := by omega
              have hnx := hBx.set 0 (.slice (some ⟨gg, i * 26 + 26, none⟩) r cr)
              have hnx2 : Blk (wr.setCell ⟨g, 0, none⟩ (.slice (some ⟨gg, i * 26 + 26, none⟩) r cr)) g 24 #[.slice (some ⟨gg, (i + 1) * 26, none⟩) (n2 - (i + 1)) (cap6 - (i + 1)), .int .i64 (wrap64 (runs + 1))] := by
                rw [show (i + 1) * 26 = i * 26 + 26 by omega, show n2 - (i + 1) = r by omega, show cap6 - (i + 1) = cr by omega]
                exact hnx
              replace hnx2 := Lib.hid hnx2
              rw [hr, hcr] at hBx
              have e0 := hBx.cell 0
              have e1 := hBx.frozen 0
              simp only [List.getElem?_toArray, List.getElem?_cons_zero] at e0
              have g9 : decide (cr + 1 = 1) = false := by simp; omega
              have hi2 : i + 1 ≤ n2 ∧ 64 ≤ n2 - (i + 1) := by omega
              replace hr := Lib.hid hr
              replace hcr := Lib.hid hcr
              clear hnx
              go_wp2_with fail
              go_roundg (n2 - (i + 1))
              case measure => rw [hq.out]; omega
              case rel => exact ⟨i + 1, hi2.1, rfl, .inr hi2.2, hnx2.out, grown_set hgx _ _, by simpa using hzx⟩
            · have hfi : i = n2 - 64 := by omega
              have hbx : Below g W6 wr := hb12.trans (grown_below hgx (Nat.le_refl _) (by omega))
              have hKv := own_from (W := wr) hO6.out hn2.out.symm hi hokall.out (hgx.block gg hgg2 (by simpa using hggg)) hzx (cap6 - i)
              have hMx : Blk wr gm 28 (maskA m) := (hgx.block gm M12.out.lt (by simp; omega)).trans M12.out
              rw [← hfi] at haft
              obtain ⟨k3, hk3⟩ : ∃ k3, k3 = k2.drop i := ⟨_, rfl⟩
              rw [← hk3] at hKv haft
              replace hk3 := Lib.hid hk3
              obtain ⟨r, hr⟩ : ∃ r, r = n2 - i := ⟨_, rfl⟩
              obtain ⟨cr, hcr⟩ : ∃ cr, cr = cap6 - i := ⟨_, rfl⟩
              obtain ⟨of, hof⟩ : ∃ of, of = i * 26 := ⟨_, rfl⟩
              rw [← hr, ← hcr, ← hof] at hKv hBx
              rw [← hr] at h64
              have g9 : decide ((64 : Int) < (r : Int)) = false := by simp; omega
              have d0 := hBx.cell 0
              have d1 := hBx.cell 1
              simp only [List.getElem?_toArray, List.getElem?_cons_zero, List.getElem?_cons_succ] at d0 d1
              have k8 := blk_cells hMx
              have M7 := M6.below hbx (by omega)
              have K7 := K6.below hbx (by omega)
              have F7 := F6.below hbx (by omega)
              have t0 := blk_free M7
              have t1 := K7.cell 0
              have t2 := K7.cell 1
              have t3 := F7.cell 0
              have t4 := F7.cell 1
              simp only [List.getElem?_toArray, List.getElem?_cons_zero, List.getElem?_cons_succ] at t1 t2 t3 t4
              have t5 := K7.frozen 0
              have t6 := K7.frozen 1
              have t7 := F7.frozen 0
              have t8 := F7.frozen 1
              have y12 := hbx.size
              have zgm2 := hMx.lt
              have hbwx : Below w.heap.size w wr := hb6.trans (hbx.mono (by omega))
              have hgN : W6.heap.size ≤ gg := hgg1
              replace hKv := Lib.hid hKv
              replace hr := Lib.hid hr
              replace hcr := Lib.hid hcr
              replace hof := Lib.hid hof
              replace hfi := Lib.hid hfi
              clear hMx hBx hgx hzx M12
              go_wp2_with fail
              go_region
              all_goals
                have E := ret_end2 (w := w) (B := w.heap.size) (p := w.heap.size + 1) (m := m) (a := 0) (b := 0) (runs := wrap64 (runs + 1)) (v := .slice (some ⟨gg, of, none⟩) r cr) (show Blk wr.drew (w.heap.size + 1) 28 (maskA fun _ => 0) from M7) (show Blk wr.drew (w.heap.size + 1 + 1) 24 #[.slice none 0 0, .int .i64 0] from K7) (show Blk wr.drew (w.heap.size + 1 + 1 + 1) 31 #[.int .i64 0, .int .i64 0] from F7) (by omega) (hbwx.drew) _ rfl
                obtain ⟨r0, r1, r2, r3, r4, r5⟩ := E
                go_wp2_with fail
                refine bodyPost_ret (v := .tuple #[.agg (maskA (m)), .agg #[.slice (some ⟨gg, of, none⟩) r cr, .int .i64 (wrap64 (runs + 1))], .agg #[.int .i64 (0), .int .i64 (0)]]) ?_ rfl ?_
                · simp [results, Try.results10, go_sem, r0, r1, r2, r3, r4]
                · refine ⟨fun h => by (rw [hh.out] at h; cases h), fun _ => ⟨fun h => absurd rfl h, fun _ => ⟨_, rfl, r5.out.1, ?_⟩⟩⟩
                  rw [haft.out]
                  exact KeptV.heap hKv.out (fun q hq => by cases hq; exact r5.out.2.2 gg (by have := z6.out; omega)) (Nat.le_of_eq r5.out.2.1.symm)
        · have g1 : (a != 0) = true := by simpa using ha
          have M7 := M6.below hbr8 (by omega)
          have K7 := K6.below hbr8 (by omega)
          have F7 := F6.below hbr8 (by omega)
          have t0 := blk_free M7
          have t1 := K7.cell 0
          have t2 := K7.cell 1
          have t3 := F7.cell 0
          have t4 := F7.cell 1
          simp only [List.getElem?_toArray, List.getElem?_cons_zero, List.getElem?_cons_succ] at t1 t2 t3 t4
          have t5 := K7.frozen 0
          have t6 := K7.frozen 1
          have t7 := F7.frozen 0
          have t8 := F7.frozen 1
          have y12 := hbr8.size
          have s1 := F8.cell 1
          simp only [List.getElem?_toArray, List.getElem?_cons_zero, List.getElem?_cons_succ] at s1
          go_wp2_with fail
          go_region
          all_goals
            have E := ret_end2 (w := w) (B := w.heap.size) (p := w.heap.size + 1) (m := fun _ => 0) (a := a) (b := b) (runs := 0) (v := .slice none 0 0) (show Blk W8.drew (w.heap.size + 1) 28 (maskA fun _ => 0) from M7) (show Blk W8.drew (w.heap.size + 1 + 1) 24 #[.slice none 0 0, .int .i64 0] from K7) (show Blk W8.drew (w.heap.size + 1 + 1 + 1) 31 #[.int .i64 0, .int .i64 0] from F7) (by omega) (hbw8.drew) _ rfl
            obtain ⟨r0, r1, r2, r3, r4, r5⟩ := E
            go_wp2_with fail
            refine bodyPost_ret (v := .tuple #[.agg (maskA (fun _ => 0)), .agg #[.slice none 0 0, .int .i64 (0)], .agg #[.int .i64 (a), .int .i64 (b)]]) ?_ rfl ?_
            · simp [results, Try.results10, go_sem, r0, r1, r2, r3, r4]
            · exact ⟨fun h => by (rw [hh.out] at h; cases h), fun _ => ⟨fun _ => ⟨rfl, r5.out.1⟩, fun h => absurd h ha⟩⟩

end Kp
end Go.Proofs.Ythdaeddaofickaa

namespace Go.Proofs.Ythdaeddaofickaa
open Go.RowKit
namespace Kp
open Msk Sl Vm

set_option maxRecDepth 100000 in
theorem run_equalIn_mask9 (f : Nat → Nat) (w : World) : (Op.equalIn 9999 28 (.agg (maskA f)) (.agg (maskA f))).run Try.prog w = .ok true w := by
  have := run_equalIn_array (P := Try.prog) (t := 28) (e := 26) (i := Try.t26) w 9998 (maskA f) (maskA f) Try.underlying28 (by kernel_rfl)
  rw [this, show Try.prog.cellsOf 26 = 1 by kernel_rfl, run_eqItems_mask Try.underlying26 (fun w => Try.isAgg26 w) 9997 f f w _ (fun k hk => by simpa using hk)]
  congr 1
  simp
theorem run_eqAt_agg {P : Program} (d : Nat) (xs ys : Array Value) (t : TypeId) (o s : Nat) (l : List (TypeId × Nat)) (us vs : Array Value) (r : Bool) (w : World) (ha : (isAgg t).run P w = .ok true w) (hs : (sizeOf t).run P w = .ok s w) (hx : xs.extract o (o + s) = us) (hy : ys.extract o (o + s) = vs)
    (hr : (Op.equalIn d t (.agg us) (.agg vs)).run P w = .ok r w) : (eqAt d xs ys ((t, o) :: l)).run P w = if r = true then (eqAt d xs ys l).run P w else .ok false w := by
  simp only [eqAt, Sem.run_bind, run_part_plain, ha, hs, Result.andThen_ok, if_true, hx, hy, hr]
  cases r <;> simp
theorem keptA_ext (x : Kept) : (keptA x).extract 3 (3 + 23) = maskA x.mask := by
  apply Array.ext_getElem?
  intro i
  rw [Array.getElem?_extract]
  by_cases hi : i < 23
  · rw [if_pos (by rw [keptA_size]; omega), keptA_mask]
  · rw [if_neg (by rw [keptA_size]; omega), Array.getElem?_eq_none (by rw [maskA_size]; omega)]
theorem run_eq_kept (x : Kept) (w : World) : (Op.equalIn 10000 45 (.agg (keptA x)) (.agg (keptA x))).run Try.prog w = .ok true w := by
  rw [run_struct_eq [(3, 0), (3, 1), (3, 2), (28, 3)] (by kernel_rfl) (by kernel_rfl) (by kernel_rfl) (by kernel_rfl) 9999]
  rw [run_eqAt_cell _ _ _ _ _ _ (.int .i64 x.rule) (.int .i64 x.rule) (x.rule == x.rule) w (Try.isAgg3 w) (keptA_0 x) (keptA_0 x) (run_equalIn_int w _ _ _ _ _ _ Try.underlying3)]
  rw [run_eqAt_cell _ _ _ _ _ _ (.int .i64 x.day) (.int .i64 x.day) (x.day == x.day) w (Try.isAgg3 w) (keptA_1 x) (keptA_1 x) (run_equalIn_int w _ _ _ _ _ _ Try.underlying3)]
  rw [run_eqAt_cell _ _ _ _ _ _ (.int .i64 x.ver) (.int .i64 x.ver) (x.ver == x.ver) w (Try.isAgg3 w) (keptA_2 x) (keptA_2 x) (run_equalIn_int w _ _ _ _ _ _ Try.underlying3)]
  rw [run_eqAt_agg _ _ _ _ _ 23 _ (maskA x.mask) (maskA x.mask) true w (Try.isAgg28 w) (Try.sizeOf28 w) (keptA_ext x) (keptA_ext x) (run_equalIn_mask9 x.mask w)]
  rw [run_eqAt_nil]
  simp
@[go_sem] theorem run_eqGuard_kept (op : BinOp) (x y : Operand) (xs ys : Array Value) (w : World) : (eqGuard op 45 x y (.agg xs) (.agg ys)).run Try.prog w = .ok () w := run_eqGuard_agg w op _ x y xs ys (by kernel_rfl)

set_option maxRecDepth 100000 in
set_option maxHeartbeats 4000000 in
theorem sameCache_self (va vb : Value) (k : List Kept) (runs : Int) (w : World) (ha : KeptV w w.heap.size va k) (hb : KeptV w w.heap.size vb k) :
    Calls Try.prog 11 #[.agg #[va, .int .i64 runs], .agg #[vb, .int .i64 runs]] w fun e w' => e = .returned (.bool true) ∧ Below w.heap.size w w' := by
  obtain ⟨A1, c1, rfl, hl1, hc1⟩ := ha
  obtain ⟨A2, c2, rfl, hl2, hc2⟩ := hb
  replace hc1 := Lib.hid hc1
  replace hc2 := Lib.hid hc2
  go_enter Try.func11, Try.ntmps11
  go_wp2_with fail
  have D1 : Blk ((w.alloc (.cells #[.slice A1 k.length c1, .int .i64 runs] 24)).alloc (.cells #[.slice A2 k.length c2, .int .i64 runs] 24)) w.heap.size 24 #[.slice A1 k.length c1, .int .i64 runs] := (Blk.new w _ _).alloc _
  have D2 : Blk ((w.alloc (.cells #[.slice A1 k.length c1, .int .i64 runs] 24)).alloc (.cells #[.slice A2 k.length c2, .int .i64 runs] 24)) (w.heap.size + 1) 24 #[.slice A2 k.length c2, .int .i64 runs] := by
    have := Blk.new (w.alloc (.cells #[.slice A1 k.length c1, .int .i64 runs] 24)) 24 #[.slice A2 k.length c2, .int .i64 runs]
    simpa using this
  have hbw : Below w.heap.size w ((w.alloc (.cells #[.slice A1 k.length c1, .int .i64 runs] 24)).alloc (.cells #[.slice A2 k.length c2, .int .i64 runs] 24)) := (by repeat (first | exact Below.refl _ _ | assumption | refine Below.n _ ?_ (by first | omega | (simp; done) | (simp; omega)) | refine Below.alloc ?_ (by first | omega | (simp; done) | (simp; omega)) _ | refine Below.setCell ?_ (by first | omega | (simp; done) | (simp; omega)) _ | refine Below.drew ?_ | refine Below.setRow ?_ (by first | omega | (simp; done) | (simp; omega)) _ | refine Below.drewN ?_ _))
  generalize ((w.alloc (.cells #[.slice A1 k.length c1, .int .i64 runs] 24)).alloc (.cells #[.slice A2 k.length c2, .int .i64 runs] 24)) = W1 at *
  have zD := D2.lt
  go_loopg [23] k.length (fun n i wr => ∃ j : Nat, j ≤ k.length ∧ n = k.length - j ∧ i = .int .i64 j ∧ Below W1.heap.size W1 wr)
  case atStart => exact ⟨0, Nat.zero_le _, rfl, rfl, Below.refl _ _⟩
  case round =>
    obtain ⟨j, hj, hn, rfl, hbr⟩ := hrel
    replace hn := Lib.hid hn
    have z := hbr.size
    have hbww : Below w.heap.size w wr := hbw.trans (hbr.mono (by omega))
    have e1 := (D1.below hbr (by omega)).cell 0
    have e2 := (D2.below hbr (by omega)).cell 0
    simp only [List.getElem?_toArray, List.getElem?_cons_zero] at e1 e2
    by_cases hlt : j < k.length
    · obtain ⟨x, hx⟩ : ∃ x, k[j]? = some x := ⟨_, List.getElem?_eq_getElem hlt⟩
      obtain ⟨b1, o1, rfl, hb1, h1, _⟩ := hc1.out j x hx
      obtain ⟨b2, o2, rfl, hb2, h2, _⟩ := hc2.out j x hx
      have k1 : cellsAt wr b1 (o1 + j * 26) 26 = some (keptA x) := (cellsAt_congr fun i _ => hbww.cell (p := ⟨b1, _, none⟩) hb1).trans h1
      have k2 : cellsAt wr b2 (o2 + j * 26) 26 = some (keptA x) := (cellsAt_congr fun i _ => hbww.cell (p := ⟨b2, _, none⟩) hb2).trans h2
      have heq := fun W => run_eq_kept x W
      obtain ⟨cs, hcs⟩ : ∃ cs, cs = keptA x := ⟨_, rfl⟩
      rw [← hcs] at k1 k2
      simp only [← hcs] at heq
      replace hcs := Lib.hid hcs
      have zb1 : b1 < wr.heap.size := by omega
      have zb2 : b2 < wr.heap.size := by omega
      have zw1 : w.heap.size + 1 < wr.heap.size := by omega
      clear hx h1 h2
      go_wp2_with fail
      refine wp_region_below (wr.heap.size) _ (Below.refl _ _) (by kernel_rfl) (by kernel_rfl) ?_
      repeat (go_big_quiet_step ((fail)))
      refine wpQuiet_nil ?_
      rintro _ ⟨n7, rfl⟩
      go_wp2_with fail
      go_roundg (k.length - (j + 1))
      case measure => rw [hn.out]; omega
      case rel => exact ⟨j + 1, by omega, rfl, by go_num, hbr.trans (n7.below.mono z)⟩
    · obtain rfl : j = k.length := by omega
      go_wp2
      go_ret
      exact ⟨rfl, hbww⟩

end Kp
end Go.Proofs.Ythdaeddaofickaa

namespace Go.Proofs.Ythdaeddaofickaa
open Go.RowKit
namespace Kp
open Msk Sl Vm

/-- slotref7.Run, the same in every world -/
theorem ref_run_fun (codeV : Value) (l : List Vm.Code) (rule day : Int) :
    ((runErr l rule day).1 ≠ 0 ∧ ∀ W, CodesV W W.heap.size codeV l → Calls Try.prog 14 #[codeV, .int .i64 rule, .int .i64 day] W (fun e w' => e = .returned (resV noS 0 (runErr l rule day)) ∧ Below W.heap.size W w')) ∨
    (runErr l rule day = (0, 0) ∧ (wrongL l).1 = 0 ∧ ∃ m c, Ran l rule day m c ∧ 1 ≤ c ∧ c ≤ 20000 ∧ ∀ W, CodesV W W.heap.size codeV l → Calls Try.prog 14 #[codeV, .int .i64 rule, .int .i64 day] W (fun e w' => e = .returned (resV m (c : Nat) (0, 0)) ∧ Below W.heap.size W w')) := by
  by_cases h : (runErr l rule day).1 = 0
  · right
    unfold runErr at h ⊢
    split at h
    · rename_i h1; exact absurd h h1
    · split at h
      · cases h
      · split at h
        · cases h
        · rename_i h1 h2 h3
          have h1' : (wrongL l).1 = 0 := by simpa using h1
          rw [if_neg h1, if_neg h2, if_neg h3]
          obtain ⟨rn, rfl⟩ := Int.eq_ofNat_of_zero_le (show 0 ≤ rule by omega)
          obtain ⟨cd, hcd⟩ : ∃ cd, l[rn]? = some cd := ⟨_, List.getElem?_eq_getElem (by omega)⟩
          have hR := wrongL_right h1'
          obtain ⟨d, m, c, hr, hc1, hc2⟩ := hR.run (Civ.weekI day).toNat day rn cd hcd
          have hst := (hR.code cd (List.mem_of_getElem? hcd)).2.2.2.2.2.1
          exact ⟨rfl, h1', m, c, ⟨d, hr⟩, hc1, by omega, fun W hW => refRun_ok codeV l rn day W hW h1' (by omega) (by omega) (by omega) m c ⟨d, hr⟩ (by omega)⟩
  · refine .inl ⟨h, fun W hW => (refRun_any codeV l rule day W hW).mono fun e w' ⟨⟨m, c, he, hx⟩, hb⟩ => ?_⟩
    rcases hx with ⟨_, rfl, rfl⟩ | ⟨h0, _⟩
    · exact ⟨he, hb⟩
    · rw [h0] at h; exact absurd rfl h

/-- what both Gets give -/
def GetQ (M : Nat → Nat) (R : Int) (K : List Kept) (a b : Int) (W : World) (e : Ending) (w' : World) : Prop :=
  ∃ A cap, e = .returned (.tuple #[.agg (maskA M), .agg #[.slice A K.length cap, .int .i64 R], .agg #[.int .i64 a, .int .i64 b]]) ∧ Below W.heap.size W w' ∧ KeptV w' w'.heap.size (.slice A K.length cap) K
theorem GetQ.mk' {M : Nat → Nat} {R : Int} {K : List Kept} {a b : Int} {W w' : World} {e : Ending} {v : Value} (he : e = .returned (.tuple #[.agg (maskA M), .agg #[v, .int .i64 R], .agg #[.int .i64 a, .int .i64 b]])) (hb : Below W.heap.size W w') (hk : KeptV w' w'.heap.size v K) : GetQ M R K a b W e w' := by
  obtain ⟨A, cap, rfl, h⟩ := hk
  exact ⟨A, cap, he, hb, ⟨A, cap, rfl, h⟩⟩
theorem ok_after {k : List Kept} (hok : ∀ x ∈ k, okW x.mask) (rule day ver : Int) {m : Nat → Nat} (hm : okW m) : ∀ x ∈ after k rule day ver m, okW x.mask :=
  right_after (R := fun _ _ m => okW m) hok hm
theorem both_get (codeV : Value) (k : List Kept) (hok : ∀ x ∈ k, okW x.mask) (l : List Vm.Code) (runs ver rule day : Int) (hlen : (k.length + 1) * 208 ≤ 140737488355328) :
    ∃ M R K a b, (∀ kv W, KeptV W W.heap.size kv k → CodesV W W.heap.size codeV l → Calls Try.prog 9 #[.agg #[kv, .int .i64 runs], codeV, .int .i64 ver, .int .i64 rule, .int .i64 day] W (GetQ M R K a b W)) ∧
      (∀ kv W, KeptV W W.heap.size kv k → CodesV W W.heap.size codeV l → Calls Try.prog 10 #[.agg #[kv, .int .i64 runs], codeV, .int .i64 ver, .int .i64 rule, .int .i64 day] W (GetQ M R K a b W)) := by
  have post : ∀ {m : Nat → Nat} {M : Nat → Nat} {R : Int} {W w' : World} {e : Ending}, okW m → GetPost W (after k rule day ver m) R M e w' → GetQ M R (after k rule day ver m) 0 0 W e w' := fun hm ⟨v, he, hb, ho⟩ => GetQ.mk' he hb (own_kept ho (ok_after hok rule day ver hm) (own_max ho))
  have okz : okW (fun _ => 0) := fun _ _ => by show 0 < _; omega
  by_cases hh : hit k rule day ver = true
  · refine ⟨hitMask k rule day, runs, after k rule day ver fun _ => 0, 0, 0, fun kv W hk hl => ?_, fun kv W hk hl => ?_⟩
    · refine (Get_any kv codeV k l runs ver rule day W hk hlen hl).mono fun e w' h => ?_
      rcases h with ⟨_, h⟩ | ⟨h, _⟩
      · exact post okz h
      · rw [hh] at h; cases h
    · rcases ref_run_fun codeV l rule day with ⟨h1, h2⟩ | ⟨h1, _, m, c, _, _, _, h3⟩
      · refine (refGet_core kv codeV k l runs ver rule day W hk hlen hl (fun _ => 0) okz 0 (runErr l rule day).1 (runErr l rule day).2 (fun h => absurd h h1) (fun W hW => (h2 W hW).mono fun e w' ⟨he, hb⟩ => ⟨?_, hb⟩)).mono fun e w' h => ?_
        · rw [he]; unfold resV; rw [setA_noS]; rfl
        · obtain ⟨v, he, hb, hkk⟩ := h.1 hh
          exact GetQ.mk' he hb hkk
      · refine (refGet_core kv codeV k l runs ver rule day W hk hlen hl (setW m) (fun k _ => setW_lt _ k) (c : Nat) 0 0 (fun _ => rfl) h3).mono fun e w' h => ?_
        obtain ⟨v, he, hb, hkk⟩ := h.1 hh
        exact GetQ.mk' he hb hkk
  · replace hh : hit k rule day ver = false := by simpa using hh
    by_cases h0 : (runErr l rule day).1 = 0
    · rcases run_fun codeV l rule day with ⟨h1, _⟩ | ⟨h1, _, m, c, h2, _, _, h3⟩
      · exact absurd h0 h1
      · refine ⟨setW m, wrap64 (runs + 1), after k rule day ver (setW m), 0, 0, fun kv W hk hl => ?_, fun kv W hk hl => ?_⟩
        · exact (Get_miss kv codeV k l runs ver rule day W hk hlen hl hh (setW m) (c : Nat) 0 0 (fun _ => rfl) h3).mono fun e w' h => post (fun k _ => setW_lt _ k) (h.2 rfl)
        · rcases ref_run_fun codeV l rule day with ⟨h4, _⟩ | ⟨_, _, m', c', h5, _, _, h6⟩
          · exact absurd h0 h4
          · obtain ⟨rfl, rfl⟩ := h2.unique h5
            refine (refGet_core kv codeV k l runs ver rule day W hk hlen hl (setW m) (fun k _ => setW_lt _ k) (c : Nat) 0 0 (fun _ => rfl) h6).mono fun e w' h => ?_
            obtain ⟨v, he, hb, hkk⟩ := (h.2 hh).2 rfl
            exact GetQ.mk' he hb hkk
    · have nil : ∀ W : World, KeptV W W.heap.size (.slice none 0 0) [] := fun W => ⟨none, 0, rfl, by simp, fun i x hx => by simp at hx⟩
      refine ⟨fun _ => 0, 0, [], (runErr l rule day).1, (runErr l rule day).2, fun kv W hk hl => ?_, fun kv W hk hl => ?_⟩
      · refine (Get_any kv codeV k l runs ver rule day W hk hlen hl).mono fun e w' h => ?_
        rcases h with ⟨h, _⟩ | ⟨_, ⟨_, he, hb⟩ | ⟨h, _⟩⟩
        · rw [hh] at h; cases h
        · exact GetQ.mk' he hb (nil w')
        · rw [h] at h0; exact absurd rfl h0
      · rcases ref_run_fun codeV l rule day with ⟨h1, h2⟩ | ⟨h1, _⟩
        · refine (refGet_core kv codeV k l runs ver rule day W hk hlen hl (fun _ => 0) okz 0 (runErr l rule day).1 (runErr l rule day).2 (fun h => absurd h h1) (fun W hW => (h2 W hW).mono fun e w' ⟨he, hb⟩ => ⟨?_, hb⟩)).mono fun e w' h => ?_
          · rw [he]; unfold resV; rw [setA_noS]; rfl
          · obtain ⟨he, hb⟩ := (h.2 hh).1 h1
            exact GetQ.mk' he hb (nil w')
        · rw [h1] at h0; exact absurd rfl h0

/-- what a Get gave, stored in three blocks -/
theorem three_stored {V : World} {A : Option Addr} {cap : Nat} {M : Nat → Nat} {R a b : Int} {K : List Kept} (hk : KeptV V V.heap.size (.slice A K.length cap) K) (W : World) (hW : W = (((((((V.alloc (.cells (maskA fun _ => 0) 28)).alloc (.cells #[.slice none 0 0, .int .i64 0] 24)).alloc (.cells #[.int .i64 0, .int .i64 0] 31)).setRow V.heap.size (maskA M)).setCell ⟨V.heap.size + 1, 0, none⟩ (.slice A K.length cap)).setCell ⟨V.heap.size + 1, 1, none⟩ (.int .i64 R)).setCell ⟨V.heap.size + 1 + 1, 0, none⟩ (.int .i64 a)).setCell ⟨V.heap.size + 1 + 1, 1, none⟩ (.int .i64 b)) :
    cellsAt W V.heap.size 0 23 = some (maskA M) ∧ W.cell? ⟨V.heap.size + 1, 0, none⟩ = some (.slice A K.length cap) ∧ W.cell? ⟨V.heap.size + 1, 1, none⟩ = some (.int .i64 R) ∧ W.cell? ⟨V.heap.size + 1 + 1, 0, none⟩ = some (.int .i64 a) ∧ W.cell? ⟨V.heap.size + 1 + 1, 1, none⟩ = some (.int .i64 b) ∧ Below V.heap.size V W ∧ V.heap.size + 1 + 1 < W.heap.size ∧ Hid (KeptV W W.heap.size (.slice A K.length cap) K) := by
  have M0 := ((Blk.new V 28 (maskA fun _ => 0)).alloc (.cells #[.slice none 0 0, .int .i64 0] 24)).alloc (.cells #[.int .i64 0, .int .i64 0] 31)
  have K0 := (Blk.new (V.alloc (.cells (maskA fun _ => 0) 28)) 24 #[.slice none 0 0, .int .i64 0]).alloc (.cells #[.int .i64 0, .int .i64 0] 31)
  have F0 := Blk.new ((V.alloc (.cells (maskA fun _ => 0) 28)).alloc (.cells #[.slice none 0 0, .int .i64 0] 24)) 31 #[.int .i64 0, .int .i64 0]
  simp only [World.size_alloc] at K0 F0
  have hb : Below V.heap.size V (((V.alloc (.cells (maskA fun _ => 0) 28)).alloc (.cells #[.slice none 0 0, .int .i64 0] 24)).alloc (.cells #[.int .i64 0, .int .i64 0] 31)) := (by repeat (first | exact Below.refl _ _ | assumption | refine Below.n _ ?_ (by first | omega | (simp; done) | (simp; omega)) | refine Below.alloc ?_ (by first | omega | (simp; done) | (simp; omega)) _ | refine Below.setCell ?_ (by first | omega | (simp; done) | (simp; omega)) _ | refine Below.drew ?_ | refine Below.setRow ?_ (by first | omega | (simp; done) | (simp; omega)) _ | refine Below.drewN ?_ _))
  obtain ⟨r0, r1, r2, r3, r4, r5⟩ := ret_end2 (B := V.heap.size) (p := V.heap.size) (m := M) (a := a) (b := b) (runs := R) (v := .slice A K.length cap) M0 K0 F0 (Nat.le_refl _) hb W hW
  refine ⟨r0, r1, r2, r3, r4, r5.out.1, ?_, Lib.hid (hk.below r5.out.1 (Nat.le_refl _) r5.out.1.size)⟩
  rw [r5.out.2.1]
  simp

set_option maxRecDepth 100000 in
set_option maxHeartbeats 4000000 in
theorem CacheTells_true (kv codeV : Value) (k : List Kept) (l : List Vm.Code) (runs ver rule day : Int) (w : World) (hk : KeptV w w.heap.size kv k) (hlen : (k.length + 1) * 208 ≤ 140737488355328) (hl : CodesV w w.heap.size codeV l) :
    Calls Try.prog 3 #[.agg #[kv, .int .i64 runs], codeV, .int .i64 ver, .int .i64 rule, .int .i64 day] w fun e w' => e = .returned (.bool true) ∧ Below w.heap.size w w' := by
  have hok : ∀ x ∈ k, okW x.mask := fun x hx => by
    obtain ⟨i, hi⟩ := List.getElem?_of_mem hx
    obtain ⟨_, _, _, _, h⟩ := hk
    obtain ⟨_, _, _, _, _, h⟩ := h i x hi
    exact h
  obtain ⟨M, R, K, a, b, hA, hB⟩ := both_get codeV k hok l runs ver rule day hlen
  replace hA := Lib.hid hA
  replace hB := Lib.hid hB
  have hk' := Lib.hid hk
  have hl' := Lib.hid hl
  have hsm : sameW M M = true := sameW_all.2 fun _ _ => rfl
  have heq := eqF_self a b
  obtain ⟨A0, cap0, rfl, _, _⟩ := hk
  clear hok hl hlen
  go_enter Try.func3, Try.ntmps3
  go_wp2_with fail
  have hb0 : Below w.heap.size w (w.alloc (.cells #[.slice A0 k.length cap0, .int .i64 runs] 24)) := (by repeat (first | exact Below.refl _ _ | assumption | refine Below.n _ ?_ (by first | omega | (simp; done) | (simp; omega)) | refine Below.alloc ?_ (by first | omega | (simp; done) | (simp; omega)) _ | refine Below.setCell ?_ (by first | omega | (simp; done) | (simp; omega)) _ | refine Below.drew ?_ | refine Below.setRow ?_ (by first | omega | (simp; done) | (simp; omega)) _ | refine Below.drewN ?_ _))
  have D0 := Blk.new w 24 #[.slice A0 k.length cap0, .int .i64 runs]
  refine (hA.out _ _ (hk'.out.below hb0 (Nat.le_refl _) hb0.size) (hl'.out.below hb0 (Nat.le_refl _) hb0.size)).mono ?_
  rintro e w1 ⟨A1, cap1, rfl, hb1, hk1⟩
  have D1 := D0.below hb1 (by simp)
  have hbw1 : Below w.heap.size w w1 := hb0.trans (hb1.mono (by simp))
  clear hb1 hb0 D0
  go_upto_region 2 with fail
  obtain ⟨W2, hW2⟩ : ∃ W2, W2 = (((((((w1.alloc (.cells (maskA fun _ => 0) 28)).alloc (.cells #[.slice none 0 0, .int .i64 0] 24)).alloc (.cells #[.int .i64 0, .int .i64 0] 31)).setRow w1.heap.size (maskA M)).setCell ⟨w1.heap.size + 1, 0, none⟩ (.slice A1 K.length cap1)).setCell ⟨w1.heap.size + 1, 1, none⟩ (.int .i64 R)).setCell ⟨w1.heap.size + 1 + 1, 0, none⟩ (.int .i64 a)).setCell ⟨w1.heap.size + 1 + 1, 1, none⟩ (.int .i64 b) := ⟨_, rfl⟩
  rw [← hW2]
  obtain ⟨m0, m1, m2, m3, m4, hbx, y0, hk2⟩ := three_stored hk1 W2 hW2
  have D2 := D1.below hbx D1.lt
  have zw1 := D1.lt
  have hbw2 : Below w.heap.size w W2 := hbw1.trans (hbx.mono hbw1.size)
  clear hW2 hbx hk1 D1 hbw1
  obtain ⟨g1, hg1⟩ : ∃ g1, g1 = w1.heap.size := ⟨_, rfl⟩
  rw [← hg1] at m0 m1 m2 m3 m4 y0 zw1 ⊢
  clear hg1
  have e0 := D2.cell 0
  have e1 := D2.cell 1
  simp only [List.getElem?_toArray, List.getElem?_cons_zero, List.getElem?_cons_succ] at e0 e1
  go_wp2_with fail
  refine (hB.out _ _ (hk'.out.below hbw2 (Nat.le_refl _) hbw2.size) (hl'.out.below hbw2 (Nat.le_refl _) hbw2.size)).mono ?_
  rintro e w3 ⟨A3, cap3, rfl, hb3, hk3⟩
  go_upto_region 3 with fail
  obtain ⟨W4, hW4⟩ : ∃ W4, W4 = (((((((w3.alloc (.cells (maskA fun _ => 0) 28)).alloc (.cells #[.slice none 0 0, .int .i64 0] 24)).alloc (.cells #[.int .i64 0, .int .i64 0] 31)).setRow w3.heap.size (maskA M)).setCell ⟨w3.heap.size + 1, 0, none⟩ (.slice A3 K.length cap3)).setCell ⟨w3.heap.size + 1, 1, none⟩ (.int .i64 R)).setCell ⟨w3.heap.size + 1 + 1, 0, none⟩ (.int .i64 a)).setCell ⟨w3.heap.size + 1 + 1, 1, none⟩ (.int .i64 b) := ⟨_, rfl⟩
  rw [← hW4]
  obtain ⟨p0, p1, p2, p3, p4, hbx, y1, hk4⟩ := three_stored hk3 W4 hW4
  have hb24 : Below W2.heap.size W2 W4 := hb3.trans (hbx.mono hb3.size)
  have z3 := hb3.size
  have hbw4 : Below w.heap.size w W4 := hbw2.trans (hb24.mono hbw2.size)
  have hk24 := Lib.hid (hk2.out.below hb24 (Nat.le_refl _) hb24.size)
  have n0 : cellsAt W4 g1 0 23 = some (maskA M) := (cellsAt_congr fun i _ => hb24.cell (p := ⟨g1, _, none⟩) (by show g1 < W2.heap.size; omega)).trans m0
  have n1 : W4.cell? ⟨g1 + 1, 0, none⟩ = some (.slice A1 K.length cap1) := (hb24.cell (p := ⟨_, _, none⟩) (by show g1 + 1 < W2.heap.size; omega)).trans m1
  have n2 : W4.cell? ⟨g1 + 1, 1, none⟩ = some (.int .i64 R) := (hb24.cell (p := ⟨_, _, none⟩) (by show g1 + 1 < W2.heap.size; omega)).trans m2
  have n3 : W4.cell? ⟨g1 + 1 + 1, 0, none⟩ = some (.int .i64 a) := (hb24.cell (p := ⟨_, _, none⟩) (by show g1 + 1 + 1 < W2.heap.size; omega)).trans m3
  have n4 : W4.cell? ⟨g1 + 1 + 1, 1, none⟩ = some (.int .i64 b) := (hb24.cell (p := ⟨_, _, none⟩) (by show g1 + 1 + 1 < W2.heap.size; omega)).trans m4
  clear hW4 hbx hk3 hb3 hb24 m0 m1 m2 m3 m4 e0 e1
  obtain ⟨g3, hg3⟩ : ∃ g3, g3 = w3.heap.size := ⟨_, rfl⟩
  rw [← hg3] at p0 p1 p2 p3 p4 y1 z3 ⊢
  clear hg3
  have hS := Lib.hid (sameCache_self _ _ K R W4 hk24.out hk4.out)
  go_wp2_with fail
  refine hS.out.mono ?_
  rintro e w5 ⟨rfl, hb5⟩
  go_wp2
  go_ret
  exact ⟨rfl, hbw4.trans (hb5.mono hbw4.size)⟩

end Kp
end Go.Proofs.Ythdaeddaofickaa
