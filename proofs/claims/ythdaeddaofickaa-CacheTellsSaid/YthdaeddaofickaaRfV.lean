/- The document's way to tell how a rule's code uses its stack, plainly: it tells what the machine's own tells. No walk. The heights that slotref7.Uses keeps: a row of n + 1 ints, -1 where none is known. No walk. The walk of slotref7.Uses. -/
import Derived.Test.YthdaeddaofickaaVm
import Derived.Test.YthdaeddaofickaaLib
import Derived.Deep.OwnRows
import Derived.Test.YthdaeddaofickaaVmW
import Derived.Test.YthdaeddaofickaaVmQ
import Derived.Test.YthdaeddaofickaaRfC
namespace Go.Proofs.Ythdaeddaofickaa
namespace Vm
open Msk

def meetU (F : Int → Option Int) (i h : Int) : Option (Int → Option Int) :=
  match F i with
  | some had => if had = h then some (putF F i h) else none
  | none => some (putF F i h)
/-- how high: behind an instruction, h ahead of it -/
def topU (l : List Code) (x : Ins) (h top : Int) : Int :=
  max (if x.op = 8 then max top (h + ((l[x.a.toNat]?).map Code.high).getD 0) else if guardI x then max top (h + 1) else top) (max h (if guardI x then h else h - takesI x.op + 1))
def usesGo (l : List Code) : List Ins → Nat → (Int → Option Int) → Int → Int → Int × Int × Bool
  | [], i, F, hi, st => (hi, st, decide ((F i).getD (-1) = 1))
  | x :: xs, i, F, hi, st =>
    match F i with
    | none => (0, 0, false)
    | some h =>
      if h < takesI x.op then (0, 0, false) else
      match (if guardI x then meetU F x.to (h + 1) else some F) with
      | none => (0, 0, false)
      | some F1 =>
        match meetU F1 (i + 1) (if guardI x then h else h - takesI x.op + 1) with
        | none => (0, 0, false)
        | some F2 => usesGo l xs (i + 1) F2 (topU l x h hi) (st + costI l x)
def usesL (l : List Code) (c : Code) : Int × Int × Bool := usesGo l c.ins 0 (putF (fun _ => none) 0 0) 0 0

/-- how many places a map of heights has -/
def cnt (n : Nat) (F : Int → Option Int) : Nat := ((List.range (n + 1)).filter fun j : Nat => (F j).isSome).length
theorem filter_one {α : Type} {p q : α → Bool} : ∀ {l : List α} {a : α}, l.Nodup → a ∈ l → p a = false → q a = true → (∀ x ∈ l, x ≠ a → q x = p x) → (l.filter q).length = (l.filter p).length + 1
  | [], a, _, ha, _, _, _ => by simp at ha
  | y :: l, a, hn, ha, hp, hq, h => by
    have hy := List.nodup_cons.1 hn
    by_cases hya : y = a
    · subst hya
      have e : l.filter q = l.filter p := List.filter_congr fun x hx => h x (by simp [hx]) (fun e => hy.1 (e ▸ hx))
      rw [List.filter_cons, List.filter_cons, if_pos hq, if_neg (by simp [hp]), e]
      simp
    · have ha' : a ∈ l := by rcases List.mem_cons.1 ha with h1 | h1; exact absurd h1.symm hya; exact h1
      have ih := filter_one hy.2 ha' hp hq (fun x hx => h x (by simp [hx]))
      have e := h y (by simp) hya
      rw [List.filter_cons, List.filter_cons, e]
      split
      · simp [ih]
      · exact ih
theorem cnt_put {n : Nat} {F : Int → Option Int} {i : Nat} {h : Int} (hi : i ≤ n) : cnt n (putF F i h) = if (F i).isSome then cnt n F else cnt n F + 1 := by
  split
  · rename_i hs
    unfold cnt
    congr 1
    refine List.filter_congr fun j _ => ?_
    unfold putF
    by_cases e : (j : Int) = i
    · rw [if_pos e, e, hs]; rfl
    · rw [if_neg e]
  · rename_i hs
    unfold cnt
    refine filter_one (a := i) List.nodup_range (List.mem_range.2 (by omega)) (by simpa using hs) (by simp [putF]) fun j _ hj => ?_
    unfold putF
    rw [if_neg (by omega)]
theorem cnt_all {n : Nat} {F : Int → Option Int} (h : ∀ j : Nat, j ≤ n → (F j).isSome = true) : cnt n F = n + 1 := by
  unfold cnt
  rw [List.filter_eq_self.2 fun j hj => h j (by have := List.mem_range.1 hj; omega)]
  simp
theorem meet_both {n c : Nat} {F : Int → Option Int} {i : Nat} {h : Int} (hc : c = cnt n F) (hi : i ≤ n) :
    (meetU F i h = none ∧ meetF F c i h = none) ∨ ∃ c', meetU F i h = some (putF F i h) ∧ meetF F c i h = some (putF F i h, c') ∧ c' = cnt n (putF F i h) := by
  unfold meetU meetF
  cases e : F i with
  | none => exact .inr ⟨_, rfl, rfl, by rw [cnt_put hi, e, hc]; rfl⟩
  | some had =>
    by_cases hh : had = h
    · exact .inr ⟨c, if_pos hh, if_pos hh, by rw [cnt_put hi, e, hc]; rfl⟩
    · exact .inl ⟨if_neg hh, if_neg hh⟩
theorem topU_eq {l : List Code} {x : Ins} {h hi : Int} (h8 : x.op = 8 → ∃ cd, l[x.a.toNat]? = some cd ∧ 1 ≤ cd.high) : topU l x h hi = max (max hi (h - takesI x.op + upI l x)) h := by
  unfold topU upI
  by_cases e : x.op = 8
  · obtain ⟨cd, hcd, h1⟩ := h8 e
    have hg : ¬ guardI x := by unfold guardI; omega
    have ht : takesI x.op = 0 := by unfold takesI; rw [e]; rfl
    rw [if_pos e, if_pos e, if_neg hg, ht, hcd]
    simp only [Option.map_some, Option.getD_some]
    omega
  · rw [if_neg e, if_neg e]
    by_cases hg : guardI x
    · have ht : takesI x.op = 0 := by
        unfold guardI at hg
        unfold takesI
        rw [if_neg (by omega), if_neg (by omega)]
      rw [if_pos hg, if_pos hg, ht]
      omega
    · rw [if_neg hg, if_neg hg]
      omega
theorem uses_go {l : List Code} (hh : ∀ c : Code, c ∈ l → 1 ≤ c.high) (n : Nat) : ∀ (xs : List Ins) (i : Nat) (F : Int → Option Int) (c : Nat) (hi st : Int), i + xs.length = n → (∀ k x, xs[k]? = some x → insErr l.length n (i + k) x = 0) → c = cnt n F → (∀ j : Nat, j ≤ i → (F j).isSome = true) →
    ∀ a b, usesGo l xs i F hi st = (a, b, true) ↔ stackGo l xs i F c hi st = (a, b, true)
  | [], i, F, c, hi, st, hn, _, hc, hs, a, b => by
    have hin : i = n := by simpa using hn
    subst hin
    have h1 := cnt_all hs
    obtain ⟨v, hv⟩ := Option.isSome_iff_exists.1 (hs i (Nat.le_refl _))
    rw [usesGo, stackGo, hv, hc, h1]
    simp
  | x :: xs, i, F, c, hi, st, hn, hx, hc, hs, a, b => by
    rw [List.length_cons] at hn
    have hx0 := hx 0 x rfl
    rw [usesGo, stackGo]
    obtain ⟨h, hF⟩ := Option.isSome_iff_exists.1 (hs i (Nat.le_refl _))
    rw [hF]
    simp only
    by_cases ht : h < takesI x.op
    · rw [if_pos ht, if_pos ht]
    · rw [if_neg ht, if_neg ht]
      have h8 : x.op = 8 → ∃ cd, l[x.a.toNat]? = some cd ∧ 1 ≤ cd.high := fun e => by
        unfold insErr at hx0
        rw [if_neg (by omega), if_neg (by omega), if_neg (by omega), if_neg (by omega), if_pos e] at hx0
        split at hx0
        · omega
        · have hlt : x.a.toNat < l.length := by omega
          exact ⟨l[x.a.toNat], List.getElem?_eq_getElem hlt, hh _ (List.getElem_mem hlt)⟩
      have next : ∀ (F1 : Int → Option Int) (c1 : Nat), c1 = cnt n F1 → (∀ j : Nat, j ≤ i → (F1 j).isSome = true) →
          ((match meetU F1 (i + 1) (if guardI x then h else h - takesI x.op + 1) with
            | none => (0, 0, false)
            | some F2 => usesGo l xs (i + 1) F2 (topU l x h hi) (st + costI l x)) = (a, b, true) ↔
          (match meetF F1 c1 (i + 1) (if guardI x then h else h - takesI x.op + 1) with
            | none => (0, 0, false)
            | some (F2, c2) => stackGo l xs (i + 1) F2 c2 (max (max hi (h - takesI x.op + upI l x)) h) (st + costI l x)) = (a, b, true)) := fun F1 c1 hc1 hs1 => by
        rcases meet_both (h := if guardI x then h else h - takesI x.op + 1) hc1 (show i + 1 ≤ n by omega) with ⟨e1, e2⟩ | ⟨c2, e1, e2, hc2⟩
        · have e1' : meetU F1 (i + 1) (if guardI x then h else h - takesI x.op + 1) = none := e1
          have e2' : meetF F1 c1 (i + 1) (if guardI x then h else h - takesI x.op + 1) = none := e2
          rw [e1', e2']
        · have e1' : meetU F1 (i + 1) (if guardI x then h else h - takesI x.op + 1) = some (putF F1 ((i + 1 : Nat) : Int) (if guardI x then h else h - takesI x.op + 1)) := e1
          have e2' : meetF F1 c1 (i + 1) (if guardI x then h else h - takesI x.op + 1) = some (putF F1 ((i + 1 : Nat) : Int) (if guardI x then h else h - takesI x.op + 1), c2) := e2
          rw [e1', e2']
          simp only
          rw [topU_eq h8]
          refine uses_go hh n xs (i + 1) _ c2 _ _ (by omega) (fun k y hy => ?_) hc2 (fun j hj => ?_) a b
          · have := hx (k + 1) y (by simpa using hy)
            rwa [show i + (k + 1) = i + 1 + k by omega] at this
          · unfold putF
            by_cases e : (j : Int) = ((i + 1 : Nat) : Int)
            · rw [if_pos e]; rfl
            · rw [if_neg e]; exact hs1 j (by omega)
      by_cases hg : guardI x
      · have hto : ((i : Int) + 1 < x.to ∧ x.to ≤ n) := by
          unfold guardI at hg
          unfold insErr at hx0
          rw [if_neg (by omega), if_neg (by omega), if_neg (by omega), if_pos (by omega)] at hx0
          split at hx0
          · omega
          · rename_i h1
            simp only [Nat.add_zero] at h1
            omega
        obtain ⟨t, ht2⟩ := Int.eq_ofNat_of_zero_le (show 0 ≤ x.to by omega)
        simp only [if_pos hg]
        rcases meet_both (h := h + 1) (i := t) hc (by omega) with ⟨e1, e2⟩ | ⟨c2, e1, e2, hc2⟩
        · rw [ht2, e1, e2]
        · rw [ht2, e1, e2]
          simp only
          have := next (putF F t (h + 1)) c2 hc2 (fun j hj => by
            unfold putF
            by_cases e : (j : Int) = (t : Int)
            · rw [if_pos e]; rfl
            · rw [if_neg e]; exact hs j hj)
          simp only [if_pos hg] at this
          exact this
      · have := next F c hc hs
        simp only [if_neg hg] at this ⊢
        exact this
theorem uses_stack {l : List Code} (hh : ∀ c : Code, c ∈ l → 1 ≤ c.high) {c : Code} (hx : ∀ k x, c.ins[k]? = some x → insErr l.length c.ins.length k x = 0) (a b : Int) : usesL l c = (a, b, true) ↔ stackL l c = (a, b, true) := by
  unfold usesL stackL
  refine uses_go hh c.ins.length c.ins 0 _ 1 0 0 (by simp) (fun k x h => by rw [Nat.zero_add]; exact hx k x h) ?_ (fun j hj => ?_) a b
  · have := cnt_put (n := c.ins.length) (F := fun _ => none) (i := 0) (h := 0) (Nat.zero_le _)
    have h0 : cnt c.ins.length (fun _ => none) = 0 := by unfold cnt; simp
    rw [h0] at this
    simpa using this.symm
  · obtain rfl : j = 0 := by omega
    rfl

end Vm
end Go.Proofs.Ythdaeddaofickaa

namespace Go.Proofs.Ythdaeddaofickaa
open Go.RowKit
namespace Vm

def HighB (w : World) (g n : Nat) (F : Int → Option Int) : Prop :=
  ∃ cs, Blk w g 3 cs ∧ cs.size = n + 1 ∧ ∀ j : Nat, j ≤ n → cs[j]? = some (.int .i64 ((F j).getD (-1)))
theorem HighB.lt {w : World} {g n : Nat} {F : Int → Option Int} (h : HighB w g n F) : g < w.heap.size := by
  obtain ⟨cs, hB, _⟩ := h
  exact hB.lt
theorem HighB.at {w : World} {g n : Nat} {F : Int → Option Int} (h : HighB w g n F) {j : Nat} (hj : j ≤ n) :
    w.cell? ⟨g, j, none⟩ = some (.int .i64 ((F j).getD (-1))) ∧ w.frozen? ⟨g, j, none⟩ = false := by
  obtain ⟨cs, hB, _, hc⟩ := h
  exact ⟨by rw [hB.cell, hc j hj], hB.frozen j⟩
theorem HighB.put {w : World} {g n : Nat} {F : Int → Option Int} (h : HighB w g n F) {j : Nat} (hj : j ≤ n) (v : Int) :
    HighB (w.setCell ⟨g, j, none⟩ (.int .i64 v)) g n (putF F j v) := by
  obtain ⟨cs, hB, hs, hc⟩ := h
  refine ⟨_, hB.set j _, by simpa using hs, fun i hi => ?_⟩
  rw [Array.getElem?_setIfInBounds]
  unfold putF
  by_cases e : j = i
  · subst e
    rw [if_pos rfl, if_pos (by omega), if_pos rfl]
    rfl
  · rw [if_neg e, if_neg (by omega)]
    exact hc i hi
theorem HighB.heap {w w' : World} {g n : Nat} {F : Int → Option Int} (h : HighB w g n F) {B : Nat} (hb : Below B w w') (hB : w.heap.size ≤ B) : HighB w' g n F := by
  have hl := h.lt
  obtain ⟨cs, hC, hs, hc⟩ := h
  exact ⟨cs, hC.below hb (by omega), hs, hc⟩
theorem HighB.alloc {w : World} {g n : Nat} {F : Int → Option Int} (h : HighB w g n F) (o : Obj) : HighB (w.alloc o) g n F :=
  h.heap ((Below.refl w.heap.size w).alloc (Nat.le_refl _) o) (Nat.le_refl _)

end Vm
end Go.Proofs.Ythdaeddaofickaa

namespace Go.Proofs.Ythdaeddaofickaa
open Go.RowKit
namespace Vm
open Msk Sl

theorem usesGo_at {l : List Code} {c : List Ins} {k : Nat} {x : Ins} (h : c[k]? = some x) (F : Int → Option Int) (hi st : Int) :
    usesGo l (c.drop k) k F hi st = usesGo l (x :: c.drop (k + 1)) k F hi st := by
  obtain ⟨hk, rfl⟩ := List.getElem?_eq_some_iff.1 h
  rw [List.drop_eq_getElem_cons hk]
theorem info_int7 : (Try.prog.info? 3).map (fun i => (i.zero, i.size, i.bytes)) = some (some (.int .i64 0), 1, 8) := by kernel_rfl
/-- the row as it is made, filled up to a place -/
def FillB (w : World) (g n j : Nat) : Prop := ∃ cs, Blk w g 3 cs ∧ cs.size = n + 1 ∧ ∀ i, i ≤ n → cs[i]? = some (.int .i64 (if i < j then -1 else 0))
theorem FillB.start (w : World) (n : Nat) : FillB (w.alloc (.cells (madeCells #[.int .i64 0] (n + 1)) 3)) w.heap.size n 0 := by
  refine ⟨_, Blk.new _ _ _, size_madeCells _ _, fun i hi => ?_⟩
  rw [if_neg (by omega), ← Array.getElem?_toList, toList_madeCells_one, List.getElem?_replicate, if_pos (by omega)]
theorem FillB.at {w : World} {g n j : Nat} (h : FillB w g n j) {i : Nat} (hi : i ≤ n) : w.cell? ⟨g, i, none⟩ = some (.int .i64 (if i < j then -1 else 0)) ∧ w.frozen? ⟨g, i, none⟩ = false := by
  obtain ⟨cs, hB, _, hc⟩ := h
  exact ⟨by rw [hB.cell, hc i hi], hB.frozen i⟩
theorem FillB.next {w : World} {g n j : Nat} (h : FillB w g n j) (hj : j ≤ n) : FillB (w.setCell ⟨g, j, none⟩ (.int .i64 (-1))) g n (j + 1) := by
  obtain ⟨cs, hB, hs, hc⟩ := h
  refine ⟨_, hB.set j _, by simpa using hs, fun i hi => ?_⟩
  rw [Array.getElem?_setIfInBounds]
  by_cases e : j = i
  · subst e
    rw [if_pos rfl, if_pos (by omega), if_pos (by omega)]
  · rw [if_neg e, hc i hi]
    by_cases e2 : i < j
    · rw [if_pos e2, if_pos (by omega)]
    · rw [if_neg e2, if_neg (by omega)]
theorem FillB.high {w : World} {g n : Nat} (h : FillB w g n (n + 1)) : HighB w g n (fun _ => none) := by
  obtain ⟨cs, hB, hs, hc⟩ := h
  exact ⟨cs, hB, hs, fun j hj => by rw [hc j hj, if_pos (by omega)]; rfl⟩
theorem FillB.lt {w : World} {g n j : Nat} (h : FillB w g n j) : g < w.heap.size := by
  obtain ⟨cs, hB, _⟩ := h
  exact hB.lt

theorem putF_bd {F : Int → Option Int} (h : ∀ x v, F x = some v → 0 ≤ v ∧ v ≤ x) {j v : Int} (h0 : 0 ≤ v) (h1 : v ≤ j) : ∀ x y, putF F j v x = some y → 0 ≤ y ∧ y ≤ x := by
  intro x y e
  unfold putF at e
  split at e
  · rename_i hx
    cases e
    subst hx
    exact ⟨h0, h1⟩
  · exact h x y e

set_option maxHeartbeats 1000000 in
theorem most_any (a b : Int) (w : World) : Calls Try.prog 63 #[.int .i64 a, .int .i64 b] w fun e w' => e = .returned (.int .i64 (max a b)) ∧ w = w' := by
  rcases dec (b < a) with ⟨q, h⟩ | ⟨q, h⟩
  · have e : max a b = a := by omega
    rw [e]
    clear e h
    go_enter Try.func63, Try.ntmps63
    go_wp2
    go_ret
    exact ⟨rfl, rfl⟩
  · have e : max a b = b := by omega
    rw [e]
    clear e h
    go_enter Try.func63, Try.ntmps63
    go_wp2
    go_ret
    exact ⟨rfl, rfl⟩

set_option maxRecDepth 100000 in
set_option maxHeartbeats 16000000 in
theorem refUses_any (codeV u : Value) (l : List Code) (c : Code) (w : World) (hl : CodesV w w.heap.size codeV l) (hu : InsV w w.heap.size u c.ins) (hn : c.ins.length ≤ 2000)
    (hx : ∀ k x, c.ins[k]? = some x → insErr l.length c.ins.length k x = 0) (hb : ∀ c ∈ l, 1 ≤ c.high ∧ c.high ≤ 100 ∧ 1 ≤ c.steps ∧ c.steps ≤ 20000) :
    Calls Try.prog 39 #[codeV, .agg #[u, .int .i64 c.high, .int .i64 c.steps]] w fun e w' => e = .returned (.tuple #[.int .i64 (usesL l c).1, .int .i64 (usesL l c).2.1, .bool (usesL l c).2.2]) ∧ Below w.heap.size w w' := by
  obtain ⟨A, cap, rfl, hlen, hc⟩ := hl
  obtain ⟨A1, cap1, rfl, hlen1, hc1⟩ := hu
  replace hc := Lib.hid hc
  replace hc1 := Lib.hid hc1
  replace hx := Lib.hid hx
  replace hb := Lib.hid hb
  obtain ⟨i5, hi5, hz5, hs5, hy5⟩ := info_parts7 info_int7
  replace hi5 := Lib.hid hi5
  replace hz5 := Lib.hid hz5
  replace hs5 := Lib.hid hs5
  have hl5 := Lib.hid (show i5.bytes * (c.ins.length + 1) ≤ 281474976710656 by rw [hy5]; omega)
  have hl63 := Lib.hid (show c.ins.length + 1 ≤ 9223372036854775807 by omega)
  clear hy5
  go_enter Try.func39, Try.ntmps39
  go_wp2_with (at_make; refine wpList_make_row _ rfl _ _ 101 rfl 3 i5 _ Try.underlying101 hi5.out hz5.out hs5.out rfl .i64 .i64 (c.ins.length + 1) (by go_num) (by go_num) hl5.out hl63.out ?_)
  go_loopg [24] (c.ins.length + 1) (fun n s wr => ∃ j : Nat, j ≤ c.ins.length + 1 ∧ n = c.ins.length + 1 - j ∧ s = .int .i64 j ∧ Hid (FillB wr (w.heap.size + 1) c.ins.length j) ∧ Blk wr w.heap.size 51 #[.slice A1 c.ins.length cap1, .int .i64 c.high, .int .i64 c.steps] ∧ Below w.heap.size w wr)
  case atStart => exact ⟨0, by omega, rfl, rfl, Lib.hid (by simpa using FillB.start (w.alloc (.cells #[.slice A1 c.ins.length cap1, .int .i64 c.high, .int .i64 c.steps] 51)) c.ins.length), (Blk.new w 51 _).alloc _, (by repeat (first | exact Below.refl _ _ | assumption | refine Below.n _ ?_ (by first | omega | (simp; done) | (simp; omega)) | refine Below.alloc ?_ (by first | omega | (simp; done) | (simp; omega)) _ | refine Below.setCell ?_ (by first | omega | (simp; done) | (simp; omega)) _ | refine Below.drew ?_ | refine Below.setRow ?_ (by first | omega | (simp; done) | (simp; omega)) _ | refine Below.drewN ?_ _))⟩
  case round =>
    obtain ⟨j, hj, hq, rfl, hF, hC, hbw⟩ := hrel
    replace hq := Lib.hid hq
    have z := hbw.size
    by_cases hlt : j < c.ins.length + 1
    · obtain ⟨d1, d2⟩ := hF.out.at (i := j) (by omega)
      rw [if_neg (by omega)] at d1
      have hnx := Lib.hid (hF.out.next (by omega))
      go_wp2
      go_roundg (c.ins.length + 1 - (j + 1))
      case measure => rw [hq.out]; omega
      case rel => exact ⟨j + 1, by omega, rfl, by go_num, hnx, hC.far (p := ⟨w.heap.size + 1, j, none⟩) (by show w.heap.size ≠ w.heap.size + 1; omega) _, (by repeat (first | exact Below.refl _ _ | assumption | refine Below.n _ ?_ (by first | omega | (simp; done) | (simp; omega)) | refine Below.alloc ?_ (by first | omega | (simp; done) | (simp; omega)) _ | refine Below.setCell ?_ (by first | omega | (simp; done) | (simp; omega)) _ | refine Below.drew ?_ | refine Below.setRow ?_ (by first | omega | (simp; done) | (simp; omega)) _ | refine Below.drewN ?_ _))⟩
    · obtain rfl : j = c.ins.length + 1 := by omega
      have hH := Lib.hid (hF.out.high)
      obtain ⟨e1, e2⟩ := hF.out.at (i := 0) (by omega)
      rw [if_pos (by omega)] at e1
      have hH0 := Lib.hid (hH.out.put (j := 0) (by omega) 0)
      obtain ⟨wo, rfl⟩ : ∃ wo : World, wo = wr := ⟨_, rfl⟩
      have dC := hC.cell 0
      simp only [List.getElem?_toArray, List.getElem?_cons_zero] at dC
      clear hF hH hq
      go_wp2
      go_loopg [10, 11, 36] c.ins.length (fun n t s k wr => ∃ (i : Nat) (F : Int → Option Int) (hi st : Int), i ≤ c.ins.length ∧ n = c.ins.length - i ∧ t = .int .i64 hi ∧ s = .int .i64 st ∧ k = .int .i64 i ∧ Hid (HighB wr (w.heap.size + 1) c.ins.length F) ∧ Hid (usesGo l (c.ins.drop i) i F hi st = usesL l c) ∧ Hid (∀ x v, F x = some v → 0 ≤ v ∧ v ≤ x) ∧ 0 ≤ hi ∧ hi ≤ 2200 ∧ 0 ≤ st ∧ st ≤ 20001 * i ∧ Below w.heap.size w wr)
      case atStart =>
        refine ⟨0, _, 0, 0, Nat.zero_le _, rfl, rfl, rfl, rfl, hH0, Lib.hid rfl, Lib.hid (fun x v h => ?_), by omega, by omega, by omega, by omega, (by repeat (first | exact Below.refl _ _ | assumption | refine Below.n _ ?_ (by first | omega | (simp; done) | (simp; omega)) | refine Below.alloc ?_ (by first | omega | (simp; done) | (simp; omega)) _ | refine Below.setCell ?_ (by first | omega | (simp; done) | (simp; omega)) _ | refine Below.drew ?_ | refine Below.setRow ?_ (by first | omega | (simp; done) | (simp; omega)) _ | refine Below.drewN ?_ _))⟩
        unfold putF at h
        split at h
        · cases h; omega
        · cases h
      case round =>
        clear hbw hH0 hC e1 e2 dC z
        obtain ⟨i, F, hi, st, hil, hq, rfl, rfl, rfl, hH, hU, hFb, h1, h2, h3, h4, hbw⟩ := hrel
        replace hq := Lib.hid hq
        by_cases hlt : i < c.ins.length
        · obtain ⟨x, hxx⟩ : ∃ x, c.ins[i]? = some x := ⟨_, List.getElem?_eq_getElem hlt⟩
          obtain ⟨b1, o1, rfl, hb1, hat⟩ := hc1.out i x hxx
          have hst := usesGo_at (l := l) hxx F hi st
          rw [hU.out, usesGo] at hst
          have hk := ins_kinds (hx.out i x hxx)
          have z := hbw.size
          obtain ⟨x0, x1, x2, x3, u4, x4, x5⟩ := hat.below hbw hb1 (Nat.le_refl _) (Nat.le_refl _)
          obtain ⟨A4, cap4, rfl, _⟩ := x5
          have z1 : b1 < wr.heap.size := by omega
          have zg := hH.out.lt
          obtain ⟨e1, _⟩ := hH.out.at (j := i) hil
          obtain ⟨f1, f2⟩ := hH.out.at (j := i + 1) (by omega)
          rw [show ((i + 1 : Nat) : Int) = (i : Int) + 1 from rfl] at f1
          have hHt := Lib.hid (fun (j : Nat) (hj : j ≤ c.ins.length) => hH.out.at hj)
          clear hxx hat hU
          obtain ⟨op, a, bb, to, sp⟩ := x
          simp only at x0 x1 x2 x3 x4 hst hk
          cases hF : F i with
          | none =>
            rw [hF] at hst e1
            simp only [Option.getD_none] at e1
            have hres := Lib.hid (show usesL l c = (0, 0, false) from hst)
            clear hst hk hF
            go_wp2_with (go_at_call 63; refine (most_any _ _ _).mono ?_; rintro e w4 ⟨rfl, rfl⟩)
            refine bodyPost_ret (v := .tuple #[.int .i64 0, .int .i64 0, .bool false]) (by simp [results, Try.results39, go_sem]) rfl ⟨by rw [hres.out], (by repeat (first | exact Below.refl _ _ | assumption | refine Below.n _ ?_ (by first | omega | (simp; done) | (simp; omega)) | refine Below.alloc ?_ (by first | omega | (simp; done) | (simp; omega)) _ | refine Below.setCell ?_ (by first | omega | (simp; done) | (simp; omega)) _ | refine Below.drew ?_ | refine Below.setRow ?_ (by first | omega | (simp; done) | (simp; omega)) _ | refine Below.drewN ?_ _))⟩
          | some h =>
            rw [hF] at hst e1
            simp only [Option.getD_some] at e1
            obtain ⟨hb0, hb2⟩ := hFb.out _ _ hF
            simp only at hst
            clear hF
            rcases hk with hk | hk | hk | hk | hk | hk | hk | hk
            · obtain ⟨rfl, _⟩ := hk
              rw [show takesI 1 = 0 from rfl, if_neg (show ¬ h < 0 by omega)] at hst
              rw [if_neg (show ¬ guardI ⟨1, a, bb, to, sp⟩ by unfold guardI; simp), if_neg (show ¬ guardI ⟨1, a, bb, to, sp⟩ by unfold guardI; simp), show h - 0 + 1 = h + 1 by omega] at hst
              have hco : costI l ⟨1, a, bb, to, sp⟩ = 1 := by unfold costI; rw [if_neg (by simp)]
              have hto : topU l ⟨1, a, bb, to, sp⟩ h hi = max hi (max h (h + 1)) := by unfold topU guardI takesI; simp; try omega
              rw [hco, hto] at hst
              clear hco hto
              cases hN : F ((i : Int) + 1) with
              | none =>
                simp only [meetU, hN] at hst
                rw [hN] at f1
                simp only [Option.getD_none] at f1
                have hp := hH.out.put (j := i + 1) (by omega) (h + 1)
                rw [show ((i + 1 : Nat) : Int) = (i : Int) + 1 from rfl] at hp
                replace hp := Lib.hid hp
                replace hst := Lib.hid hst
                clear hN hH
                go_wp2_with (go_at_call 63; refine (most_any _ _ _).mono ?_; rintro e w4 ⟨rfl, rfl⟩)
                go_roundg (c.ins.length - (i + 1))
                case measure => rw [hq.out]; omega
                case rel => exact ⟨i + 1, _, max hi (max h (h + 1)), st + 1, by omega, rfl, by go_num, by go_num, by go_num, Lib.hid (hp.out.alloc _), Lib.hid hst.out.symm, Lib.hid (putF_bd hFb.out (by omega) (by omega)), by omega, by omega, by omega, by omega, (by repeat (first | exact Below.refl _ _ | assumption | refine Below.n _ ?_ (by first | omega | (simp; done) | (simp; omega)) | refine Below.alloc ?_ (by first | omega | (simp; done) | (simp; omega)) _ | refine Below.setCell ?_ (by first | omega | (simp; done) | (simp; omega)) _ | refine Below.drew ?_ | refine Below.setRow ?_ (by first | omega | (simp; done) | (simp; omega)) _ | refine Below.drewN ?_ _))⟩
              | some v =>
                simp only [meetU, hN] at hst
                rw [hN] at f1
                simp only [Option.getD_some] at f1
                obtain ⟨v0, v1⟩ := hFb.out _ _ hN
                by_cases hv : v = h + 1
                · rw [if_pos hv] at hst
                  subst v
                  have hp := hH.out.put (j := i + 1) (by omega) (h + 1)
                  rw [show ((i + 1 : Nat) : Int) = (i : Int) + 1 from rfl] at hp
                  replace hp := Lib.hid hp
                  replace hst := Lib.hid hst
                  clear hN hH
                  go_wp2_with (go_at_call 63; refine (most_any _ _ _).mono ?_; rintro e w4 ⟨rfl, rfl⟩)
                  go_roundg (c.ins.length - (i + 1))
                  case measure => rw [hq.out]; omega
                  case rel => exact ⟨i + 1, _, max hi (max h (h + 1)), st + 1, by omega, rfl, by go_num, by go_num, by go_num, Lib.hid (hp.out.alloc _), Lib.hid hst.out.symm, Lib.hid (putF_bd hFb.out (by omega) (by omega)), by omega, by omega, by omega, by omega, (by repeat (first | exact Below.refl _ _ | assumption | refine Below.n _ ?_ (by first | omega | (simp; done) | (simp; omega)) | refine Below.alloc ?_ (by first | omega | (simp; done) | (simp; omega)) _ | refine Below.setCell ?_ (by first | omega | (simp; done) | (simp; omega)) _ | refine Below.drew ?_ | refine Below.setRow ?_ (by first | omega | (simp; done) | (simp; omega)) _ | refine Below.drewN ?_ _))⟩
                · rw [if_neg hv] at hst
                  have hres := Lib.hid (show usesL l c = (0, 0, false) from hst)
                  have g1 : (v == h + 1) = false := by simpa using hv
                  have g2 : (v != h + 1) = true := by simpa using hv
                  clear hN hst hv
                  go_wp2_with (go_at_call 63; refine (most_any _ _ _).mono ?_; rintro e w4 ⟨rfl, rfl⟩)
                  refine bodyPost_ret (v := .tuple #[.int .i64 0, .int .i64 0, .bool false]) (by simp [results, Try.results39, go_sem]) rfl ⟨by rw [hres.out], (by repeat (first | exact Below.refl _ _ | assumption | refine Below.n _ ?_ (by first | omega | (simp; done) | (simp; omega)) | refine Below.alloc ?_ (by first | omega | (simp; done) | (simp; omega)) _ | refine Below.setCell ?_ (by first | omega | (simp; done) | (simp; omega)) _ | refine Below.drew ?_ | refine Below.setRow ?_ (by first | omega | (simp; done) | (simp; omega)) _ | refine Below.drewN ?_ _))⟩
            · subst hk
              rw [show takesI 2 = 2 from rfl] at hst
              rcases dec (h < 2) with ⟨q1, hx2⟩ | ⟨q1, hx2⟩
              · rw [if_pos hx2] at hst
                have hres := Lib.hid (show usesL l c = (0, 0, false) from hst)
                clear hst hx2
                go_wp2_with (go_at_call 63; refine (most_any _ _ _).mono ?_; rintro e w4 ⟨rfl, rfl⟩)
                refine bodyPost_ret (v := .tuple #[.int .i64 0, .int .i64 0, .bool false]) (by simp [results, Try.results39, go_sem]) rfl ⟨by rw [hres.out], (by repeat (first | exact Below.refl _ _ | assumption | refine Below.n _ ?_ (by first | omega | (simp; done) | (simp; omega)) | refine Below.alloc ?_ (by first | omega | (simp; done) | (simp; omega)) _ | refine Below.setCell ?_ (by first | omega | (simp; done) | (simp; omega)) _ | refine Below.drew ?_ | refine Below.setRow ?_ (by first | omega | (simp; done) | (simp; omega)) _ | refine Below.drewN ?_ _))⟩
              · rw [if_neg hx2] at hst
                rw [if_neg (show ¬ guardI ⟨2, a, bb, to, sp⟩ by unfold guardI; simp), if_neg (show ¬ guardI ⟨2, a, bb, to, sp⟩ by unfold guardI; simp), show h - 2 + 1 = h - 1 by omega] at hst
                have hco : costI l ⟨2, a, bb, to, sp⟩ = 1 := by unfold costI; rw [if_neg (by simp)]
                have hto : topU l ⟨2, a, bb, to, sp⟩ h hi = max hi (max h (h - 1)) := by unfold topU guardI takesI; simp; try omega
                rw [hco, hto] at hst
                clear hco hto
                cases hN : F ((i : Int) + 1) with
                | none =>
                  simp only [meetU, hN] at hst
                  rw [hN] at f1
                  simp only [Option.getD_none] at f1
                  have hp := hH.out.put (j := i + 1) (by omega) (h - 1)
                  rw [show ((i + 1 : Nat) : Int) = (i : Int) + 1 from rfl] at hp
                  replace hp := Lib.hid hp
                  replace hst := Lib.hid hst
                  clear hN hH
                  go_wp2_with (go_at_call 63; refine (most_any _ _ _).mono ?_; rintro e w4 ⟨rfl, rfl⟩)
                  go_roundg (c.ins.length - (i + 1))
                  case measure => rw [hq.out]; omega
                  case rel => exact ⟨i + 1, _, max hi (max h (h - 1)), st + 1, by omega, rfl, by go_num, by go_num, by go_num, Lib.hid (hp.out.alloc _), Lib.hid hst.out.symm, Lib.hid (putF_bd hFb.out (by omega) (by omega)), by omega, by omega, by omega, by omega, (by repeat (first | exact Below.refl _ _ | assumption | refine Below.n _ ?_ (by first | omega | (simp; done) | (simp; omega)) | refine Below.alloc ?_ (by first | omega | (simp; done) | (simp; omega)) _ | refine Below.setCell ?_ (by first | omega | (simp; done) | (simp; omega)) _ | refine Below.drew ?_ | refine Below.setRow ?_ (by first | omega | (simp; done) | (simp; omega)) _ | refine Below.drewN ?_ _))⟩
                | some v =>
                  simp only [meetU, hN] at hst
                  rw [hN] at f1
                  simp only [Option.getD_some] at f1
                  obtain ⟨v0, v1⟩ := hFb.out _ _ hN
                  by_cases hv : v = h - 1
                  · rw [if_pos hv] at hst
                    subst v
                    have hp := hH.out.put (j := i + 1) (by omega) (h - 1)
                    rw [show ((i + 1 : Nat) : Int) = (i : Int) + 1 from rfl] at hp
                    replace hp := Lib.hid hp
                    replace hst := Lib.hid hst
                    clear hN hH
                    go_wp2_with (go_at_call 63; refine (most_any _ _ _).mono ?_; rintro e w4 ⟨rfl, rfl⟩)
                    go_roundg (c.ins.length - (i + 1))
                    case measure => rw [hq.out]; omega
                    case rel => exact ⟨i + 1, _, max hi (max h (h - 1)), st + 1, by omega, rfl, by go_num, by go_num, by go_num, Lib.hid (hp.out.alloc _), Lib.hid hst.out.symm, Lib.hid (putF_bd hFb.out (by omega) (by omega)), by omega, by omega, by omega, by omega, (by repeat (first | exact Below.refl _ _ | assumption | refine Below.n _ ?_ (by first | omega | (simp; done) | (simp; omega)) | refine Below.alloc ?_ (by first | omega | (simp; done) | (simp; omega)) _ | refine Below.setCell ?_ (by first | omega | (simp; done) | (simp; omega)) _ | refine Below.drew ?_ | refine Below.setRow ?_ (by first | omega | (simp; done) | (simp; omega)) _ | refine Below.drewN ?_ _))⟩
                  · rw [if_neg hv] at hst
                    have hres := Lib.hid (show usesL l c = (0, 0, false) from hst)
                    have g1 : (v == h - 1) = false := by simpa using hv
                    have g2 : (v != h - 1) = true := by simpa using hv
                    clear hN hst hv
                    go_wp2_with (go_at_call 63; refine (most_any _ _ _).mono ?_; rintro e w4 ⟨rfl, rfl⟩)
                    refine bodyPost_ret (v := .tuple #[.int .i64 0, .int .i64 0, .bool false]) (by simp [results, Try.results39, go_sem]) rfl ⟨by rw [hres.out], (by repeat (first | exact Below.refl _ _ | assumption | refine Below.n _ ?_ (by first | omega | (simp; done) | (simp; omega)) | refine Below.alloc ?_ (by first | omega | (simp; done) | (simp; omega)) _ | refine Below.setCell ?_ (by first | omega | (simp; done) | (simp; omega)) _ | refine Below.drew ?_ | refine Below.setRow ?_ (by first | omega | (simp; done) | (simp; omega)) _ | refine Below.drewN ?_ _))⟩
            · subst hk
              rw [show takesI 3 = 2 from rfl] at hst
              rcases dec (h < 2) with ⟨q1, hx2⟩ | ⟨q1, hx2⟩
              · rw [if_pos hx2] at hst
                have hres := Lib.hid (show usesL l c = (0, 0, false) from hst)
                clear hst hx2
                go_wp2_with (go_at_call 63; refine (most_any _ _ _).mono ?_; rintro e w4 ⟨rfl, rfl⟩)
                refine bodyPost_ret (v := .tuple #[.int .i64 0, .int .i64 0, .bool false]) (by simp [results, Try.results39, go_sem]) rfl ⟨by rw [hres.out], (by repeat (first | exact Below.refl _ _ | assumption | refine Below.n _ ?_ (by first | omega | (simp; done) | (simp; omega)) | refine Below.alloc ?_ (by first | omega | (simp; done) | (simp; omega)) _ | refine Below.setCell ?_ (by first | omega | (simp; done) | (simp; omega)) _ | refine Below.drew ?_ | refine Below.setRow ?_ (by first | omega | (simp; done) | (simp; omega)) _ | refine Below.drewN ?_ _))⟩
              · rw [if_neg hx2] at hst
                rw [if_neg (show ¬ guardI ⟨3, a, bb, to, sp⟩ by unfold guardI; simp), if_neg (show ¬ guardI ⟨3, a, bb, to, sp⟩ by unfold guardI; simp), show h - 2 + 1 = h - 1 by omega] at hst
                have hco : costI l ⟨3, a, bb, to, sp⟩ = 1 := by unfold costI; rw [if_neg (by simp)]
                have hto : topU l ⟨3, a, bb, to, sp⟩ h hi = max hi (max h (h - 1)) := by unfold topU guardI takesI; simp; try omega
                rw [hco, hto] at hst
                clear hco hto
                cases hN : F ((i : Int) + 1) with
                | none =>
                  simp only [meetU, hN] at hst
                  rw [hN] at f1
                  simp only [Option.getD_none] at f1
                  have hp := hH.out.put (j := i + 1) (by omega) (h - 1)
                  rw [show ((i + 1 : Nat) : Int) = (i : Int) + 1 from rfl] at hp
                  replace hp := Lib.hid hp
                  replace hst := Lib.hid hst
                  clear hN hH
                  go_wp2_with (go_at_call 63; refine (most_any _ _ _).mono ?_; rintro e w4 ⟨rfl, rfl⟩)
                  go_roundg (c.ins.length - (i + 1))
                  case measure => rw [hq.out]; omega
                  case rel => exact ⟨i + 1, _, max hi (max h (h - 1)), st + 1, by omega, rfl, by go_num, by go_num, by go_num, Lib.hid (hp.out.alloc _), Lib.hid hst.out.symm, Lib.hid (putF_bd hFb.out (by omega) (by omega)), by omega, by omega, by omega, by omega, (by repeat (first | exact Below.refl _ _ | assumption | refine Below.n _ ?_ (by first | omega | (simp; done) | (simp; omega)) | refine Below.alloc ?_ (by first | omega | (simp; done) | (simp; omega)) _ | refine Below.setCell ?_ (by first | omega | (simp; done) | (simp; omega)) _ | refine Below.drew ?_ | refine Below.setRow ?_ (by first | omega | (simp; done) | (simp; omega)) _ | refine Below.drewN ?_ _))⟩
                | some v =>
                  simp only [meetU, hN] at hst
                  rw [hN] at f1
                  simp only [Option.getD_some] at f1
                  obtain ⟨v0, v1⟩ := hFb.out _ _ hN
                  by_cases hv : v = h - 1
                  · rw [if_pos hv] at hst
                    subst v
                    have hp := hH.out.put (j := i + 1) (by omega) (h - 1)
                    rw [show ((i + 1 : Nat) : Int) = (i : Int) + 1 from rfl] at hp
                    replace hp := Lib.hid hp
                    replace hst := Lib.hid hst
                    clear hN hH
                    go_wp2_with (go_at_call 63; refine (most_any _ _ _).mono ?_; rintro e w4 ⟨rfl, rfl⟩)
                    go_roundg (c.ins.length - (i + 1))
                    case measure => rw [hq.out]; omega
                    case rel => exact ⟨i + 1, _, max hi (max h (h - 1)), st + 1, by omega, rfl, by go_num, by go_num, by go_num, Lib.hid (hp.out.alloc _), Lib.hid hst.out.symm, Lib.hid (putF_bd hFb.out (by omega) (by omega)), by omega, by omega, by omega, by omega, (by repeat (first | exact Below.refl _ _ | assumption | refine Below.n _ ?_ (by first | omega | (simp; done) | (simp; omega)) | refine Below.alloc ?_ (by first | omega | (simp; done) | (simp; omega)) _ | refine Below.setCell ?_ (by first | omega | (simp; done) | (simp; omega)) _ | refine Below.drew ?_ | refine Below.setRow ?_ (by first | omega | (simp; done) | (simp; omega)) _ | refine Below.drewN ?_ _))⟩
                  · rw [if_neg hv] at hst
                    have hres := Lib.hid (show usesL l c = (0, 0, false) from hst)
                    have g1 : (v == h - 1) = false := by simpa using hv
                    have g2 : (v != h - 1) = true := by simpa using hv
                    clear hN hst hv
                    go_wp2_with (go_at_call 63; refine (most_any _ _ _).mono ?_; rintro e w4 ⟨rfl, rfl⟩)
                    refine bodyPost_ret (v := .tuple #[.int .i64 0, .int .i64 0, .bool false]) (by simp [results, Try.results39, go_sem]) rfl ⟨by rw [hres.out], (by repeat (first | exact Below.refl _ _ | assumption | refine Below.n _ ?_ (by first | omega | (simp; done) | (simp; omega)) | refine Below.alloc ?_ (by first | omega | (simp; done) | (simp; omega)) _ | refine Below.setCell ?_ (by first | omega | (simp; done) | (simp; omega)) _ | refine Below.drew ?_ | refine Below.setRow ?_ (by first | omega | (simp; done) | (simp; omega)) _ | refine Below.drewN ?_ _))⟩
            · subst hk
              rw [show takesI 4 = 2 from rfl] at hst
              rcases dec (h < 2) with ⟨q1, hx2⟩ | ⟨q1, hx2⟩
              · rw [if_pos hx2] at hst
                have hres := Lib.hid (show usesL l c = (0, 0, false) from hst)
                clear hst hx2
                go_wp2_with (go_at_call 63; refine (most_any _ _ _).mono ?_; rintro e w4 ⟨rfl, rfl⟩)
                refine bodyPost_ret (v := .tuple #[.int .i64 0, .int .i64 0, .bool false]) (by simp [results, Try.results39, go_sem]) rfl ⟨by rw [hres.out], (by repeat (first | exact Below.refl _ _ | assumption | refine Below.n _ ?_ (by first | omega | (simp; done) | (simp; omega)) | refine Below.alloc ?_ (by first | omega | (simp; done) | (simp; omega)) _ | refine Below.setCell ?_ (by first | omega | (simp; done) | (simp; omega)) _ | refine Below.drew ?_ | refine Below.setRow ?_ (by first | omega | (simp; done) | (simp; omega)) _ | refine Below.drewN ?_ _))⟩
              · rw [if_neg hx2] at hst
                rw [if_neg (show ¬ guardI ⟨4, a, bb, to, sp⟩ by unfold guardI; simp), if_neg (show ¬ guardI ⟨4, a, bb, to, sp⟩ by unfold guardI; simp), show h - 2 + 1 = h - 1 by omega] at hst
                have hco : costI l ⟨4, a, bb, to, sp⟩ = 1 := by unfold costI; rw [if_neg (by simp)]
                have hto : topU l ⟨4, a, bb, to, sp⟩ h hi = max hi (max h (h - 1)) := by unfold topU guardI takesI; simp; try omega
                rw [hco, hto] at hst
                clear hco hto
                cases hN : F ((i : Int) + 1) with
                | none =>
                  simp only [meetU, hN] at hst
                  rw [hN] at f1
                  simp only [Option.getD_none] at f1
                  have hp := hH.out.put (j := i + 1) (by omega) (h - 1)
                  rw [show ((i + 1 : Nat) : Int) = (i : Int) + 1 from rfl] at hp
                  replace hp := Lib.hid hp
                  replace hst := Lib.hid hst
                  clear hN hH
                  go_wp2_with (go_at_call 63; refine (most_any _ _ _).mono ?_; rintro e w4 ⟨rfl, rfl⟩)
                  go_roundg (c.ins.length - (i + 1))
                  case measure => rw [hq.out]; omega
                  case rel => exact ⟨i + 1, _, max hi (max h (h - 1)), st + 1, by omega, rfl, by go_num, by go_num, by go_num, Lib.hid (hp.out.alloc _), Lib.hid hst.out.symm, Lib.hid (putF_bd hFb.out (by omega) (by omega)), by omega, by omega, by omega, by omega, (by repeat (first | exact Below.refl _ _ | assumption | refine Below.n _ ?_ (by first | omega | (simp; done) | (simp; omega)) | refine Below.alloc ?_ (by first | omega | (simp; done) | (simp; omega)) _ | refine Below.setCell ?_ (by first | omega | (simp; done) | (simp; omega)) _ | refine Below.drew ?_ | refine Below.setRow ?_ (by first | omega | (simp; done) | (simp; omega)) _ | refine Below.drewN ?_ _))⟩
                | some v =>
                  simp only [meetU, hN] at hst
                  rw [hN] at f1
                  simp only [Option.getD_some] at f1
                  obtain ⟨v0, v1⟩ := hFb.out _ _ hN
                  by_cases hv : v = h - 1
                  · rw [if_pos hv] at hst
                    subst v
                    have hp := hH.out.put (j := i + 1) (by omega) (h - 1)
                    rw [show ((i + 1 : Nat) : Int) = (i : Int) + 1 from rfl] at hp
                    replace hp := Lib.hid hp
                    replace hst := Lib.hid hst
                    clear hN hH
                    go_wp2_with (go_at_call 63; refine (most_any _ _ _).mono ?_; rintro e w4 ⟨rfl, rfl⟩)
                    go_roundg (c.ins.length - (i + 1))
                    case measure => rw [hq.out]; omega
                    case rel => exact ⟨i + 1, _, max hi (max h (h - 1)), st + 1, by omega, rfl, by go_num, by go_num, by go_num, Lib.hid (hp.out.alloc _), Lib.hid hst.out.symm, Lib.hid (putF_bd hFb.out (by omega) (by omega)), by omega, by omega, by omega, by omega, (by repeat (first | exact Below.refl _ _ | assumption | refine Below.n _ ?_ (by first | omega | (simp; done) | (simp; omega)) | refine Below.alloc ?_ (by first | omega | (simp; done) | (simp; omega)) _ | refine Below.setCell ?_ (by first | omega | (simp; done) | (simp; omega)) _ | refine Below.drew ?_ | refine Below.setRow ?_ (by first | omega | (simp; done) | (simp; omega)) _ | refine Below.drewN ?_ _))⟩
                  · rw [if_neg hv] at hst
                    have hres := Lib.hid (show usesL l c = (0, 0, false) from hst)
                    have g1 : (v == h - 1) = false := by simpa using hv
                    have g2 : (v != h - 1) = true := by simpa using hv
                    clear hN hst hv
                    go_wp2_with (go_at_call 63; refine (most_any _ _ _).mono ?_; rintro e w4 ⟨rfl, rfl⟩)
                    refine bodyPost_ret (v := .tuple #[.int .i64 0, .int .i64 0, .bool false]) (by simp [results, Try.results39, go_sem]) rfl ⟨by rw [hres.out], (by repeat (first | exact Below.refl _ _ | assumption | refine Below.n _ ?_ (by first | omega | (simp; done) | (simp; omega)) | refine Below.alloc ?_ (by first | omega | (simp; done) | (simp; omega)) _ | refine Below.setCell ?_ (by first | omega | (simp; done) | (simp; omega)) _ | refine Below.drew ?_ | refine Below.setRow ?_ (by first | omega | (simp; done) | (simp; omega)) _ | refine Below.drewN ?_ _))⟩
            · obtain ⟨rfl, _, _⟩ := hk
              rw [show takesI 5 = 1 from rfl] at hst
              rcases dec (h < 1) with ⟨q1, hx2⟩ | ⟨q1, hx2⟩
              · rw [if_pos hx2] at hst
                have hres := Lib.hid (show usesL l c = (0, 0, false) from hst)
                clear hst hx2
                go_wp2_with (go_at_call 63; refine (most_any _ _ _).mono ?_; rintro e w4 ⟨rfl, rfl⟩)
                refine bodyPost_ret (v := .tuple #[.int .i64 0, .int .i64 0, .bool false]) (by simp [results, Try.results39, go_sem]) rfl ⟨by rw [hres.out], (by repeat (first | exact Below.refl _ _ | assumption | refine Below.n _ ?_ (by first | omega | (simp; done) | (simp; omega)) | refine Below.alloc ?_ (by first | omega | (simp; done) | (simp; omega)) _ | refine Below.setCell ?_ (by first | omega | (simp; done) | (simp; omega)) _ | refine Below.drew ?_ | refine Below.setRow ?_ (by first | omega | (simp; done) | (simp; omega)) _ | refine Below.drewN ?_ _))⟩
              · rw [if_neg hx2] at hst
                rw [if_neg (show ¬ guardI ⟨5, a, bb, to, sp⟩ by unfold guardI; simp), if_neg (show ¬ guardI ⟨5, a, bb, to, sp⟩ by unfold guardI; simp), show h - 1 + 1 = h by omega] at hst
                have hco : costI l ⟨5, a, bb, to, sp⟩ = 1 := by unfold costI; rw [if_neg (by simp)]
                have hto : topU l ⟨5, a, bb, to, sp⟩ h hi = max hi (max h h) := by unfold topU guardI takesI; simp; try omega
                rw [hco, hto] at hst
                clear hco hto
                cases hN : F ((i : Int) + 1) with
                | none =>
                  simp only [meetU, hN] at hst
                  rw [hN] at f1
                  simp only [Option.getD_none] at f1
                  have hp := hH.out.put (j := i + 1) (by omega) (h)
                  rw [show ((i + 1 : Nat) : Int) = (i : Int) + 1 from rfl] at hp
                  replace hp := Lib.hid hp
                  replace hst := Lib.hid hst
                  clear hN hH
                  go_wp2_with (go_at_call 63; refine (most_any _ _ _).mono ?_; rintro e w4 ⟨rfl, rfl⟩)
                  go_roundg (c.ins.length - (i + 1))
                  case measure => rw [hq.out]; omega
                  case rel => exact ⟨i + 1, _, max hi (max h h), st + 1, by omega, rfl, by go_num, by go_num, by go_num, Lib.hid (hp.out.alloc _), Lib.hid hst.out.symm, Lib.hid (putF_bd hFb.out (by omega) (by omega)), by omega, by omega, by omega, by omega, (by repeat (first | exact Below.refl _ _ | assumption | refine Below.n _ ?_ (by first | omega | (simp; done) | (simp; omega)) | refine Below.alloc ?_ (by first | omega | (simp; done) | (simp; omega)) _ | refine Below.setCell ?_ (by first | omega | (simp; done) | (simp; omega)) _ | refine Below.drew ?_ | refine Below.setRow ?_ (by first | omega | (simp; done) | (simp; omega)) _ | refine Below.drewN ?_ _))⟩
                | some v =>
                  simp only [meetU, hN] at hst
                  rw [hN] at f1
                  simp only [Option.getD_some] at f1
                  obtain ⟨v0, v1⟩ := hFb.out _ _ hN
                  by_cases hv : v = h
                  · rw [if_pos hv] at hst
                    subst v
                    have hp := hH.out.put (j := i + 1) (by omega) (h)
                    rw [show ((i + 1 : Nat) : Int) = (i : Int) + 1 from rfl] at hp
                    replace hp := Lib.hid hp
                    replace hst := Lib.hid hst
                    clear hN hH
                    go_wp2_with (go_at_call 63; refine (most_any _ _ _).mono ?_; rintro e w4 ⟨rfl, rfl⟩)
                    go_roundg (c.ins.length - (i + 1))
                    case measure => rw [hq.out]; omega
                    case rel => exact ⟨i + 1, _, max hi (max h h), st + 1, by omega, rfl, by go_num, by go_num, by go_num, Lib.hid (hp.out.alloc _), Lib.hid hst.out.symm, Lib.hid (putF_bd hFb.out (by omega) (by omega)), by omega, by omega, by omega, by omega, (by repeat (first | exact Below.refl _ _ | assumption | refine Below.n _ ?_ (by first | omega | (simp; done) | (simp; omega)) | refine Below.alloc ?_ (by first | omega | (simp; done) | (simp; omega)) _ | refine Below.setCell ?_ (by first | omega | (simp; done) | (simp; omega)) _ | refine Below.drew ?_ | refine Below.setRow ?_ (by first | omega | (simp; done) | (simp; omega)) _ | refine Below.drewN ?_ _))⟩
                  · rw [if_neg hv] at hst
                    have hres := Lib.hid (show usesL l c = (0, 0, false) from hst)
                    have g1 : (v == h) = false := by simpa using hv
                    have g2 : (v != h) = true := by simpa using hv
                    clear hN hst hv
                    go_wp2_with (go_at_call 63; refine (most_any _ _ _).mono ?_; rintro e w4 ⟨rfl, rfl⟩)
                    refine bodyPost_ret (v := .tuple #[.int .i64 0, .int .i64 0, .bool false]) (by simp [results, Try.results39, go_sem]) rfl ⟨by rw [hres.out], (by repeat (first | exact Below.refl _ _ | assumption | refine Below.n _ ?_ (by first | omega | (simp; done) | (simp; omega)) | refine Below.alloc ?_ (by first | omega | (simp; done) | (simp; omega)) _ | refine Below.setCell ?_ (by first | omega | (simp; done) | (simp; omega)) _ | refine Below.drew ?_ | refine Below.setRow ?_ (by first | omega | (simp; done) | (simp; omega)) _ | refine Below.drewN ?_ _))⟩
            · obtain ⟨rfl, hk2, hk3, _, _⟩ := hk
              obtain ⟨tn, rfl⟩ := Int.eq_ofNat_of_zero_le (show 0 ≤ to by omega)
              obtain ⟨t1, _⟩ := hHt.out tn (by omega)
              rw [show takesI 6 = 0 from rfl, if_neg (show ¬ h < 0 by omega), if_pos (show guardI ⟨6, a, bb, tn, sp⟩ by unfold guardI; simp), if_pos (show guardI ⟨6, a, bb, tn, sp⟩ by unfold guardI; simp)] at hst
              have hco : costI l ⟨6, a, bb, tn, sp⟩ = 1 := by unfold costI; rw [if_neg (by simp)]
              have hto : topU l ⟨6, a, bb, tn, sp⟩ h hi = max (max hi (h + 1)) (max h h) := by unfold topU guardI; simp
              rw [hco, hto] at hst
              clear hco hto
              have hF1 : putF F (tn : Int) (h + 1) ((i : Int) + 1) = F ((i : Int) + 1) := by unfold putF; rw [if_neg (by omega)]
              rw [← hF1] at f1
              have hFb1 := Lib.hid (putF_bd hFb.out (j := (tn : Int)) (v := h + 1) (by omega) (by omega))
              have hp1 := Lib.hid (hH.out.put (j := tn) (by omega) (h + 1))
              cases hN1 : F (tn : Int) with
              | none =>
                simp only [meetU, hN1] at hst
                rw [hN1] at t1
                simp only [Option.getD_none] at t1
                clear hH hF1 hN1
                generalize putF F (tn : Int) (h + 1) = F1 at *
                cases hN : F1 ((i : Int) + 1) with
                | none =>
                  simp only [hN] at hst
                  rw [hN] at f1
                  simp only [Option.getD_none] at f1
                  have hp := hp1.out.put (j := i + 1) (by omega) (h)
                  rw [show ((i + 1 : Nat) : Int) = (i : Int) + 1 from rfl] at hp
                  replace hp := Lib.hid hp
                  replace hst := Lib.hid hst
                  clear hN hp1
                  go_wp2_with (go_at_call 63; refine (most_any _ _ _).mono ?_; rintro e w4 ⟨rfl, rfl⟩)
                  go_roundg (c.ins.length - (i + 1))
                  case measure => rw [hq.out]; omega
                  case rel => exact ⟨i + 1, _, max (max hi (h + 1)) (max h h), st + 1, by omega, rfl, by go_num, by go_num, by go_num, Lib.hid (hp.out.alloc _), Lib.hid hst.out.symm, Lib.hid (putF_bd hFb1.out (by omega) (by omega)), by omega, by omega, by omega, by omega, (by repeat (first | exact Below.refl _ _ | assumption | refine Below.n _ ?_ (by first | omega | (simp; done) | (simp; omega)) | refine Below.alloc ?_ (by first | omega | (simp; done) | (simp; omega)) _ | refine Below.setCell ?_ (by first | omega | (simp; done) | (simp; omega)) _ | refine Below.drew ?_ | refine Below.setRow ?_ (by first | omega | (simp; done) | (simp; omega)) _ | refine Below.drewN ?_ _))⟩
                | some v =>
                  simp only [hN] at hst
                  rw [hN] at f1
                  simp only [Option.getD_some] at f1
                  obtain ⟨v0, v1⟩ := hFb1.out _ _ hN
                  by_cases hv : v = h
                  · rw [if_pos hv] at hst
                    subst v
                    have hp := hp1.out.put (j := i + 1) (by omega) (h)
                    rw [show ((i + 1 : Nat) : Int) = (i : Int) + 1 from rfl] at hp
                    replace hp := Lib.hid hp
                    replace hst := Lib.hid hst
                    clear hN hp1
                    go_wp2_with (go_at_call 63; refine (most_any _ _ _).mono ?_; rintro e w4 ⟨rfl, rfl⟩)
                    go_roundg (c.ins.length - (i + 1))
                    case measure => rw [hq.out]; omega
                    case rel => exact ⟨i + 1, _, max (max hi (h + 1)) (max h h), st + 1, by omega, rfl, by go_num, by go_num, by go_num, Lib.hid (hp.out.alloc _), Lib.hid hst.out.symm, Lib.hid (putF_bd hFb1.out (by omega) (by omega)), by omega, by omega, by omega, by omega, (by repeat (first | exact Below.refl _ _ | assumption | refine Below.n _ ?_ (by first | omega | (simp; done) | (simp; omega)) | refine Below.alloc ?_ (by first | omega | (simp; done) | (simp; omega)) _ | refine Below.setCell ?_ (by first | omega | (simp; done) | (simp; omega)) _ | refine Below.drew ?_ | refine Below.setRow ?_ (by first | omega | (simp; done) | (simp; omega)) _ | refine Below.drewN ?_ _))⟩
                  · rw [if_neg hv] at hst
                    have hres := Lib.hid (show usesL l c = (0, 0, false) from hst)
                    have g1 : (v == h) = false := by simpa using hv
                    have g2 : (v != h) = true := by simpa using hv
                    clear hN hst hv
                    go_wp2_with (go_at_call 63; refine (most_any _ _ _).mono ?_; rintro e w4 ⟨rfl, rfl⟩)
                    refine bodyPost_ret (v := .tuple #[.int .i64 0, .int .i64 0, .bool false]) (by simp [results, Try.results39, go_sem]) rfl ⟨by rw [hres.out], (by repeat (first | exact Below.refl _ _ | assumption | refine Below.n _ ?_ (by first | omega | (simp; done) | (simp; omega)) | refine Below.alloc ?_ (by first | omega | (simp; done) | (simp; omega)) _ | refine Below.setCell ?_ (by first | omega | (simp; done) | (simp; omega)) _ | refine Below.drew ?_ | refine Below.setRow ?_ (by first | omega | (simp; done) | (simp; omega)) _ | refine Below.drewN ?_ _))⟩
              | some u =>
                simp only [meetU, hN1] at hst
                rw [hN1] at t1
                simp only [Option.getD_some] at t1
                obtain ⟨u0, u1⟩ := hFb.out _ _ hN1
                by_cases hu : u = h + 1
                · rw [if_pos hu] at hst
                  subst u
                  clear hH hF1 hN1
                  generalize putF F (tn : Int) (h + 1) = F1 at *
                  cases hN : F1 ((i : Int) + 1) with
                  | none =>
                    simp only [hN] at hst
                    rw [hN] at f1
                    simp only [Option.getD_none] at f1
                    have hp := hp1.out.put (j := i + 1) (by omega) (h)
                    rw [show ((i + 1 : Nat) : Int) = (i : Int) + 1 from rfl] at hp
                    replace hp := Lib.hid hp
                    replace hst := Lib.hid hst
                    clear hN hp1
                    go_wp2_with (go_at_call 63; refine (most_any _ _ _).mono ?_; rintro e w4 ⟨rfl, rfl⟩)
                    go_roundg (c.ins.length - (i + 1))
                    case measure => rw [hq.out]; omega
                    case rel => exact ⟨i + 1, _, max (max hi (h + 1)) (max h h), st + 1, by omega, rfl, by go_num, by go_num, by go_num, Lib.hid (hp.out.alloc _), Lib.hid hst.out.symm, Lib.hid (putF_bd hFb1.out (by omega) (by omega)), by omega, by omega, by omega, by omega, (by repeat (first | exact Below.refl _ _ | assumption | refine Below.n _ ?_ (by first | omega | (simp; done) | (simp; omega)) | refine Below.alloc ?_ (by first | omega | (simp; done) | (simp; omega)) _ | refine Below.setCell ?_ (by first | omega | (simp; done) | (simp; omega)) _ | refine Below.drew ?_ | refine Below.setRow ?_ (by first | omega | (simp; done) | (simp; omega)) _ | refine Below.drewN ?_ _))⟩
                  | some v =>
                    simp only [hN] at hst
                    rw [hN] at f1
                    simp only [Option.getD_some] at f1
                    obtain ⟨v0, v1⟩ := hFb1.out _ _ hN
                    by_cases hv : v = h
                    · rw [if_pos hv] at hst
                      subst v
                      have hp := hp1.out.put (j := i + 1) (by omega) (h)
                      rw [show ((i + 1 : Nat) : Int) = (i : Int) + 1 from rfl] at hp
                      replace hp := Lib.hid hp
                      replace hst := Lib.hid hst
                      clear hN hp1
                      go_wp2_with (go_at_call 63; refine (most_any _ _ _).mono ?_; rintro e w4 ⟨rfl, rfl⟩)
                      go_roundg (c.ins.length - (i + 1))
                      case measure => rw [hq.out]; omega
                      case rel => exact ⟨i + 1, _, max (max hi (h + 1)) (max h h), st + 1, by omega, rfl, by go_num, by go_num, by go_num, Lib.hid (hp.out.alloc _), Lib.hid hst.out.symm, Lib.hid (putF_bd hFb1.out (by omega) (by omega)), by omega, by omega, by omega, by omega, (by repeat (first | exact Below.refl _ _ | assumption | refine Below.n _ ?_ (by first | omega | (simp; done) | (simp; omega)) | refine Below.alloc ?_ (by first | omega | (simp; done) | (simp; omega)) _ | refine Below.setCell ?_ (by first | omega | (simp; done) | (simp; omega)) _ | refine Below.drew ?_ | refine Below.setRow ?_ (by first | omega | (simp; done) | (simp; omega)) _ | refine Below.drewN ?_ _))⟩
                    · rw [if_neg hv] at hst
                      have hres := Lib.hid (show usesL l c = (0, 0, false) from hst)
                      have g1 : (v == h) = false := by simpa using hv
                      have g2 : (v != h) = true := by simpa using hv
                      clear hN hst hv
                      go_wp2_with (go_at_call 63; refine (most_any _ _ _).mono ?_; rintro e w4 ⟨rfl, rfl⟩)
                      refine bodyPost_ret (v := .tuple #[.int .i64 0, .int .i64 0, .bool false]) (by simp [results, Try.results39, go_sem]) rfl ⟨by rw [hres.out], (by repeat (first | exact Below.refl _ _ | assumption | refine Below.n _ ?_ (by first | omega | (simp; done) | (simp; omega)) | refine Below.alloc ?_ (by first | omega | (simp; done) | (simp; omega)) _ | refine Below.setCell ?_ (by first | omega | (simp; done) | (simp; omega)) _ | refine Below.drew ?_ | refine Below.setRow ?_ (by first | omega | (simp; done) | (simp; omega)) _ | refine Below.drewN ?_ _))⟩
                · rw [if_neg hu] at hst
                  have hres := Lib.hid (show usesL l c = (0, 0, false) from hst)
                  have g1 : (u == h + 1) = false := by simpa using hu
                  have g2 : (u != h + 1) = true := by simpa using hu
                  clear hN1 hst hu hF1 hp1
                  go_wp2_with (go_at_call 63; refine (most_any _ _ _).mono ?_; rintro e w4 ⟨rfl, rfl⟩)
                  refine bodyPost_ret (v := .tuple #[.int .i64 0, .int .i64 0, .bool false]) (by simp [results, Try.results39, go_sem]) rfl ⟨by rw [hres.out], (by repeat (first | exact Below.refl _ _ | assumption | refine Below.n _ ?_ (by first | omega | (simp; done) | (simp; omega)) | refine Below.alloc ?_ (by first | omega | (simp; done) | (simp; omega)) _ | refine Below.setCell ?_ (by first | omega | (simp; done) | (simp; omega)) _ | refine Below.drew ?_ | refine Below.setRow ?_ (by first | omega | (simp; done) | (simp; omega)) _ | refine Below.drewN ?_ _))⟩
            · obtain ⟨rfl, hk2, hk3⟩ := hk
              obtain ⟨tn, rfl⟩ := Int.eq_ofNat_of_zero_le (show 0 ≤ to by omega)
              obtain ⟨t1, _⟩ := hHt.out tn (by omega)
              rw [show takesI 7 = 0 from rfl, if_neg (show ¬ h < 0 by omega), if_pos (show guardI ⟨7, a, bb, tn, sp⟩ by unfold guardI; simp), if_pos (show guardI ⟨7, a, bb, tn, sp⟩ by unfold guardI; simp)] at hst
              have hco : costI l ⟨7, a, bb, tn, sp⟩ = 1 := by unfold costI; rw [if_neg (by simp)]
              have hto : topU l ⟨7, a, bb, tn, sp⟩ h hi = max (max hi (h + 1)) (max h h) := by unfold topU guardI; simp
              rw [hco, hto] at hst
              clear hco hto
              have hF1 : putF F (tn : Int) (h + 1) ((i : Int) + 1) = F ((i : Int) + 1) := by unfold putF; rw [if_neg (by omega)]
              rw [← hF1] at f1
              have hFb1 := Lib.hid (putF_bd hFb.out (j := (tn : Int)) (v := h + 1) (by omega) (by omega))
              have hp1 := Lib.hid (hH.out.put (j := tn) (by omega) (h + 1))
              cases hN1 : F (tn : Int) with
              | none =>
                simp only [meetU, hN1] at hst
                rw [hN1] at t1
                simp only [Option.getD_none] at t1
                clear hH hF1 hN1
                generalize putF F (tn : Int) (h + 1) = F1 at *
                cases hN : F1 ((i : Int) + 1) with
                | none =>
                  simp only [hN] at hst
                  rw [hN] at f1
                  simp only [Option.getD_none] at f1
                  have hp := hp1.out.put (j := i + 1) (by omega) (h)
                  rw [show ((i + 1 : Nat) : Int) = (i : Int) + 1 from rfl] at hp
                  replace hp := Lib.hid hp
                  replace hst := Lib.hid hst
                  clear hN hp1
                  go_wp2_with (go_at_call 63; refine (most_any _ _ _).mono ?_; rintro e w4 ⟨rfl, rfl⟩)
                  go_roundg (c.ins.length - (i + 1))
                  case measure => rw [hq.out]; omega
                  case rel => exact ⟨i + 1, _, max (max hi (h + 1)) (max h h), st + 1, by omega, rfl, by go_num, by go_num, by go_num, Lib.hid (hp.out.alloc _), Lib.hid hst.out.symm, Lib.hid (putF_bd hFb1.out (by omega) (by omega)), by omega, by omega, by omega, by omega, (by repeat (first | exact Below.refl _ _ | assumption | refine Below.n _ ?_ (by first | omega | (simp; done) | (simp; omega)) | refine Below.alloc ?_ (by first | omega | (simp; done) | (simp; omega)) _ | refine Below.setCell ?_ (by first | omega | (simp; done) | (simp; omega)) _ | refine Below.drew ?_ | refine Below.setRow ?_ (by first | omega | (simp; done) | (simp; omega)) _ | refine Below.drewN ?_ _))⟩
                | some v =>
                  simp only [hN] at hst
                  rw [hN] at f1
                  simp only [Option.getD_some] at f1
                  obtain ⟨v0, v1⟩ := hFb1.out _ _ hN
                  by_cases hv : v = h
                  · rw [if_pos hv] at hst
                    subst v
                    have hp := hp1.out.put (j := i + 1) (by omega) (h)
                    rw [show ((i + 1 : Nat) : Int) = (i : Int) + 1 from rfl] at hp
                    replace hp := Lib.hid hp
                    replace hst := Lib.hid hst
                    clear hN hp1
                    go_wp2_with (go_at_call 63; refine (most_any _ _ _).mono ?_; rintro e w4 ⟨rfl, rfl⟩)
                    go_roundg (c.ins.length - (i + 1))
                    case measure => rw [hq.out]; omega
                    case rel => exact ⟨i + 1, _, max (max hi (h + 1)) (max h h), st + 1, by omega, rfl, by go_num, by go_num, by go_num, Lib.hid (hp.out.alloc _), Lib.hid hst.out.symm, Lib.hid (putF_bd hFb1.out (by omega) (by omega)), by omega, by omega, by omega, by omega, (by repeat (first | exact Below.refl _ _ | assumption | refine Below.n _ ?_ (by first | omega | (simp; done) | (simp; omega)) | refine Below.alloc ?_ (by first | omega | (simp; done) | (simp; omega)) _ | refine Below.setCell ?_ (by first | omega | (simp; done) | (simp; omega)) _ | refine Below.drew ?_ | refine Below.setRow ?_ (by first | omega | (simp; done) | (simp; omega)) _ | refine Below.drewN ?_ _))⟩
                  · rw [if_neg hv] at hst
                    have hres := Lib.hid (show usesL l c = (0, 0, false) from hst)
                    have g1 : (v == h) = false := by simpa using hv
                    have g2 : (v != h) = true := by simpa using hv
                    clear hN hst hv
                    go_wp2_with (go_at_call 63; refine (most_any _ _ _).mono ?_; rintro e w4 ⟨rfl, rfl⟩)
                    refine bodyPost_ret (v := .tuple #[.int .i64 0, .int .i64 0, .bool false]) (by simp [results, Try.results39, go_sem]) rfl ⟨by rw [hres.out], (by repeat (first | exact Below.refl _ _ | assumption | refine Below.n _ ?_ (by first | omega | (simp; done) | (simp; omega)) | refine Below.alloc ?_ (by first | omega | (simp; done) | (simp; omega)) _ | refine Below.setCell ?_ (by first | omega | (simp; done) | (simp; omega)) _ | refine Below.drew ?_ | refine Below.setRow ?_ (by first | omega | (simp; done) | (simp; omega)) _ | refine Below.drewN ?_ _))⟩
              | some u =>
                simp only [meetU, hN1] at hst
                rw [hN1] at t1
                simp only [Option.getD_some] at t1
                obtain ⟨u0, u1⟩ := hFb.out _ _ hN1
                by_cases hu : u = h + 1
                · rw [if_pos hu] at hst
                  subst u
                  clear hH hF1 hN1
                  generalize putF F (tn : Int) (h + 1) = F1 at *
                  cases hN : F1 ((i : Int) + 1) with
                  | none =>
                    simp only [hN] at hst
                    rw [hN] at f1
                    simp only [Option.getD_none] at f1
                    have hp := hp1.out.put (j := i + 1) (by omega) (h)
                    rw [show ((i + 1 : Nat) : Int) = (i : Int) + 1 from rfl] at hp
                    replace hp := Lib.hid hp
                    replace hst := Lib.hid hst
                    clear hN hp1
                    go_wp2_with (go_at_call 63; refine (most_any _ _ _).mono ?_; rintro e w4 ⟨rfl, rfl⟩)
                    go_roundg (c.ins.length - (i + 1))
                    case measure => rw [hq.out]; omega
                    case rel => exact ⟨i + 1, _, max (max hi (h + 1)) (max h h), st + 1, by omega, rfl, by go_num, by go_num, by go_num, Lib.hid (hp.out.alloc _), Lib.hid hst.out.symm, Lib.hid (putF_bd hFb1.out (by omega) (by omega)), by omega, by omega, by omega, by omega, (by repeat (first | exact Below.refl _ _ | assumption | refine Below.n _ ?_ (by first | omega | (simp; done) | (simp; omega)) | refine Below.alloc ?_ (by first | omega | (simp; done) | (simp; omega)) _ | refine Below.setCell ?_ (by first | omega | (simp; done) | (simp; omega)) _ | refine Below.drew ?_ | refine Below.setRow ?_ (by first | omega | (simp; done) | (simp; omega)) _ | refine Below.drewN ?_ _))⟩
                  | some v =>
                    simp only [hN] at hst
                    rw [hN] at f1
                    simp only [Option.getD_some] at f1
                    obtain ⟨v0, v1⟩ := hFb1.out _ _ hN
                    by_cases hv : v = h
                    · rw [if_pos hv] at hst
                      subst v
                      have hp := hp1.out.put (j := i + 1) (by omega) (h)
                      rw [show ((i + 1 : Nat) : Int) = (i : Int) + 1 from rfl] at hp
                      replace hp := Lib.hid hp
                      replace hst := Lib.hid hst
                      clear hN hp1
                      go_wp2_with (go_at_call 63; refine (most_any _ _ _).mono ?_; rintro e w4 ⟨rfl, rfl⟩)
                      go_roundg (c.ins.length - (i + 1))
                      case measure => rw [hq.out]; omega
                      case rel => exact ⟨i + 1, _, max (max hi (h + 1)) (max h h), st + 1, by omega, rfl, by go_num, by go_num, by go_num, Lib.hid (hp.out.alloc _), Lib.hid hst.out.symm, Lib.hid (putF_bd hFb1.out (by omega) (by omega)), by omega, by omega, by omega, by omega, (by repeat (first | exact Below.refl _ _ | assumption | refine Below.n _ ?_ (by first | omega | (simp; done) | (simp; omega)) | refine Below.alloc ?_ (by first | omega | (simp; done) | (simp; omega)) _ | refine Below.setCell ?_ (by first | omega | (simp; done) | (simp; omega)) _ | refine Below.drew ?_ | refine Below.setRow ?_ (by first | omega | (simp; done) | (simp; omega)) _ | refine Below.drewN ?_ _))⟩
                    · rw [if_neg hv] at hst
                      have hres := Lib.hid (show usesL l c = (0, 0, false) from hst)
                      have g1 : (v == h) = false := by simpa using hv
                      have g2 : (v != h) = true := by simpa using hv
                      clear hN hst hv
                      go_wp2_with (go_at_call 63; refine (most_any _ _ _).mono ?_; rintro e w4 ⟨rfl, rfl⟩)
                      refine bodyPost_ret (v := .tuple #[.int .i64 0, .int .i64 0, .bool false]) (by simp [results, Try.results39, go_sem]) rfl ⟨by rw [hres.out], (by repeat (first | exact Below.refl _ _ | assumption | refine Below.n _ ?_ (by first | omega | (simp; done) | (simp; omega)) | refine Below.alloc ?_ (by first | omega | (simp; done) | (simp; omega)) _ | refine Below.setCell ?_ (by first | omega | (simp; done) | (simp; omega)) _ | refine Below.drew ?_ | refine Below.setRow ?_ (by first | omega | (simp; done) | (simp; omega)) _ | refine Below.drewN ?_ _))⟩
                · rw [if_neg hu] at hst
                  have hres := Lib.hid (show usesL l c = (0, 0, false) from hst)
                  have g1 : (u == h + 1) = false := by simpa using hu
                  have g2 : (u != h + 1) = true := by simpa using hu
                  clear hN1 hst hu hF1 hp1
                  go_wp2_with (go_at_call 63; refine (most_any _ _ _).mono ?_; rintro e w4 ⟨rfl, rfl⟩)
                  refine bodyPost_ret (v := .tuple #[.int .i64 0, .int .i64 0, .bool false]) (by simp [results, Try.results39, go_sem]) rfl ⟨by rw [hres.out], (by repeat (first | exact Below.refl _ _ | assumption | refine Below.n _ ?_ (by first | omega | (simp; done) | (simp; omega)) | refine Below.alloc ?_ (by first | omega | (simp; done) | (simp; omega)) _ | refine Below.setCell ?_ (by first | omega | (simp; done) | (simp; omega)) _ | refine Below.drew ?_ | refine Below.setRow ?_ (by first | omega | (simp; done) | (simp; omega)) _ | refine Below.drewN ?_ _))⟩
            · obtain ⟨rfl, ha1, ha2⟩ := hk
              obtain ⟨an, rfl⟩ := Int.eq_ofNat_of_zero_le ha1
              have hal : an < l.length := by omega
              obtain ⟨ca, hca⟩ : ∃ ca, l[an]? = some ca := ⟨_, List.getElem?_eq_getElem hal⟩
              obtain ⟨b2, o2, rfl, hb2', _, y1, y2⟩ := hc.out an ca hca
              have y1' : wr.cell? ⟨b2, o2 + an * 3 + 1, none⟩ = some (.int .i64 ca.high) := (hbw.cell (p := ⟨b2, _, none⟩) hb2').trans y1
              have y2' : wr.cell? ⟨b2, o2 + an * 3 + 2, none⟩ = some (.int .i64 ca.steps) := (hbw.cell (p := ⟨b2, _, none⟩) hb2').trans y2
              have z2 : b2 < wr.heap.size := by omega
              obtain ⟨hc5, hc6, hc7, hc8⟩ := hb.out ca (List.mem_of_getElem? hca)
              rw [show takesI 8 = 0 from rfl, if_neg (show ¬ h < 0 by omega), if_neg (show ¬ guardI ⟨8, an, bb, to, sp⟩ by unfold guardI; simp), if_neg (show ¬ guardI ⟨8, an, bb, to, sp⟩ by unfold guardI; simp), show h - 0 + 1 = h + 1 by omega] at hst
              have hco : costI l ⟨8, (an : Nat), bb, to, sp⟩ = ca.steps + 1 := by unfold costI; rw [if_pos rfl]; simp only [Int.toNat_natCast]; rw [hca]; rfl
              have hto : topU l ⟨8, (an : Nat), bb, to, sp⟩ h hi = max (max hi (h + ca.high)) (max h (h + 1)) := by unfold topU guardI takesI; simp [hca]
              rw [hco, hto] at hst
              clear hco hto hca y1 y2
              cases hN : F ((i : Int) + 1) with
              | none =>
                simp only [meetU, hN] at hst
                rw [hN] at f1
                simp only [Option.getD_none] at f1
                have hp := hH.out.put (j := i + 1) (by omega) (h + 1)
                rw [show ((i + 1 : Nat) : Int) = (i : Int) + 1 from rfl] at hp
                replace hp := Lib.hid hp
                replace hst := Lib.hid hst
                clear hN hH
                go_wp2_with (go_at_call 63; refine (most_any _ _ _).mono ?_; rintro e w4 ⟨rfl, rfl⟩)
                go_roundg (c.ins.length - (i + 1))
                case measure => rw [hq.out]; omega
                case rel => exact ⟨i + 1, _, max (max hi (h + ca.high)) (max h (h + 1)), st + (ca.steps + 1), by omega, rfl, by go_num, by go_num, by go_num, Lib.hid (hp.out.alloc _), Lib.hid hst.out.symm, Lib.hid (putF_bd hFb.out (by omega) (by omega)), by omega, by omega, by omega, by omega, (by repeat (first | exact Below.refl _ _ | assumption | refine Below.n _ ?_ (by first | omega | (simp; done) | (simp; omega)) | refine Below.alloc ?_ (by first | omega | (simp; done) | (simp; omega)) _ | refine Below.setCell ?_ (by first | omega | (simp; done) | (simp; omega)) _ | refine Below.drew ?_ | refine Below.setRow ?_ (by first | omega | (simp; done) | (simp; omega)) _ | refine Below.drewN ?_ _))⟩
              | some v =>
                simp only [meetU, hN] at hst
                rw [hN] at f1
                simp only [Option.getD_some] at f1
                obtain ⟨v0, v1⟩ := hFb.out _ _ hN
                by_cases hv : v = h + 1
                · rw [if_pos hv] at hst
                  subst v
                  have hp := hH.out.put (j := i + 1) (by omega) (h + 1)
                  rw [show ((i + 1 : Nat) : Int) = (i : Int) + 1 from rfl] at hp
                  replace hp := Lib.hid hp
                  replace hst := Lib.hid hst
                  clear hN hH
                  go_wp2_with (go_at_call 63; refine (most_any _ _ _).mono ?_; rintro e w4 ⟨rfl, rfl⟩)
                  go_roundg (c.ins.length - (i + 1))
                  case measure => rw [hq.out]; omega
                  case rel => exact ⟨i + 1, _, max (max hi (h + ca.high)) (max h (h + 1)), st + (ca.steps + 1), by omega, rfl, by go_num, by go_num, by go_num, Lib.hid (hp.out.alloc _), Lib.hid hst.out.symm, Lib.hid (putF_bd hFb.out (by omega) (by omega)), by omega, by omega, by omega, by omega, (by repeat (first | exact Below.refl _ _ | assumption | refine Below.n _ ?_ (by first | omega | (simp; done) | (simp; omega)) | refine Below.alloc ?_ (by first | omega | (simp; done) | (simp; omega)) _ | refine Below.setCell ?_ (by first | omega | (simp; done) | (simp; omega)) _ | refine Below.drew ?_ | refine Below.setRow ?_ (by first | omega | (simp; done) | (simp; omega)) _ | refine Below.drewN ?_ _))⟩
                · rw [if_neg hv] at hst
                  have hres := Lib.hid (show usesL l c = (0, 0, false) from hst)
                  have g1 : (v == h + 1) = false := by simpa using hv
                  have g2 : (v != h + 1) = true := by simpa using hv
                  clear hN hst hv
                  go_wp2_with (go_at_call 63; refine (most_any _ _ _).mono ?_; rintro e w4 ⟨rfl, rfl⟩)
                  refine bodyPost_ret (v := .tuple #[.int .i64 0, .int .i64 0, .bool false]) (by simp [results, Try.results39, go_sem]) rfl ⟨by rw [hres.out], (by repeat (first | exact Below.refl _ _ | assumption | refine Below.n _ ?_ (by first | omega | (simp; done) | (simp; omega)) | refine Below.alloc ?_ (by first | omega | (simp; done) | (simp; omega)) _ | refine Below.setCell ?_ (by first | omega | (simp; done) | (simp; omega)) _ | refine Below.drew ?_ | refine Below.setRow ?_ (by first | omega | (simp; done) | (simp; omega)) _ | refine Below.drewN ?_ _))⟩
        · obtain rfl : i = c.ins.length := by omega
          obtain ⟨e1, _⟩ := hH.out.at (j := c.ins.length) (Nat.le_refl _)
          have hU2 := hU.out
          rw [List.drop_length, usesGo] at hU2
          generalize (F (c.ins.length : Int)).getD (-1) = fl at *
          replace hU2 := Lib.hid hU2
          have z := hbw.size
          go_wp2
          go_region
          all_goals
            go_wp2
            refine bodyPost_ret (v := .tuple #[.int .i64 hi, .int .i64 st, .bool (decide (fl = 1))]) ?_ rfl ⟨by rw [← hU2.out], (by repeat (first | exact Below.refl _ _ | assumption | refine Below.n _ ?_ (by first | omega | (simp; done) | (simp; omega)) | refine Below.alloc ?_ (by first | omega | (simp; done) | (simp; omega)) _ | refine Below.setCell ?_ (by first | omega | (simp; done) | (simp; omega)) _ | refine Below.drew ?_ | refine Below.setRow ?_ (by first | omega | (simp; done) | (simp; omega)) _ | refine Below.drewN ?_ _))⟩
            simp [results, Try.results39, go_sem]
            exact (Bool.beq_eq_decide_eq _ _)

end Vm
end Go.Proofs.Ythdaeddaofickaa
