/- All that each refers to, by way of others, too: check.closed. What is wrong with rules: check.Wrong. -/
import Derived.Test.YtbncbkaonkcgeaaMpI
import Derived.Test.YtbncbkaonkcgeaaRowI
import Derived.Test.YtbncbkaonkcgeaaDir
import Derived.Deep.OwnRows
import Derived.Test.YtbncbkaonkcgeaaRwr
namespace Go.Proofs.Ytbncbkaonkcgeaa
open Go.RowKit Go.Maps Go.ChangeShapes
namespace Ru
open Sl (IntsV Reads)

/-- a set of ints, as a map of truths keeps it -/
def setF (S : Int → Bool) : Lit → Option Value
  | .int .i64 x => if S x = true then some (.bool true) else none
  | _ => none
theorem put_setF (S : Int → Bool) (i : Int) : Mp.put (setF S) (.int .i64 i) (.bool true) = setF (putS S i) := by
  funext x
  unfold Mp.put
  cases e : x.sameKey (.int .i64 i) with
  | true =>
    have := WideAt.sameKey_eq e
    subst this
    simp [setF, putS_same]
  | false =>
    simp only [Bool.false_eq_true, if_false]
    unfold setF
    split
    · rename_i y
      have hy : ¬ y = i := fun e' => by subst e'; rw [WideAt.sameKey_self (show WideAt.IsKeyLit (.int .i64 y) from trivial)] at e; cases e
      rw [putS_other hy]
    · rfl
theorem none_setF : (fun _ => none : Lit → Option Value) = setF (fun _ => false) := by
  funext x
  unfold setF
  split <;> simp
theorem zero_bool (w : World) : (zeroValue 4).run Try.prog w = .ok (.bool false) w := by kernel_rfl

section
variable {w : World} {mb n c : Nat} {S : Int → Bool}
theorem look_set (hM : Mp.Is w Try.prog 3 mb n c (setF S)) {i : Int} (h : -9223372036854775808 ≤ i) (h2 : i ≤ 9223372036854775807) :
    (Instr.lookup 39 (.map (some mb)) (.int .i64 i) false).run Try.prog w = .ok (.bool (S i)) w := by
  have := hM.look (int_keyed Try.underlying3) Try.underlying39 (zero_bool w) (keyOf_int_mk Try.underlying3 (wf_int h h2))
  rw [this]
  have e : setF S (.int .i64 i) = if S i = true then some (.bool true) else none := rfl
  rw [e]
  cases S i <;> rfl
theorem store_set (hM : Mp.Is w Try.prog 3 mb n c (setF S)) {i : Int} (hn : n < 1000000) (h1 : -9223372036854775808 ≤ i) (h2 : i ≤ 9223372036854775807) :
    ∃ w' c', (Instr.mapUpdate 39 (.map (some mb)) (.int .i64 i) (.bool true)).run Try.prog w = .ok () w' ∧ Mp.Is w' Try.prog 3 mb (n + 1) c' (setF (putS S i)) ∧ w.grownBy w' (some mb) := by
  obtain ⟨w', hr, hI, hg⟩ := hM.store (val := .bool true) (int_keyed Try.underlying3) Try.underlying39 (by simp only [maxLen]; omega) (keyOf_int_mk Try.underlying3 (wf_int h1 h2))
  rw [put_setF] at hI
  exact ⟨w', _, hr, hI, hg⟩
theorem Is_map (hM : Mp.Is w Try.prog 3 mb n c (setF S)) : ∃ es k, w.heap[mb]? = some (.map es k) := by
  obtain ⟨D, ⟨es, clock, h1, _⟩, _⟩ := hM
  exact ⟨es, clock, h1⟩
end

/-- a row of sets of one's own; its first m are made -/
def MapsB (w : World) (g n m : Nat) (G K : Nat → Nat) (S : Nat → Int → Bool) : Prop :=
  (∀ i, i < m → g < G i) ∧ (∀ i j, i < m → j < m → G i = G j → i = j) ∧ m ≤ n ∧
  (∃ cs, Blk w g 39 cs ∧ cs.size = n ∧ ∀ i, i < n → cs[i]? = some (if i < m then .map (some (G i)) else .map none)) ∧
  ∀ i, i < m → ∃ c, Mp.Is w Try.prog 3 (G i) (K i) c (setF (S i))

section
variable {w w' : World} {g n m : Nat} {G K : Nat → Nat} {S : Nat → Int → Bool}
theorem MapsB.row (h : MapsB w g n m G K S) {i : Nat} (hi : i < m) : w.cell? ⟨g, i, none⟩ = some (.map (some (G i))) ∧ w.frozen? ⟨g, i, none⟩ = false := by
  obtain ⟨_, _, hm, ⟨cs, hB, _, hc⟩, _⟩ := h
  refine ⟨?_, hB.frozen i⟩
  rw [hB.cell, hc i (by omega), if_pos hi]
theorem MapsB.rest (h : MapsB w g n m G K S) {i : Nat} (hi : m ≤ i) (hn : i < n) : w.cell? ⟨g, i, none⟩ = some (.map none) ∧ w.frozen? ⟨g, i, none⟩ = false := by
  obtain ⟨_, _, hm, ⟨cs, hB, _, hc⟩, _⟩ := h
  refine ⟨?_, hB.frozen i⟩
  rw [hB.cell, hc i hn, if_neg (by omega)]
theorem MapsB.look (h : MapsB w g n m G K S) {i : Nat} (hi : i < m) : ∃ c, Mp.Is w Try.prog 3 (G i) (K i) c (setF (S i)) := h.2.2.2.2 i hi
theorem MapsB.lt (h : MapsB w g n m G K S) : g < w.heap.size ∧ ∀ i, i < m → g < G i ∧ G i < w.heap.size := by
  obtain ⟨h1, _, _, ⟨cs, hB, _, _⟩, hr⟩ := h
  exact ⟨hB.lt, fun i hi => ⟨h1 i hi, by obtain ⟨c, hb⟩ := hr i hi; exact hb.lt⟩⟩
theorem MapsB.start (w : World) (n : Nat) (G K : Nat → Nat) (S : Nat → Int → Bool) : MapsB (w.alloc (.cells (madeCells #[.map none] n) 39)) w.heap.size n 0 G K S := by
  refine ⟨fun i hi => by omega, fun i j hi => by omega, Nat.zero_le _, ⟨_, Blk.new _ _ _, size_madeCells _ _, fun i hi => ?_⟩, fun i hi => by omega⟩
  rw [if_neg (by omega), ← Array.getElem?_toList, toList_madeCells_one, List.getElem?_replicate, if_pos hi]
theorem MapsB.congr (h : MapsB w g n m G K S) {K' : Nat → Nat} {S' : Nat → Int → Bool} (e : ∀ i, i < m → K i = K' i ∧ S i = S' i) : MapsB w g n m G K' S' := by
  obtain ⟨h1, h2, h3, h4, hr⟩ := h
  exact ⟨h1, h2, h3, h4, fun i hi => by obtain ⟨c, hc⟩ := hr i hi; rw [← (e i hi).1, ← (e i hi).2]; exact ⟨c, hc⟩⟩
theorem MapsB.heap (h : MapsB w g n m G K S) {B : Nat} (hb : Below B w w') (hB : w.heap.size ≤ B) : MapsB w' g n m G K S := by
  have hl := h.lt
  obtain ⟨h1, h2, h3, ⟨cs, hC, hs, hc⟩, hr⟩ := h
  refine ⟨h1, h2, h3, ⟨cs, hC.below hb (by omega), hs, hc⟩, fun i hi => ?_⟩
  obtain ⟨c, hI⟩ := hr i hi
  exact ⟨c, hI.below hb (by have := (hl.2 i hi).2; omega)⟩
/-- a set is made -/
theorem MapsB.more (h : MapsB w g n m G K S) (hm : m < n) : MapsB ((w.setCell ⟨g, m, none⟩ (.map (some w.heap.size))).alloc (.map #[] 0)) g n (m + 1) (fun i => if i = m then w.heap.size else G i) (fun x => if x = m then 0 else K x) (fun x => if x = m then (fun _ => false) else S x) := by
  have hl := h.lt
  obtain ⟨h1, h2, h3, ⟨cs, hB, hs, hc⟩, hr⟩ := h
  refine ⟨fun i hi => ?_, fun i j hi hj e => ?_, hm, ⟨_, (hB.set m _).alloc _, by simpa using hs, fun i hi => ?_⟩, fun x hx => ?_⟩
  · dsimp only
    split
    · exact hl.1
    · exact h1 i (by omega)
  · dsimp only at e
    split at e <;> split at e
    · omega
    · have := (hl.2 j (by omega)).2; omega
    · have := (hl.2 i (by omega)).2; omega
    · exact h2 i j (by omega) (by omega) e
  · rw [Array.getElem?_setIfInBounds]
    dsimp only
    by_cases e : m = i
    · subst e
      rw [if_pos rfl, if_pos (by omega), if_pos (by omega), if_pos rfl]
    · rw [if_neg e, hc i hi]
      by_cases e2 : i < m
      · rw [if_pos e2, if_pos (by omega), if_neg (by omega)]
      · rw [if_neg e2, if_neg (by omega)]
  · dsimp only
    by_cases e : x = m
    · subst e
      rw [if_pos rfl, if_pos rfl, if_pos rfl, ← none_setF]
      have := Mp.Is.made (w.setCell ⟨g, x, none⟩ (.map (some w.heap.size))) Try.prog 3
      rw [World.size_setCell] at this
      exact ⟨0, this⟩
    · rw [if_neg e, if_neg e, if_neg e]
      obtain ⟨c, hI⟩ := hr x (by omega)
      exact ⟨c, (hI.setCell (a := ⟨g, m, none⟩) (by have := h1 x (by omega); show G x ≠ g; omega) _).alloc _⟩
/-- a set turns -/
theorem MapsB.put (h : MapsB w g n m G K S) {j : Nat} (hj : j < m) {T : Int → Bool} {k c : Nat} (hI : Mp.Is w' Try.prog 3 (G j) k c (setF T)) (hg : w.grownBy w' (some (G j))) :
    MapsB w' g n m G (fun x => if x = j then k else K x) (fun x => if x = j then T else S x) := by
  have hl := h.lt
  obtain ⟨h1, h2, h3, ⟨cs, hB, hs, hc⟩, hr⟩ := h
  refine ⟨h1, h2, h3, ⟨cs, blk_row hB hg (by have := h1 j hj; omega), hs, hc⟩, fun x hx => ?_⟩
  dsimp only
  by_cases e : x = j
  · subst e
    rw [if_pos rfl, if_pos rfl]
    exact ⟨c, hI⟩
  · rw [if_neg e, if_neg e]
    obtain ⟨c', hI'⟩ := hr x hx
    exact ⟨c', hI'.kept hg (fun e2 => e (h2 x j hx hj (by injection e2)))⟩
/-- a row of ints is appended to -/
theorem MapsB.row_grown (h : MapsB w g n m G K S) {base : Nat} {v : Value} {L : List Int} (hT : OffI w base v L) (hg : w.grownBy w' v.ownBlock) : MapsB w' g n m G K S := by
  obtain ⟨h1, h2, h3, ⟨cs, hB, hs, hc⟩, hr⟩ := h
  have hne : ∀ b, v.ownBlock = some b → ∃ cur, w.heap[b]? = some (.cells cur 3 (0, 0)) := fun b hb => by
    rcases hT with ⟨rfl, _⟩ | ⟨g', off, cap, cur, rfl, _, h2, _⟩
    · cases hb
    · cases hb; exact ⟨cur, h2⟩
  refine ⟨h1, h2, h3, ⟨cs, (hg.block g hB.lt (fun e => ?_)).trans hB, hs, hc⟩, fun i hi => ?_⟩
  · obtain ⟨cur, e2⟩ := hne g e.symm
    have e3 : w.heap[g]? = some (.cells cs 39 (0, 0)) := hB
    rw [e3] at e2
    simp at e2
  · obtain ⟨c, hI⟩ := hr i hi
    refine ⟨c, hI.kept hg (fun e => ?_)⟩
    obtain ⟨cur, e2⟩ := hne _ e.symm
    obtain ⟨es, k, e3⟩ := Is_map hI
    rw [e3] at e2
    cases e2
/-- .. and stays where a set turns -/
theorem OffI.set_grown {base : Nat} {v : Value} {L : List Int} (hT : OffI w base v L) {mb k c : Nat} {T : Int → Bool} (hI : Mp.Is w Try.prog 3 mb k c (setF T)) (hg : w.grownBy w' (some mb)) : OffI w' base v L := by
  refine hT.grown hg fun b hb e => ?_
  cases e
  obtain ⟨es, k, e3⟩ := Is_map hI
  rcases hT with ⟨rfl, _⟩ | ⟨g', off, cap, cur, rfl, _, h2, _⟩
  · cases hb
  · cases hb
    rw [e3] at h2
    cases h2
end

theorem info_set7 : (Try.prog.info? 39).map (fun i => (i.zero, i.size, i.bytes)) = some (some (.map none), 1, 8) := by kernel_rfl
theorem info_parts8 {t : TypeId} {z : Value} {n b : Nat} (h : (Try.prog.info? t).map (fun i => (i.zero, i.size, i.bytes)) = some (some z, n, b)) : ∃ i, Try.prog.info? t = some i ∧ i.zero = some z ∧ i.size = n ∧ i.bytes = b := by
  cases e : Try.prog.info? t with
  | none => rw [e] at h; simp at h
  | some i => rw [e] at h; simp at h; exact ⟨i, rfl, h.1, h.2.1, h.2.2⟩
theorem own_reads {w : World} {base c : Nat} {v : Value} {l : List Int} (h : w.ownsRow base 3 1 v l.length (l.map (Value.int .i64))) (hB : w.heap.size ≤ c) : IntsV w c v l := by
  have hc := own_max h
  rcases h.2 with ⟨rfl, h0⟩ | ⟨g, cap, cur, rfl, _, hh, hcap, _, _, ht⟩
  · exact ⟨none, 0, by rw [h0], hc, fun i x hx => by have := (List.getElem?_eq_some_iff.1 hx).1; omega⟩
  · refine ⟨_, cap, rfl, hc, fun i x hx => ⟨g, 0, rfl, ?_, ?_⟩⟩
    · have := (Array.getElem?_eq_some_iff.1 hh).1; omega
    · have := h.cells (g := g) rfl i (.int .i64 x) (by rw [List.getElem?_map, hx]; rfl)
      rw [Addr.add_lit] at this
      exact this
theorem ints2_below {w w' : World} {B B' base : Nat} {v : Value} {l : List (List Int)} (h : Ints2C w B base v l) (hb : Below w.heap.size w w') (hB : B ≤ w.heap.size) (hB2 : B ≤ B') : Ints2C w' B' base v l :=
  Reads.mono h hB2 fun b o i x hlt _ ⟨u, h1, h2⟩ => ⟨u, (hb.cell (p := ⟨b, _, none⟩) (by show b < _; omega)).trans h1, own_keep h2 hb (Nat.le_refl _)⟩
theorem cell_at {w : World} {base : Nat} {v : Value} {l : List Int} (h : w.ownsRow base 3 1 v l.length (l.map (Value.int .i64))) : v = .slice none 0 0 ∧ l = [] ∨ ∃ g cap, v = .slice (some ⟨g, 0, none⟩) l.length cap ∧ g < w.heap.size ∧ ∀ j u, (intV l)[j]? = some u → w.cell? ⟨g, j, none⟩ = some u := by
  rcases h.2 with ⟨rfl, h0⟩ | ⟨g, cap, cur, rfl, _, hh, _⟩
  · exact .inl ⟨rfl, List.length_eq_zero_iff.1 h0⟩
  · refine .inr ⟨g, cap, rfl, (Array.getElem?_eq_some_iff.1 hh).1, fun j u hu => ?_⟩
    have := h.cells (g := g) rfl j u hu
    rw [Addr.add_lit, Nat.zero_add] at this
    exact this
theorem OffI.tail1 {w : World} {base g off cap : Nat} {L : List Int} (h : OffI w base (.slice (some ⟨g, off + 1, none⟩) L.length (cap - 1)) L) (hc : L.length + 1 ≤ cap) :
    (cap = 1 ∧ L = [] ∧ OffI w base (.slice (some ⟨g, off, none⟩) 0 0) []) ∨ (cap ≠ 1 ∧ OffI w base (.slice (some ⟨g, off + 1, none⟩) L.length (cap - 1)) L) := by
  by_cases e : cap = 1
  · have hn : L = [] := List.eq_nil_of_length_eq_zero (by omega)
    subst hn
    rcases h with ⟨h, _⟩ | ⟨g', off', cap', cur, h, h1, h2, h3, h4, h5, h6⟩
    · cases h
    · cases h
      exact .inl ⟨e, rfl, .inr ⟨g, off, 0, cur, rfl, h1, h2, by simp, by omega, by omega, fun j u hu => by simp at hu⟩⟩
  · exact .inr ⟨e, h⟩

theorem leftS_le {d : Nat → List Int} (S : Int → Bool) : ∀ {n : Nat}, (∀ i, i < n → (d i).length ≤ 600) → leftS d S n ≤ 600 * n
  | 0, _ => by rw [leftS]; omega
  | n + 1, h => by
    have := leftS_le S (n := n) (fun i hi => h i (by omega))
    have := h n (by omega)
    rw [leftS]
    split <;> omega
theorem if_if {α : Type} (i : Nat) (a b : α) (f : Nat → α) : (fun x => if x = i then a else (fun x => if x = i then b else f x) x) = fun x => if x = i then a else f x := by
  funext x
  by_cases e : x = i
  · rw [if_pos e, if_pos e]
  · rw [if_neg e, if_neg e]; show (if x = i then b else f x) = _; rw [if_neg e]
theorem off_below {B base : Nat} {a w w' : World} {v : Value} {L : List Int} (hb : Below B a w) (hT : OffI w base v L) (hg : w.grownBy w' v.ownBlock) (hB : B ≤ base) (hs : B ≤ w.heap.size) : Below B a w' :=
  hb.trans ⟨hg.os, hg.tape, hg.output, hg.size, fun k hk => hg.block k (by omega) (fun e => by have := (hT.lt e.symm).1; omega)⟩

set_option maxRecDepth 100000 in
set_option maxHeartbeats 8000000 in
theorem closed_any (dv : Value) (d : Nat → List Int) (n : Nat) (w : World) (hd : Ints2C w w.heap.size 0 dv ((List.range n).map d)) (h40 : n ≤ 40) (hlen : ∀ i, i < n → (d i).length ≤ 600) (hin : ∀ i, i < n → ∀ y ∈ d i, 0 ≤ y ∧ y < n) :
    Calls Try.prog 61 #[dv] w fun e w' => ∃ (g : Nat) (G K : Nat → Nat) (S : Nat → Int → Bool), e = .returned (.slice (some ⟨g, 0, none⟩) n n) ∧ w.heap.size ≤ g ∧ MapsB w' g n n G K S ∧ (∀ i, i < n → Clo d n i (S i) []) ∧ Below w.heap.size w w' := by
  have hdd := Lib.hid hd
  obtain ⟨A, cap, rfl, hl63, hc⟩ := hd
  have hlL : ((List.range n).map d).length = n := by simp
  have hat : ∀ i, i < n → ((List.range n).map d)[i]? = some (d i) := fun i hi => by simp [hi]
  rw [hlL] at hl63 hdd ⊢
  obtain ⟨i5, hi5, hz5, hs5, hy5⟩ := info_parts8 info_set7
  replace hi5 := Lib.hid hi5
  replace hz5 := Lib.hid hz5
  replace hs5 := Lib.hid hs5
  have hl5 := Lib.hid (show i5.bytes * n ≤ 281474976710656 by rw [hy5]; omega)
  replace hl63 := Lib.hid hl63
  clear hy5
  have hrow := Lib.hid (fun i (hi : i < n) => hc i (d i) (hat i hi))
  replace hlen := Lib.hid hlen
  replace hin := Lib.hid hin
  clear hc hat hlL
  go_enter Try.func61, Try.ntmps61
  go_wp2_with (at_make; refine wpList_make_row _ rfl _ _ 106 rfl 39 i5 _ Try.underlying106 hi5.out hz5.out hs5.out rfl .i64 .i64 n rfl rfl hl5.out hl63.out ?_)
  go_loopg [12] n (fun q k wr => ∃ (i : Nat) (G K : Nat → Nat) (S : Nat → Int → Bool), i ≤ n ∧ q = n - i ∧ k = .int .i64 i ∧ Hid (MapsB wr w.heap.size n i G K S) ∧ Hid (∀ j, j < i → Clo d n j (S j) []) ∧ Below w.heap.size w wr)
  case atStart => exact ⟨0, fun _ => 0, fun _ => 0, fun _ _ => false, by omega, rfl, rfl, Lib.hid (MapsB.start w n _ _ _), Lib.hid (fun j hj => by omega), (by repeat (first | exact Below.refl _ _ | assumption | refine Below.n _ ?_ (by first | omega | (simp; done) | (simp; omega)) | refine Below.alloc ?_ (by first | omega | (simp; done) | (simp; omega)) _ | refine Below.setCell ?_ (by first | omega | (simp; done) | (simp; omega)) _ | refine Below.drew ?_ | refine Below.setRow ?_ (by first | omega | (simp; done) | (simp; omega)) _ | refine Below.drewN ?_ _))⟩
  case round =>
    obtain ⟨i, G, K, S, hi, hn, rfl, hT, hC, hbw⟩ := hrel
    replace hn := Lib.hid hn
    by_cases hlt : i < n
    · obtain ⟨b, o, rfl, hbl, u, k0, hu⟩ := hrow.out i hlt
      obtain ⟨A1, cap1, rfl⟩ := own_slice hu
      obtain ⟨d1, d2⟩ := hT.out.rest (Nat.le_refl _) hlt
      have z := hbw.size
      have zg := hT.out.lt.1
      have hb5 : Below w.heap.size w ((wr.setCell ⟨w.heap.size, i, none⟩ (.map (some wr.heap.size))).alloc (.map #[] 0)) := (hbw.setCell (Nat.le_refl _) _).alloc (by simp; omega) _
      have c1 : ((wr.setCell ⟨w.heap.size, i, none⟩ (.map (some wr.heap.size))).alloc (.map #[] 0)).cell? ⟨b, o + i, none⟩ = some (.slice A1 (d i).length cap1) := (hb5.cell (p := ⟨b, _, none⟩) hbl).trans k0
      have hmore := Lib.hid (hT.out.more hlt)
      have hcl := Lib.hid (Clone_ints _ (d i) ((wr.setCell ⟨w.heap.size, i, none⟩ (.map (some wr.heap.size))).alloc (.map #[] 0)) (own_reads (own_keep hu hb5 (Nat.le_refl _)) (Nat.le_refl _)) (by have := hlen.out i hlt; omega))
      have hmm := @run_makeMap Try.prog
      clear hu k0 hT
      go_wp2_with (go_at_call 100; refine hcl.out.mono ?_; rintro e w1 ⟨v1, rfl, hb1, ho1⟩)
      have z1 := hb1.size
      rw [World.size_alloc, World.size_setCell] at z1
      have hO1 := Lib.hid ((OffI.of_own ho1).mono (b' := w.heap.size) (by rw [World.size_alloc, World.size_setCell]; omega))
      obtain ⟨A2, cap2, rfl⟩ := hO1.out.slice
      have hT1 := Lib.hid (hmore.out.heap hb1 (Nat.le_refl _))
      have hbw1 : Below w.heap.size w w1 := hb5.trans (hb1.mono (by rw [World.size_alloc, World.size_setCell]; omega))
      obtain ⟨G2, hG2⟩ : ∃ G2 : Nat → Nat, G2 = fun x => if x = i then wr.heap.size else G x := ⟨_, rfl⟩
      rw [← hG2] at hT1
      have hGi : G2 i = wr.heap.size := by rw [hG2]; exact if_pos rfl
      rw [← hGi]
      have hl0 := leftS_le (fun _ => false) hlen.out
      have hM0 := hlen.out i hlt
      have hC0 := Lib.hid (Clo.start (d := d) (n := n) (i := i) (hin.out i hlt))
      obtain ⟨M0, hM⟩ : ∃ M0, M0 = (d i).length + leftS d (fun _ => false) n := ⟨_, rfl⟩
      have hM8 : M0 ≤ 30000 := by omega
      clear hG2 hGi hl0 hM0 hmore hcl c1 d1 d2 hb5 ho1
      go_loopg [5] M0 (fun m tv wr2 => ∃ (T : List Int) (Sc : Int → Bool) (kc : Nat) (tv0 : Value), tv = tv0 ∧ m = T.length + leftS d Sc n ∧ kc + (T.length + leftS d Sc n) ≤ M0 ∧ Hid (Clo d n i Sc T) ∧ Hid (OffI wr2 w.heap.size tv0 T) ∧ Hid (MapsB wr2 w.heap.size n (i + 1) G2 (fun x => if x = i then kc else K x) (fun x => if x = i then Sc else S x)) ∧ Below w.heap.size w wr2)
      case atStart => exact ⟨d i, fun _ => false, 0, _, rfl, hM, by omega, hC0, hO1, hT1, hbw1⟩
      case round =>
        clear hO1 hT1 hbw1 hC0
        obtain ⟨T, Sc, kc, tv, rfl, hm, hkc, hCl, hO, hT2, hbw2⟩ := hrel
        replace hm := Lib.hid hm
        replace hkc := Lib.hid hkc
        obtain ⟨wo, rfl⟩ : ∃ wo : World, wo = wr := ⟨_, rfl⟩
        have z2 := hbw2.size
        cases T with
        | nil =>
          obtain ⟨A3, cap3, rfl⟩ := hO.out.slice
          have hCC := Lib.hid (show ∀ j, j < i + 1 → Clo d n j ((fun x => if x = i then Sc else S x) j) [] from fun j hj => by
            show Clo d n j (if j = i then Sc else S j) []
            by_cases e : j = i
            · rw [if_pos e, e]; exact hCl.out
            · rw [if_neg e]; exact hC.out j (by omega))
          go_wp2
          go_roundg (n - (i + 1))
          case measure => rw [hn.out]; omega
          case rel => exact ⟨i + 1, G2, _, _, by omega, rfl, by go_num, hT2, hCC, hbw2⟩
        | cons x T =>
          obtain ⟨k, rfl, hkn, _⟩ := hCl.out.inT x (by simp)
          obtain ⟨g3, off3, cap3, rfl, hcap3, hg3, hg3l, e0, hO3⟩ := hO.out.head
          obtain ⟨m0, _⟩ := hT2.out.row (Nat.lt_succ_self i)
          obtain ⟨cc, hI⟩ := hT2.out.look (Nat.lt_succ_self i)
          rw [if_pos rfl, if_pos rfl] at hI
          have hlook := look_set hI (i := (k : Int)) (by omega) (by omega)
          obtain ⟨ws, c', hrun, hI2, hgr⟩ := store_set hI (i := (k : Int)) (by have := hkc.out; omega) (by omega) (by omega)
          have hGl := (hT2.out.lt.2 i (Nat.lt_succ_self i)).1
          have hput := Lib.hid (hT2.out.put (Nat.lt_succ_self i) hI2 hgr)
          rw [if_if, if_if] at hput
          have hOs := Lib.hid (fun (v : Value) (L : List Int) (h : OffI wo w.heap.size v L) => h.set_grown hI hgr)
          have hws : Below w.heap.size w ws := below_row hbw2 hgr (by omega) z2
          have zs := hws.size
          obtain ⟨b', o', he', _, uk, k1, huk⟩ := hrow.out k hkn
          cases he'
          have c2 : ws.cell? ⟨b, o + k, none⟩ = some uk := (hws.cell (p := ⟨b, _, none⟩) hbl).trans k1
          have huk2 := cell_at (own_keep huk hws (Nat.le_refl _))
          have hk6 := hlen.out k hkn
          have hTl : T.length ≤ 30000 := by have := hkc.out; rw [List.length_cons] at this; omega
          have hsz := fun hs => hCl.out.size (k := k) (t := T) hs
          have hnew := fun (_ : Sc k = false) => hCl.out.new (k := k) (t := T) (hin.out k hkn)
          have hseen := fun hs => hCl.out.seen (k := (k : Int)) (t := T) hs
          generalize G2 i = mb at *
          clear hO hCl huk k1
          rcases hO3.tail1 hcap3 with ⟨rfl, hTn, hO4⟩ | ⟨hcp1, hO4⟩
          · subst hTn
            cases hs : Sc k with
              | true =>
                have hC2 := Lib.hid (hseen hs)
                rw [hs] at hlook
                replace hO4 := Lib.hid hO4
                clear hnew hsz hs hseen
                go_wp2
                go_roundg (([] : List Int).length + leftS d Sc n)
                case measure => rw [hm.out]; simp
                case rel => exact ⟨([] : List Int), Sc, kc, _, rfl, rfl, by have := hkc.out; simp only [List.length_cons] at this; omega, hC2, hO4, hT2, hbw2⟩
              | false =>
                have hC2 := Lib.hid (hnew hs)
                have hs2 := Lib.hid (hsz hs)
                rw [hs] at hlook
                replace hO4 := Lib.hid (hOs.out _ _ hO4)
                clear hnew hsz hs hseen
                rcases huk2 with ⟨rfl, hkn0⟩ | ⟨g5, cap5, rfl, hg5, hnw⟩
                · rw [hkn0, List.append_nil] at hC2 hs2
                  clear hkn0
                  go_wp2_with (at_builtin; refine wp_offI_none hO4.out rfl (.tmp 44) (.tmp 48) rfl rfl rfl ?_)
                  go_roundg (([] : List Int).length + leftS d (putS Sc k) n)
                  case measure => rw [hm.out]; have := hs2.out; simp only [List.length_cons] at this ⊢; omega
                  case rel => exact ⟨([] : List Int), putS Sc k, kc + 1, _, rfl, rfl, by have := hkc.out; have := hs2.out; simp only [List.length_cons] at *; omega, hC2, hO4, hput, hws⟩
                · replace hnw := Lib.hid (show ∀ j u, (intV (d k))[j]? = some u → ws.cell? ((⟨g5, 0, none⟩ : Addr).add j) = some u from fun j u hu => by rw [Addr.add_lit, Nat.zero_add]; exact hnw j u hu)
                  go_wp2_with (at_builtin; refine wp_offI hO4.out (d k) ⟨g5, 0, none⟩ cap5 rfl (.tmp 44) (.tmp 48) rfl rfl rfl hnw.out zs (by first | omega | (simp; omega)) ?_; intro v6 w6 hO6 hg6 _)
                  go_roundg ((([] : List Int) ++ d k).length + leftS d (putS Sc k) n)
                  case measure => rw [hm.out]; have := hs2.out; simp only [List.length_cons] at this ⊢; omega
                  case rel => exact ⟨([] : List Int) ++ d k, putS Sc k, kc + 1, _, rfl, rfl, by have := hkc.out; have := hs2.out; simp only [List.length_cons] at *; omega, hC2, Lib.hid hO6, Lib.hid (hput.out.row_grown hO4.out hg6), off_below hws hO4.out hg6 (Nat.le_refl _) zs⟩
          · cases hs : Sc k with
              | true =>
                have hC2 := Lib.hid (hseen hs)
                rw [hs] at hlook
                replace hO4 := Lib.hid hO4
                clear hnew hsz hs hseen
                go_wp2
                go_roundg (T.length + leftS d Sc n)
                case measure => rw [hm.out]; simp
                case rel => exact ⟨T, Sc, kc, _, rfl, rfl, by have := hkc.out; simp only [List.length_cons] at this; omega, hC2, hO4, hT2, hbw2⟩
              | false =>
                have hC2 := Lib.hid (hnew hs)
                have hs2 := Lib.hid (hsz hs)
                rw [hs] at hlook
                replace hO4 := Lib.hid (hOs.out _ _ hO4)
                clear hnew hsz hs hseen
                rcases huk2 with ⟨rfl, hkn0⟩ | ⟨g5, cap5, rfl, hg5, hnw⟩
                · rw [hkn0, List.append_nil] at hC2 hs2
                  clear hkn0
                  go_wp2_with (at_builtin; refine wp_offI_none hO4.out rfl (.tmp 44) (.tmp 48) rfl rfl rfl ?_)
                  go_roundg (T.length + leftS d (putS Sc k) n)
                  case measure => rw [hm.out]; have := hs2.out; simp only [List.length_cons] at this ⊢; omega
                  case rel => exact ⟨T, putS Sc k, kc + 1, _, rfl, rfl, by have := hkc.out; have := hs2.out; simp only [List.length_cons] at *; omega, hC2, hO4, hput, hws⟩
                · replace hnw := Lib.hid (show ∀ j u, (intV (d k))[j]? = some u → ws.cell? ((⟨g5, 0, none⟩ : Addr).add j) = some u from fun j u hu => by rw [Addr.add_lit, Nat.zero_add]; exact hnw j u hu)
                  go_wp2_with (at_builtin; refine wp_offI hO4.out (d k) ⟨g5, 0, none⟩ cap5 rfl (.tmp 44) (.tmp 48) rfl rfl rfl hnw.out zs (by first | omega | (simp; omega)) ?_; intro v6 w6 hO6 hg6 _)
                  go_roundg ((T ++ d k).length + leftS d (putS Sc k) n)
                  case measure => rw [hm.out]; have := hs2.out; simp only [List.length_cons] at this ⊢; omega
                  case rel => exact ⟨T ++ d k, putS Sc k, kc + 1, _, rfl, rfl, by have := hkc.out; have := hs2.out; simp only [List.length_cons] at *; omega, hC2, Lib.hid hO6, Lib.hid (hput.out.row_grown hO4.out hg6), off_below hws hO4.out hg6 (Nat.le_refl _) zs⟩
    · obtain rfl : i = n := by omega
      go_wp2
      go_ret
      exact ⟨w.heap.size, G, K, S, rfl, Nat.le_refl _, hT.out, hC.out, hbw⟩

end Ru
end Go.Proofs.Ytbncbkaonkcgeaa

namespace Go.Proofs.Ytbncbkaonkcgeaa
open Go.RowKit
namespace Ru
open Sl (strV Reads IntsV)

theorem noneErr_all {l : List Rule} (h : (firstErr (fun i _ => noneErr l i) 0 l).1 = 0) : ∀ i, i < l.length → ∀ y ∈ directR l i, 0 ≤ y ∧ y < l.length := by
  intro i hi y hy
  have h1 := firstErr_zero _ l 0 h i _ (List.getElem?_eq_getElem hi)
  have h2 : noneErr l i = 0 := by rw [Nat.zero_add] at h1; exact h1
  unfold noneErr at h2
  split at h2
  · cases h2
  · rename_i h3
    have hr : -1 ≤ y ∧ y < l.length := by
      unfold directR at hy
      obtain ⟨nm, _, e⟩ := List.mem_map.1 hy
      rw [← e]
      exact findI_range l nm
    have : y ≠ -1 := fun e => h3 (by rw [List.contains_iff_mem, ← e]; exact hy)
    omega
theorem directR_len {l : List Rule} (hN : ∀ r ∈ l, nodesE r.expr ≤ 600) {i : Nat} (hi : i < l.length) : (directR l i).length ≤ 600 := by
  rw [directR_at (List.getElem?_eq_getElem hi), List.length_map]
  have h1 := names_len (l[i]).expr
  have h2 := hN _ (List.getElem_mem hi)
  omega

set_option maxRecDepth 100000 in
set_option maxHeartbeats 4000000 in
theorem CWrong_form (v : Value) (l : List Rule) (w : World) (hr : RulesV w w.heap.size v l) (hf : (wrongF l).1 ≠ 0) : Calls Try.prog 20 #[v] w fun e w' => e = .returned (faultV (wrongR l)) ∧ Below w.heap.size w w' := by
  have hw : wrongR l = wrongF l := if_neg hf
  rw [hw]
  clear hw
  have hbA : Below w.heap.size w (w.alloc (.cells #[.int .i64 0, .int .i64 0] 26)) := (Below.refl _ _).alloc (Nat.le_refl _) _
  have hP := Lib.hid (PWrong_any v l (w.alloc (.cells #[.int .i64 0, .int .i64 0] 26)) (hr.below hbA (Nat.le_refl _) (by simp)))
  have B0 := Blk.new w 26 #[.int .i64 0, .int .i64 0]
  obtain ⟨A, cap, rfl, _⟩ := hr
  have g : ((wrongF l).1 != 0) = true := by simpa using hf
  generalize wrongF l = q at *
  obtain ⟨q1, q2⟩ := q
  unfold faultV at hP ⊢
  simp only at g hP ⊢
  clear hf
  go_enter Try.func20, Try.ntmps20
  go_wp2_with (go_at_call 23; refine hP.out.mono ?_; rintro e w1 ⟨rfl, hb1⟩; have hz1 := hb1.size; simp at hz1; have B1 := B0.below hb1 (by simp); have s0 : w1.cell? ⟨w.heap.size, 0, none⟩ = some (.int .i64 0) := B1.cell 0; have s1 : w1.cell? ⟨w.heap.size, 1, none⟩ = some (.int .i64 0) := B1.cell 1; have t0 : w1.frozen? ⟨w.heap.size, 0, none⟩ = false := B1.frozen 0; have t1 : w1.frozen? ⟨w.heap.size, 1, none⟩ = false := B1.frozen 1)
  have hb2 : Below w.heap.size w w1 := hbA.trans (hb1.mono (by simp))
  have hlw : w.heap.size < w1.heap.size := by omega
  exact bodyPost_ret (v := .agg #[.int .i64 q1, .int .i64 q2]) (by simp [results, Try.results20, s0, s1, hlw, go_sem]) rfl ⟨rfl, ((hb2.alloc (by omega) _).setCell (by simp) _).setCell (by simp) _⟩

set_option maxRecDepth 100000 in
set_option maxHeartbeats 8000000 in
theorem CWrong_right (v : Value) (l : List Rule) (w : World) (hr : RulesV w w.heap.size v l) (hf : (wrongF l).1 = 0) : Calls Try.prog 20 #[v] w fun e w' => e = .returned (faultV (wrongR l)) ∧ Below w.heap.size w w' := by
  have hw : wrongR l = if (firstErr (dupErr l) 0 l).1 = 0 then if (firstErr (fun i _ => noneErr l i) 0 l).1 = 0 then firstErr (fun i _ => ringErr l i) 0 l else firstErr (fun i _ => noneErr l i) 0 l else firstErr (dupErr l) 0 l := if_pos hf
  have hbA : Below w.heap.size w (w.alloc (.cells #[.int .i64 0, .int .i64 0] 26)) := (Below.refl _ _).alloc (Nat.le_refl _) _
  have hP := Lib.hid (PWrong_any v l (w.alloc (.cells #[.int .i64 0, .int .i64 0] 26)) (hr.below hbA (Nat.le_refl _) (by simp)))
  have B0 := Blk.new w 26 #[.int .i64 0, .int .i64 0]
  have hrr := Lib.hid hr
  obtain ⟨h40, hrx⟩ := form_right hf
  obtain ⟨A, cap, rfl, hlen, hc⟩ := hr
  generalize wrongF l = q at *
  obtain ⟨q1, q2⟩ := q
  unfold faultV at hP
  simp only at hf hP
  subst hf
  replace hc := Lib.hid hc
  replace hrx := Lib.hid hrx
  replace hw := Lib.hid hw
  go_enter Try.func20, Try.ntmps20
  go_wp2_with (go_at_call 23; refine hP.out.mono ?_; rintro e w1 ⟨rfl, hb1⟩; have hz1 := hb1.size; simp at hz1; have B1 := B0.below hb1 (by simp))
  have hb2 : Below w.heap.size w w1 := hbA.trans (hb1.mono (by simp))
  go_loopg [19] l.length (fun n k wr => ∃ j : Nat, j ≤ l.length ∧ n = l.length - j ∧ k = .int .i64 j ∧ Hid (firstErr (dupErr l) j (l.drop j) = firstErr (dupErr l) 0 l) ∧ Below w.heap.size w wr ∧ Blk wr w.heap.size 26 #[.int .i64 0, .int .i64 0])
  case atStart => exact ⟨0, by omega, rfl, rfl, Lib.hid rfl, hb2.alloc (by omega) _, B1.alloc _⟩
  case round =>
    obtain ⟨j, hj, hn, rfl, hf, hb, B2⟩ := hrel
    replace hn := Lib.hid hn
    have zb := hb.size
    have zr := B2.lt
    by_cases hlt : j < l.length
    · obtain ⟨r, hx⟩ : ∃ r, l[j]? = some r := ⟨_, List.getElem?_eq_getElem hlt⟩
      obtain ⟨b, o, rfl, hbl, k0, hnl, hE⟩ := hc.out j r hx
      have hst : firstErr (dupErr l) 0 l = if dupErr l j r = 0 then firstErr (dupErr l) (j + 1) (l.drop (j + 1)) else (dupErr l j r, (j : Int)) := hf.out.symm.trans (firstErr_at _ hx)
      rw [show dupErr l j r = if findI l r.name < j then 7 else 0 from rfl] at hst
      have zbl : b < wr.heap.size := by omega
      obtain ⟨v0, v1, v2, v3, hnl1, A1, cap1, v4, hkl1, hkv1⟩ := (hE.below hb (Nat.le_refl _) (Nat.le_refl _) hbl).out
      have d0 : wr.cell? ⟨b, o + j * 6, none⟩ = some (strV r.name) := (hb.cell (p := ⟨b, _, none⟩) hbl).trans k0
      have d1 : wr.cell? ⟨b, o + j * 6 + 1, none⟩ = some (.int .i64 r.expr.kind) := v0
      have d2 : wr.cell? ⟨b, o + j * 6 + 2, none⟩ = some (.int .i64 r.expr.a) := v1
      have d3 : wr.cell? ⟨b, o + j * 6 + 3, none⟩ = some (.int .i64 r.expr.b) := v2
      have d4 : wr.cell? ⟨b, o + j * 6 + 4, none⟩ = some (strV r.expr.name) := v3
      have d5 : wr.cell? ⟨b, o + j * 6 + 5, none⟩ = some (.slice A1 r.expr.kids.length cap1) := v4
      have B3 := B2.alloc (.cells #[strV r.name, .int .i64 r.expr.kind, .int .i64 r.expr.a, .int .i64 r.expr.b, strV r.expr.name, .slice A1 r.expr.kids.length cap1] 45)
      have hb3 : Below w.heap.size w (wr.alloc (.cells #[strV r.name, .int .i64 r.expr.kind, .int .i64 r.expr.a, .int .i64 r.expr.b, strV r.expr.name, .slice A1 r.expr.kids.length cap1] 45)) := hb.alloc zb _
      have hA := Lib.hid (Find_any _ l r.name (wr.alloc (.cells #[strV r.name, .int .i64 r.expr.kind, .int .i64 r.expr.a, .int .i64 r.expr.b, strV r.expr.name, .slice A1 r.expr.kids.length cap1] 45)) (hrr.out.below hb3 (Nat.le_refl _) (by simp; omega)))
      clear v0 v1 v2 v3 v4 k0 hx hE hkv1
      by_cases hfi : findI l r.name < j
      · rw [if_pos hfi, if_neg (by decide)] at hst
        have hw2 := Lib.hid (show wrongR l = (7, (j : Int)) by rw [hw.out, if_neg (by rw [hst]; simp), hst])
        have g : decide (findI l r.name < (j : Int)) = true := by simpa using hfi
        generalize findI l r.name = fi at *
        clear hfi hst
        go_wp2_with (go_at_call 58; refine hA.out.mono ?_; rintro e w5 ⟨rfl, hb5⟩; have hz5 := hb5.size; simp at hz5; have B5 := B3.below hb5 (by simp; omega); have s0 : w5.cell? ⟨w.heap.size, 0, none⟩ = some (.int .i64 0) := B5.cell 0; have s1 : w5.cell? ⟨w.heap.size, 1, none⟩ = some (.int .i64 0) := B5.cell 1; have t0 : w5.frozen? ⟨w.heap.size, 0, none⟩ = false := B5.frozen 0; have t1 : w5.frozen? ⟨w.heap.size, 1, none⟩ = false := B5.frozen 1)
        have hb6 : Below w.heap.size w w5 := hb3.trans (hb5.mono (by simp; omega))
        have E := (B5.set 0 (.int .i64 7)).set 1 (.int .i64 j)
        have e0 := (E.cell 0).trans (show _ = some (Value.int .i64 7) from rfl)
        have e1 := (E.cell 1).trans (show _ = some (Value.int .i64 j) from rfl)
        exact bodyPost_ret (v := faultV (7, (j : Nat))) (by simp [results, Try.results20, e0, e1, go_sem, faultV]) rfl ⟨by rw [hw2.out], (hb6.setCell (by simp) _).setCell (by simp) _⟩
      · rw [if_neg hfi, if_pos rfl] at hst
        have g : decide (findI l r.name < (j : Int)) = false := by simpa using hfi
        replace hst := Lib.hid hst
        generalize findI l r.name = fi at *
        clear hfi
        go_wp2_with (go_at_call 58; refine hA.out.mono ?_; rintro e w5 ⟨rfl, hb5⟩)
        have hz5 := hb5.size
        simp at hz5
        go_roundg (l.length - (j + 1))
        case measure => rw [hn.out]; omega
        case rel => exact ⟨j + 1, by omega, rfl, by go_num, Lib.hid hst.out.symm, hb3.trans (hb5.mono (by simp; omega)), B3.below hb5 (by simp; omega)⟩
    · obtain rfl : j = l.length := by omega
      have hz0 : (firstErr (dupErr l) 0 l).1 = 0 := by rw [← hf.out, List.drop_length]; rfl
      have hw3 : wrongR l = if (firstErr (fun i _ => noneErr l i) 0 l).1 = 0 then firstErr (fun i _ => ringErr l i) 0 l else firstErr (fun i _ => noneErr l i) 0 l := by rw [hw.out, if_pos hz0]
      replace hw3 := Lib.hid hw3
      clear hz0 hf hn hw zb zr
      obtain ⟨w2, hw2⟩ : ∃ w2 : World, w2 = wr := ⟨_, rfl⟩
      subst hw2
      have zb := hb.size
      have zr := B2.lt
      have hD := Lib.hid (direct_any _ l w2 (hrr.out.below hb (Nat.le_refl _) zb) h40 (fun r hr => (hrx.out r hr).2))
      go_wp2_with (go_at_call 59; refine hD.out.mono ?_; rintro e w1 ⟨ov, rfl, hO, hb1⟩; obtain ⟨vs1, hv1, _⟩ := id hO; obtain ⟨A1, cap1, rfl⟩ := own_slice hv1)
      replace hv1 := Lib.hid hv1
      have hlr : ((List.range l.length).map (directR l)).length = l.length := by simp
      have z1 := hb1.size
      have hb6 : Below w.heap.size w w1 := hb.trans (hb1.mono zb)
      have B6 := B2.below hb1 zr
      have hI := Lib.hid hO.reads
      rw [hlr] at hI
      have hdn := Lib.hid (fun i (hi : i < l.length) => directR_len (fun r hr => (hrx.out r hr).2) hi)
      clear hD hb1 hO
      go_loopg [37] l.length (fun n k wr => ∃ j : Nat, j ≤ l.length ∧ n = l.length - j ∧ k = .int .i64 j ∧ Hid (firstErr (fun i _ => noneErr l i) j (l.drop j) = firstErr (fun i _ => noneErr l i) 0 l) ∧ wr = w1)
      case atStart => exact ⟨0, by omega, rfl, rfl, Lib.hid rfl, rfl⟩
      case round =>
        obtain ⟨j, hj, hn, rfl, hf, rfl⟩ := hrel
        replace hn := Lib.hid hn
        have s0 : wr.cell? ⟨w.heap.size, 0, none⟩ = some (.int .i64 0) := B6.cell 0
        have s1 : wr.cell? ⟨w.heap.size, 1, none⟩ = some (.int .i64 0) := B6.cell 1
        have t0 : wr.frozen? ⟨w.heap.size, 0, none⟩ = false := B6.frozen 0
        have t1 : wr.frozen? ⟨w.heap.size, 1, none⟩ = false := B6.frozen 1
        by_cases hlt : j < l.length
        · obtain ⟨r, hx⟩ : ∃ r, l[j]? = some r := ⟨_, List.getElem?_eq_getElem hlt⟩
          have hst : firstErr (fun i _ => noneErr l i) 0 l = if noneErr l j = 0 then firstErr (fun i _ => noneErr l i) (j + 1) (l.drop (j + 1)) else (noneErr l j, (j : Int)) := hf.out.symm.trans (firstErr_at _ hx)
          rw [show noneErr l j = if (directR l j).contains (-1) = true then 6 else 0 from rfl] at hst
          obtain ⟨A9, cap9, he9, _, hrd⟩ := hI.out
          obtain ⟨b, o, hee, hbl, u, k0, hu⟩ := hrd j (directR l j) (by simp [hlt])
          have hA1 : A1 = some ⟨b, o, none⟩ := by rw [← hee]; injection he9
          subst hA1
          clear he9 hee
          obtain ⟨A3, cap3, rfl⟩ := own_slice hu
          have hcon := Lib.hid (Contains_ints _ (directR l j) (-1) wr (own_reads hu (Nat.le_refl _)))
          clear hx hu hrd
          cases hu : (directR l j).contains (-1) with
          | false =>
            rw [hu, if_pos (show (if (false = true) then (6 : Int) else 0) = 0 from rfl)] at hst
            rw [hu] at hcon
            replace hst := Lib.hid hst
            clear hu
            go_wp2_with (go_at_call 60; refine hcon.out.mono ?_; rintro e w5 ⟨rfl, rfl⟩)
            go_roundg (l.length - (j + 1))
            case measure => rw [hn.out]; omega
            case rel => exact ⟨j + 1, by omega, rfl, by go_num, Lib.hid hst.out.symm, rfl⟩
          | true =>
            rw [hu, if_neg (show ¬ (if (true = true) then (6 : Int) else 0) = 0 by decide), if_pos rfl] at hst
            rw [hu] at hcon
            have hw2 := Lib.hid (show wrongR l = (6, (j : Int)) by rw [hw3.out, if_neg (by rw [hst]; simp), hst])
            clear hu hst
            go_wp2_with (go_at_call 60; refine hcon.out.mono ?_; rintro e w5 ⟨rfl, rfl⟩)
            have E := (B6.set 0 (.int .i64 6)).set 1 (.int .i64 j)
            have e0 := (E.cell 0).trans (show _ = some (Value.int .i64 6) from rfl)
            have e1 := (E.cell 1).trans (show _ = some (Value.int .i64 j) from rfl)
            exact bodyPost_ret (v := faultV (6, (j : Nat))) (by simp [results, Try.results20, e0, e1, go_sem, faultV]) rfl ⟨by rw [hw2.out], (hb6.setCell (by simp) _).setCell (by simp) _⟩
        · obtain rfl : j = l.length := by omega
          have hz0 : (firstErr (fun i _ => noneErr l i) 0 l).1 = 0 := by rw [← hf.out, List.drop_length]; rfl
          have hw4 : wrongR l = firstErr (fun i _ => ringErr l i) 0 l := by rw [hw3.out, if_pos hz0]
          replace hw4 := Lib.hid hw4
          have hR := Lib.hid (closed_any (.slice A1 l.length cap1) (directR l) l.length wr (hI.out.low (Nat.zero_le _)) h40 hdn.out (noneErr_all hz0))
          clear hz0 hf hn hw3
          obtain ⟨w2, hw2⟩ : ∃ w2 : World, w2 = wr := ⟨_, rfl⟩
          subst hw2
          go_wp2_with (go_at_call 61; refine hR.out.mono ?_; rintro e w5 ⟨g, G, K, S, rfl, hg, hT, hCl, hb5⟩; have hz5 := hb5.size)
          replace hT := Lib.hid hT
          replace hCl := Lib.hid hCl
          have B7 := B6.below hb5 (by omega)
          have hb7 : Below w.heap.size w w5 := hb6.trans (hb5.mono (by omega))
          go_loopg [50] l.length (fun n k wr => ∃ j : Nat, j ≤ l.length ∧ n = l.length - j ∧ k = .int .i64 j ∧ Hid (firstErr (fun i _ => ringErr l i) j (l.drop j) = firstErr (fun i _ => ringErr l i) 0 l) ∧ wr = w5)
          case atStart => exact ⟨0, by omega, rfl, rfl, Lib.hid rfl, rfl⟩
          case round =>
            obtain ⟨j, hj, hn, rfl, hf, rfl⟩ := hrel
            replace hn := Lib.hid hn
            have s0 : wr.cell? ⟨w.heap.size, 0, none⟩ = some (.int .i64 0) := B7.cell 0
            have s1 : wr.cell? ⟨w.heap.size, 1, none⟩ = some (.int .i64 0) := B7.cell 1
            have t0 : wr.frozen? ⟨w.heap.size, 0, none⟩ = false := B7.frozen 0
            have t1 : wr.frozen? ⟨w.heap.size, 1, none⟩ = false := B7.frozen 1
            by_cases hlt : j < l.length
            · obtain ⟨r, hx⟩ : ∃ r, l[j]? = some r := ⟨_, List.getElem?_eq_getElem hlt⟩
              have hst : firstErr (fun i _ => ringErr l i) 0 l = if ringErr l j = 0 then firstErr (fun i _ => ringErr l i) (j + 1) (l.drop (j + 1)) else (ringErr l j, (j : Int)) := hf.out.symm.trans (firstErr_at _ hx)
              obtain ⟨r0, _⟩ := hT.out.row hlt
              obtain ⟨cc, hIs⟩ := hT.out.look hlt
              have hlook := look_set hIs (i := (j : Int)) (by omega) (by omega)
              have hre : ringErr l j = if S j (j : Int) = true then 9 else 0 := by unfold ringErr; rw [table_set (hCl.out j hlt)]
              rw [hre] at hst
              clear hre hx hIs
              generalize G j = gj at *
              cases hu : S j (j : Int) with
              | false =>
                rw [hu, if_pos (show (if (false = true) then (9 : Int) else 0) = 0 from rfl)] at hst
                rw [hu] at hlook
                replace hst := Lib.hid hst
                clear hu
                go_wp2
                go_roundg (l.length - (j + 1))
                case measure => rw [hn.out]; omega
                case rel => exact ⟨j + 1, by omega, rfl, by go_num, Lib.hid hst.out.symm, rfl⟩
              | true =>
                rw [hu, if_neg (show ¬ (if (true = true) then (9 : Int) else 0) = 0 by decide), if_pos rfl] at hst
                rw [hu] at hlook
                have hw2 := Lib.hid (show wrongR l = (9, (j : Int)) by rw [hw4.out, hst])
                clear hu hst
                go_wp2
                have E := (B7.set 0 (.int .i64 9)).set 1 (.int .i64 j)
                have e0 := (E.cell 0).trans (show _ = some (Value.int .i64 9) from rfl)
                have e1 := (E.cell 1).trans (show _ = some (Value.int .i64 j) from rfl)
                exact bodyPost_ret (v := faultV (9, (j : Nat))) (by simp [results, Try.results20, e0, e1, go_sem, faultV]) rfl ⟨by rw [hw2.out], (hb7.setCell (by simp) _).setCell (by simp) _⟩
            · obtain rfl : j = l.length := by omega
              have hw2 := Lib.hid (show wrongR l = (0, 0) by rw [hw4.out, ← hf.out, List.drop_length]; rfl)
              clear hn hf
              go_wp2
              have E := (B7.set 0 (.int .i64 0)).set 1 (.int .i64 0)
              have e0 := (E.cell 0).trans (show _ = some (Value.int .i64 0) from rfl)
              have e1 := (E.cell 1).trans (show _ = some (Value.int .i64 0) from rfl)
              exact bodyPost_ret (v := faultV (0, 0)) (by simp [results, Try.results20, e0, e1, go_sem, faultV]) rfl ⟨by rw [hw2.out], (hb7.setCell (by simp) _).setCell (by simp) _⟩

theorem CWrong_any (v : Value) (l : List Rule) (w : World) (hr : RulesV w w.heap.size v l) : Calls Try.prog 20 #[v] w fun e w' => e = .returned (faultV (wrongR l)) ∧ Below w.heap.size w w' := by
  by_cases hf : (wrongF l).1 = 0
  · exact CWrong_right v l w hr hf
  · exact CWrong_form v l w hr hf

end Ru
end Go.Proofs.Ytbncbkaonkcgeaa
