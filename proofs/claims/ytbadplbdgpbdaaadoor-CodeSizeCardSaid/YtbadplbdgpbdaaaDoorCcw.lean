/- Compiling in some order, plainly; rules' code in a row of one's own. code.Compile, walked. -/
import Derived.Test.YtbadplbdgpbdaaaDoorCxp
import Derived.Test.YtbadplbdgpbdaaaDoorMnA
import Derived.Laws.MakeOwn
namespace Go.Proofs.YtbadplbdgpbdaaaDoor
open Go.RowKit
namespace Ru
open Msk Vm Lx
open Sl (strV Reads)

theorem right_ok {l : List Rule} (h : (wrongR l).1 = 0) (i : Nat) (r : Rule) (hr : l[i]? = some r) : okE isName r.expr := by
  have hf := wrong_form h
  unfold wrongF at hf
  split at hf
  · simp at hf
  · have h1 := firstErr_zero _ l 0 hf i r hr
    have h2 : ruleErr isName r = 0 := h1
    unfold ruleErr at h2
    split at h2
    · exact form_okE _ _ _ h2
    · simp at h2
section
variable {spf : (Nat → Bool) → List (Int × Int)} {l : List Rule} {C : Nat → Vm.Code} {o : List Int}
theorem code_own {nm0 : List UInt8 → Bool} (hR : RightR l) (hCo : CodesR spf l C) {i : Nat} {r : Rule} (hr : l[i]? = some r) (hok : okE nm0 r.expr) {out : Nat → Vm.Code} (hag : ∀ k, stepB (directR l) i k = true → out k = C k) (hpos : ∀ nm, 0 ≤ (codeD l out nm).1) :
    codeE spf (findI l) (codeD l out) r.expr 0 ⟨[], 0, 0⟩ = ownC spf l C i := by
  obtain ⟨h1, h2, h3⟩ := code_part (spf := spf) (fi := findI l) (D := codeD l out) hpos r.expr 0 ⟨[], 0, 0⟩ (ok_wf _ hok)
  have e1 : partE spf (findI l) (codeD l out) r.expr = ownC spf l C i := by
    rw [← own_agree hR hag]
    unfold ownC
    rw [hr]
  have hp : 1 ≤ (ownC spf l C i).high := by
    have := (part_size (spf := spf) (fi := findI l) (D := codeD l C) r.expr (codes_D hR hCo hr)).1
    unfold ownC
    rw [hr]
    exact this
  rw [e1] at h1 h2 h3
  generalize codeE spf (findI l) (codeD l out) r.expr 0 ⟨[], 0, 0⟩ = c at *
  generalize ownC spf l C i = d at *
  obtain ⟨c1, c2, c3⟩ := c
  obtain ⟨d1, d2, d3⟩ := d
  simp only at h1 h2 h3 hp
  have i1 : c1 = d1 := by rw [h1, show (([] : List Vm.Ins).length : Int) = 0 from rfl, movL_zero]; rfl
  have i2 : c2 = d2 := by omega
  have i3 : c3 = d3 := by omega
  rw [i1, i2, i3]

/-- between two rules, in the order o -/
structure CompJ (spf : (Nat → Bool) → List (Int × Int)) (l : List Rule) (C : Nat → Vm.Code) (o : List Int) (j : Nat) (bad : Int) (out : Nat → Vm.Code) : Prop where
  inn : ∀ i : Nat, (i : Int) ∈ o.take j → out i = C i
  bnd : ∀ i, 0 ≤ (out i).high ∧ (out i).high ≤ 700 * (j : Int) ∧ 0 ≤ (out i).steps ∧ (out i).steps ≤ 20001
  bad' : (bad = -1 ∧ ∀ k : Nat, (k : Int) ∈ o.take j → muchC (ownC spf l C k) = false) ∨ ∃ b : Nat, bad = (b : Int) ∧ (b : Int) ∈ o.take j ∧ muchC (ownC spf l C b) = true ∧ ∀ k : Nat, (k : Int) ∈ o.take j → muchC (ownC spf l C k) = true → b ≤ k
theorem CompJ.start : CompJ spf l C o 0 (-1) (fun _ => ⟨[], 0, 0⟩) := ⟨fun i h => by simp at h, fun i => ⟨Int.le_refl 0, Int.le_refl 0, Int.le_refl 0, by show (0 : Int) ≤ 20001; omega⟩, .inl ⟨rfl, fun k h => by simp at h⟩⟩
theorem mem_take_succ {j : Nat} {i k : Int} (h : o[j]? = some i) : k ∈ o.take (j + 1) ↔ k ∈ o.take j ∨ k = i := by
  rw [List.take_add_one, h]
  simp
theorem keep_steps {c : Vm.Code} (h : 0 ≤ c.steps) : 0 ≤ (keepC c).steps ∧ (keepC c).steps ≤ 20001 := by
  unfold keepC
  split
  · exact ⟨by show (0 : Int) ≤ 20001; omega, Int.le_refl _⟩
  · rename_i hm
    unfold muchC at hm
    simp only [Bool.or_eq_true, decide_eq_true_eq] at hm
    omega
theorem CompJ.put {j : Nat} {bad : Int} {out : Nat → Vm.Code} (h : CompJ spf l C o j bad out) {i : Nat} (hi : o[j]? = some (i : Int)) (hlt : i < l.length) (hCo : CodesR spf l C) (h0 : 0 ≤ (ownC spf l C i).high) (h1 : (ownC spf l C i).high ≤ 700 * ((j + 1 : Nat) : Int)) (h2 : 0 ≤ (ownC spf l C i).steps) {bad2 : Int}
    (hb : bad2 = if muchC (ownC spf l C i) = true then (if bad < 0 ∨ (i : Int) < bad then (i : Int) else bad) else bad) : CompJ spf l C o (j + 1) bad2 (fun k => if k = i then C i else out k) := by
  have hCi := hCo i hlt
  have hk := keep_high (ownC spf l C i)
  have hks := keep_steps h2
  refine ⟨fun k hkm => ?_, fun k => ?_, ?_⟩
  · by_cases e : k = i
    · rw [if_pos e, e]
    · rw [if_neg e]
      rw [mem_take_succ hi] at hkm
      exact h.inn k (hkm.resolve_right (by omega))
  · by_cases e : k = i
    · simp only [if_pos e]
      rw [hCi, hk.1]
      exact ⟨h0, h1, hks.1, hks.2⟩
    · simp only [if_neg e]
      have := h.bnd k
      omega
  · subst hb
    by_cases hm : muchC (ownC spf l C i) = true
    · rw [if_pos hm]
      right
      rcases h.bad' with ⟨hb, hn⟩ | ⟨b, rfl, hb, hbm, hmin⟩
      · refine ⟨i, by rw [if_pos (by omega)], by rw [mem_take_succ hi]; exact .inr rfl, hm, fun k hkm hkk => ?_⟩
        rw [mem_take_succ hi] at hkm
        rcases hkm with hkm | hkm
        · rw [hn k hkm] at hkk; cases hkk
        · omega
      · by_cases hlt2 : (i : Int) < b
        · refine ⟨i, by rw [if_pos (.inr hlt2)], by rw [mem_take_succ hi]; exact .inr rfl, hm, fun k hkm hkk => ?_⟩
          rw [mem_take_succ hi] at hkm
          rcases hkm with hkm | hkm
          · have := hmin k hkm hkk; omega
          · omega
        · refine ⟨b, by rw [if_neg (by omega)], by rw [mem_take_succ hi]; exact .inl hb, hbm, fun k hkm hkk => ?_⟩
          rw [mem_take_succ hi] at hkm
          rcases hkm with hkm | hkm
          · exact hmin k hkm hkk
          · omega
    · rw [if_neg hm]
      have hm2 : muchC (ownC spf l C i) = false := by simpa using hm
      rcases h.bad' with ⟨hb, hn⟩ | ⟨b, rfl, hb, hbm, hmin⟩
      · refine .inl ⟨hb, fun k hkm => ?_⟩
        rw [mem_take_succ hi] at hkm
        rcases hkm with hkm | hkm
        · exact hn k hkm
        · obtain rfl : k = i := by omega
          exact hm2
      · refine .inr ⟨b, rfl, by rw [mem_take_succ hi]; exact .inl hb, hbm, fun k hkm hkk => ?_⟩
        rw [mem_take_succ hi] at hkm
        rcases hkm with hkm | hkm
        · exact hmin k hkm hkk
        · obtain rfl : k = i := by omega
          exact absurd hkk hm
theorem CompJ.done {bad : Int} {out : Nat → Vm.Code} (h : CompJ spf l C o o.length bad out) (hO : Ord (directR l) l.length o) (hl : o.length = l.length) :
    (∀ i, i < l.length → out i = C i) ∧ ((bad = -1 ∧ compR spf l C = (codesL l C, 0, 0)) ∨ ∃ b : Nat, bad = (b : Int) ∧ compR spf l C = ([], 4, (b : Int))) := by
  have hall : ∀ k, k < l.length → (k : Int) ∈ o.take o.length := fun k hk => by rw [List.take_length]; exact hO.full hl hk
  refine ⟨fun i hi => h.inn i (hall i hi), ?_⟩
  rcases h.bad' with ⟨hb, hn⟩ | ⟨b, rfl, hb, hbm, hmin⟩
  · exact .inl ⟨hb, comp_fits fun i hi => hn i (hall i hi)⟩
  · refine .inr ⟨b, rfl, ?_⟩
    have hbl : b < l.length := by
      obtain ⟨k, hk, hlt⟩ := hO.inn _ (List.mem_of_mem_take hb)
      omega
    refine comp_much hbl hbm fun k hk => ?_
    cases hm : muchC (ownC spf l C k) with
    | false => rfl
    | true => have := hmin k (hall k (by omega)) hm; omega
end

/-- rules' code, in a row of one's own -/
def OutAt (w : World) (ob n : Nat) (C : Nat → Vm.Code) : Prop := ∃ cs, Blk w ob 43 cs ∧ cs.size = n * 3 ∧ ∀ i, i < n → ∃ v xs, cs[i * 3]? = some v ∧ cs[i * 3 + 1]? = some (.int .i64 (C i).high) ∧ cs[i * 3 + 2]? = some (.int .i64 (C i).steps) ∧ InsRow w (ob + 1) v (C i).ins xs
section
variable {w w' : World} {ob n : Nat} {C : Nat → Vm.Code}
theorem OutAt.lt (h : OutAt w ob n C) : ob < w.heap.size := by
  obtain ⟨cs, h, _⟩ := h
  exact h.lt
theorem OutAt.below (h : OutAt w ob n C) (hb : Below w.heap.size w w') : OutAt w' ob n C := by
  obtain ⟨cs, h1, h2, h3⟩ := h
  refine ⟨cs, h1.below hb h1.lt, h2, fun i hi => ?_⟩
  obtain ⟨v, xs, a1, a2, a3, a4⟩ := h3 i hi
  exact ⟨v, xs, a1, a2, a3, a4.below hb⟩
/-- behind all that lies from some block on -/
theorem OutAt.keep {B : Nat} (h : OutAt w ob n C) (hb : Below B w w') (hB : w.heap.size ≤ B) : OutAt w' ob n C := h.below (hb.mono hB)
theorem InsRow.low {B B' : Nat} {v : Value} {out : List Vm.Ins} {xs : List (Vm.Ins × Value)} (h : InsRow w B v out xs) (hB : B' ≤ B) : InsRow w B' v out xs := ⟨h.eq, own_mono h.own hB, fun x hx => own_mono (h.ok x hx) hB⟩
theorem OutAt.put (h : OutAt w ob n C) {i : Nat} (hi : i < n) {v : Value} {c : Vm.Code} {xs : List (Vm.Ins × Value)} (hR : InsRow w (ob + 1) v c.ins xs) :
    OutAt (((w.setCell ⟨ob, i * 3, none⟩ v).setCell ⟨ob, i * 3 + 1, none⟩ (.int .i64 c.high)).setCell ⟨ob, i * 3 + 2, none⟩ (.int .i64 c.steps)) ob n (fun k => if k = i then c else C k) := by
  obtain ⟨cs, h1, h2, h3⟩ := h
  have hk : ∀ k, ob + 1 ≤ k → (((w.setCell ⟨ob, i * 3, none⟩ v).setCell ⟨ob, i * 3 + 1, none⟩ (.int .i64 c.high)).setCell ⟨ob, i * 3 + 2, none⟩ (.int .i64 c.steps)).heap[k]? = w.heap[k]? := fun k hk =>
    (Below.heap_setCell _ ⟨ob, i * 3 + 2, none⟩ _ k (by show k ≠ ob; omega)).trans ((Below.heap_setCell _ ⟨ob, i * 3 + 1, none⟩ _ k (by show k ≠ ob; omega)).trans (Below.heap_setCell _ ⟨ob, i * 3, none⟩ _ k (by show k ≠ ob; omega)))
  refine ⟨_, ((h1.set (i * 3) v).set (i * 3 + 1) (.int .i64 c.high)).set (i * 3 + 2) (.int .i64 c.steps), by simp [h2], fun k hk2 => ?_⟩
  by_cases e : k = i
  · subst e
    refine ⟨v, xs, ?_, ?_, ?_, ?_⟩
    · rw [Array.getElem?_setIfInBounds, if_neg (by omega), Array.getElem?_setIfInBounds, if_neg (by omega), Array.getElem?_setIfInBounds, if_pos rfl, if_pos (by omega)]
    · rw [Array.getElem?_setIfInBounds, if_neg (by omega), Array.getElem?_setIfInBounds, if_pos rfl, if_pos (by simp; omega)]; simp only [if_pos]
    · rw [Array.getElem?_setIfInBounds, if_pos rfl, if_pos (by simp; omega)]; simp only [if_pos]
    · simp only [if_pos]
      exact hR.keep fun k hk3 _ => hk k hk3
  · obtain ⟨v', xs', a1, a2, a3, a4⟩ := h3 k hk2
    refine ⟨v', xs', ?_, ?_, ?_, ?_⟩
    · rw [Array.getElem?_setIfInBounds, if_neg (by omega), Array.getElem?_setIfInBounds, if_neg (by omega), Array.getElem?_setIfInBounds, if_neg (by omega)]; exact a1
    · rw [Array.getElem?_setIfInBounds, if_neg (by omega), Array.getElem?_setIfInBounds, if_neg (by omega), Array.getElem?_setIfInBounds, if_neg (by omega)]; simp only [if_neg e]; exact a2
    · rw [Array.getElem?_setIfInBounds, if_neg (by omega), Array.getElem?_setIfInBounds, if_neg (by omega), Array.getElem?_setIfInBounds, if_neg (by omega)]; simp only [if_neg e]; exact a3
    · simp only [if_neg e]
      exact a4.keep fun k hk3 _ => hk k hk3
theorem OutAt.cells (h : OutAt w ob n C) {i : Nat} (hi : i < n) : ∃ v, w.cell? ⟨ob, i * 3, none⟩ = some v ∧ w.cell? ⟨ob, i * 3 + 1, none⟩ = some (.int .i64 (C i).high) ∧ w.cell? ⟨ob, i * 3 + 2, none⟩ = some (.int .i64 (C i).steps) ∧ ∀ j, w.frozen? ⟨ob, j, none⟩ = false := by
  obtain ⟨cs, h1, h2, h3⟩ := h
  obtain ⟨v, xs, a1, a2, a3, _⟩ := h3 i hi
  exact ⟨v, by rw [h1.cell]; exact a1, by rw [h1.cell]; exact a2, by rw [h1.cell]; exact a3, fun j => h1.frozen j⟩
theorem OutAt.codes {l : List Rule} (h : OutAt w ob l.length C) (hl : l.length ≤ 1000000) : CodesV w w.heap.size (.slice (some ⟨ob, 0, none⟩) l.length l.length) (codesL l C) := by
  obtain ⟨cs, h1, h2, h3⟩ := h
  refine ⟨some ⟨ob, 0, none⟩, l.length, by rw [codesL_len], by rw [codesL_len]; omega, fun i c hc => ?_⟩
  obtain ⟨hi, rfl⟩ := codesL_out hc
  obtain ⟨v, xs, a1, a2, a3, a4⟩ := h3 i hi
  refine ⟨ob, 0, rfl, h1.lt, ?_⟩
  show CodeAt w w.heap.size ob (0 + i * 3) (C i)
  rw [Nat.zero_add]
  exact ⟨⟨v, by rw [h1.cell]; exact a1, a4.insV⟩, by rw [h1.cell]; exact a2, by rw [h1.cell]; exact a3⟩
theorem OutAt.doneV {l : List Rule} {B : Nat} (h : OutAt w ob l.length C) (hl : l.length ≤ 1000000) (hB : ob < B) : DoneV w B (.slice (some ⟨ob, 0, none⟩) l.length l.length) (codesL l C) := by
  obtain ⟨cs, h1, h2, h3⟩ := h
  refine ⟨some ⟨ob, 0, none⟩, l.length, by rw [codesL_len], by rw [codesL_len]; omega, fun i c hc => ?_⟩
  obtain ⟨hi, rfl⟩ := codesL_out hc
  obtain ⟨v, xs, a1, a2, a3, a4⟩ := h3 i hi
  refine ⟨ob, 0, rfl, hB, ?_, ?_⟩
  · rw [Nat.zero_add, h1.cell]; exact a2
  · rw [Nat.zero_add, h1.cell]; exact a3
theorem OutAt.start (W : World) (n : Nat) (hW : Blk W ob 43 (madeCells #[.slice none 0 0, .int .i64 0, .int .i64 0] (n * 3))) : OutAt W ob n (fun _ => ⟨[], 0, 0⟩) := by
  have key : ∀ i j, i < n → j < 3 → (madeCells #[Value.slice none 0 0, .int .i64 0, .int .i64 0] (n * 3))[i * 3 + j]? = #[Value.slice none 0 0, .int .i64 0, .int .i64 0][j]? := fun i j hi hj => by
    unfold madeCells
    rw [Array.getElem?_map, Array.getElem?_range, if_pos (by omega)]
    have e3 : (i * 3 + j) % 3 = j := by omega
    have : j = 0 ∨ j = 1 ∨ j = 2 := by omega
    rcases this with rfl | rfl | rfl <;> simp [e3]
  refine ⟨_, hW, by rw [size_madeCells], fun i hi => ⟨.slice none 0 0, [], ?_, ?_, ?_, InsRow.nil _ _⟩⟩
  · exact key i 0 hi (by omega)
  · exact key i 1 hi (by omega)
  · exact key i 2 hi (by omega)
end
theorem info_code9 : (Tryd.prog.info? 43).map (fun i => (i.zero.map (·.cells), i.size, i.bytes)) = some (some #[.slice none 0 0, .int .i64 0, .int .i64 0], 3, 40) := by kernel_rfl
theorem make_codes (n : Nat) (hn : n ≤ 40) (W : World) : (Instr.makeSlice 23 (.int .i64 (n : Int)) (.int .i64 (n : Int))).run Tryd.prog W = .ok (.slice (some ⟨W.heap.size, 0, none⟩) n n) (W.alloc (.cells (madeCells #[.slice none 0 0, .int .i64 0, .int .i64 0] (n * 3)) 43)) := by
  have h := info_code9
  cases e : Tryd.prog.info? 43 with
  | none => rw [e] at h; simp at h
  | some i =>
    rw [e] at h
    simp at h
    obtain ⟨⟨z, hz, hz2⟩, hs, hb⟩ := h
    have := run_make (P := Tryd.prog) W 23 43 i z Tryd.underlying23 e hz .i64 .i64 n n (by omega) (Int.le_refl _) (by rw [hb]; omega) (by omega)
    rw [hz2, hs] at this
    simpa using this

end Ru
end Go.Proofs.YtbadplbdgpbdaaaDoor

namespace Go.Proofs.YtbadplbdgpbdaaaDoor
open Go.RowKit
namespace Ru
open Msk Vm Lx
open Sl (strV Reads)

def compF (spf : (Nat → Bool) → List (Int × Int)) (l : List Rule) (C : Nat → Vm.Code) : List Vm.Code × Int × Int := if (wrongR l).1 = 0 then compR spf l C else ([], wrongR l)
def CompPost (spf : (Nat → Bool) → List (Int × Int)) (l : List Rule) (C : Nat → Vm.Code) (w : World) (e : Ending) (w' : World) : Prop := ∃ cv, e = .returned (.tuple #[cv, faultV (compF spf l C).2]) ∧ CodesV w' w'.heap.size cv (compF spf l C).1 ∧ Below w.heap.size w w'
theorem CodesV.nil (w : World) (B : Nat) : CodesV w B (.slice none 0 0) [] := ⟨none, 0, rfl, by show 0 ≤ _; omega, fun i c h => by simp at h⟩

theorem codesL_congr {l : List Rule} {C C' : Nat → Vm.Code} (h : ∀ i, i < l.length → C i = C' i) : codesL l C = codesL l C' := by
  unfold codesL
  exact List.map_congr_left fun i hi => h i (by simpa using hi)
theorem OutAt.off {w : World} {ob n : Nat} {C : Nat → Vm.Code} (h : OutAt w ob n C) {p : Addr} (hp : p.block < ob) (u : Value) : OutAt (w.setCell p u) ob n C := by
  obtain ⟨cs, h1, h2, h3⟩ := h
  refine ⟨cs, h1.far (p := p) (by omega) u, h2, fun i hi => ?_⟩
  obtain ⟨v, xs, a1, a2, a3, a4⟩ := h3 i hi
  exact ⟨v, xs, a1, a2, a3, a4.keep fun k hk _ => Below.heap_setCell w p u k (by omega)⟩

set_option maxRecDepth 100000 in
set_option maxHeartbeats 4000000 in
theorem Compile_wrong {spf : (Nat → Bool) → List (Int × Int)} {C : Nat → Vm.Code} (v : Value) (l : List Rule) (w : World) (hr : RulesV w w.heap.size v l) (h : (wrongR l).1 ≠ 0) : Calls Tryd.prog 7 #[v] w (CompPost spf l C w) := by
  have hF : compF spf l C = ([], wrongR l) := if_neg h
  have hbA : Below w.heap.size w (w.alloc (.cells #[.int .i64 0, .int .i64 0] 26)) := (Below.refl _ _).alloc (Nat.le_refl _) _
  have hP := Lib.hid (CWrong_any v l (w.alloc (.cells #[.int .i64 0, .int .i64 0] 26)) (hr.below hbA (Nat.le_refl _) (by simp)))
  have B0 := Blk.new w 26 #[.int .i64 0, .int .i64 0]
  obtain ⟨A, cap, rfl, _⟩ := hr
  have g : ((wrongR l).1 != 0) = true := by simpa using h
  unfold CompPost
  rw [hF]
  generalize wrongR l = q at *
  obtain ⟨q1, q2⟩ := q
  unfold faultV at hP ⊢
  simp only at g hP ⊢
  clear h hF
  go_enter Tryd.func7, Tryd.ntmps7
  go_wp2_with (go_at_call 17; refine hP.out.mono ?_; rintro e w1 ⟨rfl, hb1⟩; have hz1 := hb1.size; simp at hz1; have B1 := B0.below hb1 (by simp); have s0 : w1.cell? ⟨w.heap.size, 0, none⟩ = some (.int .i64 0) := B1.cell 0; have s1 : w1.cell? ⟨w.heap.size, 1, none⟩ = some (.int .i64 0) := B1.cell 1; have t0 : w1.frozen? ⟨w.heap.size, 0, none⟩ = false := B1.frozen 0; have t1 : w1.frozen? ⟨w.heap.size, 1, none⟩ = false := B1.frozen 1)
  have hb2 : Below w.heap.size w w1 := hbA.trans (hb1.mono (by simp))
  have hlw : w.heap.size < w1.heap.size := by omega
  go_region
  all_goals
    go_wp2_with fail
    exact bodyPost_ret (v := .tuple #[.slice none 0 0, .agg #[.int .i64 q1, .int .i64 q2]]) (by simp [results, Tryd.results7, s0, s1, hlw, go_sem]) rfl ⟨_, rfl, CodesV.nil _ _, (by repeat (first | exact Below.refl _ _ | assumption | refine Below.n _ ?_ (by first | omega | (simp; done) | (simp; omega)) | refine Below.alloc ?_ (by first | omega | (simp; done) | (simp; omega)) _ | refine Below.setCell ?_ (by first | omega | (simp; done) | (simp; omega)) _ | refine Below.drew ?_ | refine Below.setRow ?_ (by first | omega | (simp; done) | (simp; omega)) _ | refine Below.drewN ?_ _))⟩

set_option maxRecDepth 100000 in
set_option maxHeartbeats 16000000 in
theorem Compile_right {spf : (Nat → Bool) → List (Int × Int)} (hsp : ∀ p, IsSpans (has (setW p)) (spf p)) {C : Nat → Vm.Code} (v : Value) (l : List Rule) (w : World) (hr : RulesV w w.heap.size v l) (hT : Tab w) (h : (wrongR l).1 = 0) (hCo : CodesR spf l C) : Calls Tryd.prog 7 #[v] w (CompPost spf l C w) := by
  have hF : compF spf l C = compR spf l C := if_pos h
  have hbA : Below w.heap.size w (w.alloc (.cells #[.int .i64 0, .int .i64 0] 26)) := (Below.refl _ _).alloc (Nat.le_refl _) _
  have hP := Lib.hid (CWrong_any v l (w.alloc (.cells #[.int .i64 0, .int .i64 0] 26)) (hr.below hbA (Nat.le_refl _) (by simp)))
  have B0 := Blk.new w 26 #[.int .i64 0, .int .i64 0]
  have hright := Lib.hid (right_of h)
  have hokk := Lib.hid (right_ok h)
  have hOrd := Lib.hid (fun (W : World) (v : Value) (hr : RulesV W W.heap.size v l) => Order_any v l W hr h)
  obtain ⟨h40, hN⟩ := form_right (wrong_form h)
  have hrr := Lib.hid hr
  obtain ⟨A, cap, rfl, hlen, hc⟩ := hr
  replace hc := Lib.hid hc
  replace hN := Lib.hid hN
  unfold CompPost
  rw [hF]
  generalize wrongR l = q at *
  obtain ⟨q1, q2⟩ := q
  simp only at h
  subst h
  unfold faultV at hP ⊢
  simp only at hP ⊢
  replace hCo := Lib.hid hCo
  replace hT := Lib.hid hT
  replace hsp := Lib.hid hsp
  clear hF
  have mk := make_codes l.length h40
  go_enter Tryd.func7, Tryd.ntmps7
  go_wp2_with (first
    | (go_at_call 17; refine hP.out.mono ?_; rintro e w1 ⟨rfl, hb1⟩; have hz1 := hb1.size; simp at hz1; have B1 := B0.below hb1 (by simp); have hlw : w.heap.size < w1.heap.size := by omega)
    | (go_at_call 18; refine (hOrd.out _ _ (hrr.out.below (((hbA.trans (hb1.mono (by simp))).alloc (by omega) _).alloc (by simp; omega) _) (Nat.le_refl _) (by simp; omega))).mono ?_; rintro e w5 ⟨ov, o, rfl, ho, hO, hol, hb5⟩; obtain ⟨A5, cap5, rfl⟩ := own_slice ho; replace hol := Lib.hid hol))
  have hbq := ((hbA.trans (hb1.mono (by simp))).alloc (by omega) (.cells #[.int .i64 0, .int .i64 q2] 26)).alloc (by simp; omega) (.cells (madeCells #[.slice none 0 0, .int .i64 0, .int .i64 0] (l.length * 3)) 43)
  have hOut0 : OutAt ((w1.alloc (.cells #[.int .i64 0, .int .i64 q2] 26)).alloc (.cells (madeCells #[.slice none 0 0, .int .i64 0, .int .i64 0] (l.length * 3)) 43)) (w1.heap.size + 1) l.length (fun _ => ⟨[], 0, 0⟩) := OutAt.start _ _ (by
    have := Blk.new (w1.alloc (.cells #[.int .i64 0, .int .i64 q2] 26)) 43 (madeCells #[.slice none 0 0, .int .i64 0, .int .i64 0] (l.length * 3))
    rw [World.size_alloc] at this
    exact this)
  have hOut5 := Lib.hid (hOut0.below hb5)
  have hb6 : Below w.heap.size w w5 := hbq.trans (hb5.mono (by simp; omega))
  have B6 : Blk w5 w.heap.size 26 #[.int .i64 0, .int .i64 0] := ((B1.alloc (.cells #[.int .i64 0, .int .i64 q2] 26)).alloc (.cells (madeCells #[.slice none 0 0, .int .i64 0, .int .i64 0] (l.length * 3)) 43)).below hb5 (by simp; omega)
  have hz5 := hb5.size
  simp at hz5
  replace ho := Lib.hid (show w5.ownsRow (w1.heap.size + 1 + 1) 3 1 (.slice A5 o.length cap5) o.length (o.map (Value.int .i64)) from own_mono ho (by simp))
  replace hO := Lib.hid hO
  clear hP hOrd mk hb1 hb5 hbA hbq B0 B1 hOut0
  have hol4 : o.length ≤ 40 := by rw [hol.out]; exact h40
  obtain ⟨ob, hob⟩ : ∃ ob, ob = w1.heap.size + 1 := ⟨_, rfl⟩
  rw [← hob] at hOut5 ⊢
  have hobl : w.heap.size < ob := by omega
  replace hob := Lib.hid hob
  have hrun : ∀ j bad out i r, CompJ spf l C o j bad out → o[j]? = some ((i : Nat) : Int) → l[i]? = some r → Want spf l out ∧ codeE spf (findI l) (codeD l out) r.expr 0 ⟨[], 0, 0⟩ = ownC spf l C i ∧ RoomC (700 * (j : Int)) 0 600 ⟨[], 0, 0⟩ (ownC spf l C i) ∧ 1 ≤ (ownC spf l C i).high := fun j bad out i r hJ hi hx => by
    have hjl : j < o.length := (List.getElem?_eq_some_iff.1 hi).1
    have hpos : ∀ nm, 0 ≤ (codeD l out nm).1 ∧ (codeD l out nm).1 ≤ 700 * (j : Int) ∧ 0 ≤ (codeD l out nm).2 ∧ (codeD l out nm).2 ≤ 20001 := fun nm => by
      unfold codeD
      split
      · exact hJ.bnd _
      · exact ⟨Int.le_refl 0, by show (0 : Int) ≤ _; omega, Int.le_refl 0, by show (0 : Int) ≤ 20001; omega⟩
    have e := code_own hright.out hCo.out hx (hokk.out i r hx) (out := out) (fun k hk => hJ.inn k (hO.out.deps j i hi _ (List.contains_iff_mem.1 hk))) (fun nm => (hpos nm).1)
    refine ⟨⟨hsp.out, h40, fun k _ => ⟨(hJ.bnd k).1, by have := (hJ.bnd k).2.1; omega, (hJ.bnd k).2.2.1, (hJ.bnd k).2.2.2⟩⟩, e, ?_, ?_⟩
    · rw [← e]
      exact (code_room (M := 700 * (j : Int)) (by omega) (fun nm => (hpos nm).2) r.expr 0 ⟨[], 0, 0⟩).mono (hN.out r (List.mem_of_getElem? hx)).2
    · have := (part_size (spf := spf) (fi := findI l) (D := codeD l C) r.expr (codes_D hright.out hCo.out hx)).1
      unfold ownC
      rw [hx]
      exact this
  replace hrun := Lib.hid hrun
  go_loopg [6, 8, 9, 22] o.length (fun q v6 _ _ v22 wr => ∃ (j : Nat) (bad : Int) (out : Nat → Vm.Code), j ≤ o.length ∧ q = o.length - j ∧ v22 = .int .i64 j ∧ v6 = .int .i64 bad ∧ Hid (CompJ spf l C o j bad out) ∧ Hid (OutAt wr ob l.length out) ∧ Hid (wr.ownsRow (ob + 1) 3 1 (.slice A5 o.length cap5) o.length (o.map (Value.int .i64))) ∧ Below w.heap.size w wr ∧ Blk wr w.heap.size 26 #[.int .i64 0, .int .i64 0])
  case atStart => exact ⟨0, -1, _, by omega, rfl, rfl, rfl, Lib.hid CompJ.start, hOut5, Lib.hid (by rw [hob.out]; exact ho.out), hb6, B6⟩
  case round =>
    clear hOut5 ho hb6 B6 hz5
    obtain ⟨j, bad, out, hj, hq, rfl, rfl, hJ, hO2, ho2, hbr, B⟩ := hrel
    replace hq := Lib.hid hq
    have zob := hO2.out.lt
    by_cases hlt : j < o.length
    · obtain ⟨iv, hiv⟩ : ∃ d, o[j]? = some d := ⟨_, List.getElem?_eq_getElem hlt⟩
      obtain ⟨i, rfl, hil⟩ := hO.out.inn _ (List.mem_of_getElem? hiv)
      obtain ⟨g5, cp5, he5, hg5, c5⟩ := own_elem ho2.out (i := j) (x := .int .i64 ((i : Nat) : Int)) (by rw [List.getElem?_map, hiv]; rfl)
      cases he5
      obtain ⟨r, hx⟩ : ∃ r, l[i]? = some r := ⟨_, List.getElem?_eq_getElem hil⟩
      obtain ⟨b, of, rfl, hbl, k0, hnl, hE⟩ := hc.out i r hx
      obtain ⟨hW, hce, hroom, hhi⟩ := hrun.out j bad out i r hJ.out hiv hx
      have hn6 := (hN.out r (List.mem_of_getElem? hx)).2
      have hb1 := hbr.alloc hbr.size (.cells #[.slice (some ⟨b, of, none⟩) l.length cap, .slice (some ⟨ob, 0, none⟩) l.length l.length, .slice none 0 0, .int .i64 0, .int .i64 0] 61)
      have hbA := (Below.refl wr.heap.size wr).alloc (Nat.le_refl _) (.cells #[.slice (some ⟨b, of, none⟩) l.length cap, .slice (some ⟨ob, 0, none⟩) l.length l.length, .slice none 0 0, .int .i64 0, .int .i64 0] 61)
      have BC := Blk.new wr 61 #[.slice (some ⟨b, of, none⟩) l.length cap, .slice (some ⟨ob, 0, none⟩) l.length l.length, .slice none 0 0, .int .i64 0, .int .i64 0]
      obtain ⟨w1', hw1⟩ : ∃ W, W = wr.alloc (.cells #[.slice (some ⟨b, of, none⟩) l.length cap, .slice (some ⟨ob, 0, none⟩) l.length l.length, .slice none 0 0, .int .i64 0, .int .i64 0] 61) := ⟨_, rfl⟩
      rw [← hw1] at hb1 hbA BC
      have hO3 := hO2.out.below hbA
      have hC1 : CoI w1' wr.heap.size w.heap.size (.slice (some ⟨b, of, none⟩) l.length cap) (.slice (some ⟨ob, 0, none⟩) l.length l.length) l out ⟨[], 0, 0⟩ :=
        ⟨⟨_, [], BC, InsRow.nil _ _⟩, hbr.size, hrr.out.below hb1 (Nat.le_refl _) (Nat.le_refl _), hO3.doneV (by omega) zob, hT.out.below hb1 hT.out.1, by have := hT.out.1; have := hbr.size; omega⟩
      have hEx := Lib.hid (cexpr_any hW (nodesE r.expr) r.expr w1' w.heap.size b (of + i * 6 + 1) wr.heap.size _ _ 0 ⟨[], 0, 0⟩ (Nat.le_refl _) (hokk.out i r hx) (hE.below hb1 (Nat.le_refl _) (Nat.le_refl _) hbl) hbl hC1 (fun nm hn => (step_name hright.out hx hn).2.1) ⟨Int.le_refl 0, by omega, by show 0 + _ ≤ _; omega, Int.le_refl 0, by show (0 : Int) + _ ≤ _; omega⟩)
      rw [hce] at hEx
      unfold ExprPost at hEx
      replace hrun := trivial
      replace hC1 := trivial
      replace hW := trivial
      replace hce := trivial
      replace hO3 := trivial
      clear hE hnl k0 BC
      go_upto_region 10 with fail
      rw [← hw1]
      clear hw1
      go_wp2_with fail
      refine hEx.out.mono ?_
      rintro e2 w2 ⟨rfl, hC2, hb2⟩
      have hbx : Below wr.heap.size wr w2 := hbA.trans hb2
      obtain ⟨cv, cxs, hcB, hcR⟩ := hC2.at'
      obtain ⟨A2, cp2, rfl⟩ := hcR.val
      obtain ⟨d, hd⟩ : ∃ d, d = ownC spf l C i := ⟨_, rfl⟩
      rw [← hd] at hcB hcR hroom hhi
      have m2 : w2.cell? ⟨wr.heap.size, 2, none⟩ = some (.slice A2 d.ins.length cp2) := hcB.cell 2
      have m3 : w2.cell? ⟨wr.heap.size, 3, none⟩ = some (.int .i64 d.high) := hcB.cell 3
      have m4 : w2.cell? ⟨wr.heap.size, 4, none⟩ = some (.int .i64 d.steps) := hcB.cell 4
      have f4 := hcB.frozen 4
      have hO4 := hO2.out.below hbx
      obtain ⟨ov, n0, n1, n2, fz⟩ := hO4.cells hil
      have fz0 := fz (i * 3)
      have fz1 := fz (i * 3 + 1)
      have fz2 := fz (i * 3 + 2)
      have hcl := hcB.lt
      have hrlow := Lib.hid (hcR.low (B' := ob + 1) (by omega))
      have hrz := Lib.hid (show InsRow (w2.setCell ⟨wr.heap.size, 4, none⟩ (.int .i64 20001)) (ob + 1) (.slice A2 d.ins.length cp2) d.ins cxs from (hcR.keep fun k hk _ => Below.heap_setCell w2 ⟨wr.heap.size, 4, none⟩ _ k (by show k ≠ wr.heap.size; omega)).low (by omega))
      obtain ⟨u1, u2, u3, u4, u5⟩ := hroom
      have u6 : d.ins.length ≤ 600 := by simpa using u2
      have u7 : 0 ≤ d.steps := u3
      have u8 : d.high ≤ 700 * ((j + 1 : Nat) : Int) := by
        have e0 : ((⟨[], 0, 0⟩ : Vm.Code)).high = 0 := rfl
        rw [e0] at u5
        push_cast at *
        omega
      have hCi := Lib.hid (show C i = keepC d by rw [hCo.out i hil, hd])
      have hput := Lib.hid (fun (nb : Int) (hb : nb = if muchC d = true then (if bad < 0 ∨ (i : Int) < bad then (i : Int) else bad) else bad) => hJ.out.put hiv hil hCo.out (by rw [← hd]; omega) (by rw [← hd]; exact u8) (by rw [← hd]; exact u7) (bad2 := nb) (by rw [← hd]; exact hb))
      have ho4 := Lib.hid (own_keep ho2.out hbx (Nat.le_refl _))
      have hb4 := hbr.trans (hbx.mono hbr.size)
      have B4 := B.below hbx B.lt
      have B0 := B
      have h3 : ¬ 2000 < d.ins.length := by omega
      have g3 : decide ((2000 : Int) < (d.ins.length : Int)) = false := by simp; omega
      replace hd := Lib.hid hd
      replace hO4 := Lib.hid hO4
      replace hcR := Lib.hid hcR
      clear fz u1 u2 u3 u4 u5 hC2 hEx hbA hb1 hcB B
      rcases dec (100 < d.high) with ⟨g1, h1⟩ | ⟨g1, h1⟩
      · have hm : muchC d = true := by unfold muchC; simp [h1]
        have hkc : C i = ⟨d.ins, d.high, 20001⟩ := by rw [hCi.out]; unfold keepC; rw [if_pos hm]
        rcases dec (bad < 0) with ⟨g4, h4⟩ | ⟨g4, h4⟩
        · have hbz := hbx.setCell (p := ⟨wr.heap.size, 4, none⟩) (Nat.le_refl _) (.int .i64 20001)
          have hO5 := (hO2.out.below hbz).put hil (c := ⟨d.ins, d.high, 20001⟩) (v := .slice A2 d.ins.length cp2) hrz.out
          have hP := hput.out ((i : Nat) : Int) (by rw [if_pos hm, if_pos (.inl h4)])
          rw [hkc] at hP
          have ho5 := own_far (own_far (own_far (own_keep ho2.out hbz (Nat.le_refl _)) (p := ⟨ob, i * 3, none⟩) (by show ob < ob + 1; omega) (.slice A2 d.ins.length cp2)) (p := ⟨ob, i * 3 + 1, none⟩) (by show ob < ob + 1; omega) (.int .i64 d.high)) (p := ⟨ob, i * 3 + 2, none⟩) (by show ob < ob + 1; omega) (.int .i64 20001)
          have hb5 := (((hbr.trans (hbz.mono hbr.size)).setCell (p := ⟨ob, i * 3, none⟩) (by show w.heap.size ≤ ob; omega) (.slice A2 d.ins.length cp2)).setCell (p := ⟨ob, i * 3 + 1, none⟩) (by show w.heap.size ≤ ob; omega) (.int .i64 d.high)).setCell (p := ⟨ob, i * 3 + 2, none⟩) (by show w.heap.size ≤ ob; omega) (.int .i64 20001)
          have B5 := (((B0.below hbz B0.lt).far (p := ⟨ob, i * 3, none⟩) (by show w.heap.size ≠ ob; omega) (.slice A2 d.ins.length cp2)).far (p := ⟨ob, i * 3 + 1, none⟩) (by show w.heap.size ≠ ob; omega) (.int .i64 d.high)).far (p := ⟨ob, i * 3 + 2, none⟩) (by show w.heap.size ≠ ob; omega) (.int .i64 20001)
          go_upto_region 16 with fail
          obtain ⟨w9, hw9⟩ : ∃ W, W = (((w2.setCell ⟨wr.heap.size, 4, none⟩ (.int .i64 20001)).setCell ⟨ob, i * 3, none⟩ (.slice A2 d.ins.length cp2)).setCell ⟨ob, i * 3 + 1, none⟩ (.int .i64 d.high)).setCell ⟨ob, i * 3 + 2, none⟩ (.int .i64 20001) := ⟨_, rfl⟩
          rw [← hw9] at hO5 ho5 hb5 B5 ⊢
          replace hP := Lib.hid hP
          replace hO5 := Lib.hid hO5
          replace ho5 := Lib.hid ho5
          clear hw9 m2 m3 m4 f4 n0 n1 n2 fz0 fz1 fz2 hput hkc
          go_wp2_with fail
          go_roundg (o.length - (j + 1))
          case measure => rw [hq.out]; omega
          case rel => exact ⟨j + 1, ((i : Nat) : Int), _, by omega, rfl, by go_num, rfl, hP, hO5, ho5, hb5, B5⟩
        · rcases dec ((i : Int) < bad) with ⟨g6, h6⟩ | ⟨g6, h6⟩
          · have hbz := hbx.setCell (p := ⟨wr.heap.size, 4, none⟩) (Nat.le_refl _) (.int .i64 20001)
            have hO5 := (hO2.out.below hbz).put hil (c := ⟨d.ins, d.high, 20001⟩) (v := .slice A2 d.ins.length cp2) hrz.out
            have hP := hput.out ((i : Nat) : Int) (by rw [if_pos hm, if_pos (.inr h6)])
            rw [hkc] at hP
            have ho5 := own_far (own_far (own_far (own_keep ho2.out hbz (Nat.le_refl _)) (p := ⟨ob, i * 3, none⟩) (by show ob < ob + 1; omega) (.slice A2 d.ins.length cp2)) (p := ⟨ob, i * 3 + 1, none⟩) (by show ob < ob + 1; omega) (.int .i64 d.high)) (p := ⟨ob, i * 3 + 2, none⟩) (by show ob < ob + 1; omega) (.int .i64 20001)
            have hb5 := (((hbr.trans (hbz.mono hbr.size)).setCell (p := ⟨ob, i * 3, none⟩) (by show w.heap.size ≤ ob; omega) (.slice A2 d.ins.length cp2)).setCell (p := ⟨ob, i * 3 + 1, none⟩) (by show w.heap.size ≤ ob; omega) (.int .i64 d.high)).setCell (p := ⟨ob, i * 3 + 2, none⟩) (by show w.heap.size ≤ ob; omega) (.int .i64 20001)
            have B5 := (((B0.below hbz B0.lt).far (p := ⟨ob, i * 3, none⟩) (by show w.heap.size ≠ ob; omega) (.slice A2 d.ins.length cp2)).far (p := ⟨ob, i * 3 + 1, none⟩) (by show w.heap.size ≠ ob; omega) (.int .i64 d.high)).far (p := ⟨ob, i * 3 + 2, none⟩) (by show w.heap.size ≠ ob; omega) (.int .i64 20001)
            go_upto_region 16 with fail
            obtain ⟨w9, hw9⟩ : ∃ W, W = (((w2.setCell ⟨wr.heap.size, 4, none⟩ (.int .i64 20001)).setCell ⟨ob, i * 3, none⟩ (.slice A2 d.ins.length cp2)).setCell ⟨ob, i * 3 + 1, none⟩ (.int .i64 d.high)).setCell ⟨ob, i * 3 + 2, none⟩ (.int .i64 20001) := ⟨_, rfl⟩
            rw [← hw9] at hO5 ho5 hb5 B5 ⊢
            replace hP := Lib.hid hP
            replace hO5 := Lib.hid hO5
            replace ho5 := Lib.hid ho5
            clear hw9 m2 m3 m4 f4 n0 n1 n2 fz0 fz1 fz2 hput hkc
            go_wp2_with fail
            go_roundg (o.length - (j + 1))
            case measure => rw [hq.out]; omega
            case rel => exact ⟨j + 1, ((i : Nat) : Int), _, by omega, rfl, by go_num, rfl, hP, hO5, ho5, hb5, B5⟩
          · have hbz := hbx.setCell (p := ⟨wr.heap.size, 4, none⟩) (Nat.le_refl _) (.int .i64 20001)
            have hO5 := (hO2.out.below hbz).put hil (c := ⟨d.ins, d.high, 20001⟩) (v := .slice A2 d.ins.length cp2) hrz.out
            have hP := hput.out bad (by rw [if_pos hm, if_neg (by omega)])
            rw [hkc] at hP
            have ho5 := own_far (own_far (own_far (own_keep ho2.out hbz (Nat.le_refl _)) (p := ⟨ob, i * 3, none⟩) (by show ob < ob + 1; omega) (.slice A2 d.ins.length cp2)) (p := ⟨ob, i * 3 + 1, none⟩) (by show ob < ob + 1; omega) (.int .i64 d.high)) (p := ⟨ob, i * 3 + 2, none⟩) (by show ob < ob + 1; omega) (.int .i64 20001)
            have hb5 := (((hbr.trans (hbz.mono hbr.size)).setCell (p := ⟨ob, i * 3, none⟩) (by show w.heap.size ≤ ob; omega) (.slice A2 d.ins.length cp2)).setCell (p := ⟨ob, i * 3 + 1, none⟩) (by show w.heap.size ≤ ob; omega) (.int .i64 d.high)).setCell (p := ⟨ob, i * 3 + 2, none⟩) (by show w.heap.size ≤ ob; omega) (.int .i64 20001)
            have B5 := (((B0.below hbz B0.lt).far (p := ⟨ob, i * 3, none⟩) (by show w.heap.size ≠ ob; omega) (.slice A2 d.ins.length cp2)).far (p := ⟨ob, i * 3 + 1, none⟩) (by show w.heap.size ≠ ob; omega) (.int .i64 d.high)).far (p := ⟨ob, i * 3 + 2, none⟩) (by show w.heap.size ≠ ob; omega) (.int .i64 20001)
            go_upto_region 16 with fail
            obtain ⟨w9, hw9⟩ : ∃ W, W = (((w2.setCell ⟨wr.heap.size, 4, none⟩ (.int .i64 20001)).setCell ⟨ob, i * 3, none⟩ (.slice A2 d.ins.length cp2)).setCell ⟨ob, i * 3 + 1, none⟩ (.int .i64 d.high)).setCell ⟨ob, i * 3 + 2, none⟩ (.int .i64 20001) := ⟨_, rfl⟩
            rw [← hw9] at hO5 ho5 hb5 B5 ⊢
            replace hP := Lib.hid hP
            replace hO5 := Lib.hid hO5
            replace ho5 := Lib.hid ho5
            clear hw9 m2 m3 m4 f4 n0 n1 n2 fz0 fz1 fz2 hput hkc
            go_wp2_with fail
            go_roundg (o.length - (j + 1))
            case measure => rw [hq.out]; omega
            case rel => exact ⟨j + 1, bad, _, by omega, rfl, by go_num, rfl, hP, hO5, ho5, hb5, B5⟩
      · rcases dec (20000 < d.steps) with ⟨g2, h2⟩ | ⟨g2, h2⟩
        · have hm : muchC d = true := by unfold muchC; simp [h2]
          have hkc : C i = ⟨d.ins, d.high, 20001⟩ := by rw [hCi.out]; unfold keepC; rw [if_pos hm]
          rcases dec (bad < 0) with ⟨g4, h4⟩ | ⟨g4, h4⟩
          · have hbz := hbx.setCell (p := ⟨wr.heap.size, 4, none⟩) (Nat.le_refl _) (.int .i64 20001)
            have hO5 := (hO2.out.below hbz).put hil (c := ⟨d.ins, d.high, 20001⟩) (v := .slice A2 d.ins.length cp2) hrz.out
            have hP := hput.out ((i : Nat) : Int) (by rw [if_pos hm, if_pos (.inl h4)])
            rw [hkc] at hP
            have ho5 := own_far (own_far (own_far (own_keep ho2.out hbz (Nat.le_refl _)) (p := ⟨ob, i * 3, none⟩) (by show ob < ob + 1; omega) (.slice A2 d.ins.length cp2)) (p := ⟨ob, i * 3 + 1, none⟩) (by show ob < ob + 1; omega) (.int .i64 d.high)) (p := ⟨ob, i * 3 + 2, none⟩) (by show ob < ob + 1; omega) (.int .i64 20001)
            have hb5 := (((hbr.trans (hbz.mono hbr.size)).setCell (p := ⟨ob, i * 3, none⟩) (by show w.heap.size ≤ ob; omega) (.slice A2 d.ins.length cp2)).setCell (p := ⟨ob, i * 3 + 1, none⟩) (by show w.heap.size ≤ ob; omega) (.int .i64 d.high)).setCell (p := ⟨ob, i * 3 + 2, none⟩) (by show w.heap.size ≤ ob; omega) (.int .i64 20001)
            have B5 := (((B0.below hbz B0.lt).far (p := ⟨ob, i * 3, none⟩) (by show w.heap.size ≠ ob; omega) (.slice A2 d.ins.length cp2)).far (p := ⟨ob, i * 3 + 1, none⟩) (by show w.heap.size ≠ ob; omega) (.int .i64 d.high)).far (p := ⟨ob, i * 3 + 2, none⟩) (by show w.heap.size ≠ ob; omega) (.int .i64 20001)
            go_upto_region 16 with fail
            obtain ⟨w9, hw9⟩ : ∃ W, W = (((w2.setCell ⟨wr.heap.size, 4, none⟩ (.int .i64 20001)).setCell ⟨ob, i * 3, none⟩ (.slice A2 d.ins.length cp2)).setCell ⟨ob, i * 3 + 1, none⟩ (.int .i64 d.high)).setCell ⟨ob, i * 3 + 2, none⟩ (.int .i64 20001) := ⟨_, rfl⟩
            rw [← hw9] at hO5 ho5 hb5 B5 ⊢
            replace hP := Lib.hid hP
            replace hO5 := Lib.hid hO5
            replace ho5 := Lib.hid ho5
            clear hw9 m2 m3 m4 f4 n0 n1 n2 fz0 fz1 fz2 hput hkc
            go_wp2_with fail
            go_roundg (o.length - (j + 1))
            case measure => rw [hq.out]; omega
            case rel => exact ⟨j + 1, ((i : Nat) : Int), _, by omega, rfl, by go_num, rfl, hP, hO5, ho5, hb5, B5⟩
          · rcases dec ((i : Int) < bad) with ⟨g6, h6⟩ | ⟨g6, h6⟩
            · have hbz := hbx.setCell (p := ⟨wr.heap.size, 4, none⟩) (Nat.le_refl _) (.int .i64 20001)
              have hO5 := (hO2.out.below hbz).put hil (c := ⟨d.ins, d.high, 20001⟩) (v := .slice A2 d.ins.length cp2) hrz.out
              have hP := hput.out ((i : Nat) : Int) (by rw [if_pos hm, if_pos (.inr h6)])
              rw [hkc] at hP
              have ho5 := own_far (own_far (own_far (own_keep ho2.out hbz (Nat.le_refl _)) (p := ⟨ob, i * 3, none⟩) (by show ob < ob + 1; omega) (.slice A2 d.ins.length cp2)) (p := ⟨ob, i * 3 + 1, none⟩) (by show ob < ob + 1; omega) (.int .i64 d.high)) (p := ⟨ob, i * 3 + 2, none⟩) (by show ob < ob + 1; omega) (.int .i64 20001)
              have hb5 := (((hbr.trans (hbz.mono hbr.size)).setCell (p := ⟨ob, i * 3, none⟩) (by show w.heap.size ≤ ob; omega) (.slice A2 d.ins.length cp2)).setCell (p := ⟨ob, i * 3 + 1, none⟩) (by show w.heap.size ≤ ob; omega) (.int .i64 d.high)).setCell (p := ⟨ob, i * 3 + 2, none⟩) (by show w.heap.size ≤ ob; omega) (.int .i64 20001)
              have B5 := (((B0.below hbz B0.lt).far (p := ⟨ob, i * 3, none⟩) (by show w.heap.size ≠ ob; omega) (.slice A2 d.ins.length cp2)).far (p := ⟨ob, i * 3 + 1, none⟩) (by show w.heap.size ≠ ob; omega) (.int .i64 d.high)).far (p := ⟨ob, i * 3 + 2, none⟩) (by show w.heap.size ≠ ob; omega) (.int .i64 20001)
              go_upto_region 16 with fail
              obtain ⟨w9, hw9⟩ : ∃ W, W = (((w2.setCell ⟨wr.heap.size, 4, none⟩ (.int .i64 20001)).setCell ⟨ob, i * 3, none⟩ (.slice A2 d.ins.length cp2)).setCell ⟨ob, i * 3 + 1, none⟩ (.int .i64 d.high)).setCell ⟨ob, i * 3 + 2, none⟩ (.int .i64 20001) := ⟨_, rfl⟩
              rw [← hw9] at hO5 ho5 hb5 B5 ⊢
              replace hP := Lib.hid hP
              replace hO5 := Lib.hid hO5
              replace ho5 := Lib.hid ho5
              clear hw9 m2 m3 m4 f4 n0 n1 n2 fz0 fz1 fz2 hput hkc
              go_wp2_with fail
              go_roundg (o.length - (j + 1))
              case measure => rw [hq.out]; omega
              case rel => exact ⟨j + 1, ((i : Nat) : Int), _, by omega, rfl, by go_num, rfl, hP, hO5, ho5, hb5, B5⟩
            · have hbz := hbx.setCell (p := ⟨wr.heap.size, 4, none⟩) (Nat.le_refl _) (.int .i64 20001)
              have hO5 := (hO2.out.below hbz).put hil (c := ⟨d.ins, d.high, 20001⟩) (v := .slice A2 d.ins.length cp2) hrz.out
              have hP := hput.out bad (by rw [if_pos hm, if_neg (by omega)])
              rw [hkc] at hP
              have ho5 := own_far (own_far (own_far (own_keep ho2.out hbz (Nat.le_refl _)) (p := ⟨ob, i * 3, none⟩) (by show ob < ob + 1; omega) (.slice A2 d.ins.length cp2)) (p := ⟨ob, i * 3 + 1, none⟩) (by show ob < ob + 1; omega) (.int .i64 d.high)) (p := ⟨ob, i * 3 + 2, none⟩) (by show ob < ob + 1; omega) (.int .i64 20001)
              have hb5 := (((hbr.trans (hbz.mono hbr.size)).setCell (p := ⟨ob, i * 3, none⟩) (by show w.heap.size ≤ ob; omega) (.slice A2 d.ins.length cp2)).setCell (p := ⟨ob, i * 3 + 1, none⟩) (by show w.heap.size ≤ ob; omega) (.int .i64 d.high)).setCell (p := ⟨ob, i * 3 + 2, none⟩) (by show w.heap.size ≤ ob; omega) (.int .i64 20001)
              have B5 := (((B0.below hbz B0.lt).far (p := ⟨ob, i * 3, none⟩) (by show w.heap.size ≠ ob; omega) (.slice A2 d.ins.length cp2)).far (p := ⟨ob, i * 3 + 1, none⟩) (by show w.heap.size ≠ ob; omega) (.int .i64 d.high)).far (p := ⟨ob, i * 3 + 2, none⟩) (by show w.heap.size ≠ ob; omega) (.int .i64 20001)
              go_upto_region 16 with fail
              obtain ⟨w9, hw9⟩ : ∃ W, W = (((w2.setCell ⟨wr.heap.size, 4, none⟩ (.int .i64 20001)).setCell ⟨ob, i * 3, none⟩ (.slice A2 d.ins.length cp2)).setCell ⟨ob, i * 3 + 1, none⟩ (.int .i64 d.high)).setCell ⟨ob, i * 3 + 2, none⟩ (.int .i64 20001) := ⟨_, rfl⟩
              rw [← hw9] at hO5 ho5 hb5 B5 ⊢
              replace hP := Lib.hid hP
              replace hO5 := Lib.hid hO5
              replace ho5 := Lib.hid ho5
              clear hw9 m2 m3 m4 f4 n0 n1 n2 fz0 fz1 fz2 hput hkc
              go_wp2_with fail
              go_roundg (o.length - (j + 1))
              case measure => rw [hq.out]; omega
              case rel => exact ⟨j + 1, bad, _, by omega, rfl, by go_num, rfl, hP, hO5, ho5, hb5, B5⟩
        · have hm : muchC d = false := by unfold muchC; simp [h1, h2, h3]
          have hkc : C i = d := by rw [hCi.out, (keep_high d).2.2 hm]
          have hO5 := hO4.out.put hil hrlow.out
          have hP := hput.out bad (by rw [if_neg (by rw [hm]; decide)])
          rw [hkc] at hP
          have ho5 := own_far (own_far (own_far (ho4.out) (p := ⟨ob, i * 3, none⟩) (by show ob < ob + 1; omega) (.slice A2 d.ins.length cp2)) (p := ⟨ob, i * 3 + 1, none⟩) (by show ob < ob + 1; omega) (.int .i64 d.high)) (p := ⟨ob, i * 3 + 2, none⟩) (by show ob < ob + 1; omega) (.int .i64 d.steps)
          have hb5 := (((hb4).setCell (p := ⟨ob, i * 3, none⟩) (by show w.heap.size ≤ ob; omega) (.slice A2 d.ins.length cp2)).setCell (p := ⟨ob, i * 3 + 1, none⟩) (by show w.heap.size ≤ ob; omega) (.int .i64 d.high)).setCell (p := ⟨ob, i * 3 + 2, none⟩) (by show w.heap.size ≤ ob; omega) (.int .i64 d.steps)
          have B5 := (((B4).far (p := ⟨ob, i * 3, none⟩) (by show w.heap.size ≠ ob; omega) (.slice A2 d.ins.length cp2)).far (p := ⟨ob, i * 3 + 1, none⟩) (by show w.heap.size ≠ ob; omega) (.int .i64 d.high)).far (p := ⟨ob, i * 3 + 2, none⟩) (by show w.heap.size ≠ ob; omega) (.int .i64 d.steps)
          go_upto_region 16 with fail
          obtain ⟨w9, hw9⟩ : ∃ W, W = ((w2.setCell ⟨ob, i * 3, none⟩ (.slice A2 d.ins.length cp2)).setCell ⟨ob, i * 3 + 1, none⟩ (.int .i64 d.high)).setCell ⟨ob, i * 3 + 2, none⟩ (.int .i64 d.steps) := ⟨_, rfl⟩
          rw [← hw9] at hO5 ho5 hb5 B5 ⊢
          replace hP := Lib.hid hP
          replace hO5 := Lib.hid hO5
          replace ho5 := Lib.hid ho5
          clear hw9 m2 m3 m4 f4 n0 n1 n2 fz0 fz1 fz2 hput hkc
          go_wp2_with fail
          go_roundg (o.length - (j + 1))
          case measure => rw [hq.out]; omega
          case rel => exact ⟨j + 1, bad, _, by omega, rfl, by go_num, rfl, hP, hO5, ho5, hb5, B5⟩
    · obtain rfl : j = o.length := by omega
      obtain ⟨hall, hcase⟩ := hJ.out.done hO.out hol.out
      have hcl : codesL l out = codesL l C := codesL_congr hall
      have hOZ := Lib.hid (fun (a b : Value) => (hO2.out.off (p := ⟨w.heap.size, 0, none⟩) hobl a).off (p := ⟨w.heap.size, 1, none⟩) hobl b)
      have s0 : wr.cell? ⟨w.heap.size, 0, none⟩ = some (.int .i64 0) := B.cell 0
      have s1 : wr.cell? ⟨w.heap.size, 1, none⟩ = some (.int .i64 0) := B.cell 1
      have t0 := B.frozen 0
      have t1 := B.frozen 1
      have zlt := B.lt
      replace hcl := Lib.hid hcl
      replace hall := trivial
      replace hrun := trivial
      rcases hcase with ⟨rfl, hcr⟩ | ⟨b, rfl, hcr⟩
      · replace hcr := Lib.hid hcr
        go_wp2_with fail
        refine bodyPost_ret (v := .tuple #[.slice (some ⟨ob, 0, none⟩) l.length l.length, .agg #[.int .i64 0, .int .i64 0]]) (by simp [results, Tryd.results7, s0, s1, go_sem]) rfl ⟨_, by rw [hcr.out], ?_, ?_⟩
        · rw [hcr.out]
          have := (hOZ.out (.int .i64 0) (.int .i64 0)).codes (by omega)
          rw [hcl.out] at this
          exact this
        · exact (hbr.setCell (p := ⟨w.heap.size, 0, none⟩) (Nat.le_refl _) _).setCell (p := ⟨w.heap.size, 1, none⟩) (Nat.le_refl _) _
      · replace hcr := Lib.hid hcr
        go_wp2_with fail
        refine bodyPost_ret (v := .tuple #[.slice none 0 0, .agg #[.int .i64 4, .int .i64 (b : Nat)]]) (by simp [results, Tryd.results7, s0, s1, go_sem]) rfl ⟨_, by rw [hcr.out], by rw [hcr.out]; exact CodesV.nil _ _, ?_⟩
        exact (hbr.setCell (p := ⟨w.heap.size, 0, none⟩) (Nat.le_refl _) _).setCell (p := ⟨w.heap.size, 1, none⟩) (Nat.le_refl _) _

theorem Compile_any {spf : (Nat → Bool) → List (Int × Int)} (hsp : ∀ p, IsSpans (has (setW p)) (spf p)) {C : Nat → Vm.Code} (v : Value) (l : List Rule) (w : World) (hr : RulesV w w.heap.size v l) (hT : Tab w) (hCo : (wrongR l).1 = 0 → CodesR spf l C) : Calls Tryd.prog 7 #[v] w (CompPost spf l C w) := by
  by_cases h : (wrongR l).1 = 0
  · exact Compile_right hsp v l w hr hT h (hCo h)
  · exact Compile_wrong v l w hr h
/-- of any rules: their code -/
theorem comp_exists (l : List Rule) : ∃ (spf : (Nat → Bool) → List (Int × Int)) (C : Nat → Vm.Code), (∀ p, IsSpans (has (setW p)) (spf p)) ∧ ((wrongR l).1 = 0 → CodesR spf l C) := by
  obtain ⟨spf, hsp⟩ := spans_fun
  by_cases h : (wrongR l).1 = 0
  · obtain ⟨C, hC⟩ := codes_exist spf (right_of h)
    exact ⟨spf, C, hsp, fun _ => hC⟩
  · exact ⟨spf, fun _ => ⟨[], 0, 0⟩, hsp, fun h2 => absurd h2 h⟩

/-- compiling fails, or all fits -/
theorem comp_two {spf : (Nat → Bool) → List (Int × Int)} {l : List Rule} {C : Nat → Vm.Code} : ((compF spf l C).1 = [] ∧ (compF spf l C).2.1 ≠ 0 ∧ ((compF spf l C).2.1 = 4 ∧ (wrongR l).1 = 0 ∨ compF spf l C = ([], wrongR l) ∧ (wrongR l).1 ≠ 0)) ∨ ((wrongR l).1 = 0 ∧ Fits spf l C ∧ compF spf l C = (codesL l C, 0, 0)) := by
  by_cases h : (wrongR l).1 = 0
  · have hF : compF spf l C = compR spf l C := if_pos h
    rw [hF]
    rcases comp_cases (spf := spf) (l := l) (C := C) with ⟨i, _, _, _, hc⟩ | ⟨hf, hc⟩
    · left
      rw [hc]
      exact ⟨rfl, by show (4 : Int) ≠ 0; decide, .inl ⟨rfl, h⟩⟩
    · right
      exact ⟨h, hf, hc⟩
  · left
    have hF : compF spf l C = ([], wrongR l) := if_neg h
    rw [hF]
    exact ⟨rfl, h, .inr ⟨rfl, h⟩⟩

end Ru
end Go.Proofs.YtbadplbdgpbdaaaDoor
