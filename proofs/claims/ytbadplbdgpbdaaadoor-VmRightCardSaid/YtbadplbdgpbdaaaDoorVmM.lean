/- The machine's stack: push, pop, two. -/
import Derived.Test.YtbadplbdgpbdaaaDoorVmW
import Derived.Test.YtbadplbdgpbdaaaDoorApp
import Derived.Test.YtbadplbdgpbdaaaDoorLate
import Derived.Deep.RegionLaw
import Derived.Deep.AppendLies
import Derived.WalkSmall
namespace Go.Proofs.YtbadplbdgpbdaaaDoor
open Go.RowKit
namespace Vm
open Msk Sl

theorem el_mask : El Tryd.prog 33 38 23 184 := El.mk' Tryd.underlying33 (by kernel_rfl) (by omega)

/-- cells laid into a row one by one -/
theorem lay_list : ∀ (xs : List Value) (s : Nat) (cs : Array Value) (j : Nat), ((xs.zipIdx s).foldl (fun (cs : Array Value) (x : Value × Nat) => cs.setIfInBounds x.snd x.fst) cs)[j]? =
    if s ≤ j ∧ j < s + xs.length ∧ j < cs.size then xs[j - s]? else cs[j]?
  | [], s, cs, j => by simp; intro h1 h2; omega
  | x :: xs, s, cs, j => by
    rw [List.zipIdx_cons, List.foldl_cons, lay_list xs (s + 1)]
    simp only [Array.size_setIfInBounds, Array.getElem?_setIfInBounds, List.length_cons]
    by_cases h1 : s = j
    · subst h1
      rw [if_neg (by omega), if_pos rfl]
      by_cases h2 : s < cs.size
      · rw [if_pos h2, if_pos ⟨by omega, by omega, h2⟩]; simp
      · rw [if_neg h2, if_neg (by omega), Array.getElem?_eq_none (by omega)]
    · rw [if_neg h1]
      by_cases h2 : s + 1 ≤ j ∧ j < s + 1 + xs.length ∧ j < cs.size
      · rw [if_pos h2, if_pos ⟨by omega, by omega, h2.2.2⟩, show j - s = (j - (s + 1)) + 1 by omega]; simp
      · rw [if_neg h2, if_neg (by omega)]
@[go_sem] theorem lay_mask (f : Nat → Nat) (z : Array Value) (hz : z.size = 23) : Array.foldl (fun (cs : Array Value) (x : Value × Nat) => cs.setIfInBounds x.snd x.fst) z (maskA f).zipIdx 0 23 = maskA f := by
  have e : Array.foldl (fun (cs : Array Value) (x : Value × Nat) => cs.setIfInBounds x.snd x.fst) z (maskA f).zipIdx 0 23 = ((maskA f).toList.zipIdx 0).foldl (fun (cs : Array Value) (x : Value × Nat) => cs.setIfInBounds x.snd x.fst) z := by
    have := Array.foldl_toList (f := fun (cs : Array Value) (x : Value × Nat) => cs.setIfInBounds x.snd x.fst) (init := z) (xs := (maskA f).zipIdx)
    rw [Array.toList_zipIdx, Array.size_zipIdx, maskA_size] at this
    exact this.symm
  rw [e]
  apply Array.ext_getElem?
  intro j
  rw [lay_list]
  have hs := maskA_size f
  by_cases h : j < 23
  · rw [if_pos ⟨by omega, by simp [hs]; omega, by omega⟩]; simp
  · rw [if_neg (by simp [hs]; omega), Array.getElem?_eq_none (by omega), Array.getElem?_eq_none (by omega)]

@[go_sem] theorem cell_setRow_far (w : World) (g : Nat) (cs : Array Value) (c q : Nat) : (w.setRow g cs).cell? ⟨c, q, none⟩ = if g = c then cellNew (w.setRow g cs) ⟨c, q, none⟩ else w.cell? ⟨c, q, none⟩ := by
  split
  · rfl
  · rename_i h
    exact World.cell?_of_block (setRow_other w g c cs (Ne.symm h))
@[go_sem] theorem frozen_setRow_far (w : World) (g : Nat) (cs : Array Value) (c q : Nat) : (w.setRow g cs).frozen? ⟨c, q, none⟩ = if g = c then frozenNew (w.setRow g cs) ⟨c, q, none⟩ else w.frozen? ⟨c, q, none⟩ := by
  split
  · rfl
  · rename_i h
    exact World.frozen?_of_block (setRow_other w g c cs (Ne.symm h))
theorem grown_cellsAt {w w' : World} {row : Option Nat} {g o n : Nat} (hg : w.grownBy w' row) (hne : some g ≠ row) (hlt : g < w.heap.size) : cellsAt w' g o n = cellsAt w g o n :=
  cellsAt_congr fun _ _ => World.cell?_of_block (hg.block g hlt hne)
theorem blk_grown {w w' : World} {row : Option Nat} {g : Nat} {t : TypeId} {cs : Array Value} (h : Blk w g t cs) (hg : w.grownBy w' row) (hne : some g ≠ row) : Blk w' g t cs := (hg.block g h.lt hne).trans h
/-- an own row behind a change of blocks behind it -/
theorem own_low {w w' : World} {base e s n B : Nat} {v : Value} {xs : List Value} (h : w.ownsRow base e s v n xs) (hb : Below B w w') (hv : ∀ g, v.ownBlock = some g → g < B) : w'.ownsRow base e s v n xs := by
  refine ⟨h.1, ?_⟩
  rcases h.2 with h0 | ⟨g, cap, cur, h1, h2, h3, h4⟩
  · exact .inl h0
  · refine .inr ⟨g, cap, cur, h1, h2, ?_, h4⟩
    rw [hb.block g (hv g (by rw [h1]; rfl))]
    exact h3

def maskL (p : Nat → Bool) : List Value := (setA p).toList
theorem maskL_len (p : Nat → Bool) : (maskL p).length = 23 := by unfold maskL; rw [Array.length_toList]; exact maskA_size _
theorem maskLs_len (S : List (Nat → Bool)) : (S.flatMap maskL).length = S.length * 23 := by
  induction S with
  | nil => rfl
  | cons p S ih => rw [List.flatMap_cons, List.length_append, ih, maskL_len, List.length_cons]; omega

/-- the machine at block gm: its code, its day, its stack (its top last), its steps -/
def Mach (w : World) (gm : Nat) (codeV : Value) (day : Int) (S : List (Nat → Bool)) (n : Nat) : Prop :=
  ∃ v, Blk w gm 85 #[codeV, .int .i64 day, v, .int .i64 n] ∧ w.ownsRow (gm + 1) 38 23 v S.length (S.flatMap maskL)
theorem Mach.lt {w : World} {gm : Nat} {codeV : Value} {day : Int} {S : List (Nat → Bool)} {n : Nat} (h : Mach w gm codeV day S n) : gm < w.heap.size := by
  obtain ⟨v, h, _⟩ := h
  exact h.lt
theorem Mach.below {w w' : World} {gm : Nat} {codeV : Value} {day : Int} {S : List (Nat → Bool)} {n B : Nat} (h : Mach w gm codeV day S n) (hb : Below B w w') (hB : w.heap.size ≤ B) : Mach w' gm codeV day S n := by
  have hlt := h.lt
  obtain ⟨v, h1, h2⟩ := h
  exact ⟨v, h1.below hb (by omega), own_keep h2 hb hB⟩

/-- a mask that lies in a block of its own is appended, in a region that draws its order -/
theorem step_push {W : World} {ops : Array Oper} {o : Oper} {a : Act} {K : Act → World → Prop} {Q : Exit → Act → World → Prop} {E : Prop} {base g : Nat} {v : Value} {S : List (Nat → Bool)} {p : Nat → Bool} (hown : W.ownsRow base 38 23 v S.length (S.flatMap maskL)) (hB : Blk W g 38 (setA p))
    (hS : S.length < 1000000) (hbase : base ≤ W.heap.size) (hgd : o.guard = none) (so xo : Operand) (ho : o.op = .call { callee := .builtin .append, args := #[so, xo], argTypes := #[33, 33] })
    (hs : a.eval so = v) (hx : a.eval xo = .slice (some ⟨g, 0, none⟩) 1 1)
    (h : ∀ k c w', w'.ownsRow base 38 23 (.slice (some ⟨k, 0, none⟩) (S.length + 1) c) (S ++ [p]).length ((S ++ [p]).flatMap maskL) → W.grownBy w' v.ownBlock → K (a.put o.dst (.slice (some ⟨k, 0, none⟩) (S.length + 1) c)) w') :
    if Region.wanted o (yielded ops a.tmps) = true then Oper.wp Tryd.prog o a W K Q else E := by
  obtain ⟨i, z, hi, hz, hsi, hby, hzs⟩ := el_mask.inf
  refine step_append_lies _ hgd so xo 33 ho base 38 i z 23 184 el_mask.sl hi hz hsi hby hzs (by decide) v S.length _ hs hown ⟨g, 0, none⟩ 1 1 (maskL p) hx (by rw [maskL_len]) (fun j u hu => ?_) (one_cell (setW p)) (by decide) (by simp only [maxLen]; omega) (by omega) hbase W.heap.size rfl ?_
  · have := hB.cell j
    rw [Addr.add_lit, Nat.zero_add, this]
    simpa [maskL] using hu
  · intro k c w' h2 h3 _ _
    refine h k c w' ?_ h3
    have e : (S ++ [p]).flatMap maskL = S.flatMap maskL ++ maskL p := by simp
    rw [e, List.length_append, List.length_singleton]
    exact h2

set_option maxRecDepth 100000 in
set_option maxHeartbeats 4000000 in
theorem push_any (p : Nat → Bool) (w : World) (gm : Nat) (codeV : Value) (day : Int) (S : List (Nat → Bool)) (n : Nat) (h : Mach w gm codeV day S n) (hS : S.length < 1000000) :
    Calls Tryd.prog 62 #[.pointer (some ⟨gm, 0, none⟩), .agg (setA p)] w fun e w' => e = .returned (.tuple #[]) ∧ Mach w' gm codeV day (S ++ [p]) n ∧ Below gm w w' := by
  have hlt := h.lt
  obtain ⟨v, hB, ho⟩ := h
  obtain ⟨A, cap, rfl⟩ := own_slice ho
  have k2 : w.cell? ⟨gm, 2, none⟩ = some (.slice A S.length cap) := hB.cell 2
  have hag : some gm ≠ (Value.slice A S.length cap).ownBlock := fun e => by have := ho.lt _ e.symm; omega
  have hown2 : (((w.alloc (.cells (setA p) 38)).alloc (.cells (maskA (setW p)) 38)).drew).ownsRow (gm + 1) 38 23 (.slice A S.length cap) S.length (S.flatMap maskL) := ((ho.alloc _).alloc _).drew
  have hB2 : Blk (((w.alloc (.cells (setA p) 38)).alloc (.cells (maskA (setW p)) 38)).drew) (w.heap.size + 1) 38 (setA p) := by
    have := Blk.new (w.alloc (.cells (setA p) 38)) 38 (setA p)
    rw [World.size_alloc] at this
    exact this
  have hM2 : Blk (((w.alloc (.cells (setA p) 38)).alloc (.cells (maskA (setW p)) 38)).drew) gm 85 #[codeV, .int .i64 day, .slice A S.length cap, .int .i64 n] := (hB.alloc _).alloc _
  have hsz : gm + 1 ≤ (((w.alloc (.cells (setA p) 38)).alloc (.cells (maskA (setW p)) 38)).drew).heap.size := by simp; omega
  have hbw : Below w.heap.size w (((w.alloc (.cells (setA p) 38)).alloc (.cells (maskA (setW p)) 38)).drew) := (by repeat (first | exact Below.refl _ _ | assumption | refine Below.n _ ?_ (by first | omega | (simp; done) | (simp; omega)) | refine Below.alloc ?_ (by first | omega | (simp; done) | (simp; omega)) _ | refine Below.setCell ?_ (by first | omega | (simp; done) | (simp; omega)) _ | refine Below.drew ?_ | refine Below.setRow ?_ (by first | omega | (simp; done) | (simp; omega)) _ | refine Below.drewN ?_ _))
  replace ho := Lib.hid ho
  replace hown2 := Lib.hid hown2
  replace hS := Lib.hid hS
  go_enter Tryd.func62, Tryd.ntmps62
  go_wp2
  go_region_law ((refine step_push hown2.out hB2 hS.out hsz (by rfl) _ _ (by rfl) (by rfl) (by rfl) ?_; intro gg cap5 w5 hown5 hgrow; have B6 := blk_grown hM2 hgrow hag; have k6 : w5.frozen? ⟨gm, 2, none⟩ = false := B6.frozen 2; have k7 : w5.cell? ⟨gm, 2, none⟩ = some (.slice A S.length cap) := B6.cell 2; have hb5 := own_below hsz hown2.out hgrow; replace hgrow := Lib.hid hgrow; replace hown5 := Lib.hid hown5))
  all_goals
    have hb9 : Below gm w w5 := (hbw.mono (Nat.le_of_lt hlt)).trans (hb5.mono (Nat.le_succ gm))
    go_end0
    exact ⟨rfl, ⟨.slice (some ⟨gg, 0, none⟩) (S.length + 1) cap5, B6.set 2 (.slice (some ⟨gg, 0, none⟩) (S.length + 1) cap5), own_far hown5.out (by simp) _⟩, hb9.setCell (p := ⟨gm, 2, none⟩) (Nat.le_refl _) _⟩

set_option maxHeartbeats 2000000 in
theorem pop_any (p : Nat → Bool) (w : World) (gm : Nat) (codeV : Value) (day : Int) (S : List (Nat → Bool)) (n : Nat) (h : Mach w gm codeV day (S ++ [p]) n) :
    Calls Tryd.prog 31 #[.pointer (some ⟨gm, 0, none⟩)] w fun e w' => e = .returned (.agg (setA p)) ∧ Mach w' gm codeV day S n ∧ Below gm w w' := by
  have hlt := h.lt
  obtain ⟨v, hB, ho⟩ := h
  have hl : (S ++ [p]).length = S.length + 1 := by simp
  rw [hl] at ho
  rw [List.flatMap_append] at ho
  obtain ⟨A, cap, rfl⟩ := own_slice ho
  have hz : ∃ g, A = some ⟨g, 0, none⟩ := by
    rcases ho.2 with ⟨_, h0⟩ | ⟨g, _, _, e, _⟩
    · omega
    · cases e; exact ⟨g, rfl⟩
  obtain ⟨g, rfl⟩ := hz
  have hgl := ho.lt g rfl
  have hcap : S.length + 1 ≤ cap ∧ cap ≤ 9223372036854775807 := by
    rcases ho.2 with ⟨e, _⟩ | ⟨_, _, _, e, _, _, h1, h2, _⟩
    · cases e
    · cases e; exact ⟨h1, h2⟩
  obtain ⟨hc1, hc2⟩ := hcap
  have k2 : w.cell? ⟨gm, 2, none⟩ = some (.slice (some ⟨g, 0, none⟩) (S.length + 1) cap) := hB.cell 2
  have t2 : w.frozen? ⟨gm, 2, none⟩ = false := hB.frozen 2
  have hx : cellsAt w g (S.length * 23) 23 = some (setA p) := by
    refine cellsAt_some.2 ⟨maskA_size _, fun i hi => ?_⟩
    rw [ho.cellAt _ (by omega), List.getElem?_append_right (by rw [maskLs_len]; omega), maskLs_len, Nat.add_sub_cancel_left]
    simp [maskL]
  have hpop := Lib.hid (ownsRow_pop (maskLs_len S) ho)
  clear ho
  obtain ⟨hg1, hg2⟩ := hgl
  go_enter Tryd.func31, Tryd.ntmps31
  go_wp2
  have hB0 := Blk.new w 38 (maskA fun _ => 0)
  have hB1 := hB0.alloc (.cells (maskA fun _ => 0) 38)
  have hB2 := ((hB1.farRow (k := w.heap.size + 1) (by omega) (setA p)).far (p := ⟨gm, 2, none⟩) (by simp; omega) (.slice (some ⟨g, 0, none⟩) S.length cap)).setRow (setA p)
  have k3 := blk_cells hB2
  have hM := (((hB.alloc (.cells (maskA fun _ => 0) 38)).alloc (.cells (maskA fun _ => 0) 38)).farRow (k := w.heap.size + 1) (by omega) (setA p)).set 2 (.slice (some ⟨g, 0, none⟩) S.length cap)
  have hM2 := hM.farRow (k := w.heap.size) (by omega) (setA p)
  have o1 := own_low (B := w.heap.size) hpop.out (show Below w.heap.size w (((w.alloc (.cells (maskA fun _ => 0) 38)).alloc (.cells (maskA fun _ => 0) 38)).setRow (w.heap.size + 1) (setA p)) from (by repeat (first | exact Below.refl _ _ | assumption | refine Below.n _ ?_ (by first | omega | (simp; done) | (simp; omega)) | refine Below.alloc ?_ (by first | omega | (simp; done) | (simp; omega)) _ | refine Below.setCell ?_ (by first | omega | (simp; done) | (simp; omega)) _ | refine Below.drew ?_ | refine Below.setRow ?_ (by first | omega | (simp; done) | (simp; omega)) _ | refine Below.drewN ?_ _))) (fun k hk => by cases hk; exact hg2)
  have o2 := own_far o1 (p := ⟨gm, 2, none⟩) (by simp) (.slice (some ⟨g, 0, none⟩) S.length cap)
  have o3 := own_low (B := w.heap.size) o2 (Below.setRow (Below.refl _ _) (Nat.le_refl _) (setA p)) (fun k hk => by cases hk; exact hg2)
  refine bodyPost_ret (v := .agg (setA p)) ?_ rfl ⟨rfl, ⟨_, hM2, o3⟩, (by repeat (first | exact Below.refl _ _ | assumption | refine Below.n _ ?_ (by first | omega | (simp; done) | (simp; omega)) | refine Below.alloc ?_ (by first | omega | (simp; done) | (simp; omega)) _ | refine Below.setCell ?_ (by first | omega | (simp; done) | (simp; omega)) _ | refine Below.drew ?_ | refine Below.setRow ?_ (by first | omega | (simp; done) | (simp; omega)) _ | refine Below.drewN ?_ _))⟩
  simp [results, Tryd.results31, go_sem, k3]

set_option maxHeartbeats 2000000 in
theorem two_Union (hf : ∀ (a b : Nat → Bool) (W : World), Calls Tryd.prog 58 #[.agg (setA a), .agg (setA b)] W fun e w' => e = .returned (.agg (setA (orS a b))) ∧ Below W.heap.size W w') (a b : Nat → Bool) (w : World) (gm : Nat) (codeV : Value) (day : Int) (S : List (Nat → Bool)) (n : Nat) (h : Mach w gm codeV day (S ++ [a, b]) n) (hS : S.length < 999990) :
    Calls Tryd.prog 63 #[.pointer (some ⟨gm, 0, none⟩), .func (.func 58) #[] #[]] w fun e w' => e = .returned (.tuple #[]) ∧ Mach w' gm codeV day (S ++ [orS a b]) n ∧ Below gm w w' := by
  have h' : Mach w gm codeV day ((S ++ [a]) ++ [b]) n := by simpa using h
  clear h
  replace hf := Lib.hid hf
  go_enter Tryd.func63, Tryd.ntmps63
  go_wp2_with fail
  refine (pop_any b w gm codeV day (S ++ [a]) n h').mono ?_
  rintro e w1 ⟨rfl, hM1, hb1⟩
  go_wp2_with fail
  refine (pop_any a w1 gm codeV day S n hM1).mono ?_
  rintro e w2 ⟨rfl, hM2, hb2⟩
  have hlt := hM2.lt
  go_wp2_with fail
  refine (hf.out a b _).mono ?_
  rintro e w3 ⟨rfl, hb3⟩
  have z3 := hb3.size
  simp at z3
  have hb23 : Below w2.heap.size w2 w3 := Below.trans (by repeat (first | exact Below.refl _ _ | assumption | refine Below.n _ ?_ (by first | omega | (simp; done) | (simp; omega)) | refine Below.alloc ?_ (by first | omega | (simp; done) | (simp; omega)) _ | refine Below.setCell ?_ (by first | omega | (simp; done) | (simp; omega)) _ | refine Below.drew ?_ | refine Below.setRow ?_ (by first | omega | (simp; done) | (simp; omega)) _ | refine Below.drewN ?_ _)) (hb3.mono (by simp; omega))
  go_wp2_with fail
  refine (push_any (orS a b) w3 gm codeV day S n (hM2.below hb23 (Nat.le_refl _)) (by omega)).mono ?_
  rintro e w4 ⟨rfl, hM4, hb4⟩
  go_wp2
  go_end0
  exact ⟨rfl, hM4, ((hb1.trans hb2).trans (hb23.mono (by omega))).trans hb4⟩
set_option maxHeartbeats 2000000 in
theorem two_Diff (hf : ∀ (a b : Nat → Bool) (W : World), Calls Tryd.prog 59 #[.agg (setA a), .agg (setA b)] W fun e w' => e = .returned (.agg (setA (sansS a b))) ∧ Below W.heap.size W w') (a b : Nat → Bool) (w : World) (gm : Nat) (codeV : Value) (day : Int) (S : List (Nat → Bool)) (n : Nat) (h : Mach w gm codeV day (S ++ [a, b]) n) (hS : S.length < 999990) :
    Calls Tryd.prog 63 #[.pointer (some ⟨gm, 0, none⟩), .func (.func 59) #[] #[]] w fun e w' => e = .returned (.tuple #[]) ∧ Mach w' gm codeV day (S ++ [sansS a b]) n ∧ Below gm w w' := by
  have h' : Mach w gm codeV day ((S ++ [a]) ++ [b]) n := by simpa using h
  clear h
  replace hf := Lib.hid hf
  go_enter Tryd.func63, Tryd.ntmps63
  go_wp2_with fail
  refine (pop_any b w gm codeV day (S ++ [a]) n h').mono ?_
  rintro e w1 ⟨rfl, hM1, hb1⟩
  go_wp2_with fail
  refine (pop_any a w1 gm codeV day S n hM1).mono ?_
  rintro e w2 ⟨rfl, hM2, hb2⟩
  have hlt := hM2.lt
  go_wp2_with fail
  refine (hf.out a b _).mono ?_
  rintro e w3 ⟨rfl, hb3⟩
  have z3 := hb3.size
  simp at z3
  have hb23 : Below w2.heap.size w2 w3 := Below.trans (by repeat (first | exact Below.refl _ _ | assumption | refine Below.n _ ?_ (by first | omega | (simp; done) | (simp; omega)) | refine Below.alloc ?_ (by first | omega | (simp; done) | (simp; omega)) _ | refine Below.setCell ?_ (by first | omega | (simp; done) | (simp; omega)) _ | refine Below.drew ?_ | refine Below.setRow ?_ (by first | omega | (simp; done) | (simp; omega)) _ | refine Below.drewN ?_ _)) (hb3.mono (by simp; omega))
  go_wp2_with fail
  refine (push_any (sansS a b) w3 gm codeV day S n (hM2.below hb23 (Nat.le_refl _)) (by omega)).mono ?_
  rintro e w4 ⟨rfl, hM4, hb4⟩
  go_wp2
  go_end0
  exact ⟨rfl, hM4, ((hb1.trans hb2).trans (hb23.mono (by omega))).trans hb4⟩
set_option maxHeartbeats 2000000 in
theorem two_Both (hf : ∀ (a b : Nat → Bool) (W : World), Calls Tryd.prog 60 #[.agg (setA a), .agg (setA b)] W fun e w' => e = .returned (.agg (setA (andS a b))) ∧ Below W.heap.size W w') (a b : Nat → Bool) (w : World) (gm : Nat) (codeV : Value) (day : Int) (S : List (Nat → Bool)) (n : Nat) (h : Mach w gm codeV day (S ++ [a, b]) n) (hS : S.length < 999990) :
    Calls Tryd.prog 63 #[.pointer (some ⟨gm, 0, none⟩), .func (.func 60) #[] #[]] w fun e w' => e = .returned (.tuple #[]) ∧ Mach w' gm codeV day (S ++ [andS a b]) n ∧ Below gm w w' := by
  have h' : Mach w gm codeV day ((S ++ [a]) ++ [b]) n := by simpa using h
  clear h
  replace hf := Lib.hid hf
  go_enter Tryd.func63, Tryd.ntmps63
  go_wp2_with fail
  refine (pop_any b w gm codeV day (S ++ [a]) n h').mono ?_
  rintro e w1 ⟨rfl, hM1, hb1⟩
  go_wp2_with fail
  refine (pop_any a w1 gm codeV day S n hM1).mono ?_
  rintro e w2 ⟨rfl, hM2, hb2⟩
  have hlt := hM2.lt
  go_wp2_with fail
  refine (hf.out a b _).mono ?_
  rintro e w3 ⟨rfl, hb3⟩
  have z3 := hb3.size
  simp at z3
  have hb23 : Below w2.heap.size w2 w3 := Below.trans (by repeat (first | exact Below.refl _ _ | assumption | refine Below.n _ ?_ (by first | omega | (simp; done) | (simp; omega)) | refine Below.alloc ?_ (by first | omega | (simp; done) | (simp; omega)) _ | refine Below.setCell ?_ (by first | omega | (simp; done) | (simp; omega)) _ | refine Below.drew ?_ | refine Below.setRow ?_ (by first | omega | (simp; done) | (simp; omega)) _ | refine Below.drewN ?_ _)) (hb3.mono (by simp; omega))
  go_wp2_with fail
  refine (push_any (andS a b) w3 gm codeV day S n (hM2.below hb23 (Nat.le_refl _)) (by omega)).mono ?_
  rintro e w4 ⟨rfl, hM4, hb4⟩
  go_wp2
  go_end0
  exact ⟨rfl, hM4, ((hb1.trans hb2).trans (hb23.mono (by omega))).trans hb4⟩

end Vm
end Go.Proofs.YtbadplbdgpbdaaaDoor
