/- A row of instructions of one's own, each with a row of spans of its own; the coder's block. The coder's emit, walked. -/
import Derived.Test.YtbadplbdgpbdaaaDoorCnw
import Derived.Test.YtbadplbdgpbdaaaDoorSpn
import Derived.Test.YtbadplbdgpbdaaaDoorVmW
import Derived.Test.YtbadplbdgpbdaaaDoorAt
import Derived.Test.YtbadplbdgpbdaaaDoorApp
import Derived.Test.YtbadplbdgpbdaaaDoorLate
import Derived.Lib.MinMax
import Derived.Deep.RegionLaw
import Derived.Deep.AppendLies
import Derived.WalkSmall
namespace Go.Proofs.YtbadplbdgpbdaaaDoor
open Go.RowKit
namespace Ru
open Msk Vm
open Sl (strV Reads)

/-- an instruction's cells -/
def insC (x : Vm.Ins × Value) : List Value := [.int .i64 x.1.op, .int .i64 x.1.a, .int .i64 x.1.b, .int .i64 x.1.to, x.2]
theorem el_ins : El Tryd.prog 41 55 5 56 := El.mk' Tryd.underlying41 (by kernel_rfl) (by omega)
theorem spansV_own {w : World} {base B : Nat} {v : Value} {l : List (Int × Int)} (h : w.ownsRow base 108 2 v l.length (flatS l)) (hB : w.heap.size ≤ B) : SpansV w B v l := by
  obtain ⟨A, cap, rfl⟩ := own_slice h
  refine ⟨A, cap, rfl, own_max h, fun i s hs => ?_⟩
  obtain ⟨g, cap', e, _, hg, hc⟩ := own_at (F := fun s : Int × Int => [.int .i64 s.1, .int .i64 s.2]) h (fun _ => rfl) hs
  cases e
  refine ⟨g, 0, rfl, by omega, ?_, ?_⟩
  · have := hc 0 _ rfl; simpa using this
  · have := hc 1 _ rfl; simpa using this
theorem spans_uni {q : Nat → Bool} {l k : List (Int × Int)} (hl : IsSpans q l) (hk : IsSpans q k) : l = k := chain_eq l k (by omega) hl.ch hk.ch fun j => by rw [hl.mem, hk.mem]
theorem own_grown {w w' : World} {B e k n : Nat} {u : Value} {xs : List Value} {r : Option Nat} (h : w.ownsRow B e k u n xs) (hg : w.grownBy w' r) (hr : u.ownBlock = none ∨ u.ownBlock ≠ r) : w'.ownsRow B e k u n xs := by
  refine ⟨h.1, ?_⟩
  rcases h.2 with h0 | ⟨g, cap, cur, h1, h2, h3, h4⟩
  · exact .inl h0
  · refine .inr ⟨g, cap, cur, h1, h2, (hg.block g (Array.getElem?_eq_some_iff.1 h3).1 ?_).trans h3, h4⟩
    intro he
    rw [h1] at hr
    rcases hr with hr | hr
    · cases hr
    · exact hr he
theorem own_keepP {w w' : World} {B e k n : Nat} {u : Value} {xs : List Value} (h : w.ownsRow B e k u n xs) (hk : ∀ j, B ≤ j → j < w.heap.size → w'.heap[j]? = w.heap[j]?) : w'.ownsRow B e k u n xs := by
  refine ⟨h.1, ?_⟩
  rcases h.2 with h0 | ⟨g, cap, cur, h1, h2, h3, h4⟩
  · exact .inl h0
  · exact .inr ⟨g, cap, cur, h1, h2, (hk g h2 (Array.getElem?_eq_some_iff.1 h3).1).trans h3, h4⟩
structure InsRow (w : World) (B : Nat) (v : Value) (out : List Vm.Ins) (xs : List (Vm.Ins × Value)) : Prop where
  eq : xs.map (·.1) = out
  own : w.ownsRow B 55 5 v xs.length (xs.flatMap insC)
  ok : ∀ x ∈ xs, w.ownsRow B 108 2 x.2 x.1.sp.length (flatS x.1.sp)
section
variable {w w' : World} {B : Nat} {v : Value} {out : List Vm.Ins} {xs : List (Vm.Ins × Value)}
theorem InsRow.nil (w : World) (B : Nat) : InsRow w B (.slice none 0 0) [] [] := ⟨rfl, World.ownsRow_nil _ _ _ _, fun x hx => by cases hx⟩
theorem InsRow.keep (h : InsRow w B v out xs) (hk : ∀ k, B ≤ k → k < w.heap.size → w'.heap[k]? = w.heap[k]?) : InsRow w' B v out xs :=
  ⟨h.eq, own_keepP h.own hk, fun x hx => own_keepP (h.ok x hx) hk⟩
theorem InsRow.below (h : InsRow w B v out xs) (hb : Below w.heap.size w w') : InsRow w' B v out xs := h.keep fun k _ hk => hb.block k hk
theorem InsRow.len (h : InsRow w B v out xs) : xs.length = out.length := by rw [← h.eq, List.length_map]
theorem InsRow.val (h : InsRow w B v out xs) : ∃ A cap, v = .slice A out.length cap := by
  obtain ⟨A, cap, e⟩ := own_slice h.own
  exact ⟨A, cap, by rw [e, h.len]⟩
theorem InsRow.push (h : InsRow w B v out xs) {x : Vm.Ins} {u v' : Value} (hu : w.ownsRow B 108 2 u x.sp.length (flatS x.sp)) (hg : w.grownBy w' v.ownBlock) (ho : w'.ownsRow B 55 5 v' (xs ++ [(x, u)]).length ((xs ++ [(x, u)]).flatMap insC)) : InsRow w' B v' (out ++ [x]) (xs ++ [(x, u)]) := by
  refine ⟨by rw [List.map_append, h.eq]; rfl, ho, fun y hy => ?_⟩
  rcases List.mem_append.1 hy with hy | hy
  · exact own_grown (h.ok y hy) hg (own_types (h.ok y hy) h.own (by decide))
  · rw [List.mem_singleton] at hy
    subst hy
    exact own_grown hu hg (own_types hu h.own (by decide))
theorem flat_set {α : Type} {F : α → List Value} {k : Nat} (hF : ∀ x, (F x).length = k) : ∀ (l : List α) (i j : Nat) (u : Value) (f : α → α), j < k → (∀ x, F (f x) = (F x).set j u) → (l.flatMap F).set (i * k + j) u = (l.modify i f).flatMap F
  | [], i, j, u, f, _, _ => by simp
  | x :: l, 0, j, u, f, hj, hf => by
    rw [List.flatMap_cons, List.modify_zero_cons, List.flatMap_cons, hf, Nat.zero_mul, Nat.zero_add, List.set_append_left _ _ (by rw [hF]; exact hj)]
  | x :: l, i + 1, j, u, f, hj, hf => by
    rw [List.flatMap_cons, List.modify_succ_cons, List.flatMap_cons, List.set_append_right _ _ (by rw [hF, Nat.succ_mul]; omega), hF, show (i + 1) * k + j - k = i * k + j by rw [Nat.succ_mul]; omega, flat_set hF l i j u f hj hf]
theorem map_modify {α β : Type} (p : α → β) (f : α → α) (g : β → β) (h : ∀ x, p (f x) = g (p x)) : ∀ (l : List α) (i : Nat), (l.modify i f).map p = (l.map p).modify i g
  | [], i => by simp
  | x :: l, 0 => by rw [List.modify_zero_cons, List.map_cons, List.map_cons, List.modify_zero_cons, h]
  | x :: l, i + 1 => by rw [List.modify_succ_cons, List.map_cons, List.map_cons, List.modify_succ_cons, map_modify p f g h l i]
theorem mem_modify {α : Type} {f : α → α} : ∀ {l : List α} {i : Nat} {y : α}, y ∈ l.modify i f → y ∈ l ∨ ∃ x ∈ l, y = f x
  | [], i, y, h => by simp at h
  | x :: l, 0, y, h => by
    rw [List.modify_zero_cons] at h
    rcases List.mem_cons.1 h with h | h
    · exact .inr ⟨x, by simp, h⟩
    · exact .inl (by simp [h])
  | x :: l, i + 1, y, h => by
    rw [List.modify_succ_cons] at h
    rcases List.mem_cons.1 h with h | h
    · exact .inl (by simp [h])
    · rcases mem_modify h with h | ⟨z, h, e⟩
      · exact .inl (by simp [h])
      · exact .inr ⟨z, by simp [h], e⟩
/-- a place to go on at, set -/
theorem InsRow.setTo {g cap n : Nat} (h : InsRow w B (.slice (some ⟨g, 0, none⟩) n cap) out xs) (k : Nat) (t : Int) : ∃ ys, InsRow (w.setCell ⟨g, k * 5 + 3, none⟩ (.int .i64 t)) B (.slice (some ⟨g, 0, none⟩) n cap) (out.modify k (toI t)) ys ∧ B ≤ g := by
  obtain rfl : n = xs.length := by obtain ⟨A, c, e⟩ := own_slice h.own; injection e
  obtain ⟨h1, h2⟩ := h.own.stored (k * 5 + 3) (.int .i64 t)
  refine ⟨xs.modify k fun x => (toI t x.1, x.2), ⟨?_, ?_, fun y hy => ?_⟩, ?_⟩
  · rw [← h.eq]; exact map_modify (fun x : Vm.Ins × Value => x.1) (fun x => (toI t x.1, x.2)) (toI t) (fun _ => rfl) xs k
  · rw [flat_set (F := insC) (k := 5) (fun _ => rfl) xs k 3 _ (fun x => (toI t x.1, x.2)) (by omega) (fun _ => rfl)] at h1
    rw [List.length_modify]
    exact h1
  · rcases mem_modify hy with hy | ⟨x, hx, rfl⟩
    · exact own_grown (h.ok y hy) h2 (own_types (h.ok y hy) h.own (by decide))
    · exact own_grown (h.ok x hx) h2 (own_types (h.ok x hx) h.own (by decide))
  · rcases h.own.2 with ⟨h0, _⟩ | ⟨g', _, _, e, hb, _⟩
    · cases h0
    · injection e with e; injection e with e; injection e with e; omega
/-- read -/
theorem InsRow.insV (h : InsRow w B v out xs) : InsV w w.heap.size v out := by
  obtain ⟨A, cap, rfl⟩ := h.val
  refine ⟨A, cap, rfl, by have := own_max h.own; rw [h.len] at this; exact this, fun i x hx => ?_⟩
  obtain ⟨y, hy, rfl⟩ : ∃ y, xs[i]? = some y ∧ y.1 = x := by
    rw [← h.eq, List.getElem?_map] at hx
    cases hy : xs[i]? with
    | none => rw [hy] at hx; cases hx
    | some y => rw [hy] at hx; exact ⟨y, rfl, by simpa using hx⟩
  obtain ⟨g, cap', e, hb, hg, hc⟩ := own_at (F := insC) h.own (fun _ => rfl) hy
  have hA : A = some ⟨g, 0, none⟩ := by injection e
  refine ⟨g, 0, hA, hg, ?_⟩
  show InsAt w w.heap.size g (0 + i * 5) y.1
  rw [Nat.zero_add]
  exact ⟨hc 0 _ rfl, hc 1 _ rfl, hc 2 _ rfl, hc 3 _ rfl, y.2, hc 4 _ rfl, spansV_own (h.ok y (List.mem_of_getElem? hy)) (Nat.le_refl _)⟩
end

/-- the coder's block -/
def CoderAt (w : World) (cb : Nat) (rv dv : Value) (c : Vm.Code) : Prop := ∃ v xs, Blk w cb 61 #[rv, dv, v, .int .i64 c.high, .int .i64 c.steps] ∧ InsRow w (cb + 1) v c.ins xs
theorem CoderAt.lt {w : World} {cb : Nat} {rv dv : Value} {c : Vm.Code} (h : CoderAt w cb rv dv c) : cb < w.heap.size := by
  obtain ⟨v, xs, h, _⟩ := h
  exact h.lt
theorem CoderAt.below {w w' : World} {cb : Nat} {rv dv : Value} {c : Vm.Code} (h : CoderAt w cb rv dv c) (hb : Below w.heap.size w w') : CoderAt w' cb rv dv c := by
  obtain ⟨v, xs, h1, h2⟩ := h
  exact ⟨v, xs, h1.below hb h1.lt, h2.below hb⟩

end Ru
end Go.Proofs.YtbadplbdgpbdaaaDoor

namespace Go.Proofs.YtbadplbdgpbdaaaDoor
open Go.RowKit
namespace Ru
open Msk Vm
open Sl (strV Reads)

theorem blk_grown5 {w w' : World} {row : Option Nat} {g : Nat} {t : TypeId} {cs : Array Value} (h : Blk w g t cs) (hg : w.grownBy w' row) (hne : some g ≠ row) : Blk w' g t cs := (hg.block g h.lt hne).trans h
theorem step_ins {W : World} {ops : Array Oper} {o : Oper} {a : Act} {K : Act → World → Prop} {Q : Exit → Act → World → Prop} {E : Prop} {B g : Nat} {v : Value} {out : List Vm.Ins} {xs : List (Vm.Ins × Value)} {x : Vm.Ins} {u : Value} (hR : InsRow W B v out xs) (hu : W.ownsRow B 108 2 u x.sp.length (flatS x.sp)) (hB : Blk W g 55 #[.int .i64 x.op, .int .i64 x.a, .int .i64 x.b, .int .i64 x.to, u])
    (hS : out.length < 1000000) (hbase : B ≤ W.heap.size) (hgd : o.guard = none) (so xo : Operand) (ho : o.op = .call { callee := .builtin .append, args := #[so, xo], argTypes := #[41, 41] })
    (hs : a.eval so = v) (hx : a.eval xo = .slice (some ⟨g, 0, none⟩) 1 1)
    (h : ∀ k c w', InsRow w' B (.slice (some ⟨k, 0, none⟩) (out.length + 1) c) (out ++ [x]) (xs ++ [(x, u)]) → W.grownBy w' v.ownBlock → K (a.put o.dst (.slice (some ⟨k, 0, none⟩) (out.length + 1) c)) w') :
    if Region.wanted o (yielded ops a.tmps) = true then Oper.wp Tryd.prog o a W K Q else E := by
  obtain ⟨i, z, hi, hz, hsi, hby, hzs⟩ := el_ins.inf
  have hl := hR.len
  refine step_append_lies _ hgd so xo 41 ho B 55 i z 5 56 el_ins.sl hi hz hsi hby hzs (by decide) v xs.length _ hs hR.own ⟨g, 0, none⟩ 1 1 (insC (x, u)) hx rfl (fun j y hy => ?_) (by obtain ⟨A, c, e⟩ := own_slice hu; simp [insC, Value.oneCell', e]) (by decide) (by simp only [maxLen]; omega) (by omega) hbase W.heap.size rfl ?_
  · have := hB.cell j
    rw [Addr.add_lit, Nat.zero_add, this]
    simpa [insC] using hy
  · intro k c w' h2 h3 _ _
    rw [hl] at h2 ⊢
    refine h k c w' (hR.push hu h3 ?_) h3
    have e : (xs ++ [(x, u)]).flatMap insC = xs.flatMap insC ++ insC (x, u) := by simp
    rw [e, List.length_append, List.length_singleton, hl]
    exact h2

set_option maxRecDepth 100000 in
set_option maxHeartbeats 4000000 in
theorem emit_any (x : Vm.Ins) (u : Value) (high steps : Int) (w : World) (cb : Nat) (rv dv : Value) (c : Vm.Code) (h : CoderAt w cb rv dv c) (hu : w.ownsRow (cb + 1) 108 2 u x.sp.length (flatS x.sp)) (hn : c.ins.length < 1000000) (hs1 : -9000000000 ≤ c.steps + steps) (hs2 : c.steps + steps ≤ 9000000000) :
    Calls Tryd.prog 42 #[.pointer (some ⟨cb, 0, none⟩), .agg #[.int .i64 x.op, .int .i64 x.a, .int .i64 x.b, .int .i64 x.to, u], .int .i64 high, .int .i64 steps] w fun e w' => e = .returned (.int .i64 c.ins.length) ∧ CoderAt w' cb rv dv (emitC c x high steps) ∧ Below cb w w' := by
  have hlt := h.lt
  obtain ⟨v, xs, hB, hR⟩ := h
  obtain ⟨A, cap, rfl⟩ := hR.val
  have k2 : w.cell? ⟨cb, 2, none⟩ = some (.slice A c.ins.length cap) := hB.cell 2
  have hag : some cb ≠ (Value.slice A c.ins.length cap).ownBlock := fun e => by have := hR.own.lt _ e.symm; omega
  obtain ⟨W2, hW2⟩ : ∃ W, W = (((w.alloc (.cells #[.int .i64 x.op, .int .i64 x.a, .int .i64 x.b, .int .i64 x.to, u] 55)).alloc (.cells #[.int .i64 x.op, .int .i64 x.a, .int .i64 x.b, .int .i64 x.to, u] 55)).drew) := ⟨_, rfl⟩
  have hbw : Below w.heap.size w W2 := by rw [hW2]; exact (by repeat (first | exact Below.refl _ _ | assumption | refine Below.n _ ?_ (by first | omega | (simp; done) | (simp; omega)) | refine Below.alloc ?_ (by first | omega | (simp; done) | (simp; omega)) _ | refine Below.setCell ?_ (by first | omega | (simp; done) | (simp; omega)) _ | refine Below.drew ?_ | refine Below.setRow ?_ (by first | omega | (simp; done) | (simp; omega)) _ | refine Below.drewN ?_ _))
  have hR2 : InsRow W2 (cb + 1) (.slice A c.ins.length cap) c.ins xs := hR.below hbw
  have hu2 : W2.ownsRow (cb + 1) 108 2 u x.sp.length (flatS x.sp) := own_keep hu hbw (Nat.le_refl _)
  have hB2 : Blk W2 (w.heap.size + 1) 55 #[.int .i64 x.op, .int .i64 x.a, .int .i64 x.b, .int .i64 x.to, u] := by
    have := Blk.new (w.alloc (.cells #[.int .i64 x.op, .int .i64 x.a, .int .i64 x.b, .int .i64 x.to, u] 55)) 55 #[.int .i64 x.op, .int .i64 x.a, .int .i64 x.b, .int .i64 x.to, u]
    rw [World.size_alloc] at this
    rw [hW2]
    exact this
  have hM2 : Blk W2 cb 61 #[rv, dv, .slice A c.ins.length cap, .int .i64 c.high, .int .i64 c.steps] := hB.below hbw hlt
  have hsz : cb + 1 ≤ W2.heap.size := by have := hbw.size; omega
  rw [hW2] at hbw hR2 hu2 hB2 hM2 hsz
  clear hW2
  replace hR := Lib.hid hR
  replace hR2 := Lib.hid hR2
  replace hu2 := Lib.hid hu2
  replace hu := Lib.hid hu
  replace hn := Lib.hid hn
  go_enter Tryd.func42, Tryd.ntmps42
  go_wp2
  go_region_law ((refine step_ins hR2.out hu2.out hB2 hn.out hsz (by rfl) _ _ (by rfl) (by rfl) (by rfl) ?_; intro gg cap5 w5 hown5 hgrow; have B6 := blk_grown5 hM2 hgrow hag; have k6 : w5.frozen? ⟨cb, 2, none⟩ = false := B6.frozen 2; have k7 : w5.cell? ⟨cb, 2, none⟩ = some (.slice A c.ins.length cap) := B6.cell 2; have hb5 := own_below hsz hR2.out.own hgrow; replace hgrow := Lib.hid hgrow; replace hown5 := Lib.hid hown5))
  all_goals
    have hb9 : Below cb w w5 := (hbw.mono (Nat.le_of_lt hlt)).trans (hb5.mono (Nat.le_succ cb))
    have BW := B6.set 2 (.slice (some ⟨gg, 0, none⟩) (c.ins.length + 1) cap5)
    have hbW := hb9.setCell (p := ⟨cb, 2, none⟩) (Nat.le_refl _) (.slice (some ⟨gg, 0, none⟩) (c.ins.length + 1) cap5)
    have hRW : InsRow (w5.setCell ⟨cb, 2, none⟩ (.slice (some ⟨gg, 0, none⟩) (c.ins.length + 1) cap5)) (cb + 1) (.slice (some ⟨gg, 0, none⟩) (c.ins.length + 1) cap5) (c.ins ++ [x]) (xs ++ [(x, u)]) := hown5.out.keep fun k hk _ => Below.heap_setCell w5 ⟨cb, 2, none⟩ _ k (by show k ≠ cb; omega)
    obtain ⟨w7, hw7⟩ : ∃ W, W = w5.setCell ⟨cb, 2, none⟩ (.slice (some ⟨gg, 0, none⟩) (c.ins.length + 1) cap5) := ⟨_, rfl⟩
    rw [← hw7] at BW hbW hRW
    have z7 : w5.heap.size = w7.heap.size := by rw [hw7]; simp
    replace hw7 := Lib.hid hw7
    have q0 : w7.cell? ⟨cb, 2, none⟩ = some (.slice (some ⟨gg, 0, none⟩) (c.ins.length + 1) cap5) := BW.cell 2
    have q1 : w7.cell? ⟨cb, 3, none⟩ = some (.int .i64 c.high) := BW.cell 3
    have q2 : w7.cell? ⟨cb, 4, none⟩ = some (.int .i64 c.steps) := BW.cell 4
    have q3 := BW.frozen 3
    have q4 := BW.frozen 4
    simp only [Exit.then]
    rw [← hw7.out]
    clear hown5 B6 hb5 hb9 k6 k7 k2 hgrow hR2 hu2 hB2 hM2 hsz hbw hu hR hB
    replace hRW := Lib.hid hRW
    have q9 : IntKind.i64.wrap (c.steps + steps) = c.steps + steps := IntWalk.i64_in _ ⟨by omega, by omega⟩
    have hn9 := hn.out
    go_wp2
    go_ret
    have BZ := (BW.set 3 (.int .i64 (max c.high high))).set 4 (.int .i64 (c.steps + steps))
    refine ⟨by congr 1, ⟨.slice (some ⟨gg, 0, none⟩) (c.ins.length + 1) cap5, xs ++ [(x, u)], BZ, ?_⟩, ?_⟩
    · show InsRow _ (cb + 1) _ (c.ins ++ [x]) _
      exact hRW.out.keep fun k hk _ => (Below.heap_setCell _ ⟨cb, 4, none⟩ _ k (by show k ≠ cb; omega)).trans (Below.heap_setCell _ ⟨cb, 3, none⟩ _ k (by show k ≠ cb; omega))
    · exact (hbW.setCell (p := ⟨cb, 3, none⟩) (Nat.le_refl _) _).setCell (p := ⟨cb, 4, none⟩) (Nat.le_refl _) _

end Ru
end Go.Proofs.YtbadplbdgpbdaaaDoor
