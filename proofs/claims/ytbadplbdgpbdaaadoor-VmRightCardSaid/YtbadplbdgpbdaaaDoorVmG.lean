/- Two rows of ints of the call's own: one that grows at its end, one that is taken from its front as well. The walk of vm.rings. -/
import Derived.Test.YtbadplbdgpbdaaaDoorStr
import Derived.Test.YtbadplbdgpbdaaaDoorApp
import Derived.ArgAppend
import Derived.Maps.AppendAt
import Derived.Test.YtbadplbdgpbdaaaDoorVmW
import Derived.Test.YtbadplbdgpbdaaaDoorVmQ
namespace Go.Proofs.YtbadplbdgpbdaaaDoor
open Go.RowKit
namespace Vm

theorem el_ints : El Tryd.prog 57 3 1 8 := El.mk' Tryd.underlying57 (by kernel_rfl) (by decide)
abbrev intL (l : List Int) : List Value := l.map (Value.int .i64)

/-- a row of ints from some place of a block on -/
def OffRow (w : World) (base : Nat) (v : Value) (l : List Int) : Prop :=
  ∃ g off cap cur, v = .slice (some ⟨g, off, none⟩) l.length cap ∧ base ≤ g ∧ w.heap[g]? = some (.cells cur 3 (0, 0)) ∧ l.length ≤ cap ∧ off + cap ≤ cur.size ∧ cap ≤ 9223372036854775807 ∧ ∀ j x, l[j]? = some x → cur[off + j]? = some (.int .i64 x)
theorem OffRow.heap {w w' : World} {base : Nat} {v : Value} {l : List Int} (h : OffRow w base v l) (hg : ∀ g, v.ownBlock = some g → w'.heap[g]? = w.heap[g]?) : OffRow w' base v l := by
  obtain ⟨g, off, cap, cur, rfl, h1, h2, h3⟩ := h
  exact ⟨g, off, cap, cur, rfl, h1, (hg g rfl).trans h2, h3⟩
theorem OffRow.lt {w : World} {base : Nat} {v : Value} {l : List Int} (h : OffRow w base v l) {g : Nat} (hg : v.ownBlock = some g) : base ≤ g ∧ g < w.heap.size := by
  obtain ⟨g', off, cap, cur, rfl, h1, h2, h3⟩ := h
  cases hg
  exact ⟨h1, (Array.getElem?_eq_some_iff.1 h2).1⟩
theorem own_heap {w w' : World} {base e s n : Nat} {v : Value} {xs : List Value} (h : w.ownsRow base e s v n xs) (hg : ∀ g, v.ownBlock = some g → w'.heap[g]? = w.heap[g]?) : w'.ownsRow base e s v n xs := by
  refine ⟨h.1, ?_⟩
  rcases h.2 with h0 | ⟨g, cap, cur, h1, h2, h3, h4⟩
  · exact .inl h0
  · refine .inr ⟨g, cap, cur, h1, h2, ?_, h4⟩
    rw [hg g (by rw [h1]; rfl)]
    exact h3

theorem ints_own {w : World} {base e c : Nat} {v : Value} {l : List Int} (h : w.ownsRow base e 1 v l.length (l.map (Value.int .i64))) (hc : l.length ≤ 9223372036854775807) (hB : w.heap.size ≤ c) : Sl.IntsV w c v l := by
  rcases h.2 with ⟨rfl, h0⟩ | ⟨g, cap, cur, rfl, _, hh, hcap, _, _, ht⟩
  · exact ⟨none, 0, by rw [h0], hc, fun i x hx => by have := (List.getElem?_eq_some_iff.1 hx).1; omega⟩
  · refine ⟨_, cap, rfl, hc, fun i x hx => ⟨g, 0, rfl, ?_, ?_⟩⟩
    · have := (Array.getElem?_eq_some_iff.1 hh).1; omega
    · have hi : i < l.length := (List.getElem?_eq_some_iff.1 hx).1
      have := h.cells (g := g) rfl i (.int .i64 x) (by rw [List.getElem?_map, hx]; rfl)
      rw [Addr.add_lit] at this
      exact this

structure Two (w : World) (base : Nat) (sv tv : Value) (s t : List Int) : Prop where
  seen : w.ownsRow base 3 1 sv s.length (intL s)
  todo : OffRow w base tv t
  apart : sv.ownBlock ≠ tv.ownBlock
theorem Two.heap {w w' : World} {base B : Nat} {sv tv : Value} {s t : List Int} (h : Two w base sv tv s t) (hb : Below B w w') (hB : w.heap.size ≤ B) : Two w' base sv tv s t :=
  ⟨own_heap h.seen fun g hg => hb.block g (by have := h.seen.lt g hg; omega), h.todo.heap fun g hg => hb.block g (by have := h.todo.lt hg; omega), h.apart⟩

section
variable {W : World} {ops : Array Oper} {rest : List Oper} {o : Oper} {a : Act} {Q : Exit → Act → World → Prop} {base : Nat} {sv tv : Value} {s t : List Int}
theorem wp_seen (hgd : o.guard = none) (so xo : Operand) (ho : o.op = .call { callee := .builtin .append, args := #[so, xo], argTypes := #[57, 57] }) (hT : Two W base sv tv s t) (x : Int) (hs : a.eval so = sv) (hx : a.eval xo = .slice (some ⟨W.heap.size, 0, none⟩) 1 1)
    (hbase : base ≤ W.heap.size) (hl : s.length < 1000000) (h : ∀ sv' w', Two w' base sv' tv (s ++ [x]) t → Below base W w' → (∀ k, k < W.heap.size → some k ≠ sv.ownBlock → w'.heap[k]? = W.heap[k]?) → wpList Tryd.prog ops Q rest (a.put o.dst sv') w') : wpList Tryd.prog ops Q (o :: rest) a (W.alloc (.cells #[.int .i64 x] 3)) := by
  obtain ⟨i, z, hi, hz, hsi, hby, hzs⟩ := el_ints.inf
  have hbl := el_ints.sl
  have hown := hT.seen.alloc (.cells #[.int .i64 x] 3)
  refine wpList_append_own_at _ hgd so xo 57 ho base 3 i z 1 8 hbl hi hz hsi hby hzs (by decide) sv s.length (intL s) hs hown ⟨W.heap.size, 0, none⟩ 1 1 [.int .i64 x] hx (by simp) (fun j u hu => ?_) (by simp [Value.oneCell']) (by simp only [maxLen]; omega) (by omega) (by simp; omega) ?_
  · have := (Blk.new W 3 #[.int .i64 x]).cell j
    rw [Addr.add_lit, Nat.zero_add, this]
    simpa using hu
  · intro v' w' h2 h3 _ h5
    have hb := own_below (by simp; omega) hown h3
    have hlt : ∀ g, tv.ownBlock = some g → w'.heap[g]? = W.heap[g]? := fun g hg => by
      have h6 := hT.todo.lt hg
      rw [h3.block g (by simp; omega) (fun e => hT.apart (by rw [← e, hg]))]
      exact Below.heap_alloc W _ g h6.2
    refine h v' w' ⟨by simpa using h2, hT.todo.heap hlt, fun e => ?_⟩ (((Below.refl _ _).alloc hbase _).trans hb) (fun k hk hne => (h3.block k (by simp; omega) hne).trans (Below.heap_alloc W _ k hk))
    rcases h5 with h5 | h5
    · exact hT.apart (by rw [← h5]; exact e)
    · have := hT.todo.lt (g := (W.alloc (.cells #[.int .i64 x] 3)).heap.size) (by rw [← e]; exact h5)
      simp at this
      omega

theorem wp_todo (hgd : o.guard = none) (so xo : Operand) (ho : o.op = .call { callee := .builtin .append, args := #[so, xo], argTypes := #[57, 57] }) (hT : Two W base sv tv s t) (x : Int) (hs : a.eval so = tv) (hx : a.eval xo = .slice (some ⟨W.heap.size, 0, none⟩) 1 1)
    (hbase : base ≤ W.heap.size) (hl : t.length < 1000000) (h : ∀ tv' w', Two w' base sv tv' s (t ++ [x]) → Below base W w' → wpList Tryd.prog ops Q rest (a.put o.dst tv') w') : wpList Tryd.prog ops Q (o :: rest) a (W.alloc (.cells #[.int .i64 x] 3)) := by
  obtain ⟨i, z, hi, hz, hsi, hby, hzs⟩ := el_ints.inf
  have hbl := el_ints.sl
  have hlt0 := fun g => hT.todo.lt (g := g)
  obtain ⟨g, off, cap, cur, rfl, h1, h2, h3, h4, h7, h5⟩ := hT.todo
  have hg := (hlt0 g rfl).2
  have hcell : ∀ j, (W.alloc (.cells #[.int .i64 x] 3)).cell? ⟨g, j, none⟩ = cur[j]? := fun j => by
    rw [cell_alloc_ite, if_pos hg]
    simp [World.cell?, h2]
  have hfz : ∀ j, (W.alloc (.cells #[.int .i64 x] 3)).frozen? ⟨g, j, none⟩ = false := fun j => by
    rw [frozen_alloc_ite, if_pos hg]
    simp [World.frozen?, h2]
  refine wpList_append_arg _ hgd so xo 57 ho 3 i z 1 8 hbl hi hz hsi hby hzs (by decide) g off t.length cap (intL t) hs (by simp) (fun j u hu => ?_) ⟨W.heap.size, 0, none⟩ 1 1 [.int .i64 x] hx (by simp) (fun j u hu => ?_) (by simp [Value.oneCell'])
    (fun hr j hj => ?_) (by simp only [maxLen]; omega) (by omega) (fun hr => ?_) (fun hr v' w' hw hgr => ?_)
  · rw [hcell]
    rw [List.getElem?_map] at hu
    obtain ⟨y, hy, rfl⟩ := Option.map_eq_some_iff.1 hu
    exact h5 j y hy
  · have := (Blk.new W 3 #[.int .i64 x]).cell j
    rw [Addr.add_lit, Nat.zero_add, this]
    simpa using hu
  · rw [hcell, hfz]
    have : j = 0 := by simpa using hj
    subst this
    rw [Array.getElem?_eq_getElem (by omega)]
    exact ⟨rfl, rfl⟩
  · have hE : (W.alloc (.cells #[.int .i64 x] 3)).setCells g (off + t.length * 1) [.int .i64 x] = (W.alloc (.cells #[.int .i64 x] 3)).setCell ⟨g, off + t.length, none⟩ (.int .i64 x) := by
      simp [World.setCells]
    rw [hE]
    have hB : Blk (W.alloc (.cells #[.int .i64 x] 3)) g 3 cur := Blk.alloc h2 _
    have hS := hB.set (off + t.length) (.int .i64 x)
    refine h _ _ ⟨own_heap (hT.seen) fun k hk => ?_, ⟨g, off, cap, _, by simp, h1, hS, by simp; omega, by simp; omega, h7, fun j y hy => ?_⟩, hT.apart⟩ (((Below.refl _ _).alloc hbase _).setCell h1 _)
    · have hk2 := hT.seen.lt k hk
      rw [Below.heap_setCell _ _ _ k (fun e => hT.apart (by rw [hk]; exact congrArg some e))]
      exact Below.heap_alloc W _ k hk2.2
    · rw [Array.getElem?_setIfInBounds]
      by_cases hj : j < t.length
      · rw [if_neg (by omega)]
        exact h5 j y (by rwa [List.getElem?_append_left hj] at hy)
      · rw [List.getElem?_append_right (by omega)] at hy
        have hj2 : j = t.length := by
          rcases Nat.lt_or_ge (j - t.length) 1 with h | h
          · omega
          · rw [List.getElem?_eq_none (by simpa using h)] at hy; cases hy
        subst hj2
        simp at hy
        rw [if_pos rfl, if_pos (by omega), hy]
  · have hown : OffRow w' base v' (t ++ [x]) := by
      rcases hw.2 with ⟨_, h0⟩ | ⟨k, c, cu, rfl, hbk, hk, hc1, hc2, hc3, hc4⟩
      · omega
      · refine ⟨k, 0, c, cu, by simp, by simp at hbk; omega, hk, by simpa using hc1, by omega, hc2, fun j y hy => ?_⟩
        rw [Nat.zero_add]
        have e1 : (intL t ++ [.int .i64 x])[j]? = some (.int .i64 y) := by
          have e2 : intL t ++ [.int .i64 x] = intL (t ++ [x]) := by simp
          rw [e2, List.getElem?_map, hy]
          rfl
        rw [← hc4, List.getElem?_take] at e1
        split at e1
        · simpa using e1
        · cases e1
    have hblk : ∀ k, v'.ownBlock = some k → W.heap.size < k := fun k hk => by have := hw.lt k hk; simp at this; omega
    refine h v' w' ⟨own_heap hT.seen fun k hk => ?_, hown, fun e => ?_⟩ (((Below.refl _ _).alloc hbase _).grown hgr (by simp; omega) (by simp))
    · have hk2 := hT.seen.lt k hk
      rw [hgr.block k (by simp; omega) (by simp)]
      exact Below.heap_alloc W _ k hk2.2
    · cases hb : sv.ownBlock with
      | none =>
        rw [hb] at e
        rcases hw.2 with ⟨_, h0⟩ | ⟨k, c, cu, rfl, _⟩
        · omega
        · cases e
      | some k =>
        have := hblk k (by rw [← e, hb])
        have := hT.seen.lt k hb
        omega
end

end Vm
end Go.Proofs.YtbadplbdgpbdaaaDoor

namespace Go.Proofs.YtbadplbdgpbdaaaDoor
open Go.RowKit
namespace Vm
open Msk Sl

theorem OffRow.tail {w : World} {base g o cap : Nat} {x : Int} {l : List Int} (h : OffRow w base (.slice (some ⟨g, o, none⟩) (l.length + 1) cap) (x :: l)) : OffRow w base (.slice (some ⟨g, o + 1, none⟩) l.length (cap - 1)) l := by
  obtain ⟨g', o', cap', cur, e, h1, h2, h3, h4, h5, h6⟩ := h
  cases e
  rw [List.length_cons] at h3
  exact ⟨g, o + 1, cap - 1, cur, rfl, h1, h2, by omega, by omega, by omega, fun j y hy => by
    have := h6 (j + 1) y (by simpa using hy)
    rwa [show o + 1 + j = o + (j + 1) by omega]⟩

set_option maxHeartbeats 8000000 in
theorem rings_any (codeV : Value) (l : List Code) (rule : Nat) (w : World) (hl : CodesV w w.heap.size codeV l) (hr : rule < l.length) (hN : ∀ c ∈ l, ∀ x ∈ c.ins, x.op = 8 → 0 ≤ x.a ∧ x.a < l.length) (h40 : l.length ≤ 40) :
    Calls Tryd.prog 27 #[codeV, .int .i64 rule] w fun e w' => e = .returned (.bool (ringsL l rule)) ∧ Below w.heap.size w w' := by
  obtain ⟨A, cap, rfl, hlen, hc⟩ := hl
  replace hc := Lib.hid hc
  replace hN := Lib.hid hN
  go_enter Tryd.func27, Tryd.ntmps27
  go_wp2
  go_loopg [5, 6] (l.length + 2) (fun n sv tv wr => ∃ (s t : List Int) (sv0 tv0 : Value), sv = sv0 ∧ tv = tv0 ∧ Hid (bfs l rule n s t = ringsL l rule) ∧ Hid (Two wr w.heap.size sv0 tv0 s t) ∧ Below w.heap.size w wr ∧ Hid (∀ x ∈ t, 0 ≤ x ∧ x < l.length) ∧ s.length + freeN l.length s ≤ l.length ∧ t.length + freeN l.length s < n ∧ n ≤ l.length + 2)
  case atStart =>
    have hf := freeN_nil l.length
    refine ⟨[], [(rule : Int)], _, _, rfl, rfl, Lib.hid rfl, Lib.hid ⟨World.ownsRow_nil _ _ _ _, ?_, by simp [Value.ownBlock]⟩, (by repeat (first | exact Below.refl _ _ | assumption | refine Below.n _ ?_ (by first | omega | (simp; done) | (simp; omega)) | refine Below.alloc ?_ (by first | omega | (simp; done) | (simp; omega)) _ | refine Below.setCell ?_ (by first | omega | (simp; done) | (simp; omega)) _ | refine Below.drew ?_ | refine Below.setRow ?_ (by first | omega | (simp; done) | (simp; omega)) _ | refine Below.drewN ?_ _)), Lib.hid (by simp; omega), by simp [hf], by rw [hf]; simp only [List.length_singleton]; omega, Nat.le_refl _⟩
    exact ⟨w.heap.size, 0, 1, #[.int .i64 rule], rfl, Nat.le_refl _, Blk.new w 3 #[.int .i64 rule], by simp, by simp, by omega, fun j x hx => by
      cases j with
      | zero => simp at hx; subst hx; rfl
      | succ j => simp at hx⟩
  case round =>
    obtain ⟨s, t, sv, tv, hsv, htv, hbf, hT, hbw, htr, hf1, hf2, hf3⟩ := hrel
    cases t with
    | nil =>
      have hres := Lib.hid (show ringsL l rule = false by
        rw [← hbf.out]
        obtain ⟨m, rfl⟩ : ∃ m, gk = m + 1 := ⟨gk - 1, by simp at hf2; omega⟩
        rfl)
      obtain ⟨g, off, cp, cur, rfl, h1, h2, h3, h4, h5, h6⟩ := hT.out.todo
      subst htv
      simp only [List.length_nil]
      go_wp2
      go_ret
      exact ⟨ret_bool hres.out.symm, (by repeat (first | exact Below.refl _ _ | assumption | refine Below.n _ ?_ (by first | omega | (simp; done) | (simp; omega)) | refine Below.alloc ?_ (by first | omega | (simp; done) | (simp; omega)) _ | refine Below.setCell ?_ (by first | omega | (simp; done) | (simp; omega)) _ | refine Below.drew ?_ | refine Below.setRow ?_ (by first | omega | (simp; done) | (simp; omega)) _ | refine Below.drewN ?_ _))⟩
    | cons t0 ts =>
      have ht0 := htr.out t0 (by simp)
      obtain ⟨kn, rfl⟩ := Int.eq_ofNat_of_zero_le ht0.1
      obtain ⟨ck, hck⟩ : ∃ ck, l[kn]? = some ck := ⟨_, List.getElem?_eq_getElem (by omega)⟩
      obtain ⟨b, o, rfl, hb, ⟨u, k0, hI⟩, _, _⟩ := hc.out kn ck hck
      obtain ⟨A1, cap1, rfl, hlen1, hc1⟩ := hI
      replace hc1 := Lib.hid hc1
      have hkl : kn < l.length := by omega
      obtain ⟨g, off, cp, cur, rfl, h1, h2, h3, h4, h5, h6⟩ := hT.out.todo
      have d0 : wr.cell? ⟨b, o + kn * 3, none⟩ = some (.slice A1 ck.ins.length cap1) := (hbw.cell (p := ⟨b, _, none⟩) hb).trans k0
      have e0 : wr.cell? ⟨g, off, none⟩ = some (.int .i64 (kn : Nat)) := by
        have := h6 0 _ rfl
        rw [Nat.add_zero] at this
        simp [World.cell?, h2, this]
      obtain ⟨m, hm⟩ : ∃ m, gk = m + 1 := ⟨gk - 1, by simp at hf2; omega⟩
      have hio : insOf l (kn : Int) = ck.ins := by unfold insOf; rw [Int.toNat_natCast, hck]; rfl
      have hbf2 := hbf.out
      rw [hm, bfs, hio] at hbf2
      have hN8 := Lib.hid (hN.out ck (List.mem_of_getElem? hck))
      have hT2 : (cp = 1 ∧ Two wr w.heap.size sv (.slice (some ⟨g, off, none⟩) 0 0) s ts) ∨ (cp ≠ 1 ∧ Two wr w.heap.size sv (.slice (some ⟨g, off + 1, none⟩) ts.length (cp - 1)) s ts) := by
        by_cases hc1 : cp = 1
        · have hn : ts = [] := List.eq_nil_of_length_eq_zero (by simp at h3; omega)
          exact .inl ⟨hc1, hT.out.seen, ⟨g, off, 0, cur, by rw [hn]; rfl, h1, h2, by rw [hn]; simp, by omega, by omega, fun j x hx => by rw [hn] at hx; simp at hx⟩, hT.out.apart⟩
        · exact .inr ⟨hc1, hT.out.seen, hT.out.todo.tail, hT.out.apart⟩
      have htr2 := Lib.hid (show ∀ x ∈ ts, 0 ≤ x ∧ x < l.length from fun x hx => htr.out x (by simp [hx]))
      have hcp : ts.length + 1 ≤ cp := by simpa using h3
      replace hbf2 := Lib.hid hbf2
      rw [List.length_cons] at hf2
      obtain ⟨A2, cap2, rfl⟩ := own_slice hT.out.seen
      subst hsv
      subst htv
      clear hT h1 h2 h3 h4 h6 hbf htr k0 hck hio ht0
      rw [List.length_cons]
      rcases hT2 with ⟨rfl, hT2⟩ | ⟨hcp1, hT2⟩
      all_goals
        replace hT2 := Lib.hid hT2
        go_wp2
        clear e0 d0
        obtain ⟨wo, rfl⟩ : ∃ wo : World, wo = wr := ⟨_, rfl⟩
        go_loopg [5, 6, 26] ck.ins.length (fun n sv tv k wr2 => ∃ (i : Nat) (s2 t2 : List Int) (sv0 tv0 : Value), sv = sv0 ∧ tv = tv0 ∧ k = .int .i64 i ∧ n = ck.ins.length - i ∧ i ≤ ck.ins.length ∧ Hid (scan rule (ck.ins.drop i) s2 t2 = scan rule ck.ins s ts) ∧ Hid (Two wr2 w.heap.size sv0 tv0 s2 t2) ∧ Below w.heap.size w wr2 ∧ Hid (∀ x ∈ t2, 0 ≤ x ∧ x < l.length) ∧ s2.length + freeN l.length s2 ≤ l.length ∧ t2.length + freeN l.length s2 ≤ ts.length + freeN l.length s)
        case atStart => exact ⟨0, s, ts, _, _, rfl, rfl, rfl, by omega, by omega, Lib.hid rfl, hT2, hbw, htr2, hf1, Nat.le_refl _⟩
        case round =>
          clear hbw hT2 htr2 hcp
          obtain ⟨i, s2, t2, sv2, tv2, hsv, htv, rfl, hq, hi, hsc, hT, hbw, htr, hg1, hg2⟩ := hrel
          replace hq := Lib.hid hq
          by_cases hlt : i < ck.ins.length
          · obtain ⟨x, hx⟩ : ∃ x, ck.ins[i]? = some x := ⟨_, List.getElem?_eq_getElem hlt⟩
            obtain ⟨b1, o1, rfl, hb1, hat⟩ := hc1.out i x hx
            have hst := scan_at (rule := (rule : Int)) (s := s2) (t := t2) hx
            rw [hsc.out] at hst
            have hx8 := hN8.out x (List.mem_of_getElem? hx)
            obtain ⟨x0, x1, x2, x3, u4, x4, x5⟩ := hat.below hbw hb1 (Nat.le_refl _) (Nat.le_refl _)
            have z := hbw.size
            have z1 : b1 < wr.heap.size := by omega
            obtain ⟨A4, cap4, rfl, _⟩ := x5
            clear hx hat
            obtain ⟨op, a, bb, to, sp⟩ := x
            simp only at x0 x1 x2 x3 x4 hst hx8
            obtain ⟨A3, cap3, rfl⟩ := own_slice hT.out.seen
            obtain ⟨g3, off3, cp3, cur3, rfl, _⟩ := hT.out.todo
            subst hsv
            subst htv
            by_cases e8 : op = 8
            · subst e8
              rw [if_pos rfl] at hst
              obtain ⟨ha1, ha2⟩ := hx8 rfl
              by_cases er : a = rule
              · rw [if_pos er] at hst
                have hres := Lib.hid (show ringsL l rule = true by rw [← hbf2.out, hst])
                subst er
                clear hst
                go_wp2
                go_ret
                exact ⟨ret_bool hres.out.symm, (by repeat (first | exact Below.refl _ _ | assumption | refine Below.n _ ?_ (by first | omega | (simp; done) | (simp; omega)) | refine Below.alloc ?_ (by first | omega | (simp; done) | (simp; omega)) _ | refine Below.setCell ?_ (by first | omega | (simp; done) | (simp; omega)) _ | refine Below.drew ?_ | refine Below.setRow ?_ (by first | omega | (simp; done) | (simp; omega)) _ | refine Below.drewN ?_ _))⟩
              · rw [if_neg er] at hst
                have g1 : (a == (rule : Int)) = false := by simpa using er
                have hcon := Lib.hid (fun (W : World) (h : Below wr.heap.size wr W) => Sl.Contains_any _ s2 a W wr.heap.size ((ints_own hT.out.seen (by omega) (Nat.le_refl _)).below h (Nat.le_refl _) (Nat.le_refl _)))
                cases hcc : s2.contains a with
                | true =>
                  rw [hcc, if_pos rfl] at hst
                  rw [hcc] at hcon
                  replace hst := Lib.hid hst
                  clear hcc
                  go_wp2_with (go_at_call 37; refine (hcon.out _ (by repeat (first | exact Below.refl _ _ | assumption | refine Below.n _ ?_ (by first | omega | (simp; done) | (simp; omega)) | refine Below.alloc ?_ (by first | omega | (simp; done) | (simp; omega)) _ | refine Below.setCell ?_ (by first | omega | (simp; done) | (simp; omega)) _ | refine Below.drew ?_ | refine Below.setRow ?_ (by first | omega | (simp; done) | (simp; omega)) _ | refine Below.drewN ?_ _))).mono ?_; rintro e w4 ⟨rfl, rfl⟩)
                  go_roundg (ck.ins.length - (i + 1))
                  case measure => rw [hq.out]; omega
                  case rel => exact ⟨i + 1, s2, t2, _, _, rfl, rfl, by go_num, rfl, by omega, Lib.hid hst.out.symm, Lib.hid (hT.out.heap (B := wr.heap.size) (by repeat (first | exact Below.refl _ _ | assumption | refine Below.n _ ?_ (by first | omega | (simp; done) | (simp; omega)) | refine Below.alloc ?_ (by first | omega | (simp; done) | (simp; omega)) _ | refine Below.setCell ?_ (by first | omega | (simp; done) | (simp; omega)) _ | refine Below.drew ?_ | refine Below.setRow ?_ (by first | omega | (simp; done) | (simp; omega)) _ | refine Below.drewN ?_ _)) (Nat.le_refl _)), (by repeat (first | exact Below.refl _ _ | assumption | refine Below.n _ ?_ (by first | omega | (simp; done) | (simp; omega)) | refine Below.alloc ?_ (by first | omega | (simp; done) | (simp; omega)) _ | refine Below.setCell ?_ (by first | omega | (simp; done) | (simp; omega)) _ | refine Below.drew ?_ | refine Below.setRow ?_ (by first | omega | (simp; done) | (simp; omega)) _ | refine Below.drewN ?_ _)), htr, hg1, hg2⟩
                | false =>
                  have hfr := freeN_snoc (N := l.length) ha1 ha2 hcc
                  rw [hcc, if_neg (by decide)] at hst
                  rw [hcc] at hcon
                  replace hst := Lib.hid hst
                  clear hcc
                  have hne : some wr.heap.size ≠ (Value.slice A3 s2.length cap3).ownBlock := fun e => by have := hT.out.seen.lt _ e.symm; omega
                  have hTw := Lib.hid (hT.out.heap (B := wr.heap.size) (w' := wr.alloc (.cells #[.int .i64 8, .int .i64 a, .int .i64 bb, .int .i64 to, .slice A4 sp.length cap4] 55)) (by repeat (first | exact Below.refl _ _ | assumption | refine Below.n _ ?_ (by first | omega | (simp; done) | (simp; omega)) | refine Below.alloc ?_ (by first | omega | (simp; done) | (simp; omega)) _ | refine Below.setCell ?_ (by first | omega | (simp; done) | (simp; omega)) _ | refine Below.drew ?_ | refine Below.setRow ?_ (by first | omega | (simp; done) | (simp; omega)) _ | refine Below.drewN ?_ _)) (Nat.le_refl _))
                  go_wp2_with (first
                    | (go_at_call 37; refine (hcon.out _ (by repeat (first | exact Below.refl _ _ | assumption | refine Below.n _ ?_ (by first | omega | (simp; done) | (simp; omega)) | refine Below.alloc ?_ (by first | omega | (simp; done) | (simp; omega)) _ | refine Below.setCell ?_ (by first | omega | (simp; done) | (simp; omega)) _ | refine Below.drew ?_ | refine Below.setRow ?_ (by first | omega | (simp; done) | (simp; omega)) _ | refine Below.drewN ?_ _))).mono ?_; rintro e w4 ⟨rfl, rfl⟩)
                    | (at_builtin; refine wp_seen rfl (.tmp 42) (.tmp 45) rfl hTw.out a rfl (by rw [World.size_alloc]; rfl) (by simp; omega) (by omega) ?_; intro sv5 w5 hT5 hb5 hk5; obtain ⟨A5, cap5, rfl⟩ := own_slice hT5.seen; have z5 := hb5.size; have x5 : w5.cell? ⟨wr.heap.size, 1, none⟩ = some (.int .i64 a) := (World.cell?_of_block (a := ⟨wr.heap.size, 1, none⟩) (hk5 wr.heap.size (by simp) hne)).trans ((Blk.new wr 55 #[.int .i64 8, .int .i64 a, .int .i64 bb, .int .i64 to, .slice A4 sp.length cap4]).cell 1); replace hT5 := Lib.hid hT5)
                    | (at_builtin; refine wp_todo rfl (.tmp 47) (.tmp 50) rfl hT5.out a rfl rfl (by simp at z5; omega) (by omega) ?_; intro tv6 w6 hT6 hb6; replace hT6 := Lib.hid hT6))
                  go_roundg (ck.ins.length - (i + 1))
                  case measure => rw [hq.out]; omega
                  case rel =>
                    refine ⟨i + 1, s2 ++ [a], t2 ++ [a], .slice A5 (s2 ++ [a]).length cap5, tv6, by simp, rfl, by go_num, rfl, by omega, Lib.hid hst.out.symm, hT6, ((hbw.alloc (by omega) _).trans hb5).trans hb6, Lib.hid fun y hy => ?_, by simp only [List.length_append, List.length_singleton]; omega, by simp only [List.length_append, List.length_singleton]; omega⟩
                    rcases List.mem_append.1 hy with hy | hy
                    · exact htr.out y hy
                    · simp at hy; subst hy; exact ⟨ha1, ha2⟩
            · rw [if_neg e8] at hst
              have g8 : (op != 8) = true := by simpa using e8
              replace hst := Lib.hid hst
              go_wp2
              go_roundg (ck.ins.length - (i + 1))
              case measure => rw [hq.out]; omega
              case rel => exact ⟨i + 1, s2, t2, _, _, rfl, rfl, by go_num, rfl, by omega, Lib.hid hst.out.symm, Lib.hid (hT.out.heap (B := wr.heap.size) (by repeat (first | exact Below.refl _ _ | assumption | refine Below.n _ ?_ (by first | omega | (simp; done) | (simp; omega)) | refine Below.alloc ?_ (by first | omega | (simp; done) | (simp; omega)) _ | refine Below.setCell ?_ (by first | omega | (simp; done) | (simp; omega)) _ | refine Below.drew ?_ | refine Below.setRow ?_ (by first | omega | (simp; done) | (simp; omega)) _ | refine Below.drewN ?_ _)) (Nat.le_refl _)), (by repeat (first | exact Below.refl _ _ | assumption | refine Below.n _ ?_ (by first | omega | (simp; done) | (simp; omega)) | refine Below.alloc ?_ (by first | omega | (simp; done) | (simp; omega)) _ | refine Below.setCell ?_ (by first | omega | (simp; done) | (simp; omega)) _ | refine Below.drew ?_ | refine Below.setRow ?_ (by first | omega | (simp; done) | (simp; omega)) _ | refine Below.drewN ?_ _)), htr, hg1, hg2⟩
          · obtain rfl : i = ck.ins.length := by omega
            have hsc2 := hsc.out
            rw [List.drop_length] at hsc2
            have hb3 := hbf2.out
            rw [← hsc2] at hb3
            simp only [scan] at hb3
            go_wp2
            go_roundg m
            case measure => omega
            case rel => exact ⟨s2, t2, _, _, hsv, htv, Lib.hid hb3, hT, hbw, htr, hg1, by omega, by omega⟩

end Vm
end Go.Proofs.YtbadplbdgpbdaaaDoor
