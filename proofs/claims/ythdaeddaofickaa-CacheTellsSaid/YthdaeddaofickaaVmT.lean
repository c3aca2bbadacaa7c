/- Two rows of ints of the call's own: one that grows at its end, one that is taken from its front as well. -/
import Derived.Test.YthdaeddaofickaaSl
import Derived.Test.YthdaeddaofickaaApp
import Derived.ArgAppend
import Derived.Maps.AppendAt
namespace Go.Proofs.Ythdaeddaofickaa
open Go.RowKit
namespace Vm

theorem el_ints : El Try.prog 101 3 1 8 := El.mk' Try.underlying101 (by kernel_rfl) (by decide)
abbrev intL (l : List Int) : List Value := l.map (Value.int .i64)

/-- a row of ints from some place of a block on -/
def OffRow (w : World) (base : Nat) (v : Value) (l : List Int) : Prop :=
  ∃ g off cap cur, v = .slice (some ⟨g, off, none⟩) l.length cap ∧ base ≤ g ∧ w.heap[g]? = some (.cells cur 3 (0, 0)) ∧ l.length ≤ cap ∧ off + cap ≤ cur.size ∧ cap ≤ 9223372036854775807 ∧ ∀ j x, l[j]? = some x → cur[off + j]? = some (.int .i64 x)
theorem OffRow.heap {w w' : World} {base : Nat} {v : Value} {l : List Int} (h : OffRow w base v l) (hg : ∀ g, v.ownBlock = some g → w'.heap[g]? = w.heap[g]?) : OffRow w' base v l := by
  obtain ⟨g, off, cap, cur, rfl, h1, h2, h3⟩ := h
  exact ⟨g, off, cap, cur, rfl, h1, (hg g rfl).trans h2, h3⟩
theorem OffRow.lt {w : World} {base : Nat} {v : Value} {l : List Int} (h : OffRow w base v l) {g : Nat} (hg : v.ownBlock = some g) : base ≤ g ∧ g < w.heap.size := by
  obtain ⟨g', off, cap, cur, rfl, h1, h2, h3⟩ := h
  cases hg
  exact ⟨h1, (Array.getElem?_eq_some_iff.1 h2).1⟩
theorem own_heap {w w' : World} {base e s n : Nat} {v : Value} {xs : List Value} (h : w.ownsRow base e s v n xs) (hg : ∀ g, v.ownBlock = some g → w'.heap[g]? = w.heap[g]?) : w'.ownsRow base e s v n xs := by
  refine ⟨h.1, ?_⟩
  rcases h.2 with h0 | ⟨g, cap, cur, h1, h2, h3, h4⟩
  · exact .inl h0
  · refine .inr ⟨g, cap, cur, h1, h2, ?_, h4⟩
    rw [hg g (by rw [h1]; rfl)]
    exact h3

theorem ints_own {w : World} {base e c : Nat} {v : Value} {l : List Int} (h : w.ownsRow base e 1 v l.length (l.map (Value.int .i64))) (hc : l.length ≤ 9223372036854775807) (hB : w.heap.size ≤ c) : Sl.IntsV w c v l := by
  rcases h.2 with ⟨rfl, h0⟩ | ⟨g, cap, cur, rfl, _, hh, hcap, _, _, ht⟩
  · exact ⟨none, 0, by rw [h0], hc, fun i x hx => by have := (List.getElem?_eq_some_iff.1 hx).1; omega⟩
  · refine ⟨_, cap, rfl, hc, fun i x hx => ⟨g, 0, rfl, ?_, ?_⟩⟩
    · have := (Array.getElem?_eq_some_iff.1 hh).1; omega
    · have hi : i < l.length := (List.getElem?_eq_some_iff.1 hx).1
      have := h.cells (g := g) rfl i (.int .i64 x) (by rw [List.getElem?_map, hx]; rfl)
      rw [Addr.add_lit] at this
      exact this

structure Two (w : World) (base : Nat) (sv tv : Value) (s t : List Int) : Prop where
  seen : w.ownsRow base 3 1 sv s.length (intL s)
  todo : OffRow w base tv t
  apart : sv.ownBlock ≠ tv.ownBlock
theorem Two.heap {w w' : World} {base B : Nat} {sv tv : Value} {s t : List Int} (h : Two w base sv tv s t) (hb : Below B w w') (hB : w.heap.size ≤ B) : Two w' base sv tv s t :=
  ⟨own_heap h.seen fun g hg => hb.block g (by have := h.seen.lt g hg; omega), h.todo.heap fun g hg => hb.block g (by have := h.todo.lt hg; omega), h.apart⟩

section
variable {W : World} {ops : Array Oper} {rest : List Oper} {o : Oper} {a : Act} {Q : Exit → Act → World → Prop} {base : Nat} {sv tv : Value} {s t : List Int}
theorem wp_seen (hgd : o.guard = none) (so xo : Operand) (ho : o.op = .call { callee := .builtin .append, args := #[so, xo], argTypes := #[101, 101] }) (hT : Two W base sv tv s t) (x : Int) (hs : a.eval so = sv) (hx : a.eval xo = .slice (some ⟨W.heap.size, 0, none⟩) 1 1)
    (hbase : base ≤ W.heap.size) (hl : s.length < 1000000) (h : ∀ sv' w', Two w' base sv' tv (s ++ [x]) t → Below base W w' → (∀ k, k < W.heap.size → some k ≠ sv.ownBlock → w'.heap[k]? = W.heap[k]?) → wpList Try.prog ops Q rest (a.put o.dst sv') w') : wpList Try.prog ops Q (o :: rest) a (W.alloc (.cells #[.int .i64 x] 3)) := by
  obtain ⟨i, z, hi, hz, hsi, hby, hzs⟩ := el_ints.inf
  have hbl := el_ints.sl
  have hown := hT.seen.alloc (.cells #[.int .i64 x] 3)
  refine wpList_append_own_at _ hgd so xo 101 ho base 3 i z 1 8 hbl hi hz hsi hby hzs (by decide) sv s.length (intL s) hs hown ⟨W.heap.size, 0, none⟩ 1 1 [.int .i64 x] hx (by simp) (fun j u hu => ?_) (by simp [Value.oneCell']) (by simp only [maxLen]; omega) (by omega) (by simp; omega) ?_
  · have := (Blk.new W 3 #[.int .i64 x]).cell j
    rw [Addr.add_lit, Nat.zero_add, this]
    simpa using hu
  · intro v' w' h2 h3 _ h5
    have hb := own_below (by simp; omega) hown h3
    have hlt : ∀ g, tv.ownBlock = some g → w'.heap[g]? = W.heap[g]? := fun g hg => by
      have h6 := hT.todo.lt hg
      rw [h3.block g (by simp; omega) (fun e => hT.apart (by rw [← e, hg]))]
      exact Below.heap_alloc W _ g h6.2
    refine h v' w' ⟨by simpa using h2, hT.todo.heap hlt, fun e => ?_⟩ (((Below.refl _ _).alloc hbase _).trans hb) (fun k hk hne => (h3.block k (by simp; omega) hne).trans (Below.heap_alloc W _ k hk))
    rcases h5 with h5 | h5
    · exact hT.apart (by rw [← h5]; exact e)
    · have := hT.todo.lt (g := (W.alloc (.cells #[.int .i64 x] 3)).heap.size) (by rw [← e]; exact h5)
      simp at this
      omega

theorem wp_todo (hgd : o.guard = none) (so xo : Operand) (ho : o.op = .call { callee := .builtin .append, args := #[so, xo], argTypes := #[101, 101] }) (hT : Two W base sv tv s t) (x : Int) (hs : a.eval so = tv) (hx : a.eval xo = .slice (some ⟨W.heap.size, 0, none⟩) 1 1)
    (hbase : base ≤ W.heap.size) (hl : t.length < 1000000) (h : ∀ tv' w', Two w' base sv tv' s (t ++ [x]) → Below base W w' → wpList Try.prog ops Q rest (a.put o.dst tv') w') : wpList Try.prog ops Q (o :: rest) a (W.alloc (.cells #[.int .i64 x] 3)) := by
  obtain ⟨i, z, hi, hz, hsi, hby, hzs⟩ := el_ints.inf
  have hbl := el_ints.sl
  have hlt0 := fun g => hT.todo.lt (g := g)
  obtain ⟨g, off, cap, cur, rfl, h1, h2, h3, h4, h7, h5⟩ := hT.todo
  have hg := (hlt0 g rfl).2
  have hcell : ∀ j, (W.alloc (.cells #[.int .i64 x] 3)).cell? ⟨g, j, none⟩ = cur[j]? := fun j => by
    rw [cell_alloc_ite, if_pos hg]
    simp [World.cell?, h2]
  have hfz : ∀ j, (W.alloc (.cells #[.int .i64 x] 3)).frozen? ⟨g, j, none⟩ = false := fun j => by
    rw [frozen_alloc_ite, if_pos hg]
    simp [World.frozen?, h2]
  refine wpList_append_arg _ hgd so xo 101 ho 3 i z 1 8 hbl hi hz hsi hby hzs (by decide) g off t.length cap (intL t) hs (by simp) (fun j u hu => ?_) ⟨W.heap.size, 0, none⟩ 1 1 [.int .i64 x] hx (by simp) (fun j u hu => ?_) (by simp [Value.oneCell'])
    (fun hr j hj => ?_) (by simp only [maxLen]; omega) (by omega) (fun hr => ?_) (fun hr v' w' hw hgr => ?_)
  · rw [hcell]
    rw [List.getElem?_map] at hu
    obtain ⟨y, hy, rfl⟩ := Option.map_eq_some_iff.1 hu
    exact h5 j y hy
  · have := (Blk.new W 3 #[.int .i64 x]).cell j
    rw [Addr.add_lit, Nat.zero_add, this]
    simpa using hu
  · rw [hcell, hfz]
    have : j = 0 := by simpa using hj
    subst this
    rw [Array.getElem?_eq_getElem (by omega)]
    exact ⟨rfl, rfl⟩
  · have hE : (W.alloc (.cells #[.int .i64 x] 3)).setCells g (off + t.length * 1) [.int .i64 x] = (W.alloc (.cells #[.int .i64 x] 3)).setCell ⟨g, off + t.length, none⟩ (.int .i64 x) := by
      simp [World.setCells]
    rw [hE]
    have hB : Blk (W.alloc (.cells #[.int .i64 x] 3)) g 3 cur := Blk.alloc h2 _
    have hS := hB.set (off + t.length) (.int .i64 x)
    refine h _ _ ⟨own_heap (hT.seen) fun k hk => ?_, ⟨g, off, cap, _, by simp, h1, hS, by simp; omega, by simp; omega, h7, fun j y hy => ?_⟩, hT.apart⟩ (((Below.refl _ _).alloc hbase _).setCell h1 _)
    · have hk2 := hT.seen.lt k hk
      rw [Below.heap_setCell _ _ _ k (fun e => hT.apart (by rw [hk]; exact congrArg some e))]
      exact Below.heap_alloc W _ k hk2.2
    · rw [Array.getElem?_setIfInBounds]
      by_cases hj : j < t.length
      · rw [if_neg (by omega)]
        exact h5 j y (by rwa [List.getElem?_append_left hj] at hy)
      · rw [List.getElem?_append_right (by omega)] at hy
        have hj2 : j = t.length := by
          rcases Nat.lt_or_ge (j - t.length) 1 with h | h
          · omega
          · rw [List.getElem?_eq_none (by simpa using h)] at hy; cases hy
        subst hj2
        simp at hy
        rw [if_pos rfl, if_pos (by omega), hy]
  · have hown : OffRow w' base v' (t ++ [x]) := by
      rcases hw.2 with ⟨_, h0⟩ | ⟨k, c, cu, rfl, hbk, hk, hc1, hc2, hc3, hc4⟩
      · omega
      · refine ⟨k, 0, c, cu, by simp, by simp at hbk; omega, hk, by simpa using hc1, by omega, hc2, fun j y hy => ?_⟩
        rw [Nat.zero_add]
        have e1 : (intL t ++ [.int .i64 x])[j]? = some (.int .i64 y) := by
          have e2 : intL t ++ [.int .i64 x] = intL (t ++ [x]) := by simp
          rw [e2, List.getElem?_map, hy]
          rfl
        rw [← hc4, List.getElem?_take] at e1
        split at e1
        · simpa using e1
        · cases e1
    have hblk : ∀ k, v'.ownBlock = some k → W.heap.size < k := fun k hk => by have := hw.lt k hk; simp at this; omega
    refine h v' w' ⟨own_heap hT.seen fun k hk => ?_, hown, fun e => ?_⟩ (((Below.refl _ _).alloc hbase _).grown hgr (by simp; omega) (by simp))
    · have hk2 := hT.seen.lt k hk
      rw [hgr.block k (by simp; omega) (by simp)]
      exact Below.heap_alloc W _ k hk2.2
    · cases hb : sv.ownBlock with
      | none =>
        rw [hb] at e
        rcases hw.2 with ⟨_, h0⟩ | ⟨k, c, cu, rfl, _⟩
        · omega
        · cases e
      | some k =>
        have := hblk k (by rw [← e, hb])
        have := hT.seen.lt k hb
        omega
end

end Vm
end Go.Proofs.Ythdaeddaofickaa
