/- A row of ints of the call's own, that grows at its end and is taken from its front. -/
import Derived.Test.YtijhaiificflhaaRowI
import Derived.ArgAppend
import Derived.Maps.AppendAt
import Derived.Tactics
namespace Go.Proofs.Ytijhaiificflhaa
open Go.RowKit
namespace Ru

abbrev intV (l : List Int) : List Value := l.map (Value.int .i64)
/-- a row of ints from some place of a block on -/
def OffI (w : World) (base : Nat) (v : Value) (L : List Int) : Prop :=
  (v = .slice none 0 0 ∧ L = []) ∨ ∃ g off cap cur, v = .slice (some ⟨g, off, none⟩) L.length cap ∧ base ≤ g ∧ w.heap[g]? = some (.cells cur 3 (0, 0)) ∧ L.length ≤ cap ∧ off + cap ≤ cur.size ∧ cap ≤ 9223372036854775807 ∧ ∀ j u, (intV L)[j]? = some u → cur[off + j]? = some u
theorem OffI.heap {w w' : World} {base : Nat} {v : Value} {L : List Int} (h : OffI w base v L) (hg : ∀ g, v.ownBlock = some g → w'.heap[g]? = w.heap[g]?) : OffI w' base v L := by
  rcases h with h | ⟨g, off, cap, cur, rfl, h1, h2, h3⟩
  · exact .inl h
  · exact .inr ⟨g, off, cap, cur, rfl, h1, (hg g rfl).trans h2, h3⟩
theorem OffI.lt {w : World} {base : Nat} {v : Value} {L : List Int} (h : OffI w base v L) {g : Nat} (hg : v.ownBlock = some g) : base ≤ g ∧ g < w.heap.size := by
  rcases h with ⟨rfl, _⟩ | ⟨g', off, cap, cur, rfl, h1, h2, h3⟩
  · cases hg
  · cases hg
    exact ⟨h1, (Array.getElem?_eq_some_iff.1 h2).1⟩
theorem OffI.below {w w' : World} {base B : Nat} {v : Value} {L : List Int} (h : OffI w base v L) (hb : Below B w w') (hB : w.heap.size ≤ B) : OffI w' base v L :=
  h.heap fun g hg => hb.block g (by have := (h.lt hg).2; omega)
theorem OffI.grown {w w' : World} {base : Nat} {r : Option Nat} {v : Value} {L : List Int} (h : OffI w base v L) (hg : w.grownBy w' r) (hr : ∀ g, v.ownBlock = some g → r ≠ some g) : OffI w' base v L :=
  h.heap fun g hg' => hg.block g (h.lt hg').2 (fun e => hr g hg' e.symm)
theorem OffI.mono {w : World} {b b' : Nat} {v : Value} {L : List Int} (h : OffI w b v L) (hb : b' ≤ b) : OffI w b' v L := by
  rcases h with h | ⟨g, off, cap, cur, rfl, h1, h2⟩
  · exact .inl h
  · exact .inr ⟨g, off, cap, cur, rfl, by omega, h2⟩
theorem OffI.slice {w : World} {base : Nat} {v : Value} {L : List Int} (h : OffI w base v L) : ∃ A cap, v = .slice A L.length cap := by
  rcases h with ⟨rfl, rfl⟩ | ⟨g, off, cap, cur, rfl, _⟩
  · exact ⟨none, 0, rfl⟩
  · exact ⟨_, _, rfl⟩
theorem OffI.of_own {w : World} {base : Nat} {v : Value} {L : List Int} (h : w.ownsRow base 3 1 v L.length (intV L)) : OffI w base v L := by
  rcases h.2 with ⟨rfl, h0⟩ | ⟨g, cap, cur, rfl, hb, hh, hc, hm, hs, ht⟩
  · exact .inl ⟨rfl, List.length_eq_zero_iff.1 h0⟩
  · refine .inr ⟨g, 0, cap, cur, rfl, hb, hh, hc, by omega, hm, fun j u hu => ?_⟩
    rw [← ht, List.getElem?_take] at hu
    split at hu
    · rw [Nat.zero_add]; simpa using hu
    · cases hu
/-- its first int; what is left -/
theorem OffI.head {w : World} {base : Nat} {v : Value} {x : Int} {L : List Int} (h : OffI w base v (x :: L)) :
    ∃ g off cap, v = .slice (some ⟨g, off, none⟩) (L.length + 1) cap ∧ L.length + 1 ≤ cap ∧ base ≤ g ∧ g < w.heap.size ∧ w.cell? ⟨g, off, none⟩ = some (.int .i64 x) ∧ OffI w base (.slice (some ⟨g, off + 1, none⟩) L.length (cap - 1)) L := by
  rcases h with ⟨_, h⟩ | ⟨g, off, cap, cur, rfl, h1, h2, h3, h4, h5, h6⟩
  · cases h
  · have hB : Blk w g 3 cur := h2
    simp only [List.length_cons] at h3
    refine ⟨g, off, cap, rfl, h3, h1, hB.lt, ?_, .inr ⟨g, off + 1, cap - 1, cur, rfl, h1, h2, by omega, by omega, by omega, fun j u hu => ?_⟩⟩
    · rw [hB.cell]; exact h6 0 _ rfl
    · have := h6 (j + 1) u (by simpa using hu)
      rwa [show off + 1 + j = off + (j + 1) by omega]
theorem Blk_setCells {g : Nat} {t : TypeId} : ∀ (vs : List Value) {w : World} {cs : Array Value} (_ : Blk w g t cs) (o : Nat), ∃ cs', Blk (w.setCells g o vs) g t cs' ∧ cs'.size = cs.size ∧ (∀ i, i < o → cs'[i]? = cs[i]?) ∧ (∀ j u, vs[j]? = some u → o + j < cs.size → cs'[o + j]? = some u) ∧ w.grownBy (w.setCells g o vs) (some g)
  | [], w, cs, h, o => ⟨cs, by simpa [World.setCells] using h, rfl, fun _ _ => rfl, fun j u hu => by simp at hu, by simpa [World.setCells] using (⟨rfl, rfl, rfl, Nat.le_refl _, fun _ _ _ => rfl⟩ : w.grownBy w (some g))⟩
  | v :: vs, w, cs, h, o => by
    obtain ⟨cs', h1, h2, h3, h4, h5⟩ := Blk_setCells vs (h.set o v) (o + 1)
    refine ⟨cs', by simpa [World.setCells] using h1, by rw [h2]; simp, fun i hi => ?_, fun j u hu hj => ?_, ?_⟩
    · rw [h3 i (by omega), Array.getElem?_setIfInBounds, if_neg (by omega)]
    · cases j with
      | zero =>
        simp at hu
        subst hu
        rw [Nat.add_zero, h3 o (by omega), Array.getElem?_setIfInBounds, if_pos rfl, if_pos (by omega)]
      | succ j =>
        have := h4 j u (by simpa using hu) (by simp; omega)
        rwa [show o + 1 + j = o + (j + 1) by omega] at this
    · have e : w.setCells g o (v :: vs) = (w.setCell ⟨g, o, none⟩ v).setCells g (o + 1) vs := by simp [World.setCells]
      rw [e]
      exact ⟨h5.os, h5.tape, h5.output, by have := h5.size; simpa using this, fun k hk hne => (h5.block k (by simpa using hk) hne).trans (Below.heap_setCell w ⟨g, o, none⟩ v k (fun e => hne (by rw [e])))⟩
/-- ints that lie somewhere are appended -/
theorem wp_offI {W : World} {ops : Array Oper} {rest : List Oper} {o : Oper} {a : Act} {Q : Exit → Act → World → Prop} {base : Nat} {v : Value} {L : List Int} (hT : OffI W base v L) (M : List Int) (ad : Addr) (c : Nat) (hgd : o.guard = none) (so xo : Operand)
    (ho : o.op = .call { callee := .builtin .append, args := #[so, xo], argTypes := #[33, 33] }) (hs : a.eval so = v) (hx : a.eval xo = .slice (some ad) M.length c) (hnew : ∀ j u, (intV M)[j]? = some u → W.cell? (ad.add j) = some u)
    (hbase : base ≤ W.heap.size) (hl : L.length + M.length < 1000000)
    (h : ∀ v' w', OffI w' base v' (L ++ M) → W.grownBy w' v.ownBlock → (∀ b, v'.ownBlock = some b → v.ownBlock = some b ∨ W.heap.size ≤ b) → wpList Try.prog ops Q rest (a.put o.dst v') w') :
    wpList Try.prog ops Q (o :: rest) a W := by
  obtain ⟨i, z, hi, hz, hsi, hby, hzs⟩ := elInts.inf
  have hbl := elInts.sl
  have h1c : ∀ u ∈ intV M, u.oneCell' = true := fun u hu => by obtain ⟨x, _, rfl⟩ := List.mem_map.1 hu; rfl
  have hfl : intV (L ++ M) = intV L ++ intV M := by simp
  have hln : (L ++ M).length = L.length + M.length := by simp
  have hml : (intV M).length = M.length := by simp
  have hll : (intV L).length = L.length := by simp
  rcases hT with ⟨rfl, rfl⟩ | ⟨g, off, cap, cur, rfl, h1, h2, h3, h4, h5, h6⟩
  · refine wpList_append_own _ hgd so xo 33 ho W.heap.size 3 i z 1 8 hbl hi hz hsi hby hzs (by decide) (.slice none 0 0) 0 [] hs (World.ownsRow_nil _ _ _ _) ad M.length c (intV M) hx (by simp) hnew h1c (by simp only [maxLen]; omega) (by omega) (by omega) ?_
    intro v' w' hown hgr _
    refine h v' w' ((OffI.of_own (L := M) (by simpa using hown)).mono hbase) hgr fun b hb => .inr (hown.lt b hb).1
  · have hg : g < W.heap.size := (Array.getElem?_eq_some_iff.1 h2).1
    have hBg : Blk W g 3 cur := h2
    refine wpList_append_arg _ hgd so xo 33 ho 3 i z 1 8 hbl hi hz hsi hby hzs (by decide) g off L.length cap (intV L) hs (by simp) (fun j u hu => ?_) ad M.length c (intV M) hx (by simp) hnew h1c
      (fun hr j hj => ?_) (by simp only [maxLen]; omega) (by omega) (fun hr => ?_) (fun hr v' w' hw hgr => ?_)
    · rw [hBg.cell]; exact h6 j u hu
    · have hj3 : j < M.length := by simpa using hj
      rw [hBg.cell, hBg.frozen, Array.getElem?_eq_getElem (by omega)]
      exact ⟨rfl, rfl⟩
    · obtain ⟨cs', hS, hsz, hlow, hin, hoth⟩ := Blk_setCells (intV M) hBg (off + L.length * 1)
      refine h _ _ (.inr ⟨g, off, cap, cs', by rw [hln], h1, hS, by rw [hln]; omega, by omega, h5, fun j u hu => ?_⟩) ?_ (fun b hb => .inl hb)
      · rw [hfl] at hu
        by_cases hj : j < L.length
        · rw [List.getElem?_append_left (by omega)] at hu
          rw [hlow _ (by omega)]
          exact h6 j u hu
        · rw [List.getElem?_append_right (by omega), hll] at hu
          have hj3 : j - L.length < M.length := by have := (List.getElem?_eq_some_iff.1 hu).1; omega
          have := hin (j - L.length) u hu (by omega)
          rwa [show off + L.length * 1 + (j - L.length) = off + j by omega] at this
      · exact hoth
    · have hown : w'.ownsRow W.heap.size 3 1 v' (L ++ M).length (intV (L ++ M)) := by rw [hfl, hln]; exact hw
      refine h v' w' ((OffI.of_own hown).mono hbase) ⟨hgr.os, hgr.tape, hgr.output, hgr.size, fun k hk _ => hgr.block k hk (by simp)⟩ (fun b hb => .inr (hown.lt b hb).1)

theorem run_offI_none {W : World} {base : Nat} {v : Value} {L : List Int} (hT : OffI W base v L) (ty : TypeId) : (Builtin.append_ #[33, 33] ty #[v, .slice none 0 0]).run Try.prog W = .ok v W := by
  obtain ⟨i, z, hi, _⟩ := elInts.inf
  have ht := elInts.sl
  rcases hT with ⟨rfl, rfl⟩ | ⟨g, off, cap, cur, rfl, h1, h2, hnc, _⟩
  · simp [Builtin.append_, run_underlying ht, sizeOf, typeInfo, hi, Builtin.lenOf, Builtin.firstCells]
  · simp [Builtin.append_, run_underlying ht, sizeOf, typeInfo, hi, Builtin.lenOf, Builtin.firstCells, hnc, storeCells]
/-- nothing is appended -/
theorem wp_offI_none {W : World} {ops : Array Oper} {rest : List Oper} {o : Oper} {a : Act} {Q : Exit → Act → World → Prop} {base : Nat} {v : Value} {L : List Int} (hT : OffI W base v L) (hgd : o.guard = none) (so xo : Operand)
    (ho : o.op = .call { callee := .builtin .append, args := #[so, xo], argTypes := #[33, 33] }) (hs : a.eval so = v) (hx : a.eval xo = .slice none 0 0) (h : wpList Try.prog ops Q rest (a.put o.dst v) W) : wpList Try.prog ops Q (o :: rest) a W := by
  refine wpList_plain hgd fun K hK => ?_
  have hrun := run_offI_none hT o.type
  unfold Oper.wp
  simp [execOp, ho, resolve, invoke, builtin, hs, hx, hrun, Result.andThen]
  exact hK _ _ h

end Ru
end Go.Proofs.Ytijhaiificflhaa
