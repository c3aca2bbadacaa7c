/- A row of asks of the call's own, that grows at its end and is taken from its front. -/
import Derived.Test.YthdaeddaofickaaApp
import Derived.Test.YthdaeddaofickaaStep
import Derived.Test.YthdaeddaofickaaRdB
import Derived.Test.YthdaeddaofickaaSl
import Derived.Test.YthdaeddaofickaaKp
import Derived.ArgAppend
import Derived.Maps.AppendAt
namespace Go.Proofs.Ythdaeddaofickaa
open Go.RowKit
namespace Kp

abbrev askL (x : Ask) : List Value := [.int .i64 x.1, .int .i64 x.2.1, .int .i64 x.2.2]
theorem el_ask : El Try.prog 36 39 3 24 := El.mk' Try.underlying36 (by kernel_rfl) (by decide)
theorem askL_flat (L : List Ask) : (L.flatMap askL).length = L.length * 3 := by
  induction L with
  | nil => rfl
  | cons x L ih => rw [List.flatMap_cons, List.length_append, ih, List.length_cons]; simp; omega
theorem askL_at (L : List Ask) : ∀ {i : Nat} {x : Ask}, L[i]? = some x → ∀ j u, (askL x)[j]? = some u → (L.flatMap askL)[i * 3 + j]? = some u := by
  induction L with
  | nil => intro i x h; simp at h
  | cons y L ih =>
    intro i x h j u hu
    have hj : j < 3 := by have := (List.getElem?_eq_some_iff.1 hu).1; simpa using this
    rw [List.flatMap_cons]
    cases i with
    | zero =>
      simp at h
      subst h
      rw [Nat.zero_mul, Nat.zero_add, List.getElem?_append_left (by simpa using hj)]
      exact hu
    | succ i =>
      rw [List.getElem?_append_right (by simp; omega)]
      have := ih (by simpa using h) j u hu
      rw [← this]
      congr 1
      simp
      omega
theorem askL_one (L : List Ask) : ∀ u ∈ L.flatMap askL, u.oneCell' = true := fun u hu => by
  obtain ⟨x, _, hx⟩ := List.mem_flatMap.1 hu
  simp at hx
  rcases hx with rfl | rfl | rfl <;> rfl
theorem askL_drop (L : List Ask) (i : Nat) : (L.drop i).flatMap askL = (L.flatMap askL).drop (i * 3) := by
  induction i generalizing L with
  | zero => simp
  | succ i ih =>
    cases L with
    | nil => simp
    | cons x L =>
      rw [List.drop_succ_cons, ih, List.flatMap_cons, List.drop_append]
      have e : (askL x).drop ((i + 1) * 3) = [] := List.drop_eq_nil_of_le (by simp; omega)
      rw [e, List.nil_append]
      congr 1
      simp
      omega
theorem askL_take (L : List Ask) (i : Nat) : (L.take i).flatMap askL = (L.flatMap askL).take (i * 3) := by
  induction i generalizing L with
  | zero => simp
  | succ i ih =>
    cases L with
    | nil => simp
    | cons x L =>
      rw [List.take_succ_cons, List.flatMap_cons, List.flatMap_cons, ih, List.take_append]
      have e : (askL x).take ((i + 1) * 3) = askL x := List.take_of_length_le (by simp; omega)
      rw [e]
      congr 2
      simp
      omega

/-- a row of asks from some place of a block on -/
def OffA (w : World) (base : Nat) (v : Value) (L : List Ask) : Prop :=
  (v = .slice none 0 0 ∧ L = []) ∨ ∃ g off cap cur, v = .slice (some ⟨g, off, none⟩) L.length cap ∧ base ≤ g ∧ w.heap[g]? = some (.cells cur 39 (0, 0)) ∧ L.length ≤ cap ∧ off + cap * 3 ≤ cur.size ∧ cap ≤ 9223372036854775807 ∧ ∀ j u, (L.flatMap askL)[j]? = some u → cur[off + j]? = some u
theorem OffA.heap {w w' : World} {base : Nat} {v : Value} {L : List Ask} (h : OffA w base v L) (hg : ∀ g, v.ownBlock = some g → w'.heap[g]? = w.heap[g]?) : OffA w' base v L := by
  rcases h with h | ⟨g, off, cap, cur, rfl, h1, h2, h3⟩
  · exact .inl h
  · exact .inr ⟨g, off, cap, cur, rfl, h1, (hg g rfl).trans h2, h3⟩
theorem OffA.lt {w : World} {base : Nat} {v : Value} {L : List Ask} (h : OffA w base v L) {g : Nat} (hg : v.ownBlock = some g) : base ≤ g ∧ g < w.heap.size := by
  rcases h with ⟨rfl, _⟩ | ⟨g', off, cap, cur, rfl, h1, h2, h3⟩
  · cases hg
  · cases hg
    exact ⟨h1, (Array.getElem?_eq_some_iff.1 h2).1⟩
theorem OffA.below {w w' : World} {base B : Nat} {v : Value} {L : List Ask} (h : OffA w base v L) (hb : Below B w w') (hB : w.heap.size ≤ B) : OffA w' base v L :=
  h.heap fun g hg => hb.block g (by have := (h.lt hg).2; omega)
theorem OffA.grown {w w' : World} {base : Nat} {r : Option Nat} {v : Value} {L : List Ask} (h : OffA w base v L) (hg : w.grownBy w' r) (hr : ∀ g, v.ownBlock = some g → r ≠ some g) : OffA w' base v L :=
  h.heap fun g hg' => hg.block g (h.lt hg').2 (fun e => hr g hg' e.symm)
theorem OffA.mono {w : World} {b b' : Nat} {v : Value} {L : List Ask} (h : OffA w b v L) (hb : b' ≤ b) : OffA w b' v L := by
  rcases h with h | ⟨g, off, cap, cur, rfl, h1, h2⟩
  · exact .inl h
  · exact .inr ⟨g, off, cap, cur, rfl, by omega, h2⟩
theorem OffA.set {w : World} {base : Nat} {v : Value} {L : List Ask} (h : OffA w base v L) {p : Addr} (hp : v.ownBlock ≠ some p.block) (u : Value) : OffA (w.setCell p u) base v L :=
  h.heap fun g hg => Below.heap_setCell w p u g (fun e => hp (by rw [hg, e]))
theorem OffA.slice {w : World} {base : Nat} {v : Value} {L : List Ask} (h : OffA w base v L) : ∃ A cap, v = .slice A L.length cap := by
  rcases h with ⟨rfl, rfl⟩ | ⟨g, off, cap, cur, rfl, _⟩
  · exact ⟨none, 0, rfl⟩
  · exact ⟨_, _, rfl⟩
theorem OffA.of_own {w : World} {base : Nat} {v : Value} {L : List Ask} (h : w.ownsRow base 39 3 v L.length (L.flatMap askL)) : OffA w base v L := by
  rcases h.2 with ⟨rfl, h0⟩ | ⟨g, cap, cur, rfl, hb, hh, hc, hm, hs, ht⟩
  · exact .inl ⟨rfl, List.length_eq_zero_iff.1 h0⟩
  · refine .inr ⟨g, 0, cap, cur, rfl, hb, hh, hc, by omega, hm, fun j u hu => ?_⟩
    rw [← ht, List.getElem?_take] at hu
    split at hu
    · rw [Nat.zero_add]; simpa using hu
    · cases hu
/-- the cells of an entry -/
theorem OffA.cells {w : World} {base : Nat} {v : Value} {L : List Ask} (h : OffA w base v L) {i : Nat} {x : Ask} (hx : L[i]? = some x) :
    ∃ g off cap, v = .slice (some ⟨g, off, none⟩) L.length cap ∧ L.length ≤ cap ∧ base ≤ g ∧ g < w.heap.size ∧ w.cell? ⟨g, off + i * 3, none⟩ = some (.int .i64 x.1) ∧ w.cell? ⟨g, off + i * 3 + 1, none⟩ = some (.int .i64 x.2.1) ∧ w.cell? ⟨g, off + i * 3 + 2, none⟩ = some (.int .i64 x.2.2) := by
  rcases h with ⟨_, rfl⟩ | ⟨g, off, cap, cur, rfl, h1, h2, h3, h4, h5, h6⟩
  · simp at hx
  · have hB : Blk w g 39 cur := h2
    refine ⟨g, off, cap, rfl, h3, h1, hB.lt, ?_, ?_, ?_⟩
    · rw [hB.cell]; exact h6 (i * 3) _ (by have := askL_at L hx 0 _ rfl; simpa using this)
    · rw [hB.cell, Nat.add_assoc]; exact h6 (i * 3 + 1) _ (askL_at L hx 1 _ rfl)
    · rw [hB.cell, Nat.add_assoc]; exact h6 (i * 3 + 2) _ (askL_at L hx 2 _ rfl)
/-- taken from its front -/
theorem OffA.tail {w : World} {base g off cap : Nat} {x : Ask} {L : List Ask} (h : OffA w base (.slice (some ⟨g, off, none⟩) (L.length + 1) cap) (x :: L)) : OffA w base (.slice (some ⟨g, off + 3, none⟩) L.length (cap - 1)) L := by
  rcases h with ⟨h, _⟩ | ⟨g', off', cap', cur, e, h1, h2, h3, h4, h5, h6⟩
  · cases h
  · simp only [List.length_cons] at e h3
    cases e
    refine .inr ⟨g, off + 3, cap - 1, cur, rfl, h1, h2, by omega, by omega, by omega, fun j u hu => ?_⟩
    have := h6 (3 + j) u (by rw [List.flatMap_cons, List.getElem?_append_right (by simp)]; simpa using hu)
    rwa [show off + 3 + j = off + (3 + j) by omega]

theorem OffA.tail2 {w : World} {base g off n cap : Nat} {L : List Ask} (h : OffA w base (.slice (some ⟨g, off, none⟩) L.length cap) L) (hn : L.length = n + 1) : OffA w base (.slice (some ⟨g, off + 3, none⟩) n (cap - 1)) (L.drop 1) := by
  cases L with
  | nil => simp at hn
  | cons x L =>
    simp only [List.length_cons, Nat.add_right_cancel_iff] at hn
    subst hn
    exact h.tail
/-- an ask, just made, is appended -/
theorem wp_ask {W : World} {ops : Array Oper} {rest : List Oper} {o : Oper} {a : Act} {Q : Exit → Act → World → Prop} {base : Nat} {v : Value} {L : List Ask} (hT : OffA W base v L) (x : Ask) (hgd : o.guard = none) (so xo : Operand)
    (ho : o.op = .call { callee := .builtin .append, args := #[so, xo], argTypes := #[36, 36] }) (hs : a.eval so = v) (hx : a.eval xo = .slice (some ⟨W.heap.size, 0, none⟩) 1 1)
    (hbase : base ≤ W.heap.size) (hl : L.length < 1000000)
    (h : ∀ v' w', OffA w' base v' (L ++ [x]) → (W.alloc (.cells (askL x).toArray 39)).grownBy w' v.ownBlock → (∀ b, v'.ownBlock = some b → v.ownBlock = some b ∨ W.heap.size < b) → wpList Try.prog ops Q rest (a.put o.dst v') w') :
    wpList Try.prog ops Q (o :: rest) a (W.alloc (.cells (askL x).toArray 39)) := by
  obtain ⟨i, z, hi, hz, hsi, hby, hzs⟩ := el_ask.inf
  have hbl := el_ask.sl
  have hB := Blk.new W 39 (askL x).toArray
  have hnew : ∀ j u, (askL x)[j]? = some u → (W.alloc (.cells (askL x).toArray 39)).cell? ((⟨W.heap.size, 0, none⟩ : Addr).add j) = some u := fun j u hu => by
    rw [Addr.add_lit, Nat.zero_add, hB.cell]
    simpa using hu
  have h1c : ∀ u ∈ askL x, u.oneCell' = true := fun u hu => by simp at hu; rcases hu with rfl | rfl | rfl <;> rfl
  have hsz : (W.alloc (.cells (askL x).toArray 39)).heap.size = W.heap.size + 1 := World.size_alloc _ _
  have hfl : (L ++ [x]).flatMap askL = L.flatMap askL ++ askL x := by rw [List.flatMap_append]; simp
  have hln : (L ++ [x]).length = L.length + 1 := by simp
  rcases hT with ⟨rfl, rfl⟩ | ⟨g, off, cap, cur, rfl, h1, h2, h3, h4, h5, h6⟩
  · refine wpList_append_own _ hgd so xo 36 ho (W.heap.size + 1) 39 i z 3 24 hbl hi hz hsi hby hzs (by decide) (.slice none 0 0) 0 [] hs (World.ownsRow_nil _ _ _ _) ⟨W.heap.size, 0, none⟩ 1 1 (askL x) hx (by simp) hnew h1c (by simp only [maxLen]; omega) (by omega) (by omega) ?_
    intro v' w' hown hgr _
    refine h v' w' ((OffA.of_own (L := [x]) (by simpa using hown)).mono (by omega)) hgr fun b hb => .inr (by have := (hown.lt b hb).1; omega)
  · have hg : g < W.heap.size := (Array.getElem?_eq_some_iff.1 h2).1
    have hBg : Blk (W.alloc (.cells (askL x).toArray 39)) g 39 cur := Blk.alloc h2 _
    refine wpList_append_arg _ hgd so xo 36 ho 39 i z 3 24 hbl hi hz hsi hby hzs (by decide) g off L.length cap (L.flatMap askL) hs (askL_flat L) (fun j u hu => ?_) ⟨W.heap.size, 0, none⟩ 1 1 (askL x) hx (by simp) hnew h1c
      (fun hr j hj => ?_) (by simp only [maxLen]; omega) (by omega) (fun hr => ?_) (fun hr v' w' hw hgr => ?_)
    · rw [hBg.cell]; exact h6 j u hu
    · have hj3 : j < 3 := by simpa using hj
      rw [hBg.cell, hBg.frozen, Array.getElem?_eq_getElem (by omega)]
      exact ⟨rfl, rfl⟩
    · have hE : (W.alloc (.cells (askL x).toArray 39)).setCells g (off + L.length * 3) (askL x) = (((W.alloc (.cells (askL x).toArray 39)).setCell ⟨g, off + L.length * 3, none⟩ (.int .i64 x.1)).setCell ⟨g, off + L.length * 3 + 1, none⟩ (.int .i64 x.2.1)).setCell ⟨g, off + L.length * 3 + 1 + 1, none⟩ (.int .i64 x.2.2) := by
        simp [World.setCells]
      rw [hE]
      have hS := ((hBg.set (off + L.length * 3) (.int .i64 x.1)).set (off + L.length * 3 + 1) (.int .i64 x.2.1)).set (off + L.length * 3 + 1 + 1) (.int .i64 x.2.2)
      refine h _ _ (.inr ⟨g, off, cap, _, by rw [hln], h1, hS, by rw [hln]; omega, by simp; omega, h5, fun j u hu => ?_⟩) ⟨rfl, rfl, rfl, by simp, fun k hk hne => ?_⟩ (fun b hb => .inl hb)
      · rw [hfl] at hu
        have hfll := askL_flat L
        simp only [Array.getElem?_setIfInBounds, Array.size_setIfInBounds]
        by_cases hj : j < L.length * 3
        · rw [if_neg (by omega), if_neg (by omega), if_neg (by omega)]
          exact h6 j u (by rwa [List.getElem?_append_left (by omega)] at hu)
        · rw [List.getElem?_append_right (by omega), hfll] at hu
          have hj3 : j - L.length * 3 < 3 := by have := (List.getElem?_eq_some_iff.1 hu).1; simpa using this
          obtain ⟨q, rfl⟩ : ∃ q, j = L.length * 3 + q := ⟨j - L.length * 3, by omega⟩
          rw [Nat.add_sub_cancel_left] at hu hj3
          match q, hj3, hu with
          | 0, _, hu => simp at hu; rw [if_neg (by omega), if_neg (by omega), if_pos (by omega), if_pos (by omega), hu]
          | 1, _, hu => simp at hu; rw [if_neg (by omega), if_pos (by omega), if_pos (by omega), hu]
          | 2, _, hu => simp at hu; rw [if_pos (by omega), if_pos (by omega), hu]
      · have hkg : k ≠ g := fun e => hne (by rw [e]; rfl)
        rw [Below.heap_setCell _ _ _ k hkg, Below.heap_setCell _ _ _ k hkg, Below.heap_setCell _ _ _ k hkg]
    · have hown : w'.ownsRow (W.heap.size + 1) 39 3 v' (L ++ [x]).length ((L ++ [x]).flatMap askL) := by rw [hfl, hln, ← hsz]; exact hw
      refine h v' w' ((OffA.of_own hown).mono (by omega)) ⟨hgr.os, hgr.tape, hgr.output, hgr.size, fun k hk _ => hgr.block k hk (by simp)⟩ (fun b hb => .inr (by have := (hown.lt b hb).1; omega))

/-- asks that lie somewhere are appended to an own row, as a step of a region that draws its order -/
theorem step_asks {W : World} {ops : Array Oper} {o : Oper} {a : Act} {K : Act → World → Prop} {Q : Exit → Act → World → Prop} {E : Prop} {base n : Nat} {v : Value} {xs : List Value} (hown : W.ownsRow base 39 3 v n xs) (ad : Addr) (m c : Nat) (news : List Value) (hnl : news.length = m * 3)
    (hnews : ∀ j u, news[j]? = some u → W.cell? (ad.add j) = some u) (h1 : ∀ u ∈ news, u.oneCell' = true) (hb : n + m ≤ 100000) (hbase : base ≤ W.heap.size) (hgd : o.guard = none) (so xo : Operand) (ho : o.op = .call { callee := .builtin .append, args := #[so, xo], argTypes := #[36, 36] })
    (hs : a.eval so = v) (hx : a.eval xo = .slice (some ad) m c)
    (h : ∀ v' w', w'.ownsRow base 39 3 v' (n + m) (xs ++ news) → W.grownBy w' v.ownBlock → K (a.put o.dst v') w') :
    if Region.wanted o (yielded ops a.tmps) = true then Oper.wp Try.prog o a W K Q else E := by
  obtain ⟨i, z, hi, hz, hsi, hby, hzs⟩ := el_ask.inf
  have hw : Region.wanted o (yielded ops a.tmps) = true := by simp [Region.wanted, hgd]
  rw [if_pos hw]
  exact wp_append_own W so xo 36 ho base 39 i z 3 24 el_ask.sl hi hz hsi hby hzs (by decide) v n xs hs hown ad m c news hx hnl hnews h1 (by simp only [maxLen]; omega) (by omega) hbase fun v' w' h2 h3 _ => h v' w' h2 h3
theorem OffA.nonempty {w : World} {base : Nat} {v : Value} {L : List Ask} (h : OffA w base v L) (hL : 0 < L.length) : ∃ g off cap, v = .slice (some ⟨g, off, none⟩) L.length cap ∧ L.length ≤ cap := by
  rcases h with ⟨_, rfl⟩ | ⟨g, off, cap, cur, rfl, _, _, h3, _⟩
  · simp at hL
  · exact ⟨g, off, cap, rfl, h3⟩
theorem OffA.blk {w : World} {base g off n cap : Nat} {L : List Ask} (h : OffA w base (.slice (some ⟨g, off, none⟩) n cap) L) : ∃ cur, Blk w g 39 cur ∧ ∀ j u, (L.flatMap askL)[j]? = some u → cur[off + j]? = some u := by
  rcases h with ⟨h, _⟩ | ⟨g', off', cap', cur, e, h1, h2, h3, h4, h5, h6⟩
  · cases h
  · cases e
    exact ⟨cur, h2, h6⟩

end Kp
end Go.Proofs.Ythdaeddaofickaa
