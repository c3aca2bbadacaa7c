/- Rules that came in, copied into a row of the call's own, and one more behind them; a region that draws its order with such appends in it. What one expression means beside rules: slotlaw6.of. An expression behind rules: what it means, plainly. -/
import Derived.Test.YtfhedopfjgjffaaAlv
import Derived.Test.YtfhedopfjgjffaaLate
import Derived.Laws.AppendOwnNone
import Derived.Test.YtfhedopfjgjffaaSam
namespace Go.Proofs.Ytfhedopfjgjffaa
open Go.RowKit
namespace Ru
open Lx
open Sl (strV Reads)

theorem choose_list {α β : Type} : ∀ (l : List α) (P : Nat → α → β → Prop), (∀ i x, l[i]? = some x → ∃ y, P i x y) → ∃ xs : List (α × β), xs.map (·.1) = l ∧ ∀ i x, xs[i]? = some x → P i x.1 x.2
  | [], _, _ => ⟨[], rfl, fun i x h => by simp at h⟩
  | a :: l, P, h => by
    obtain ⟨y, hy⟩ := h 0 a rfl
    obtain ⟨xs, h1, h2⟩ := choose_list l (fun i x y => P (i + 1) x y) (fun i x hx => h (i + 1) x (by simpa using hx))
    refine ⟨(a, y) :: xs, by simp [h1], fun i x hx => ?_⟩
    cases i with
    | zero => simp at hx; subst hx; exact hy
    | succ i => exact h2 i x (by simpa using hx)

/-- a rule's cells are so long -/
theorem ruleC_len (x : Rule × Option Addr × Nat) : (ruleC x).length = 6 := rfl
theorem ruleC_one (x : Rule × Option Addr × Nat) : ∀ u ∈ ruleC x, u.oneCell' = true := fun u hu => by
  simp [ruleC, strV] at hu
  rcases hu with rfl | rfl | rfl | rfl | rfl | rfl <;> rfl
theorem flatC_len (xs : List (Rule × Option Addr × Nat)) : (xs.flatMap ruleC).length = xs.length * 6 := by
  induction xs with
  | nil => rfl
  | cons x xs ih => rw [List.flatMap_cons, List.length_append, ih, ruleC_len, List.length_cons]; omega
theorem flatC_one (xs : List (Rule × Option Addr × Nat)) : ∀ u ∈ xs.flatMap ruleC, u.oneCell' = true := fun u hu => by
  obtain ⟨x, _, h⟩ := List.mem_flatMap.1 hu
  exact ruleC_one x u h
theorem flatC_at : ∀ (xs : List (Rule × Option Addr × Nat)) (j : Nat) (u : Value), (xs.flatMap ruleC)[j]? = some u → ∃ i k x, j = i * 6 + k ∧ k < 6 ∧ xs[i]? = some x ∧ (ruleC x)[k]? = some u
  | [], j, u, h => by simp at h
  | x :: xs, j, u, h => by
    rw [List.flatMap_cons] at h
    by_cases hj : j < 6
    · rw [List.getElem?_append_left (by rw [ruleC_len]; exact hj)] at h
      exact ⟨0, j, x, by omega, hj, rfl, h⟩
    · rw [List.getElem?_append_right (by rw [ruleC_len]; omega), ruleC_len] at h
      obtain ⟨i, k, y, h1, h2, h3, h4⟩ := flatC_at xs _ u h
      exact ⟨i + 1, k, y, by omega, h2, by simpa using h3, h4⟩

/-- rules that came in: no longer than the form lets them be -/
structure RulesIn (w : World) (v : Value) (l : List Rule) : Prop where
  at' : RulesV w w.heap.size v l
  z : l.length ≤ 1759218604390
  nil : ∀ n c, v = .slice none n c → c = 0
/-- a rule whose expression's kids lie below a block -/
def RuleOk (w : World) (B : Nat) (x : Rule × Option Addr × Nat) : Prop := x.1.name.length ≤ 9223372036854775807 ∧ (x.1.expr.name.length ≤ 9223372036854775807 ∧ -9223372036854775808 ≤ x.1.expr.kind ∧ x.1.expr.kind ≤ 9223372036854775807) ∧ x.1.expr.kids.length ≤ 9223372036854775807 ∧ KidsV w B x.2.1 x.1.expr.kids
/-- where they lie -/
structure SrcR (w : World) (B : Nat) (v : Value) (l : List Rule) (xs : List (Rule × Option Addr × Nat)) : Prop where
  eq : xs.map (·.1) = l
  at' : ∃ A cap, v = .slice A l.length cap ∧ (∀ j u, (xs.flatMap ruleC)[j]? = some u → ∃ b o, A = some ⟨b, o, none⟩ ∧ b < B ∧ w.cell? ⟨b, o + j, none⟩ = some u)
  ok : ∀ x ∈ xs, RuleOk w B x
theorem exprAt_val {w : World} {B b o : Nat} {e : Expr} (h : ExprAt w B b o e) : ∃ A cap, w.cell? ⟨b, o, none⟩ = some (.int .i64 e.kind) ∧ w.cell? ⟨b, o + 1, none⟩ = some (.int .i64 e.a) ∧ w.cell? ⟨b, o + 2, none⟩ = some (.int .i64 e.b) ∧ w.cell? ⟨b, o + 3, none⟩ = some (strV e.name) ∧ w.cell? ⟨b, o + 4, none⟩ = some (.slice A e.kids.length cap) ∧ (e.name.length ≤ 9223372036854775807 ∧ -9223372036854775808 ≤ e.kind ∧ e.kind ≤ 9223372036854775807) ∧ e.kids.length ≤ 9223372036854775807 ∧ KidsV w B A e.kids := by
  cases e
  rw [ExprAt] at h
  obtain ⟨h0, h1, h2, h3, h4, A, cap, h5, h6, h7⟩ := h
  exact ⟨A, cap, h0, h1, h2, h3, h5, h4, h6, h7⟩
theorem RulesV.src {w : World} {B : Nat} {v : Value} {l : List Rule} (h : RulesV w B v l) : ∃ xs, SrcR w B v l xs := by
  obtain ⟨A, cap, rfl, hl, hc⟩ := h
  obtain ⟨xs, h1, h2⟩ := choose_list l (fun i r (y : Option Addr × Nat) => (∃ b o, A = some ⟨b, o, none⟩ ∧ b < B ∧ ∀ k u, (ruleC (r, y))[k]? = some u → w.cell? ⟨b, o + (i * 6 + k), none⟩ = some u) ∧ RuleOk w B (r, y)) (fun i r hr => by
    obtain ⟨b, o, hA, hb, h3, h4, h5⟩ := hc i r hr
    obtain ⟨A', cap', c0, c1, c2, c3, c4, hv⟩ := exprAt_val h5
    refine ⟨(A', cap'), ⟨b, o, hA, hb, fun k u hu => ?_⟩, h4, hv⟩
    rw [show o + (i * 6 + k) = o + i * 6 + k by omega]
    match k, hu with
    | 0, hu => simp [ruleC] at hu; subst hu; exact h3
    | 1, hu => simp [ruleC] at hu; subst hu; exact c0
    | 2, hu => simp [ruleC] at hu; subst hu; exact c1
    | 3, hu => simp [ruleC] at hu; subst hu; exact c2
    | 4, hu => simp [ruleC] at hu; subst hu; exact c3
    | 5, hu => simp [ruleC] at hu; subst hu; exact c4
    | k + 6, hu => simp [ruleC] at hu)
  refine ⟨xs, h1, ⟨A, cap, rfl, fun j u hu => ?_⟩, fun x hx => ?_⟩
  · obtain ⟨i, k, x, rfl, _, hx, h4⟩ := flatC_at xs j u hu
    obtain ⟨⟨b, o, hA, hb, h5⟩, _⟩ := h2 i x hx
    exact ⟨b, o, hA, hb, h5 k u h4⟩
  · obtain ⟨i, hi⟩ := List.getElem?_of_mem hx
    exact (h2 i x hi).2
theorem RuleOk.below {w w' : World} {B B' : Nat} {x : Rule × Option Addr × Nat} (h : RuleOk w B x) (hb : Below B' w w') (hB : B ≤ B') : RuleOk w' B x := ⟨h.1, h.2.1, h.2.2.1, h.2.2.2.below hb hB (Nat.le_refl _)⟩
theorem SrcR.below {w w' : World} {B B' : Nat} {v : Value} {l : List Rule} {xs : List (Rule × Option Addr × Nat)} (h : SrcR w B v l xs) (hb : Below B' w w') (hB : B ≤ B') : SrcR w' B v l xs := by
  obtain ⟨h1, ⟨A, cap, rfl, h2⟩, h3⟩ := h
  refine ⟨h1, ⟨A, cap, rfl, fun j u hu => ?_⟩, fun x hx => (h3 x hx).below hb hB⟩
  obtain ⟨b, o, hA, hlt, h4⟩ := h2 j u hu
  exact ⟨b, o, hA, hlt, (hb.cell (p := ⟨b, _, none⟩) (by show b < B'; omega)).trans h4⟩

/-- rules in a row of one's own, whose kids lie below a block -/
structure RowX (w : World) (base B : Nat) (v : Value) (l : List Rule) (xs : List (Rule × Option Addr × Nat)) : Prop where
  eq : xs.map (·.1) = l
  own : w.ownsRow base 40 6 v xs.length (xs.flatMap ruleC)
  ok : ∀ x ∈ xs, RuleOk w B x
theorem RowX.len {w : World} {base B : Nat} {v : Value} {l : List Rule} {xs : List (Rule × Option Addr × Nat)} (h : RowX w base B v l xs) : xs.length = l.length := by rw [← h.eq, List.length_map]
theorem SrcR.len {w : World} {B : Nat} {v : Value} {l : List Rule} {xs : List (Rule × Option Addr × Nat)} (h : SrcR w B v l xs) : xs.length = l.length := by rw [← h.eq, List.length_map]
theorem RowX.rules {w : World} {base B : Nat} {v : Value} {l : List Rule} {xs : List (Rule × Option Addr × Nat)} (h : RowX w base B v l xs) (hB : B ≤ w.heap.size) (hn : l.length ≤ 9223372036854775807) : RulesV w w.heap.size v l := by
  have hl := h.len
  obtain ⟨A, cap, rfl⟩ := own_slice h.own
  rw [hl] at *
  refine ⟨A, cap, rfl, hn, fun i r hr => ?_⟩
  obtain ⟨x, hx, rfl⟩ : ∃ x, xs[i]? = some x ∧ x.1 = r := by
    rw [← h.eq, List.getElem?_map] at hr
    cases hx : xs[i]? with
    | none => rw [hx] at hr; cases hr
    | some x => rw [hx] at hr; exact ⟨x, rfl, by simpa using hr⟩
  have ho := h.own
  rw [← hl] at ho
  obtain ⟨g, cap', e, hb, hg, hc⟩ := own_at (F := ruleC) ho (fun _ => rfl) hx
  have hA : A = some ⟨g, 0, none⟩ := by injection e
  obtain ⟨h1, h2, h3, h4⟩ := h.ok x (List.mem_of_getElem? hx)
  refine ⟨g, 0, hA, hg, ?_⟩
  show RuleAt w w.heap.size g (0 + i * 6) x.1
  rw [Nat.zero_add]
  exact ⟨hc 0 _ rfl, h1, ExprAt.mk' (hc 1 _ rfl) (hc 2 _ rfl) (hc 3 _ rfl) (hc 4 _ rfl) h2 (hc 5 _ rfl) h3 (h4.below (Below.refl B w) (Nat.le_refl _) hB)⟩

/-- worlds grow: what lies below a block stays, and all that are no rules; of rules so many cells; a row that is F stays F -/
structure GrR (B M : Nat) (F : List Value) (w w' : World) : Prop where
  bel : Below B w w'
  blk : ∀ k, k < w.heap.size → w'.heap[k]? = w.heap[k]? ∨ ∃ cs cs' : Array Value, w.heap[k]? = some (.cells cs 40 (0, 0)) ∧ w'.heap[k]? = some (.cells cs' 40 (0, 0)) ∧ cs'.size = cs.size ∧ (∀ j, j < M → cs'[j]? = cs[j]?) ∧ (cs.toList.take F.length = F → cs'.toList.take F.length = F)
section
variable {B M : Nat} {F : List Value} {w w' w'' : World}
theorem GrR.refl (B M : Nat) (F : List Value) (w : World) : GrR B M F w w := ⟨Below.refl _ _, fun _ _ => .inl rfl⟩
theorem GrR.trans (h : GrR B M F w w') (h' : GrR B M F w' w'') : GrR B M F w w'' := by
  refine ⟨h.bel.trans h'.bel, fun k hk => ?_⟩
  rcases h.blk k hk with a | ⟨cs, cs', a1, a2, a3, a4, a5⟩
  · rcases h'.blk k (Nat.lt_of_lt_of_le hk h.bel.size) with b | ⟨ds, ds', b1, b2, b3, b4, b5⟩
    · exact .inl (b.trans a)
    · exact .inr ⟨ds, ds', a.symm.trans b1, b2, b3, b4, b5⟩
  · rcases h'.blk k (Nat.lt_of_lt_of_le hk h.bel.size) with b | ⟨ds, ds', b1, b2, b3, b4, b5⟩
    · exact .inr ⟨cs, cs', a1, b.trans a2, a3, a4, a5⟩
    · rw [a2] at b1
      injection b1 with b1
      injection b1 with b1
      subst b1
      exact .inr ⟨cs, ds', a1, b2, b3.trans a3, fun j hj => (b4 j hj).trans (a4 j hj), fun h => b5 (a5 h)⟩
theorem GrR.of (h : Below w.heap.size w w') (hB : B ≤ w.heap.size) : GrR B M F w w' := ⟨h.mono hB, fun k hk => .inl (h.block k hk)⟩
theorem GrR.other (h : GrR B M F w w') {k : Nat} {t : TypeId} {cs : Array Value} (hb : Blk w k t cs) (ht : t ≠ 40) : Blk w' k t cs := by
  rcases h.blk k hb.lt with a | ⟨ds, ds', b1, _⟩
  · exact a.trans hb
  · rw [hb] at b1
    injection b1 with b1
    injection b1 with _ b1
    exact absurd b1 ht
theorem GrR.lit (h : GrR B M F w w') {k : Nat} {cs : Array Value} (hb : Blk w k 40 cs) (hM : cs.size ≤ M) {j : Nat} {u : Value} (hu : cs[j]? = some u) : w'.cell? ⟨k, j, none⟩ = some u := by
  rcases h.blk k hb.lt with a | ⟨ds, ds', b1, b2, _, b4, _⟩
  · rw [show w'.cell? ⟨k, j, none⟩ = w.cell? ⟨k, j, none⟩ from World.cell?_of_block (a := ⟨k, j, none⟩) a, hb.cell]; exact hu
  · rw [hb] at b1
    injection b1 with b1
    injection b1 with b1
    subst b1
    rw [Blk.cell (show Blk w' k 40 ds' from b2), b4 j (by have := (Array.getElem?_eq_some_iff.1 hu).1; omega)]
    exact hu
theorem take_same {n : Nat} {a b : List Value} (h : ∀ j, j < n → a[j]? = b[j]?) : a.take n = b.take n := by
  apply List.ext_getElem?
  intro j
  by_cases hj : j < n
  · rw [List.getElem?_take_of_lt hj, List.getElem?_take_of_lt hj, h j hj]
  · rw [List.getElem?_take_eq_none (by omega), List.getElem?_take_eq_none (by omega)]
theorem GrR.row (h : GrR B M F w w') {base n : Nat} {v : Value} {ys : List Value} (ho : w.ownsRow base 40 6 v n ys) (hM : n * 6 ≤ M ∨ F = ys) : w'.ownsRow base 40 6 v n ys := by
  refine ⟨ho.1, ?_⟩
  rcases ho.2 with h0 | ⟨g, cap, cur, e, h1, h2, h3, h4, h5, h6⟩
  · exact .inl h0
  · rcases h.blk g (Blk.lt h2) with a | ⟨cs, cs', b1, b2, b3, b4, b5⟩
    · exact .inr ⟨g, cap, cur, e, h1, a.trans h2, h3, h4, h5, h6⟩
    · rw [h2] at b1
      injection b1 with b1
      injection b1 with b1
      subst b1
      refine .inr ⟨g, cap, cs', e, h1, b2, h3, h4, b3.trans h5, ?_⟩
      rcases hM with hM | hM
      · rw [← h6]
        exact take_same fun j hj => by simpa using b4 j (by omega)
      · rw [← ho.1, ← hM]
        apply b5
        rw [hM, ho.1]
        exact h6
theorem GrR.rowO (h : GrR B M F w w') {base e size n : Nat} {v : Value} {ys : List Value} (ho : w.ownsRow base e size v n ys) (ht : e ≠ 40) : w'.ownsRow base e size v n ys := by
  refine ⟨ho.1, ?_⟩
  rcases ho.2 with h0 | ⟨g, cap, cur, e, h1, h2, h3⟩
  · exact .inl h0
  · exact .inr ⟨g, cap, cur, e, h1, h.other h2 ht, h3⟩
theorem RowX.gr (h : GrR B M F w w') {base B1 : Nat} {v : Value} {l : List Rule} {xs : List (Rule × Option Addr × Nat)} (hr : RowX w base B1 v l xs) (hB : B1 ≤ B) (hM : xs.length * 6 ≤ M ∨ F = xs.flatMap ruleC) : RowX w' base B1 v l xs :=
  ⟨hr.eq, h.row hr.own hM, fun x hx => (hr.ok x hx).below h.bel hB⟩
end

/-- an append to a row of rules, and what stays -/
theorem wpList_append_keep {W : World} {ops : Array Oper} {rest : List Oper} {o : Oper} {a : Act} {Q : Exit → Act → World → Prop} (hgd : o.guard = none) (s x : Operand)
    (ho : o.op = .call { callee := .builtin .append, args := #[s, x], argTypes := #[22, 22] })
    (base g n cap : Nat) (xs : List Value) (hs : a.eval s = .slice (some ⟨g, 0, none⟩) n cap) (hown : W.ownsRow base 40 6 (.slice (some ⟨g, 0, none⟩) n cap) n xs)
    (ad : Addr) (m c : Nat) (news : List Value) (hx : a.eval x = .slice (some ad) m c) (hl : news.length = m * 6) (hnews : ∀ j u, news[j]? = some u → W.cell? (ad.add j) = some u) (h1 : ∀ u ∈ news, u.oneCell' = true)
    (h63 : n + m ≤ maxLen) (hbytes : (n + m) * 80 ≤ 140737488355328) (hbase : base ≤ W.heap.size) (B M : Nat) (F : List Value) (hB : B ≤ base) (hroom : m = 0 ∨ cap < n + m ∨ (M ≤ n * 6 ∧ F = xs ++ news))
    (h : ∀ g' cap' w', w'.ownsRow base 40 6 (.slice (some ⟨g', 0, none⟩) (n + m) cap') (n + m) (xs ++ news) → GrR B M F W w' → (m = 0 → g' = g ∧ cap' = cap) → wpList Try.prog ops Q rest (a.put o.dst (.slice (some ⟨g', 0, none⟩) (n + m) cap')) w') :
    wpList Try.prog ops Q (o :: rest) a W := by
  obtain ⟨i, z, hi, hz, hsi, hby, hzs⟩ := el_rule.inf
  obtain ⟨v', w', hr, h2, h3, _⟩ := run_append_own (P := Try.prog) W base 22 o.type 40 i z 6 80 el_rule.sl hi hz hsi hby hzs (by omega) _ n xs hown ad m c news hl hnews h1 h63 hbytes hbase
  have key : (∃ g' cap', v' = .slice (some ⟨g', 0, none⟩) (n + m) cap' ∧ (m = 0 → g' = g ∧ cap' = cap)) ∧ GrR B M F W w' := by
    have hown0 := hown
    rcases hown.2 with ⟨e, _⟩ | ⟨g0, cap0, cur, e, hbg, hg, hnc, hcm, hcs, htake⟩
    · cases e
    cases e
    have hb : Below B W w' := (own_below hbase hown0 h3).mono hB
    by_cases hr2 : n + m ≤ cap
    · have hfit : n * i.size + news.length ≤ cur.size := by rw [hl, hcs, hsi, ← Nat.add_mul]; exact Nat.mul_le_mul_right _ hr2
      have hrun := run_append_room (P := Try.prog) W 22 o.type 40 i el_rule.sl hi g n cap cur hg ad m c news (by rw [hsi]; exact hl) hnews h1 hr2 hfit
      rw [hrun] at hr
      injection hr with e1 e2
      subst e1 e2
      rw [hsi] at *
      refine ⟨⟨g, cap, rfl, fun _ => ⟨rfl, rfl⟩⟩, hb, fun k hk => ?_⟩
      by_cases hkg : k = g
      · subst hkg
        have hset := setRow_heap W k cur (cur.toList.take (n * 6) ++ news ++ cur.toList.drop (n * 6 + news.length)).toArray 40 (0, 0) hg
        by_cases hm : m = 0
        · left
          rw [hset, hg]
          have hn0 : news = [] := List.eq_nil_of_length_eq_zero (by rw [hl, hm])
          subst hn0
          simp
        · right
          rcases hroom with h0 | h0 | ⟨h0, h00⟩
          · exact absurd h0 hm
          · omega
          refine ⟨cur, _, hg, hset, by simp; omega, fun j hj => ?_, fun _ => ?_⟩
          · simp only [List.getElem?_toArray, List.append_assoc]
            rw [List.getElem?_append_left (by simp; omega), List.getElem?_take_of_lt (by omega)]
            simp
          · rw [h00]
            show (List.take (n * 6) cur.toList ++ news ++ _).take _ = _
            rw [htake]
            exact List.take_left
      · left
        exact setRow_other W g k _ hkg
    · have holds : ∀ j u, xs[j]? = some u → W.cell? ((⟨g, 0, none⟩ : Addr).add j) = some u := hown0.cells (g := g) rfl
      have hrun := run_append_grow (P := Try.prog) W 22 o.type 40 i z el_rule.sl hi hz ⟨g, 0, none⟩ n cap xs (by rw [hsi]; exact hown0.1) holds ad m c news (by rw [hsi]; exact hl) hnews (by omega) (by simp only [maxLen] at h63; omega) (growslice_fits (by omega) (by rw [hby]; exact hbytes))
      rw [hrun] at hr
      injection hr with e1 e2
      subst e1 e2
      exact ⟨⟨_, _, rfl, fun h0 => by omega⟩, hb, fun k hk => .inl (heap_alloc_old W.drew _ hk)⟩
  obtain ⟨⟨g', cap', rfl, hm0⟩, hG⟩ := key
  refine wpList_plain hgd fun K hK => ?_
  unfold Oper.wp execOp
  simp only [ho, resolve, invoke, builtin, Sem.run_bind, Sem.run_pure, Result.andThen_ok, List.map_toArray, List.map_cons, List.map_nil, hs, hx, hr]
  exact hK _ _ (h g' cap' w' h2 hG hm0)

/-- rules that came in are copied -/
theorem wpList_copy {W : World} {ops : Array Oper} {rest : List Oper} {o : Oper} {a : Act} {Q : Exit → Act → World → Prop} (hgd : o.guard = none) (s x : Operand)
    (ho : o.op = .call { callee := .builtin .append, args := #[s, x], argTypes := #[22, 22] })
    (base B g : Nat) (vs : Value) (l : List Rule) (xs : List (Rule × Option Addr × Nat)) (hs : a.eval s = .slice (some ⟨g, 0, none⟩) 0 0) (hown : W.ownsRow base 40 6 (.slice (some ⟨g, 0, none⟩) 0 0) 0 []) (hx : a.eval x = vs) (hS : SrcR W B vs l xs)
    (hz : l.length ≤ 1759218604390) (hnil : ∀ n c, vs = .slice none n c → c = 0) (hbase : base ≤ W.heap.size) (hB : B ≤ base) (M : Nat) (F : List Value)
    (h : ∀ g' c w', RowX w' base B (.slice (some ⟨g', 0, none⟩) l.length c) l xs → GrR base M F W w' → (l.length = 0 → c = 0) → wpList Try.prog ops Q rest (a.put o.dst (.slice (some ⟨g', 0, none⟩) l.length c)) w') :
    wpList Try.prog ops Q (o :: rest) a W := by
  have hlen := hS.len
  obtain ⟨h1, ⟨A, cap, rfl, h2⟩, h3⟩ := hS
  cases A with
  | none =>
    have hl0 : l.length = 0 := by
      cases hq : xs with
      | nil => rw [← hlen, hq]; rfl
      | cons y ys =>
        obtain ⟨b, o, e, _⟩ := h2 0 (strV y.1.name) (by rw [hq]; rfl)
        cases e
    obtain rfl : l = [] := List.eq_nil_of_length_eq_zero hl0
    obtain rfl : xs = [] := List.eq_nil_of_length_eq_zero (by rw [hlen]; rfl)
    obtain ⟨i, z, hi, _⟩ := el_rule.inf
    have hc0 := hnil _ _ rfl
    rw [hc0] at hx
    refine wpList_append_own_none hgd s x 22 ho base 40 i 6 el_rule.sl hi _ 0 [] hs hown hx ?_
    exact h g 0 W ⟨rfl, hown, fun x hx => by cases hx⟩ (GrR.refl _ _ _ _) fun _ => rfl
  | some ad =>
    refine wpList_append_keep hgd s x ho base g 0 0 [] hs hown ad l.length cap (xs.flatMap ruleC) hx (by rw [flatC_len, hlen]) (fun j u hu => ?_) (flatC_one xs) (by simp only [maxLen]; omega) (by omega) hbase base M F (Nat.le_refl _) (by omega) ?_
    · obtain ⟨b, o, e, hb, hc⟩ := h2 j u hu
      cases e
      rw [Addr.add_lit]
      exact hc
    · intro g' cap' w' q1 q2 q3
      rw [Nat.zero_add] at q1 ⊢
      refine h g' cap' w' ⟨h1, by rw [hlen]; simpa using q1, fun y hy => ?_⟩ q2 fun h0 => (q3 h0).2
      have hb : Below base W w' := q2.bel
      exact (h3 y hy).below hb hB
/-- .. and one more behind them -/
theorem wpList_more {W : World} {ops : Array Oper} {rest : List Oper} {o : Oper} {a : Act} {Q : Exit → Act → World → Prop} (hgd : o.guard = none) (s x : Operand)
    (ho : o.op = .call { callee := .builtin .append, args := #[s, x], argTypes := #[22, 22] })
    (base B g c k : Nat) (l : List Rule) (xs : List (Rule × Option Addr × Nat)) (y : Rule × Option Addr × Nat) (hs : a.eval s = .slice (some ⟨g, 0, none⟩) l.length c) (hrow : RowX W base B (.slice (some ⟨g, 0, none⟩) l.length c) l xs) (hc : l.length = 0 → c = 0)
    (hx : a.eval x = .slice (some ⟨k, 0, none⟩) 1 1) (hlit : ∀ j u, (ruleC y)[j]? = some u → W.cell? ⟨k, j, none⟩ = some u) (hy : RuleOk W B y) (hB : B ≤ base)
    (hz : l.length ≤ 1759218604390) (hbase : base ≤ W.heap.size) (M : Nat) (F : List Value) (hM : M = max (l.length * 6) 6) (hF : F = (xs ++ [y]).flatMap ruleC)
    (h : ∀ g' c' w', RowX w' base B (.slice (some ⟨g', 0, none⟩) (l.length + 1) c') (l ++ [y.1]) (xs ++ [y]) → GrR base M F W w' → wpList Try.prog ops Q rest (a.put o.dst (.slice (some ⟨g', 0, none⟩) (l.length + 1) c')) w') :
    wpList Try.prog ops Q (o :: rest) a W := by
  have hlen := hrow.len
  have hown := hrow.own
  rw [hlen] at hown
  refine wpList_append_keep hgd s x ho base g l.length c (xs.flatMap ruleC) hs hown ⟨k, 0, none⟩ 1 1 (ruleC y) hx (ruleC_len y) (fun j u hu => ?_) (ruleC_one y) (by simp only [maxLen]; omega) (by omega) hbase base M F (Nat.le_refl _) ?_ ?_
  · rw [Addr.add_lit, Nat.zero_add]
    exact hlit j u hu
  · rcases Nat.eq_zero_or_pos l.length with h0 | h0
    · exact .inr (.inl (by rw [hc h0]; omega))
    · exact .inr (.inr ⟨by omega, by rw [hF, List.flatMap_append]; simp⟩)
  · intro g' cap' w' q1 q2 _
    refine h g' cap' w' ⟨by rw [List.map_append, hrow.eq]; rfl, ?_, fun z hz2 => ?_⟩ q2
    · rw [List.length_append, List.length_singleton, hlen, List.flatMap_append]
      simpa using q1
    · rcases List.mem_append.1 hz2 with h1 | h1
      · exact (hrow.ok z h1).below q2.bel hB
      · rw [List.mem_singleton] at h1
        subst h1
        exact hy.below q2.bel hB

end Ru
namespace Fr
theorem grow_rules {B M : Nat} {F : List Value} {w0 : World} : Grow (fun w' => ∃ m : After B w0, w' = m.w) (Ru.GrR B M F) where
  refl := fun w => Ru.GrR.refl B M F w
  trans := fun _ _ _ h k => h.trans k
  stay := fun _ w' ⟨m, hm⟩ h => ⟨⟨w', m.below.trans (hm ▸ h.bel : Below B m.w w')⟩, rfl⟩
section
variable {P : Program}
theorem wp_region_rules {id : Nat} {Q : Exit → Act → World → Prop} {a : Act} {w : World} {l : List Oper} (late : List Nat) (evs : List (Nat × Spec)) (n B M : Nat) (F : List Value) (w0 : World) (hw : Below B w0 w) (hm : P.follows .mixedOrders = true) (hL : lateOK .any .text l.toArray late = true) (hB : Region.lexTailB .text l.toArray n = true)
    (hQ : ∀ c a (d : Option Tmp) v w, Q (.panic c) (a.put d v) w → Q (.panic c) a w)
    (h : wpFree P l.toArray (fun w' => ∃ m : After B w0, w' = m.w) (Ru.GrR B M F) (wtR .text l.toArray) (evOf evs) (fun past a' => ∀ w', Bd (fun w' => ∃ m : After B w0, w' = m.w) (Ru.GrR B M F) past w' → Lin (Ru.GrR B M F) past → wpList P l.toArray Q (l.drop n) a' w') (l.take n) 0 (fun _ => False) a) : (Code.region id l.toArray true).wp P Q a w := by
  have gr := grow_rules (w0 := w0) (B := B) (M := M) (F := F)
  have hwt : WtOK .text l.toArray (wtR .text l.toArray) := wtR_ok
  have hC : (fun w' => ∃ m : After B w0, w' = m.w) { w with drawn := w.drawn + 1 } := class_drew hw
  simp only [Region.lexTailB, Bool.and_eq_true, decide_eq_true_eq] at hB
  obtain ⟨⟨⟨⟨hsel, hn⟩, hs⟩, hc⟩, hlex⟩ := hB
  have htl : (l.take n).length = n := by simp at hn ⊢; omega
  have inv0 : HeadInv .text l.toArray n (Array.replicate l.toArray.size false) :=
    ⟨by simp, fun j oj _ hl => (by rw [getD_replicate_false] at hl; cases hl), fun t _ ht => getD_in (by simpa using ht) (getD_replicate_false _ _)⟩
  have hb : Bd (fun w' => ∃ m : After B w0, w' = m.w) (Ru.GrR B M F) (fun _ => False) { w with drawn := w.drawn + 1 } := ⟨hC, fun _ h => h.elim⟩
  have H := headF_lex (md := .text) (g := l.toArray.size - n) gr hwt hsel hs hc hn (l.take n) 0 _ _ a _ (fun j hj => by rw [htl] at hj; simp [hj]) (by simpa using htl) inv0 (by rw [htl]; exact hlex) hb h
  rw [htl] at H
  refine wp_region_any hm ?_
  have h2 := headF_wp (R := Q) (g := l.toArray.size - n) gr (fun listed past a' w' hb' hl' hL => by
    have h3 := wpAny_of_seq (md := .text) (Q' := Q) (l.drop n) n listed a' w' (fun j => by simp [List.getElem?_drop]) (by simpa using hL.1) (hL.2 w' hb' hl')
    simpa using h3) n _ _ a _ (fun _ h => h.elim) (by simp) hb (fun _ _ h => h.elim) H
  rw [show n + (l.toArray.size - n) = l.toArray.size by omega] at h2
  exact wpAny_late hL hsel hQ _ _ _ _ (by simp) h2
end
end Fr
end Go.Proofs.Ytfhedopfjgjffaa

namespace Go.Proofs.Ytfhedopfjgjffaa
open Go.RowKit
namespace Ru
open Lx Msk Vm
open Sl (strV Reads IntsV)

def zzN : List UInt8 := [122, 122, 95, 110, 101, 119]
/-- rules, and an expression behind them -/
def withE (l : List Rule) (e : Expr) : List Rule := l ++ [⟨zzN, e⟩]
/-- what it means, if all is right -/
def ofM (l : List Rule) (e : Expr) (env : List UInt8 → Nat → Bool) (day : Int) : Nat → Bool := if (allF (withE l e) day).1 = 0 then env zzN else noS
def OfPost (l : List Rule) (e : Expr) (env : List UInt8 → Nat → Bool) (day : Int) (w : World) (r : Ending) (w' : World) : Prop := r = .returned (.tuple #[.agg (maskA (setW (ofM l e env day))), .bool ((allF (withE l e) day).1 == 0)]) ∧ Below w.heap.size w w'

set_option maxRecDepth 100000 in
set_option maxHeartbeats 16000000 in
theorem of_any (v ve : Value) (l : List Rule) (e : Expr) (env : List UInt8 → Nat → Bool) (wd : Nat) (day : Int) (hme : (wrongR (withE l e)).1 = 0 → 0 ≤ day → day < 146097 → Means wd day (withE l e) env) (hwd : 0 ≤ day → day < 146097 → Civ.weekI day = (wd : Nat)) (w : World) (hr : RulesIn w v l) (he : ExprVal w w.heap.size ve e) :
    Calls Try.prog 22 #[v, ve, .int .i64 day] w (OfPost l e env day w) := by
  obtain ⟨xs, hS⟩ := hr.at'.src
  obtain ⟨A, cap, rfl, he1, he2, he3⟩ := he
  have hlen := hr.z
  have hnil := hr.nil
  have hA := Lib.hid (fun (V : World) (vv : Value) (h : RulesV V V.heap.size vv (withE l e)) => MAll_any vv (withE l e) env wd day hme hwd V h)
  clear hme hwd
  obtain ⟨A0, cap0, hv0, hSc⟩ := hS.at'
  have hSlen := hS.len
  obtain ⟨wA, hwA⟩ : ∃ W, W = (w.alloc (.cells #[.int .i64 e.kind, .int .i64 e.a, .int .i64 e.b, strV e.name, .slice A e.kids.length cap] 38)).alloc (.cells (maskA fun _ => 0) 46) := ⟨_, rfl⟩
  subst hv0
  have hbA : Below w.heap.size w wA := by rw [hwA]; exact ((Below.refl _ _).alloc (Nat.le_refl _) _).alloc (by simp) _
  have hzA : wA.heap.size = w.heap.size + 2 := by rw [hwA]; simp
  have BE : Blk wA w.heap.size 38 #[.int .i64 e.kind, .int .i64 e.a, .int .i64 e.b, strV e.name, .slice A e.kids.length cap] := by rw [hwA]; exact (Blk.new w _ _).alloc _
  have BM : Blk wA (w.heap.size + 1) 46 (maskA fun _ => 0) := by
    have := Blk.new (w.alloc (.cells #[.int .i64 e.kind, .int .i64 e.a, .int .i64 e.b, strV e.name, .slice A e.kids.length cap] 38)) 46 (maskA fun _ => 0)
    rw [World.size_alloc] at this
    rw [hwA]
    exact this
  obtain ⟨⟨s0, s1, s2, s3, s4⟩, -⟩ := set_cells5 BE
  go_enter Try.func22, Try.ntmps22
  go_wp2_with fail
  rw [← hwA]
  replace hwA := Lib.hid hwA
  replace hzA := Lib.hid hzA
  obtain ⟨M, hM⟩ : ∃ M, M = max (l.length * 6) 6 := ⟨_, rfl⟩
  obtain ⟨F, hF⟩ : ∃ F, F = (xs ++ [((⟨zzN, e⟩ : Rule), A, cap)]).flatMap ruleC := ⟨_, rfl⟩
  have hRA : RuleOk wA w.heap.size ((⟨zzN, e⟩ : Rule), A, cap) := ⟨by show 6 ≤ _; omega, he1, he2, he3.below hbA (Nat.le_refl _) (Nat.le_refl _)⟩
  have hSA := hS.below hbA (Nat.le_refl _)
  have hzB : w.heap.size ≤ wA.heap.size := by have := hzA.out; omega
  have hzC : w.heap.size < wA.heap.size := by have := hzA.out; omega
  replace hM := Lib.hid hM
  replace hF := Lib.hid hF
  refine Fr.wp_region_rules [11] [(0, fun v V V' => v = .slice (some ⟨V.heap.size, 0, none⟩) 0 0 ∧ V' = V.alloc (.cells #[] 40)),
    (2, fun v V V' => ∃ g c, v = .slice (some ⟨g, 0, none⟩) l.length c ∧ RowX V' wA.heap.size w.heap.size v l xs ∧ (l.length = 0 → c = 0)),
    (5, fun v V V' => v = .slice (some ⟨V.heap.size, 0, none⟩) 1 1 ∧ V' = V.alloc (.cells #[strV zzN, .int .i64 e.kind, .int .i64 e.a, .int .i64 e.b, strV e.name, .slice A e.kids.length cap] 40)),
    (6, fun v V V' => ∃ g c, v = .slice (some ⟨g, 0, none⟩) (l.length + 1) c ∧ RowX V' wA.heap.size w.heap.size v (withE l e) (xs ++ [((⟨zzN, e⟩ : Rule), A, cap)])),
    (8, fun v V V' => ∃ A1 c1, v = .tuple #[.slice A1 (allM (withE l e) env day).length c1, faultV (allF (withE l e) day)] ∧ MaskRow V' V.heap.size (.slice A1 (allM (withE l e) env day).length c1) (allM (withE l e) env day) ∧ Below V.heap.size V V'),
    (12, fun v V V' => v = .pointer (some ⟨V.heap.size, 0, none⟩) ∧ V' = V.alloc (.cells #[.int .i64 0, .int .i64 0] 25))]
    13 wA.heap.size M F wA (Below.refl _ _) (by kernel_rfl) (by kernel_rfl) (by kernel_rfl) (fun _ _ d _ _ h => by cases d <;> exact h) ?_
  simp only [List.take_succ_cons, List.take_zero, List.drop_succ_cons, List.drop_zero]
  refine Fr.free_ev rfl rfl (Nat.le_of_ble_eq_true rfl) (fun V hv => ?_) ?_
  · obtain ⟨⟨n, rfl⟩, _⟩ := hv
    have hnz := n.size
    go_wp2
    exact GrR.of ((Below.refl _ _).alloc (Nat.le_refl _) _) hnz
  rintro _ V0 V0' hv0 hg0 ⟨rfl, rfl⟩
  simp only [Act.put, List.setIfInBounds_toArray, List.set_cons_succ, List.set_cons_zero]
  have z0 : wA.heap.size ≤ V0.heap.size := by obtain ⟨⟨n, rfl⟩, _⟩ := hv0; exact n.size
  have hown0 : (V0.alloc (.cells #[] 40)).ownsRow wA.heap.size 40 6 (.slice (some ⟨V0.heap.size, 0, none⟩) 0 0) 0 [] := World.ownsRow_made V0 #[] 0 z0 (Nat.zero_le _) rfl
  refine Fr.free_take 1 (Fr.class_ne _ _) (by rfl) (by rfl) ?_
  simp only [List.take_succ_cons, List.take_zero, List.drop_succ_cons, List.drop_zero]
  iterate 1 (go_big_quiet_step ((fail)))
  refine wpQuiet_nil ?_
  change Fr.wpFree _ _ _ _ _ _ _ _ 2 _ _
  refine Fr.free_ev rfl rfl (Nat.le_of_ble_eq_true rfl) (fun V hv => ?_) ?_
  · have gx := Fr.Valid.hd hv (by kernel_rfl)
    obtain ⟨⟨n, rfl⟩, _⟩ := hv
    have hb0 := n.below
    have hz0 := n.size
    have hbz := hbA.trans (hb0.mono hzB)
    refine wpList_copy rfl (.tmp 11) (.tmp 12) rfl wA.heap.size w.heap.size V0.heap.size (.slice A0 l.length cap0) l xs rfl (gx.row hown0 (.inl (Nat.zero_le _))) rfl (hS.below hbz (Nat.le_refl _)) hlen hnil hz0 hzB M F ?_
    intro g' c' w' q1 q2 q3
    exact ⟨rfl, rfl, q2, g', c', rfl, q1, q3⟩
  rintro _ V2 V2' hv2 hg2 ⟨g2, c2, rfl, hrow2, hc2⟩
  simp only [Act.put, List.setIfInBounds_toArray, List.set_cons_succ, List.set_cons_zero]
  refine Fr.free_take 2 (Fr.class_ne _ _) (by rfl) (by rfl) ?_
  simp only [List.take_succ_cons, List.take_zero, List.drop_succ_cons, List.drop_zero]
  iterate 2 (go_big_quiet_step ((fail)))
  refine wpQuiet_nil ?_
  change Fr.wpFree _ _ _ _ _ _ _ _ 5 _ _
  refine Fr.free_ev rfl rfl (Nat.le_of_ble_eq_true rfl) (fun V hv => ?_) ?_
  · obtain ⟨⟨n, rfl⟩, _⟩ := hv
    have hnz := n.size
    go_wp2
    exact ⟨GrR.of ((Below.refl _ _).alloc (Nat.le_refl _) _) hnz, rfl⟩
  rintro _ V5 V5' hv5 hg5 ⟨rfl, rfl⟩
  simp only [Act.put, List.setIfInBounds_toArray, List.set_cons_succ, List.set_cons_zero]
  have z5 : wA.heap.size ≤ V5.heap.size := by obtain ⟨⟨n, rfl⟩, _⟩ := hv5; exact n.size
  have BL := Blk.new V5 40 #[strV zzN, .int .i64 e.kind, .int .i64 e.a, .int .i64 e.b, strV e.name, .slice A e.kids.length cap]
  have hxl := hrow2.len
  refine Fr.free_ev rfl rfl (Nat.le_of_ble_eq_true rfl) (fun V hv => ?_) ?_
  · have gx5 := Fr.Valid.hd hv (by kernel_rfl)
    have gx2 := Fr.Valid.hd (Fr.Valid.tl hv) (by kernel_rfl)
    obtain ⟨⟨n, rfl⟩, _⟩ := hv
    have hb0 := n.below
    have hz0 := n.size
    refine wpList_more rfl (.tmp 13) (.tmp 16) rfl wA.heap.size w.heap.size g2 c2 V5.heap.size l xs ((⟨zzN, e⟩ : Rule), A, cap) rfl (hrow2.gr gx2 hzB (.inl (by rw [hM.out]; omega))) hc2 rfl (fun j u hu => gx5.lit BL (by rw [hM.out]; show 6 ≤ _; omega) (by simpa [ruleC] using hu)) (hRA.below hb0 hzB) hzB hlen hz0 M F hM.out hF.out ?_
    intro g' c' w' q1 q2
    exact ⟨rfl, rfl, q2, g', c', rfl, q1⟩
  rintro _ V6 V6' hv6 hg6 ⟨g6, c6, rfl, hrow6⟩
  simp only [Act.put, List.setIfInBounds_toArray, List.set_cons_succ, List.set_cons_zero]
  refine Fr.free_take 1 (Fr.class_ne _ _) (by rfl) (by rfl) ?_
  simp only [List.take_succ_cons, List.take_zero, List.drop_succ_cons, List.drop_zero]
  iterate 1 (go_big_quiet_step ((fail)))
  refine wpQuiet_nil ?_
  change Fr.wpFree _ _ _ _ _ _ _ _ 8 _ _
  refine Fr.free_ev rfl rfl (Nat.le_of_ble_eq_true rfl) (fun V hv => ?_) ?_
  · have gx6 := Fr.Valid.hd hv (by kernel_rfl)
    obtain ⟨⟨n, rfl⟩, _⟩ := hv
    have hb0 := n.below
    have hz0 := n.size
    have hr6 := (hrow6.gr gx6 hzB (.inr hF.out)).rules (Nat.le_trans hzB hz0) (by unfold withE; rw [List.length_append, List.length_singleton]; omega)
    have hC := Lib.hid (hA.out n.w _ hr6)
    unfold AllPost at hC
    go_wp2_with fail
    refine hC.out.mono ?_
    rintro e9 w9 ⟨v9, rfl, hS9, hb9⟩
    obtain ⟨A9, c9, rfl⟩ := own_slice hS9
    rename_i K hK
    exact hK _ _ ⟨rfl, rfl, GrR.of hb9 hz0, A9, c9, rfl, hS9, hb9⟩
  rintro _ V8 V8' hv8 hg8 ⟨A8, c8, rfl, hS8, hb8⟩
  have z8 : wA.heap.size ≤ V8.heap.size := by obtain ⟨⟨n, rfl⟩, _⟩ := hv8; exact n.size
  simp only [Act.put, List.setIfInBounds_toArray, List.set_cons_succ, List.set_cons_zero]
  unfold faultV
  refine Fr.free_take 3 (Fr.class_ne _ _) (by rfl) (by rfl) ?_
  simp only [List.take_succ_cons, List.take_zero, List.drop_succ_cons, List.drop_zero]
  iterate 3 (go_big_quiet_step ((fail)))
  refine wpQuiet_nil ?_
  change Fr.wpFree _ _ _ _ _ _ _ _ 12 _ _
  refine Fr.free_ev rfl rfl (Nat.le_of_ble_eq_true rfl) (fun V hv => ?_) ?_
  · obtain ⟨⟨n, rfl⟩, _⟩ := hv
    have hnz := n.size
    go_wp2
    exact GrR.of ((Below.refl _ _).alloc (Nat.le_refl _) _) hnz
  rintro _ V12 V12' hv12 hg12 ⟨rfl, rfl⟩
  have z12 : wA.heap.size ≤ V12.heap.size := by obtain ⟨⟨n, rfl⟩, _⟩ := hv12; exact n.size
  simp only [Act.put, List.setIfInBounds_toArray, List.set_cons_succ, List.set_cons_zero]
  refine Fr.free_nil ?_
  intro wf hbd hlin
  have q12 := Fr.Bd.hd hbd
  have q8 := Fr.Bd.hd (Fr.Bd.tl hbd)
  obtain ⟨mf, hmf⟩ := hbd.1
  have hbf : Below wA.heap.size wA wf := by rw [hmf]; exact mf.below
  have hzf := hbf.size
  have BF := q12.other (Blk.new V12 25 #[.int .i64 0, .int .i64 0]) (by decide)
  have hSf := q8.rowO hS8 (by decide)
  have BMf := BM.below hbf (by have := hzA.out; omega)
  clear q12 q8 hlin hbd hmf
  have hcF := BF.cell 0
  have hcG := BF.cell 1
  have hfF := BF.frozen 0
  have hfG := BF.frozen 1
  simp at hcF hcG
  have hfr := blk_free BMf
  have hn12 : ¬ V12.heap.size = w.heap.size + 1 := by have := hzA.out; omega
  have hn12' : ¬ w.heap.size + 1 = V12.heap.size := by have := hzA.out; omega
  have hVl := BF.lt
  have hMl := BMf.lt
  by_cases hF0 : (allF (withE l e) day).1 = 0
  · have hS : allM (withE l e) env day = (withE l e).map fun r => env r.name := if_pos hF0
    have hSl : (allM (withE l e) env day).length = l.length + 1 := by rw [hS, List.length_map]; unfold withE; rw [List.length_append, List.length_singleton]
    have hSi : (allM (withE l e) env day)[l.length]? = some (env zzN) := by rw [hS, List.getElem?_map]; unfold withE; rw [List.getElem?_append_right (Nat.le_refl _), Nat.sub_self]; rfl
    obtain ⟨g8, c8', e8, hg8, hgl8, hm8⟩ := mask_at hSf hSi
    cases e8
    have hne8 : ¬ V12.heap.size = g8 := by
      rcases hSf.2 with ⟨e8, _⟩ | ⟨g, cap', cur, e8, _, h8, _⟩
      · cases e8
      · cases e8
        intro e8
        rw [← e8, show wf.heap[V12.heap.size]? = _ from BF] at h8
        injection h8 with h8
        injection h8 with _ h8 _
        exact absurd h8 (by decide)
    have hne8' : ¬ g8 = V12.heap.size := fun h => hne8 h.symm
    have hM0 : ofM l e env day = env zzN := if_pos hF0
    have hgF : ((allF (withE l e) day).1 != 0) = false := by simpa using hF0
    have hgF' : ((allF (withE l e) day).1 == 0) = true := by simpa using hF0
    have hO := Lib.hid (show ∀ (W : World), Below w.heap.size w W → OfPost l e env day w (.returned (.tuple #[.agg (maskA (setW (env zzN))), .bool true])) W from fun W hb => ⟨by rw [hM0, hgF'], hb⟩)
    rw [hSl] at hSf ⊢
    clear hS hSi hgF' hM0
    generalize (allF (withE l e) day).1 = q1 at *
    generalize (allF (withE l e) day).2 = q2 at *
    generalize setW (env zzN) = f at *
    go_wp2_with fail
    have BR := ((BMf.far (p := ⟨V12.heap.size, 0, none⟩) (by show _ ≠ V12.heap.size; omega) (.int .i64 0)).far (p := ⟨V12.heap.size, 1, none⟩) (by show _ ≠ V12.heap.size; omega) (.int .i64 q2)).setRow (maskA f)
    have r0 := BR.cells
    rw [maskA_size] at r0
    have hend : Below w.heap.size w (((wf.setCell ⟨V12.heap.size, 0, none⟩ (.int .i64 0)).setCell ⟨V12.heap.size, 1, none⟩ (.int .i64 q2)).setRow (w.heap.size + 1) (maskA f)) := by
      have h1 : Below w.heap.size w wf := hbA.trans (hbf.mono hzB)
      have h2 := (h1.setCell (p := ⟨V12.heap.size, 0, none⟩) (by show _ ≤ V12.heap.size; omega) (.int .i64 0)).setCell (p := ⟨V12.heap.size, 1, none⟩) (by show _ ≤ V12.heap.size; omega) (.int .i64 q2)
      exact Below.setRow h2 (by omega) _
    exact bodyPost_ret (v := .tuple #[.agg (maskA f), .bool true]) (by simp [results, Try.results22, go_sem, r0]) rfl (hO.out _ hend)
  · have hM0 : ofM l e env day = noS := if_neg hF0
    have hgF : ((allF (withE l e) day).1 != 0) = true := by simpa using hF0
    have hgF' : ((allF (withE l e) day).1 == 0) = false := by simpa using hF0
    have hO := Lib.hid (show ∀ (W : World), Below w.heap.size w W → OfPost l e env day w (.returned (.tuple #[.agg (maskA fun _ => 0), .bool false])) W from fun W hb => ⟨by rw [hM0, hgF', show setW noS = fun _ => 0 from setW_none], hb⟩)
    clear hgF' hM0
    generalize (allF (withE l e) day).1 = q1 at *
    generalize (allF (withE l e) day).2 = q2 at *
    go_wp2_with fail
    have BR := ((BMf.far (p := ⟨V12.heap.size, 0, none⟩) (by show _ ≠ V12.heap.size; omega) (.int .i64 q1)).far (p := ⟨V12.heap.size, 1, none⟩) (by show _ ≠ V12.heap.size; omega) (.int .i64 q2)).setRow (maskA fun _ => 0)
    have r0 := BR.cells
    rw [maskA_size] at r0
    have hend : Below w.heap.size w (((wf.setCell ⟨V12.heap.size, 0, none⟩ (.int .i64 q1)).setCell ⟨V12.heap.size, 1, none⟩ (.int .i64 q2)).setRow (w.heap.size + 1) (maskA fun _ => 0)) := by
      have h1 : Below w.heap.size w wf := hbA.trans (hbf.mono hzB)
      have h2 := (h1.setCell (p := ⟨V12.heap.size, 0, none⟩) (by show _ ≤ V12.heap.size; omega) (.int .i64 q1)).setCell (p := ⟨V12.heap.size, 1, none⟩) (by show _ ≤ V12.heap.size; omega) (.int .i64 q2)
      exact Below.setRow h2 (by omega) _
    exact bodyPost_ret (v := .tuple #[.agg (maskA fun _ => 0), .bool false]) (by simp [results, Try.results22, go_sem, r0]) rfl (hO.out _ hend)

end Ru
end Go.Proofs.Ytfhedopfjgjffaa

namespace Go.Proofs.Ytfhedopfjgjffaa
open Go.RowKit
namespace Ru
open Lx Msk Vm
open Sl (strV Reads IntsV)

/-- what holds of a rule as soon as it holds of all that it refers to, holds of all -/
theorem ring_ind {l : List Rule} (hR : RightR l) (P : Nat → Prop) (step : ∀ i, i < l.length → (∀ k, stepB (directR l) i k = true → P k) → P i) : ∀ i, i < l.length → P i := by
  intro i hi
  apply Classical.byContradiction
  intro hn
  have hcl : ∀ k, Decidable (¬ P k) := fun k => Classical.propDecidable _
  obtain ⟨k, hk, hU, hs⟩ := last_one (r := stepB (directR l)) (n := l.length) (fun i k h => stepB_lt h) hR.noring (fun k => @decide (¬ P k) (hcl k)) hi (by simpa using hn)
  have hU' : ¬ P k := by simpa using hU
  exact hU' (step k hk fun j hj => by have := hs j hj; simpa using this)

theorem with_old {l : List Rule} {e : Expr} {i : Nat} {r : Rule} (h : l[i]? = some r) : (withE l e)[i]? = some r := by
  unfold withE
  rw [List.getElem?_append_left (List.getElem?_eq_some_iff.1 h).1]
  exact h
theorem with_len (l : List Rule) (e : Expr) : (withE l e).length = l.length + 1 := by unfold withE; rw [List.length_append, List.length_singleton]
theorem with_new (l : List Rule) (e : Expr) : (withE l e)[l.length]? = some ⟨zzN, e⟩ := by unfold withE; rw [List.getElem?_append_right (Nat.le_refl _), Nat.sub_self]; rfl
theorem with_lt {l : List Rule} {e : Expr} {i : Nat} (h : i < l.length) : (withE l e)[i]? = l[i]? := by unfold withE; rw [List.getElem?_append_left h]
/-- where a name stands: of the old rules -/
theorem step_of {l : List Rule} {i : Nat} {r : Rule} (hi : l[i]? = some r) {nm : List UInt8} (hn : nm ∈ namesE r.expr) (hk : placeR l nm < l.length) : stepB (directR l) i (placeR l nm) = true := by
  unfold stepB
  rw [directR_at2 hi, List.contains_iff_mem]
  exact List.mem_map.2 ⟨nm, hn, findI_nat hk⟩

/-- names that an expression speaks of mean the same beside another one -/
theorem with_agree {l : List Rule} {e1 e2 : Expr} {wd : Nat} {day : Int} {env1 env2 : List UInt8 → Nat → Bool} (hR : RightR (withE l e1)) (h1 : Means wd day (withE l e1) env1) (h2 : Means wd day (withE l e2) env2) : ∀ nm ∈ namesE e1, env1 nm = env2 nm := by
  have hlen := with_len l e1
  have key : ∀ i, i < (withE l e1).length → (i < l.length ∧ ¬ Wal.Way (stepB (directR (withE l e1))) (withE l e1).length i l.length → ∀ r, l[i]? = some r → env1 r.name = env2 r.name) := by
    refine ring_ind hR _ fun i hi ih => ?_
    rintro ⟨hil, hw⟩ r hr
    rw [h1 i r (with_old hr), h2 i r (with_old hr)]
    refine meanE_loc r.expr fun nm hn => ?_
    have hk := hR.known i r (with_old hr) nm hn
    have hs := step_of (with_old hr) hn hk
    obtain ⟨r', hr'⟩ : ∃ r', (withE l e1)[placeR (withE l e1) nm]? = some r' := ⟨_, List.getElem?_eq_getElem hk⟩
    have hnm := placeR_name hr'
    have hne : placeR (withE l e1) nm ≠ l.length := fun e => hw (e ▸ .one hs)
    have hlt : placeR (withE l e1) nm < l.length := by omega
    rw [← hnm]
    exact ih _ hs ⟨hlt, fun hw' => hw (.cons hs (by omega) hw')⟩ r' (by rw [← with_lt (e := e1) hlt]; exact hr')
  intro nm hn
  have hk := hR.known _ _ (with_new l e1) nm hn
  have hs := step_of (with_new l e1) hn hk
  obtain ⟨r', hr'⟩ : ∃ r', (withE l e1)[placeR (withE l e1) nm]? = some r' := ⟨_, List.getElem?_eq_getElem hk⟩
  have hnm := placeR_name hr'
  have hno := hR.noring l.length (by omega)
  have hne : placeR (withE l e1) nm ≠ l.length := fun e => hno (.one (by rw [e] at hs; exact hs))
  have hlt : placeR (withE l e1) nm < l.length := by omega
  rw [← hnm]
  exact key _ hk ⟨hlt, fun hw => hno (.cons hs (by omega) hw)⟩ r' (by rw [← with_lt (e := e1) hlt]; exact hr')

/-- is an expression right beside rules, on a day? -/
def okW (l : List Rule) (day : Int) (e : Expr) : Bool := (allF (withE l e) day).1 == 0
theorem okW_right {l : List Rule} {day : Int} {e : Expr} (h : okW l day e = true) : (wrongR (withE l e)).1 = 0 ∧ 0 ≤ day ∧ day < 146097 := by
  unfold okW allF at h
  split at h
  · rename_i h1
    rw [beq_iff_eq] at h
    exact absurd h h1
  · rename_i h1
    split at h
    · cases h
    · rename_i h2
      exact ⟨by simpa using h1, by omega, by omega⟩
/-- what all expressions mean beside rules -/
structure OfX (l : List Rule) (day : Int) (wd : Nat) (X : Expr → Nat → Bool) : Prop where
  call : ∀ (e : Expr) (v ve : Value) (w : World), RulesIn w v l → ExprVal w w.heap.size ve e → Calls Try.prog 22 #[v, ve, .int .i64 day] w fun r w' => r = .returned (.tuple #[.agg (maskA (setW (X e))), .bool (okW l day e)]) ∧ Below w.heap.size w w'
  env : ∀ e, okW l day e = true → ∃ env, X e = meanE wd day env e ∧ ∀ e1, okW l day e1 = true → meanE wd day env e1 = X e1
  wd : 0 ≤ day → Civ.weekI day = (wd : Nat)
theorem ofX_exists (l : List Rule) (day : Int) : ∃ wd X, OfX l day wd X := by
  have hw : 0 ≤ day → Civ.weekI day = ((Civ.weekI day).toNat : Nat) := fun h => by
    have : Civ.weekI day = (day + 5) % 7 := rfl
    omega
  have hx : ∀ e : Expr, ∃ env, (wrongR (withE l e)).1 = 0 → Means (Civ.weekI day).toNat day (withE l e) env := fun e => by
    by_cases h : (wrongR (withE l e)).1 = 0
    · obtain ⟨env, he⟩ := means_exists (Civ.weekI day).toNat day (right_of h)
      exact ⟨env, fun _ => he⟩
    · exact ⟨fun _ => noS, fun h1 => absurd h1 h⟩
  have hE : ∃ E : Expr → List UInt8 → Nat → Bool, ∀ e, (wrongR (withE l e)).1 = 0 → Means (Civ.weekI day).toNat day (withE l e) (E e) := ⟨fun e => Classical.choose (hx e), fun e => Classical.choose_spec (hx e)⟩
  obtain ⟨E, hE⟩ := hE
  refine ⟨(Civ.weekI day).toNat, fun e => ofM l e (E e) day, fun e v ve w hr he => of_any v ve l e (E e) _ day (fun h _ _ => hE e h) (fun h _ => hw h) w hr he, fun e he => ?_, hw⟩
  have heq : ∀ e, okW l day e = true → ofM l e (E e) day = meanE (Civ.weekI day).toNat day (E e) e := fun e h => by
    have h1 := hE e (okW_right h).1 _ _ (with_new l e)
    unfold ofM
    rw [if_pos (by unfold okW at h; simpa using h)]
    exact h1
  refine ⟨E e, heq e he, fun e1 h1 => ?_⟩
  rw [heq e1 h1]
  exact (meanE_loc e1 (with_agree (right_of (okW_right h1).1) (hE e1 (okW_right h1).1) (hE e (okW_right he).1))).symm

end Ru
end Go.Proofs.Ytfhedopfjgjffaa
