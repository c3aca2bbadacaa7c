/- Rows of rows of ints, appended. (What XTup of chapter 10 holds of it, for the rules.) A row of ints of the call's own, that grows at its end and is taken from its front. slices.Clone at ints. slices.Index, slices.Contains at ints. The names that a rule speaks of: check.names. Where a rule of a name is: check.Find. Which rules a rule speaks of: check.direct. slotref5.At, Speaks, Unknown. -/
import Derived.Test.YtbadplbdgpbdaaaDoorMea
import Derived.Test.YtbadplbdgpbdaaaDoorApp
import Derived.Laws.AppendOwnNone
import Derived.Laws.OwnMore
import Derived.ArgAppend
import Derived.Maps.AppendAt
import Derived.Tactics
import Derived.Test.YtbadplbdgpbdaaaDoorStr
import Derived.Outline
import Derived.Laws.StructEq
import Derived.Test.YtbadplbdgpbdaaaDoorShp
namespace Go.Proofs.YtbadplbdgpbdaaaDoor
open Go.RowKit
namespace Ru
open Sl

theorem elInts : El Tryd.prog 57 3 1 8 := El.mk' Tryd.underlying57 (by kernel_rfl) (by decide)
theorem elInts2 : El Tryd.prog 91 57 1 24 := El.mk' Tryd.underlying91 (by kernel_rfl) (by decide)

/-- values that lie side by side are appended to an own row -/
theorem wpList_append_vals {P : Program} {W : World} {ops : Array Oper} {rest : List Oper} {o : Oper} {a : Act} {Q : Exit → Act → World → Prop} {t e bytes : Nat} (hE : El P t e 1 bytes) (hgd : o.guard = none) (s x : Operand)
    (ho : o.op = .call { callee := .builtin .append, args := #[s, x], argTypes := #[t, t] })
    (base : Nat) (v : Value) (n : Nat) (xs : List Value) (hown : W.ownsRow base e 1 v n xs) (news : List Value) (u : Value) (hs : a.eval s = v) (hx : a.eval x = u)
    (hu : ∃ A cap, u = .slice A news.length cap ∧ (A = none → cap = 0) ∧ ∀ (j : Nat) (y : Value), news[j]? = some y → ∃ b o, A = some ⟨b, o, none⟩ ∧ W.cell? ⟨b, o + j, none⟩ = some y) (h1 : ∀ u ∈ news, u.oneCell' = true)
    (h63 : n + news.length ≤ maxLen) (hbytes : (n + news.length) * bytes ≤ 140737488355328) (hbase : base ≤ W.heap.size)
    (h : ∀ v' w', w'.ownsRow base e 1 v' (n + news.length) (xs ++ news) → W.grownBy w' v.ownBlock → wpList P ops Q rest (a.put o.dst v') w') :
    wpList P ops Q (o :: rest) a W := by
  obtain ⟨i, z, hi, hz, hsi, hby, hzs⟩ := hE.inf
  obtain ⟨A, cap, rfl, hcap, hc⟩ := hu
  cases A with
  | none =>
    have hn : news = [] := by
      cases news with
      | nil => rfl
      | cons y ys => obtain ⟨b, o, e, _⟩ := hc 0 y rfl; cases e
    subst hn
    obtain rfl := hcap rfl
    exact wpList_append_own_none hgd s x t ho base e i 1 hE.sl hi v n xs hs hown hx (h v W (by simpa using hown) ⟨rfl, rfl, rfl, Nat.le_refl _, fun _ _ _ => rfl⟩)
  | some ad =>
    refine wpList_append_own _ hgd s x t ho base e i z 1 bytes hE.sl hi hz hsi hby hzs hE.pos v n xs hs hown ad news.length cap news hx (by simp) (fun j y hy => ?_) h1 h63 hbytes hbase ?_
    · obtain ⟨b, o, e, h2⟩ := hc j y hy
      cases e
      rw [Addr.add_lit]
      exact h2
    · intro v' w' h2 h3 _
      exact h v' w' h2 h3

theorem own_types {w : World} {b1 b2 e1 e2 s1 s2 n1 n2 : Nat} {v1 v2 : Value} {xs1 xs2 : List Value} (h1 : w.ownsRow b1 e1 s1 v1 n1 xs1) (h2 : w.ownsRow b2 e2 s2 v2 n2 xs2) (hne : e1 ≠ e2) : v1.ownBlock = none ∨ v1.ownBlock ≠ v2.ownBlock := by
  rcases h1.2 with ⟨rfl, _⟩ | ⟨g, cap, cur, rfl, _, h3, _⟩
  · exact .inl rfl
  · rcases h2.2 with ⟨rfl, _⟩ | ⟨g', cap', cur', rfl, _, h4, _⟩
    · exact .inr (by simp [Value.ownBlock])
    · refine .inr fun h => ?_
      obtain rfl : g = g' := by simpa [Value.ownBlock] using h
      rw [h3] at h4
      simp only [Option.some.injEq, Obj.cells.injEq] at h4
      exact hne h4.2.1

/-- an own row of slices, each of which is an own row of ints -/
def NextV (w : World) (base : Nat) (v : Value) (L : List (List Int)) : Prop :=
  ∃ vs : List Value, w.ownsRow base 57 1 v L.length vs ∧ ∀ (i : Nat) (u : Value), vs[i]? = some u → ∀ x, L[i]? = some x → w.ownsRow base 3 1 u x.length (x.map (Value.int .i64))
theorem NextV.nil (w : World) (base : Nat) : NextV w base (.slice none 0 0) [] := ⟨[], World.ownsRow_nil _ _ _ _, fun i u h => by simp at h⟩
theorem NextV.below {w w' : World} {base : Nat} {v : Value} {L : List (List Int)} (h : NextV w base v L) {B : Nat} (hb : Below B w w') (hB : w.heap.size ≤ B) : NextV w' base v L := by
  obtain ⟨vs, h1, h2⟩ := h
  exact ⟨vs, own_keep h1 hb hB, fun i u hu x hx => own_keep (h2 i u hu x hx) hb hB⟩
theorem NextV.snoc {W w' : World} {base : Nat} {v v' u : Value} {L : List (List Int)} {x : List Int} {vs : List Value} (h1 : W.ownsRow base 57 1 v L.length vs) (h2 : ∀ (i : Nat) (u : Value), vs[i]? = some u → ∀ x, L[i]? = some x → W.ownsRow base 3 1 u x.length (x.map (Value.int .i64)))
    (hu : W.ownsRow base 3 1 u x.length (x.map (Value.int .i64))) (h3 : w'.ownsRow base 57 1 v' (L.length + 1) (vs ++ [u])) (hg : W.grownBy w' v.ownBlock) : NextV w' base v' (L ++ [x]) := by
  refine ⟨vs ++ [u], by simpa using h3, fun i y hy z hz => ?_⟩
  have hl : vs.length = L.length := by have := h1.1; simpa using this
  have keep : ∀ y z, W.ownsRow base 3 1 y (List.length z) (z.map (Value.int .i64)) → w'.ownsRow base 3 1 y z.length (z.map (Value.int .i64)) := fun y z h => h.kept hg (own_types h h1 (by decide))
  by_cases hi : i < L.length
  · rw [List.getElem?_append_left (by omega)] at hy hz
    exact keep _ _ (h2 i y hy z hz)
  · rw [List.getElem?_append_right (by omega)] at hy hz
    rw [hl] at hy
    cases hk : i - L.length with
    | zero => rw [hk] at hy hz; simp at hy hz; subst hy; subst hz; exact keep _ _ hu
    | succ k => rw [hk] at hy; simp at hy
/-- slices of ints, each an own row behind a base -/
def Ints2C (w : World) (B base : Nat) (v : Value) (l : List (List Int)) : Prop := Reads B v l fun b o i x => ∃ u, w.cell? ⟨b, o + i, none⟩ = some u ∧ w.ownsRow base 3 1 u x.length (x.map (Value.int .i64))
theorem own_nil0 {w : World} {base e k n : Nat} {v : Value} {xs : List Value} (h : w.ownsRow base e k v n xs) : ∀ m c, v = .slice none m c → c = 0 := fun m c e => by
  subst e
  rcases h.2 with ⟨h, _⟩ | ⟨g, cap, cur, h, _⟩
  · cases h; rfl
  · cases h
theorem NextV.reads {w : World} {base : Nat} {v : Value} {L : List (List Int)} (h : NextV w base v L) : Ints2C w w.heap.size base v L := by
  obtain ⟨vs, h1, h2⟩ := h
  have hl : vs.length = L.length := by have := h1.1; simpa using this
  rcases h1.2 with ⟨rfl, h0⟩ | ⟨g, cap, cur, rfl, _, hh, hcap, hcm, _, ht⟩
  · exact ⟨none, 0, by rw [h0], by omega, fun i x hx => by have := (List.getElem?_eq_some_iff.1 hx).1; omega⟩
  · refine ⟨_, cap, rfl, own_max h1, fun i x hx => ⟨g, 0, rfl, (Array.getElem?_eq_some_iff.1 hh).1, ?_⟩⟩
    have hi := (List.getElem?_eq_some_iff.1 hx).1
    refine ⟨vs[i]'(by omega), ?_, h2 i _ (List.getElem?_eq_getElem (by omega : i < vs.length)) x hx⟩
    have := h1.cells (g := g) rfl i _ (List.getElem?_eq_getElem (by omega : i < vs.length))
    rwa [Addr.add_lit] at this
theorem Ints2C.low {w : World} {B base base' : Nat} {v : Value} {l : List (List Int)} (h : Ints2C w B base v l) (hb : base' ≤ base) : Ints2C w B base' v l := Reads.mono h (Nat.le_refl _) fun _ _ _ _ _ _ ⟨u, h1, h2⟩ => ⟨u, h1, own_mono h2 hb⟩

/-- a literal of one value -/
theorem lit_cells (W : World) (te : TypeId) (u : Value) : ∃ A cap, Value.slice (some ⟨W.heap.size, 0, none⟩) 1 1 = .slice A [u].length cap ∧ (A = none → cap = 0) ∧
    ∀ (j : Nat) (y : Value), [u][j]? = some y → ∃ b o, A = some ⟨b, o, none⟩ ∧ (W.alloc (.cells #[u] te)).cell? ⟨b, o + j, none⟩ = some y :=
by
  refine ⟨some ⟨W.heap.size, 0, none⟩, 1, rfl, (fun h => by cases h), fun j y hy => ⟨W.heap.size, 0, rfl, ?_⟩⟩
  have := (Blk.new W te #[u]).cell j
  rw [Nat.zero_add, this]
  simpa using hy

/-- a literal of one value, just made, is appended to an own row -/
theorem wpList_append_one {P : Program} {W : World} {ops : Array Oper} {rest : List Oper} {o : Oper} {a : Act} {Q : Exit → Act → World → Prop} {t e bytes : Nat} (hE : El P t e 1 bytes) (hgd : o.guard = none) (s x : Operand)
    (ho : o.op = .call { callee := .builtin .append, args := #[s, x], argTypes := #[t, t] })
    (base : Nat) (v : Value) (n : Nat) (xs : List Value) (hown : W.ownsRow base e 1 v n xs) (u : Value) (te : TypeId) (hs : a.eval s = v) (hx : a.eval x = .slice (some ⟨W.heap.size, 0, none⟩) 1 1)
    (h1 : u.oneCell' = true) (h63 : n + 1 ≤ maxLen) (hbytes : (n + 1) * bytes ≤ 140737488355328) (hbase : base ≤ W.heap.size)
    (h : ∀ v' w', w'.ownsRow base e 1 v' (n + 1) (xs ++ [u]) → Below base W w' → (W.alloc (.cells #[u] te)).grownBy w' v.ownBlock → wpList P ops Q rest (a.put o.dst v') w') :
    wpList P ops Q (o :: rest) a (W.alloc (.cells #[u] te)) := by
  refine wpList_append_vals hE hgd s x ho base v n xs (hown.alloc _) [u] _ hs hx (lit_cells W te u) (fun y hy => by simp at hy; subst hy; exact h1) (by simpa using h63) (by simpa using hbytes) (by simp; omega) fun v' w' h2 h3 => ?_
  exact h v' w' (by simpa using h2) (((Below.refl _ _).alloc hbase _).trans (own_below (by simp; omega) (hown.alloc _) h3)) h3

end Ru
end Go.Proofs.YtbadplbdgpbdaaaDoor

namespace Go.Proofs.YtbadplbdgpbdaaaDoor
open Go.RowKit
namespace Ru

abbrev intV (l : List Int) : List Value := l.map (Value.int .i64)
/-- a row of ints from some place of a block on -/
def OffI (w : World) (base : Nat) (v : Value) (L : List Int) : Prop :=
  (v = .slice none 0 0 ∧ L = []) ∨ ∃ g off cap cur, v = .slice (some ⟨g, off, none⟩) L.length cap ∧ base ≤ g ∧ w.heap[g]? = some (.cells cur 3 (0, 0)) ∧ L.length ≤ cap ∧ off + cap ≤ cur.size ∧ cap ≤ 9223372036854775807 ∧ ∀ j u, (intV L)[j]? = some u → cur[off + j]? = some u
theorem OffI.heap {w w' : World} {base : Nat} {v : Value} {L : List Int} (h : OffI w base v L) (hg : ∀ g, v.ownBlock = some g → w'.heap[g]? = w.heap[g]?) : OffI w' base v L := by
  rcases h with h | ⟨g, off, cap, cur, rfl, h1, h2, h3⟩
  · exact .inl h
  · exact .inr ⟨g, off, cap, cur, rfl, h1, (hg g rfl).trans h2, h3⟩
theorem OffI.lt {w : World} {base : Nat} {v : Value} {L : List Int} (h : OffI w base v L) {g : Nat} (hg : v.ownBlock = some g) : base ≤ g ∧ g < w.heap.size := by
  rcases h with ⟨rfl, _⟩ | ⟨g', off, cap, cur, rfl, h1, h2, h3⟩
  · cases hg
  · cases hg
    exact ⟨h1, (Array.getElem?_eq_some_iff.1 h2).1⟩
theorem OffI.below {w w' : World} {base B : Nat} {v : Value} {L : List Int} (h : OffI w base v L) (hb : Below B w w') (hB : w.heap.size ≤ B) : OffI w' base v L :=
  h.heap fun g hg => hb.block g (by have := (h.lt hg).2; omega)
theorem OffI.grown {w w' : World} {base : Nat} {r : Option Nat} {v : Value} {L : List Int} (h : OffI w base v L) (hg : w.grownBy w' r) (hr : ∀ g, v.ownBlock = some g → r ≠ some g) : OffI w' base v L :=
  h.heap fun g hg' => hg.block g (h.lt hg').2 (fun e => hr g hg' e.symm)
theorem OffI.mono {w : World} {b b' : Nat} {v : Value} {L : List Int} (h : OffI w b v L) (hb : b' ≤ b) : OffI w b' v L := by
  rcases h with h | ⟨g, off, cap, cur, rfl, h1, h2⟩
  · exact .inl h
  · exact .inr ⟨g, off, cap, cur, rfl, by omega, h2⟩
theorem OffI.slice {w : World} {base : Nat} {v : Value} {L : List Int} (h : OffI w base v L) : ∃ A cap, v = .slice A L.length cap := by
  rcases h with ⟨rfl, rfl⟩ | ⟨g, off, cap, cur, rfl, _⟩
  · exact ⟨none, 0, rfl⟩
  · exact ⟨_, _, rfl⟩
theorem OffI.of_own {w : World} {base : Nat} {v : Value} {L : List Int} (h : w.ownsRow base 3 1 v L.length (intV L)) : OffI w base v L := by
  rcases h.2 with ⟨rfl, h0⟩ | ⟨g, cap, cur, rfl, hb, hh, hc, hm, hs, ht⟩
  · exact .inl ⟨rfl, List.length_eq_zero_iff.1 h0⟩
  · refine .inr ⟨g, 0, cap, cur, rfl, hb, hh, hc, by omega, hm, fun j u hu => ?_⟩
    rw [← ht, List.getElem?_take] at hu
    split at hu
    · rw [Nat.zero_add]; simpa using hu
    · cases hu
/-- its first int; what is left -/
theorem OffI.head {w : World} {base : Nat} {v : Value} {x : Int} {L : List Int} (h : OffI w base v (x :: L)) :
    ∃ g off cap, v = .slice (some ⟨g, off, none⟩) (L.length + 1) cap ∧ L.length + 1 ≤ cap ∧ base ≤ g ∧ g < w.heap.size ∧ w.cell? ⟨g, off, none⟩ = some (.int .i64 x) ∧ OffI w base (.slice (some ⟨g, off + 1, none⟩) L.length (cap - 1)) L := by
  rcases h with ⟨_, h⟩ | ⟨g, off, cap, cur, rfl, h1, h2, h3, h4, h5, h6⟩
  · cases h
  · have hB : Blk w g 3 cur := h2
    simp only [List.length_cons] at h3
    refine ⟨g, off, cap, rfl, h3, h1, hB.lt, ?_, .inr ⟨g, off + 1, cap - 1, cur, rfl, h1, h2, by omega, by omega, by omega, fun j u hu => ?_⟩⟩
    · rw [hB.cell]; exact h6 0 _ rfl
    · have := h6 (j + 1) u (by simpa using hu)
      rwa [show off + 1 + j = off + (j + 1) by omega]
theorem Blk_setCells {g : Nat} {t : TypeId} : ∀ (vs : List Value) {w : World} {cs : Array Value} (_ : Blk w g t cs) (o : Nat), ∃ cs', Blk (w.setCells g o vs) g t cs' ∧ cs'.size = cs.size ∧ (∀ i, i < o → cs'[i]? = cs[i]?) ∧ (∀ j u, vs[j]? = some u → o + j < cs.size → cs'[o + j]? = some u) ∧ w.grownBy (w.setCells g o vs) (some g)
  | [], w, cs, h, o => ⟨cs, by simpa [World.setCells] using h, rfl, fun _ _ => rfl, fun j u hu => by simp at hu, by simpa [World.setCells] using (⟨rfl, rfl, rfl, Nat.le_refl _, fun _ _ _ => rfl⟩ : w.grownBy w (some g))⟩
  | v :: vs, w, cs, h, o => by
    obtain ⟨cs', h1, h2, h3, h4, h5⟩ := Blk_setCells vs (h.set o v) (o + 1)
    refine ⟨cs', by simpa [World.setCells] using h1, by rw [h2]; simp, fun i hi => ?_, fun j u hu hj => ?_, ?_⟩
    · rw [h3 i (by omega), Array.getElem?_setIfInBounds, if_neg (by omega)]
    · cases j with
      | zero =>
        simp at hu
        subst hu
        rw [Nat.add_zero, h3 o (by omega), Array.getElem?_setIfInBounds, if_pos rfl, if_pos (by omega)]
      | succ j =>
        have := h4 j u (by simpa using hu) (by simp; omega)
        rwa [show o + 1 + j = o + (j + 1) by omega] at this
    · have e : w.setCells g o (v :: vs) = (w.setCell ⟨g, o, none⟩ v).setCells g (o + 1) vs := by simp [World.setCells]
      rw [e]
      exact ⟨h5.os, h5.tape, h5.output, by have := h5.size; simpa using this, fun k hk hne => (h5.block k (by simpa using hk) hne).trans (Below.heap_setCell w ⟨g, o, none⟩ v k (fun e => hne (by rw [e])))⟩
/-- ints that lie somewhere are appended -/
theorem wp_offI {W : World} {ops : Array Oper} {rest : List Oper} {o : Oper} {a : Act} {Q : Exit → Act → World → Prop} {base : Nat} {v : Value} {L : List Int} (hT : OffI W base v L) (M : List Int) (ad : Addr) (c : Nat) (hgd : o.guard = none) (so xo : Operand)
    (ho : o.op = .call { callee := .builtin .append, args := #[so, xo], argTypes := #[57, 57] }) (hs : a.eval so = v) (hx : a.eval xo = .slice (some ad) M.length c) (hnew : ∀ j u, (intV M)[j]? = some u → W.cell? (ad.add j) = some u)
    (hbase : base ≤ W.heap.size) (hl : L.length + M.length < 1000000)
    (h : ∀ v' w', OffI w' base v' (L ++ M) → W.grownBy w' v.ownBlock → (∀ b, v'.ownBlock = some b → v.ownBlock = some b ∨ W.heap.size ≤ b) → wpList Tryd.prog ops Q rest (a.put o.dst v') w') :
    wpList Tryd.prog ops Q (o :: rest) a W := by
  obtain ⟨i, z, hi, hz, hsi, hby, hzs⟩ := elInts.inf
  have hbl := elInts.sl
  have h1c : ∀ u ∈ intV M, u.oneCell' = true := fun u hu => by obtain ⟨x, _, rfl⟩ := List.mem_map.1 hu; rfl
  have hfl : intV (L ++ M) = intV L ++ intV M := by simp
  have hln : (L ++ M).length = L.length + M.length := by simp
  have hml : (intV M).length = M.length := by simp
  have hll : (intV L).length = L.length := by simp
  rcases hT with ⟨rfl, rfl⟩ | ⟨g, off, cap, cur, rfl, h1, h2, h3, h4, h5, h6⟩
  · refine wpList_append_own _ hgd so xo 57 ho W.heap.size 3 i z 1 8 hbl hi hz hsi hby hzs (by decide) (.slice none 0 0) 0 [] hs (World.ownsRow_nil _ _ _ _) ad M.length c (intV M) hx (by simp) hnew h1c (by simp only [maxLen]; omega) (by omega) (by omega) ?_
    intro v' w' hown hgr _
    refine h v' w' ((OffI.of_own (L := M) (by simpa using hown)).mono hbase) hgr fun b hb => .inr (hown.lt b hb).1
  · have hg : g < W.heap.size := (Array.getElem?_eq_some_iff.1 h2).1
    have hBg : Blk W g 3 cur := h2
    refine wpList_append_arg _ hgd so xo 57 ho 3 i z 1 8 hbl hi hz hsi hby hzs (by decide) g off L.length cap (intV L) hs (by simp) (fun j u hu => ?_) ad M.length c (intV M) hx (by simp) hnew h1c
      (fun hr j hj => ?_) (by simp only [maxLen]; omega) (by omega) (fun hr => ?_) (fun hr v' w' hw hgr => ?_)
    · rw [hBg.cell]; exact h6 j u hu
    · have hj3 : j < M.length := by simpa using hj
      rw [hBg.cell, hBg.frozen, Array.getElem?_eq_getElem (by omega)]
      exact ⟨rfl, rfl⟩
    · obtain ⟨cs', hS, hsz, hlow, hin, hoth⟩ := Blk_setCells (intV M) hBg (off + L.length * 1)
      refine h _ _ (.inr ⟨g, off, cap, cs', by rw [hln], h1, hS, by rw [hln]; omega, by omega, h5, fun j u hu => ?_⟩) ?_ (fun b hb => .inl hb)
      · rw [hfl] at hu
        by_cases hj : j < L.length
        · rw [List.getElem?_append_left (by omega)] at hu
          rw [hlow _ (by omega)]
          exact h6 j u hu
        · rw [List.getElem?_append_right (by omega), hll] at hu
          have hj3 : j - L.length < M.length := by have := (List.getElem?_eq_some_iff.1 hu).1; omega
          have := hin (j - L.length) u hu (by omega)
          rwa [show off + L.length * 1 + (j - L.length) = off + j by omega] at this
      · exact hoth
    · have hown : w'.ownsRow W.heap.size 3 1 v' (L ++ M).length (intV (L ++ M)) := by rw [hfl, hln]; exact hw
      refine h v' w' ((OffI.of_own hown).mono hbase) ⟨hgr.os, hgr.tape, hgr.output, hgr.size, fun k hk _ => hgr.block k hk (by simp)⟩ (fun b hb => .inr (hown.lt b hb).1)

theorem run_offI_none {W : World} {base : Nat} {v : Value} {L : List Int} (hT : OffI W base v L) (ty : TypeId) : (Builtin.append_ #[57, 57] ty #[v, .slice none 0 0]).run Tryd.prog W = .ok v W := by
  obtain ⟨i, z, hi, _⟩ := elInts.inf
  have ht := elInts.sl
  rcases hT with ⟨rfl, rfl⟩ | ⟨g, off, cap, cur, rfl, h1, h2, hnc, _⟩
  · simp [Builtin.append_, run_underlying ht, sizeOf, typeInfo, hi, Builtin.lenOf, Builtin.firstCells]
  · simp [Builtin.append_, run_underlying ht, sizeOf, typeInfo, hi, Builtin.lenOf, Builtin.firstCells, hnc, storeCells]
/-- nothing is appended -/
theorem wp_offI_none {W : World} {ops : Array Oper} {rest : List Oper} {o : Oper} {a : Act} {Q : Exit → Act → World → Prop} {base : Nat} {v : Value} {L : List Int} (hT : OffI W base v L) (hgd : o.guard = none) (so xo : Operand)
    (ho : o.op = .call { callee := .builtin .append, args := #[so, xo], argTypes := #[57, 57] }) (hs : a.eval so = v) (hx : a.eval xo = .slice none 0 0) (h : wpList Tryd.prog ops Q rest (a.put o.dst v) W) : wpList Tryd.prog ops Q (o :: rest) a W := by
  refine wpList_plain hgd fun K hK => ?_
  have hrun := run_offI_none hT o.type
  unfold Oper.wp
  simp [execOp, ho, resolve, invoke, builtin, hs, hx, hrun, Result.andThen]
  exact hK _ _ h

end Ru
end Go.Proofs.YtbadplbdgpbdaaaDoor

namespace Go.Proofs.YtbadplbdgpbdaaaDoor
open Go.RowKit
namespace Ru
open Sl

set_option maxRecDepth 100000 in
set_option maxHeartbeats 2000000 in
theorem Clone_ints (v : Value) (k : List Int) (w : World) (hk : IntsV w w.heap.size v k) (hlen : k.length * 8 ≤ 140737488355328) :
    Calls Tryd.prog 79 #[v] w fun e w' => ∃ v', e = .returned v' ∧ Below w.heap.size w w' ∧ w'.ownsRow w.heap.size 3 1 v' k.length (k.map (Value.int .i64)) := by
  obtain ⟨A, cap, rfl, hl63, hc⟩ := hk
  cases A with
  | none =>
    have e0 : k = [] := by
      cases k with
      | nil => rfl
      | cons x k => obtain ⟨b, o, h, _⟩ := hc 0 x rfl; cases h
    subst e0
    have hnil := fun w => Lib.run_eql_slice_nil (P := Tryd.prog) w 57 3 none 0 cap 0 0 Tryd.underlying57
    clear hc
    go_enter Tryd.func79, Tryd.ntmps79
    go_wp2
    go_ret
    exact ⟨_, rfl, Below.refl _ _, World.ownsRow_nil _ _ _ _⟩
  | some ad =>
    have hnil := fun w => Lib.run_eql_slice_nil (P := Tryd.prog) w 57 3 (some ad) k.length cap 0 0 Tryd.underlying57
    obtain ⟨i0, z0, hi, hz0, hz1, hz2, hz3⟩ := elInts.inf
    have hn1 := Lib.hid (show ∀ (j : Nat) (u : Value), (k.map (Value.int .i64))[j]? = some u → (w.alloc (.cells #[] 3)).cell? (ad.add j) = some u from fun j u hu => by
      rw [List.getElem?_map, Option.map_eq_some_iff] at hu
      obtain ⟨x, h1, rfl⟩ := hu
      obtain ⟨b, o, e, hb, c5⟩ := hc _ x h1
      cases e
      rw [Addr.add_lit, cell_alloc_ite, if_pos hb]
      exact c5)
    have hn2 := Lib.hid (show ∀ u ∈ k.map (Value.int .i64), u.oneCell' = true from fun u hu => by obtain ⟨x, _, rfl⟩ := List.mem_map.1 hu; rfl)
    have hn3 := Lib.hid (show (k.map (Value.int .i64)).length = k.length * 1 by simp)
    clear hc
    go_enter Tryd.func79, Tryd.ntmps79
    go_wp2_with (at_builtin; refine wpList_append_own _ rfl (.tmp 5) (.tmp 6) _ rfl w.heap.size 3 i0 z0 1 8 Tryd.underlying57 hi hz0 hz1 hz2 hz3 (by omega) (.slice (some ⟨w.heap.size, 0, none⟩) 0 0) 0 [] rfl (World.ownsRow_lit w #[] 0 (Nat.le_refl _) (by simp) (by simp)) ad k.length cap (k.map (Value.int .i64)) rfl hn3.out hn1.out hn2.out (by simp only [maxLen]; omega) (by omega) (by simp) ?_; intro v1 w1 hown hg _)
    go_ret
    simp only [Nat.zero_add, List.nil_append] at hown
    exact ⟨v1, rfl, ((Below.refl _ _).alloc (Nat.le_refl _) _).grown hg (by simp) (by simp [Value.ownBlock]), hown⟩

end Ru
end Go.Proofs.YtbadplbdgpbdaaaDoor

namespace Go.Proofs.YtbadplbdgpbdaaaDoor
open Go.RowKit
namespace Ru
open Sl

/-- where an int is, as the code tells it -/
def idxI (l : List Int) (x : Int) : Int := if l.findIdx (fun y => x == y) < l.length then (l.findIdx (fun y => x == y) : Nat) else -1
theorem idxI_has (l : List Int) (x : Int) : decide (0 ≤ idxI l x) = l.contains x := by
  rw [Bool.eq_iff_iff, decide_eq_true_eq, List.contains_iff_mem]
  unfold idxI
  constructor
  · intro h
    split at h
    · rename_i hi
      have := List.findIdx_getElem (xs := l) (p := fun y => x == y) (w := hi)
      rw [beq_iff_eq] at this
      rw [this]
      exact List.getElem_mem hi
    · omega
  · intro h
    rw [if_pos (List.findIdx_lt_length_of_exists ⟨x, h, by simp⟩)]
    omega

set_option maxRecDepth 100000 in
set_option maxHeartbeats 2000000 in
theorem Index_ints (v : Value) (l : List Int) (x : Int) (w : World) (hr : IntsV w w.heap.size v l) :
    Calls Tryd.prog 78 #[v, .int .i64 x] w fun e w' => e = .returned (.int .i64 (idxI l x)) ∧ w = w' := by
  obtain ⟨A, cap, rfl, hlen, hc⟩ := hr
  replace hc := Lib.hid hc
  go_enter Tryd.func78, Tryd.ntmps78
  go_wp2
  go_loopg [8] l.length (fun n i wr => ∃ j : Nat, j ≤ l.length ∧ n = l.length - j ∧ i = .int .i64 j ∧ wr = w ∧ j ≤ l.findIdx (fun y => x == y))
  case atStart => exact ⟨0, by omega, rfl, rfl, rfl, Nat.zero_le _⟩
  case round =>
    obtain ⟨j, hj, hn, rfl, rfl, hpj⟩ := hrel
    replace hn := Lib.hid hn
    by_cases hlt : j < l.length
    · obtain ⟨y, hx⟩ : ∃ y, l[j]? = some y := ⟨_, List.getElem?_eq_getElem hlt⟩
      obtain ⟨b, o, rfl, hbl, k0⟩ := hc.out j y hx
      have hy : l[j] = y := (List.getElem?_eq_some_iff.1 hx).2
      cases ht2 : (x == y) with
      | true =>
        have hp1 : l.findIdx (fun y => x == y) = j := by
          rcases Nat.lt_or_ge j (l.findIdx (fun y => x == y)) with h | h
          · have := List.not_of_lt_findIdx (xs := l) (p := fun y => x == y) h
            rw [hy, ht2] at this
            simp at this
          · omega
        have hres := Lib.hid (show idxI l x = (j : Int) by unfold idxI; rw [hp1, if_pos hlt])
        clear hp1 hx hy
        go_wp2
        go_ret
        exact ⟨by rw [hres.out]; rfl, rfl⟩
      | false =>
        have hp1 : j + 1 ≤ l.findIdx (fun y => x == y) := by
          rcases Nat.lt_or_ge j (l.findIdx (fun y => x == y)) with h | h
          · exact h
          · have e : l.findIdx (fun y => x == y) = j := by omega
            have := List.findIdx_getElem (xs := l) (p := fun y => x == y) (w := by omega)
            simp only [e, hy, ht2] at this
            cases this
        clear hx hy
        go_wp2
        go_roundg (l.length - (j + 1))
        case measure => rw [hn.out]; omega
        case rel => exact ⟨j + 1, by omega, rfl, by go_num, rfl, hp1⟩
    · have hres := Lib.hid (show idxI l x = -1 by unfold idxI; rw [if_neg (by omega)])
      obtain rfl : j = l.length := by omega
      go_wp2
      go_ret
      exact ⟨by rw [hres.out]; rfl, rfl⟩

set_option maxHeartbeats 1000000 in
theorem Contains_ints (v : Value) (l : List Int) (x : Int) (w : World) (hr : IntsV w w.heap.size v l) :
    Calls Tryd.prog 37 #[v, .int .i64 x] w fun e w' => e = .returned (.bool (l.contains x)) ∧ w = w' := by
  have hi := Lib.hid (Index_ints v l x w hr)
  rw [← idxI_has]
  obtain ⟨A, cap, rfl, _⟩ := hr
  go_enter Tryd.func37, Tryd.ntmps37
  go_wp2_with (go_at_call 78; refine hi.out.mono ?_; rintro e w2 ⟨rfl, rfl⟩)
  go_ret
  exact ⟨rfl, rfl⟩

end Ru
end Go.Proofs.YtbadplbdgpbdaaaDoor

namespace Go.Proofs.YtbadplbdgpbdaaaDoor
open Go.RowKit
namespace Ru
open Sl (strV Reads)

theorem el_str : El Tryd.prog 130 9 1 16 := El.mk' Tryd.underlying130 (by kernel_rfl) (by decide)

mutual
theorem names_len : ∀ (e : Expr), (namesE e).length ≤ nodesE e
  | .mk k a b name kids => by
    rw [namesE, nodesE]
    split
    · simp
    · have := namesL_len kids; omega
theorem namesL_len : ∀ (l : List Expr), (namesL l).length ≤ nodesL l
  | [] => by rw [namesL, nodesL]; exact Nat.le_refl _
  | e :: l => by
    have h1 := names_len e
    have h2 := namesL_len l
    rw [namesL, nodesL, List.length_append]
    omega
end
theorem namesL_room : ∀ {l : List Expr} {i : Nat} {e : Expr}, l[i]? = some e → (namesL (l.take i)).length + nodesE e ≤ nodesL l
  | [], _, _, h => by simp at h
  | x :: l, 0, e, h => by
    simp at h
    subst h
    rw [List.take_zero, namesL, nodesL]
    simp
  | x :: l, i + 1, e, h => by
    have := namesL_room (l := l) (i := i) (e := e) (by simpa using h)
    have h1 := names_len x
    rw [List.take_succ_cons, namesL, nodesL, List.length_append]
    omega

set_option maxRecDepth 100000 in
set_option maxHeartbeats 4000000 in
theorem names_any : ∀ (N : Nat) (e : Expr) (w : World) (gs base b o : Nat) (v : Value) (l : List (List UInt8)), nodesE e ≤ N → ExprAt w gs b o e → b < gs → gs ≤ base → base ≤ w.heap.size → l.length + nodesE e ≤ 1000 → w.ownsRow base 9 1 v l.length (l.map strV) →
    Calls Tryd.prog 77 #[.pointer (some ⟨b, o, none⟩), v] w fun r w' => ∃ v', r = .returned v' ∧ w'.ownsRow base 9 1 v' (l ++ namesE e).length ((l ++ namesE e).map strV) ∧ Below base w w' := by
  intro N
  induction N with
  | zero => intro e w gs base b o v l hN; have := nodesE_pos e; omega
  | succ N ih =>
    intro e w gs base b o v l hN he hb hgb hbw hl ho
    obtain ⟨k0, k1, k2, k3, hnl, A, cap, k4, hkl, hkv⟩ := he.out
    have hnod : nodesL e.kids ≤ N ∧ l.length + nodesL e.kids + 1 ≤ 1000 := by cases e; rw [nodesE] at hN hl; simp only [Expr.kids]; omega
    obtain ⟨k, x, y, nm, kids⟩ := e
    simp only [Expr.kind, Expr.a, Expr.b, Expr.name, Expr.kids] at k0 k1 k2 k3 k4 hnl hkl hkv hnod
    have hnames : namesE (.mk k x y nm kids) = if k = 10 then [nm] else namesL kids := by rw [namesE]
    have zb : b < w.heap.size := by omega
    clear he hN hl k1 k2
    obtain ⟨A0, cap0, hv⟩ := own_slice ho
    replace ho := Lib.hid ho
    replace ih := Lib.hid ih
    by_cases hk : k = 10
    · subst hk
      rw [if_pos rfl] at hnames
      replace hnames := Lib.hid hnames
      have hnew := Lib.hid (show ∀ u ∈ (#[strV nm] : Array Value).toList, u.oneCell' = true from fun u hu => by simp at hu; subst hu; rfl)
      clear hv
      go_enter Tryd.func77, Tryd.ntmps77
      go_wp2_with (at_builtin; refine wpList_append_lit el_str rfl (.tmp 11) (.tmp 16) rfl base v l.length (l.map strV) ho.out #[strV nm] 9 rfl rfl rfl hnew.out (by simp only [maxLen]; omega) (by omega) hbw ?_; intro v' w5 hown5 hb5 hs5)
      go_ret
      refine ⟨_, rfl, ?_, hb5⟩
      rw [hnames.out]
      exact hown5
    · rw [if_neg hk] at hnames
      have gk : (k == 10) = false := by simpa using hk
      clear hk
      replace hnames := Lib.hid hnames
      replace hkv := Lib.hid hkv
      have k4' := Lib.hid k4
      go_enter Tryd.func77, Tryd.ntmps77
      go_wp2
      clear k4 k0 k3 gk hv
      go_loopg [1, 23] kids.length (fun m vv kv wr => ∃ j : Nat, j ≤ kids.length ∧ m = kids.length - j ∧ kv = .int .i64 j ∧ Hid (wr.ownsRow base 9 1 vv (l ++ namesL (kids.take j)).length ((l ++ namesL (kids.take j)).map strV)) ∧ Below base w wr)
      case atStart => exact ⟨0, by omega, rfl, rfl, by rw [List.take_zero, namesL, List.append_nil]; exact ho, Below.refl _ _⟩
      case round =>
        obtain ⟨j, hj, hm, rfl, hor, hbr⟩ := hrel
        replace hm := Lib.hid hm
        have zr := hbr.size
        have c4 : wr.cell? ⟨b, o + 4, none⟩ = some (.slice A kids.length cap) := (hbr.cell (p := ⟨b, _, none⟩) (show b < base by omega)).trans k4'.out
        by_cases hlt : j < kids.length
        · obtain ⟨e1, hx⟩ : ∃ d, kids[j]? = some d := ⟨_, List.getElem?_eq_getElem hlt⟩
          obtain ⟨kb, ko, rfl, hkb, hke⟩ := hkv.out.at' hx
          have hroom := namesL_room hx
          have htake := Lib.hid (namesL_take hx)
          have hcall := Lib.hid (ih.out e1 wr gs base kb (ko + j * 5) _ (l ++ namesL (kids.take j)) (by have := nodesE_kid hx; omega) (hke.below hbr (by omega) (Nat.le_refl _) (by omega)) hkb hgb (by omega) (by rw [List.length_append]; omega) hor.out)
          clear hx hke hroom
          go_wp2_with (go_at_call 77; refine hcall.out.mono ?_; rintro e w5 ⟨v5, rfl, ho5, hb5⟩)
          go_roundg (kids.length - (j + 1))
          case measure => rw [hm.out]; omega
          case rel => exact ⟨j + 1, by omega, rfl, by go_num, by rw [htake.out, ← List.append_assoc]; exact ho5, hbr.trans hb5⟩
        · obtain rfl : j = kids.length := by omega
          go_wp2
          go_ret
          exact ⟨_, rfl, by rw [hnames.out]; simpa using hor.out, hbr⟩

end Ru
end Go.Proofs.YtbadplbdgpbdaaaDoor

namespace Go.Proofs.YtbadplbdgpbdaaaDoor
open Go.RowKit
namespace Ru
open Sl (strV Reads)

theorem bytes_list (s : List UInt8) : (⟨s.toArray⟩ : ByteArray).toList = s := by
  simp [ByteArray.toList_eq]
attribute [local go_sem] bytes_list

set_option maxHeartbeats 1000000 in
theorem test_any (u : List UInt8) (c1 c2 c3 c4 c5 : Value) (nm : List UInt8) (p : Nat) (w : World) (hp : w.cell? ⟨p, 0, none⟩ = some (strV nm)) (hlt : p < w.heap.size) :
    Calls Tryd.prog 76 #[.agg #[strV u, c1, c2, c3, c4, c5], .pointer (some ⟨p, 0, none⟩)] w fun e w' => e = .returned (.bool (u == nm)) ∧ Below w.heap.size w w' := by
  go_enter Tryd.func76, Tryd.ntmps76
  go_wp2
  go_ret
  exact ⟨rfl, (by repeat (first | exact Below.refl _ _ | assumption | refine Below.n _ ?_ (by first | omega | (simp; done) | (simp; omega)) | refine Below.alloc ?_ (by first | omega | (simp; done) | (simp; omega)) _ | refine Below.setCell ?_ (by first | omega | (simp; done) | (simp; omega)) _ | refine Below.drew ?_ | refine Below.setRow ?_ (by first | omega | (simp; done) | (simp; omega)) _ | refine Below.drewN ?_ _))⟩

theorem placeR_at {l : List Rule} {nm : List UInt8} {i : Nat} {x : Rule} (h : l[i]? = some x) (hn : i ≤ placeR l nm) : (x.name == nm) = true ↔ placeR l nm = i := by
  obtain ⟨hi, rfl⟩ := List.getElem?_eq_some_iff.1 h
  constructor
  · intro hx
    have : placeR l nm ≤ i := by
      rcases Nat.lt_or_ge i (placeR l nm) with hlt | hge
      · have := List.not_of_lt_findIdx (xs := l) (p := fun x : Rule => x.name == nm) hlt
        rw [hx] at this
        simp at this
      · exact hge
    omega
  · rintro hx
    have := placeR_name (l := l) (nm := nm) (r := l[i]) (by rw [hx]; exact List.getElem?_eq_getElem hi)
    simp [this]
theorem placeR_len (l : List Rule) (nm : List UInt8) : placeR l nm ≤ l.length := List.findIdx_le_length

set_option maxRecDepth 100000 in
set_option maxHeartbeats 2000000 in
theorem index_any (v : Value) (l : List Rule) (nm : List UInt8) (p : Nat) (w : World) (hr : RulesV w w.heap.size v l) (hp : w.cell? ⟨p, 0, none⟩ = some (strV nm)) (hpl : p < w.heap.size) :
    Calls Tryd.prog 75 #[v, .func (.func 76) #[] #[.pointer (some ⟨p, 0, none⟩)]] w fun e w' => e = .returned (.int .i64 (findI l nm)) ∧ Below w.heap.size w w' := by
  obtain ⟨A, cap, rfl, hlen, hc⟩ := hr
  replace hc := Lib.hid hc
  go_enter Tryd.func75, Tryd.ntmps75
  go_wp2
  go_loopg [8] l.length (fun n i wr => ∃ j : Nat, j ≤ l.length ∧ n = l.length - j ∧ i = .int .i64 j ∧ Below w.heap.size w wr ∧ j ≤ placeR l nm)
  case atStart => exact ⟨0, by omega, rfl, rfl, Below.refl _ _, Nat.zero_le _⟩
  case round =>
    obtain ⟨j, hj, hn, rfl, hb, hpj⟩ := hrel
    replace hn := Lib.hid hn
    by_cases hlt : j < l.length
    · obtain ⟨x, hx⟩ : ∃ x, l[j]? = some x := ⟨_, List.getElem?_eq_getElem hlt⟩
      obtain ⟨b, o, rfl, hbl, k0, hnl, hE⟩ := hc.out j x hx
      have z := hb.size
      obtain ⟨v0, v1, v2, v3, hnl1, A1, cap1, v4, hkl1, hkv1⟩ := (hE.below hb (Nat.le_refl _) (Nat.le_refl _) hbl).out
      have d0 : wr.cell? ⟨b, o + j * 6, none⟩ = some (strV x.name) := (hb.cell (p := ⟨b, _, none⟩) hbl).trans k0
      have d1 : wr.cell? ⟨b, o + j * 6 + 1, none⟩ = some (.int .i64 x.expr.kind) := v0
      have d2 : wr.cell? ⟨b, o + j * 6 + 2, none⟩ = some (.int .i64 x.expr.a) := v1
      have d3 : wr.cell? ⟨b, o + j * 6 + 3, none⟩ = some (.int .i64 x.expr.b) := v2
      have d4 : wr.cell? ⟨b, o + j * 6 + 4, none⟩ = some (strV x.expr.name) := v3
      have d5 : wr.cell? ⟨b, o + j * 6 + 5, none⟩ = some (.slice A1 x.expr.kids.length cap1) := v4
      have hpa := placeR_at (nm := nm) hx hpj
      have ht := Lib.hid (test_any x.name (.int .i64 x.expr.kind) (.int .i64 x.expr.a) (.int .i64 x.expr.b) (strV x.expr.name) (.slice A1 x.expr.kids.length cap1) nm p wr ((hb.cell (p := ⟨p, _, none⟩) hpl).trans hp) (by omega))
      clear v0 v1 v2 v3 v4 hx hE k0 hkv1
      cases ht2 : (x.name == nm) with
      | true =>
        have hp1 := hpa.1 ht2
        rw [ht2] at ht
        have hres := Lib.hid (show findI l nm = (j : Int) by unfold findI; rw [hp1, if_pos hlt])
        clear ht2 hpa hp1
        go_wp2_with (go_at_call 76; refine ht.out.mono ?_; rintro e w2 ⟨rfl, hb2⟩; obtain ⟨n2, rfl⟩ := After.of hb2)
        go_ret
        exact ⟨by rw [hres.out]; rfl, (by repeat (first | exact Below.refl _ _ | assumption | refine Below.n _ ?_ (by first | omega | (simp; done) | (simp; omega)) | refine Below.alloc ?_ (by first | omega | (simp; done) | (simp; omega)) _ | refine Below.setCell ?_ (by first | omega | (simp; done) | (simp; omega)) _ | refine Below.drew ?_ | refine Below.setRow ?_ (by first | omega | (simp; done) | (simp; omega)) _ | refine Below.drewN ?_ _))⟩
      | false =>
        have hp1 : j + 1 ≤ placeR l nm := by
          rcases Nat.lt_or_ge j (placeR l nm) with h | h
          · exact h
          · have := hpa.2 (by omega); rw [ht2] at this; cases this
        rw [ht2] at ht
        clear ht2 hpa
        go_wp2_with (go_at_call 76; refine ht.out.mono ?_; rintro e w2 ⟨rfl, hb2⟩; obtain ⟨n2, rfl⟩ := After.of hb2)
        go_roundg (l.length - (j + 1))
        case measure => rw [hn.out]; omega
        case rel => exact ⟨j + 1, by omega, rfl, by go_num, (by repeat (first | exact Below.refl _ _ | assumption | refine Below.n _ ?_ (by first | omega | (simp; done) | (simp; omega)) | refine Below.alloc ?_ (by first | omega | (simp; done) | (simp; omega)) _ | refine Below.setCell ?_ (by first | omega | (simp; done) | (simp; omega)) _ | refine Below.drew ?_ | refine Below.setRow ?_ (by first | omega | (simp; done) | (simp; omega)) _ | refine Below.drewN ?_ _)), hp1⟩
    · have hp1 := placeR_len l nm
      have hres := Lib.hid (show findI l nm = -1 by unfold findI; rw [if_neg (by omega)])
      obtain rfl : j = l.length := by omega
      go_wp2
      go_ret
      exact ⟨by rw [hres.out]; rfl, (by repeat (first | exact Below.refl _ _ | assumption | refine Below.n _ ?_ (by first | omega | (simp; done) | (simp; omega)) | refine Below.alloc ?_ (by first | omega | (simp; done) | (simp; omega)) _ | refine Below.setCell ?_ (by first | omega | (simp; done) | (simp; omega)) _ | refine Below.drew ?_ | refine Below.setRow ?_ (by first | omega | (simp; done) | (simp; omega)) _ | refine Below.drewN ?_ _))⟩

set_option maxHeartbeats 1000000 in
theorem Find_any (v : Value) (l : List Rule) (nm : List UInt8) (w : World) (hr : RulesV w w.heap.size v l) :
    Calls Tryd.prog 35 #[v, strV nm] w fun e w' => e = .returned (.int .i64 (findI l nm)) ∧ Below w.heap.size w w' := by
  have hb : Below w.heap.size w (w.alloc (.cells #[strV nm] 9)) := (Below.refl _ _).alloc (Nat.le_refl _) _
  have hi := index_any v l nm w.heap.size (w.alloc (.cells #[strV nm] 9)) (hr.below hb (Nat.le_refl _) (by simp)) ((Blk.new w 9 #[strV nm]).cell 0) (by simp)
  replace hi := Lib.hid hi
  have hrr := Lib.hid hr
  clear hr
  obtain ⟨A, cap, rfl, _⟩ := hrr.out
  go_enter Tryd.func35, Tryd.ntmps35
  go_wp2_with (go_at_call 75; refine hi.out.mono ?_; rintro e w2 ⟨rfl, hb2⟩)
  go_ret
  exact ⟨rfl, hb.trans (hb2.mono (by simp))⟩

end Ru
end Go.Proofs.YtbadplbdgpbdaaaDoor

namespace Go.Proofs.YtbadplbdgpbdaaaDoor
open Go.RowKit
namespace Ru
open Sl (strV Reads)

theorem directR_at {l : List Rule} {i : Nat} {r : Rule} (h : l[i]? = some r) : directR l i = (namesE r.expr).map (findI l) := by
  unfold directR
  rw [h]
  rfl
theorem own_elem {w : World} {base e n : Nat} {v : Value} {xs : List Value} (h : w.ownsRow base e 1 v n xs) {i : Nat} {x : Value} (hx : xs[i]? = some x) : ∃ g cap, v = .slice (some ⟨g, 0, none⟩) n cap ∧ g < w.heap.size ∧ w.cell? ⟨g, i, none⟩ = some x := by
  have hl : xs.length = n := by have := h.1; simpa using this
  have hi := (List.getElem?_eq_some_iff.1 hx).1
  rcases h.2 with ⟨_, h0⟩ | ⟨g, cap, cur, rfl, _, hh, _⟩
  · omega
  · refine ⟨g, cap, rfl, (Array.getElem?_eq_some_iff.1 hh).1, ?_⟩
    have := h.cells (g := g) rfl i _ hx
    rw [Addr.add_lit, Nat.zero_add] at this
    exact this

set_option maxRecDepth 100000 in
set_option maxHeartbeats 8000000 in
theorem direct_any (v : Value) (l : List Rule) (w : World) (hr : RulesV w w.heap.size v l) (h40 : l.length ≤ 40) (hN : ∀ r ∈ l, nodesE r.expr ≤ 600) :
    Calls Tryd.prog 36 #[v] w fun e w' => ∃ ov, e = .returned ov ∧ NextV w' w.heap.size ov ((List.range l.length).map (directR l)) ∧ Below w.heap.size w w' := by
  have hrr := Lib.hid hr
  obtain ⟨A, cap, rfl, hlen, hc⟩ := hr
  replace hc := Lib.hid hc
  replace hN := Lib.hid hN
  go_enter Tryd.func36, Tryd.ntmps36
  go_wp2
  go_loopg [3, 10] l.length (fun n ov k wr => ∃ j : Nat, j ≤ l.length ∧ n = l.length - j ∧ k = .int .i64 j ∧ Hid (NextV wr w.heap.size ov ((List.range j).map (directR l))) ∧ Below w.heap.size w wr)
  case atStart => exact ⟨0, by omega, rfl, rfl, Lib.hid (NextV.nil _ _), Below.refl _ _⟩
  case round =>
    obtain ⟨j, hj, hn, rfl, hO, hb⟩ := hrel
    replace hn := Lib.hid hn
    have zb := hb.size
    by_cases hlt : j < l.length
    · obtain ⟨r, hx⟩ : ∃ r, l[j]? = some r := ⟨_, List.getElem?_eq_getElem hlt⟩
      obtain ⟨b, o, rfl, hbl, k0, hnl, hE⟩ := hc.out j r hx
      have hn6 := hN.out r (List.mem_of_getElem? hx)
      have hnl6 := names_len r.expr
      have hda := Lib.hid (directR_at hx)
      have hnm := Lib.hid (names_any (nodesE r.expr) r.expr wr w.heap.size wr.heap.size b (o + j * 6 + 1) (.slice none 0 0) [] (Nat.le_refl _) (hE.below hb (Nat.le_refl _) (Nat.le_refl _) hbl) hbl zb (Nat.le_refl _) (by simp; omega) (World.ownsRow_nil _ _ _ _))
      clear k0 hnl hE hx
      generalize hns : namesE r.expr = ns at *
      clear hns
      obtain ⟨wo, hwo⟩ : ∃ wo, wo = wr := ⟨_, rfl⟩
      subst hwo
      go_wp2_with (go_at_call 77; refine hnm.out.mono ?_; rintro e w1 ⟨v5, rfl, ho5, hb5⟩; rw [List.nil_append] at ho5; obtain ⟨A5, cap5, rfl⟩ := own_slice ho5; replace ho5 := Lib.hid ho5)
      have z1 := hb5.size
      go_loopg [5, 19] ns.length (fun m mv k wq => ∃ i : Nat, i ≤ ns.length ∧ m = ns.length - i ∧ k = .int .i64 i ∧ Hid (wq.ownsRow w1.heap.size 3 1 mv i (((ns.take i).map (findI l)).map (Value.int .i64))) ∧ Below w1.heap.size w1 wq)
      case atStart => exact ⟨0, by omega, rfl, rfl, Lib.hid (World.ownsRow_nil _ _ _ _), Below.refl _ _⟩
      case round =>
        obtain ⟨i, hi, hm, rfl, hM, hbq⟩ := hrel
        replace hm := Lib.hid hm
        obtain ⟨wp, hwp⟩ : ∃ wp, wp = wr := ⟨_, rfl⟩
        subst hwp
        have zq := hbq.size
        by_cases hlt2 : i < ns.length
        · obtain ⟨s, hs⟩ : ∃ s, ns[i]? = some s := ⟨_, List.getElem?_eq_getElem hlt2⟩
          obtain ⟨g5, cap6, he5, hg5, hc5⟩ := own_elem (own_keep ho5.out hbq (Nat.le_refl _)) (i := i) (x := strV s) (by rw [List.getElem?_map, hs]; rfl)
          cases he5
          have hbw : Below w.heap.size w wp := (hb.trans (hb5.mono zb)).trans (hbq.mono (by omega))
          have hF := Lib.hid (Find_any _ l s wp (hrr.out.below hbw (Nat.le_refl _) (by omega)))
          have hsnoc : ((ns.take (i + 1)).map (findI l)).map (Value.int .i64) = ((ns.take i).map (findI l)).map (Value.int .i64) ++ [Value.int .i64 (findI l s)] := by
            rw [List.take_add_one, hs]
            simp
          replace hsnoc := Lib.hid hsnoc
          clear hs
          go_wp2_with (first
            | (go_at_call 35; refine hF.out.mono ?_; rintro e w2 ⟨rfl, hb2⟩)
            | (at_builtin; refine wpList_append_one elInts rfl (.tmp 23) (.tmp 27) rfl w1.heap.size _ i (((ns.take i).map (findI l)).map (Value.int .i64)) (own_keep hM.out hb2 (Nat.le_refl _)) _ _ rfl rfl rfl (by simp only [maxLen]; omega) (by omega) (by have := hb2.size; omega) ?_; intro v3 w3 ho3 hb3 hg3))
          go_roundg (ns.length - (i + 1))
          case measure => rw [hm.out]; omega
          case rel => exact ⟨i + 1, by omega, rfl, by go_num, by rw [hsnoc.out]; exact ho3, hbq.trans ((hb2.mono zq).trans hb3)⟩
        · obtain rfl : i = ns.length := by omega
          rw [List.take_length, ← hda.out] at hM
          have hbw : Below wo.heap.size wo wp := hb5.trans (hbq.mono z1)
          obtain ⟨vs, hv1, hv2⟩ := hO.out.below hbw (Nat.le_refl _)
          have hdl : (directR l j).length = ns.length := by rw [hda.out, List.length_map]
          have hol : ((List.range j).map (directR l)).length = j := by simp
          rw [hol] at hv1
          replace hv1 := Lib.hid hv1
          replace hv2 := Lib.hid hv2
          obtain ⟨A8, cap8, rfl⟩ := own_slice hM.out
          go_wp2_with (at_builtin; refine wpList_append_one elInts2 rfl (.tmp 30) (.tmp 32) rfl w.heap.size _ j vs hv1.out _ _ rfl rfl rfl (by simp only [maxLen]; omega) (by omega) (by omega) ?_; intro v3 w3 ho3 hb3 hg3)
          go_roundg (l.length - (j + 1))
          case measure => rw [hn.out]; omega
          case rel =>
            refine ⟨j + 1, by omega, rfl, by go_num, Lib.hid ?_, (hb.trans (hbw.mono zb)).trans hb3⟩
            rw [List.range_succ, List.map_append]
            have hal : Below wp.heap.size wp (wp.alloc (.cells #[.slice A8 ns.length cap8] 57)) := (Below.refl _ _).alloc (Nat.le_refl _) _
            refine NextV.snoc (W := wp.alloc (.cells #[.slice A8 ns.length cap8] 57)) (by rw [hol]; exact own_keep hv1.out hal (Nat.le_refl _)) (fun i u hu x hx => own_keep (hv2.out i u hu x hx) hal (Nat.le_refl _)) ?_ (by rw [hol]; exact ho3) hg3
            rw [hdl]
            exact own_keep (own_mono hM.out (by omega)) hal (Nat.le_refl _)
    · obtain rfl : j = l.length := by omega
      go_wp2
      go_ret
      exact ⟨_, rfl, hO.out, hb⟩

end Ru
end Go.Proofs.YtbadplbdgpbdaaaDoor

namespace Go.Proofs.YtbadplbdgpbdaaaDoor
open Go.RowKit
namespace Ru
open Sl (strV Reads)
attribute [local go_sem] bytes_list


set_option maxRecDepth 100000 in
set_option maxHeartbeats 2000000 in
theorem At_any (v : Value) (l : List Rule) (nm : List UInt8) (w : World) (hr : RulesV w w.heap.size v l) :
    Calls Tryd.prog 45 #[v, strV nm] w fun e w' => e = .returned (.int .i64 (findI l nm)) ∧ Below w.heap.size w w' := by
  obtain ⟨A, cap, rfl, hlen, hc⟩ := hr
  replace hc := Lib.hid hc
  go_enter Tryd.func45, Tryd.ntmps45
  go_wp2
  go_loopg [9] l.length (fun n i wr => ∃ j : Nat, j ≤ l.length ∧ n = l.length - j ∧ i = .int .i64 j ∧ Below w.heap.size w wr ∧ j ≤ placeR l nm)
  case atStart => exact ⟨0, by omega, rfl, rfl, Below.refl _ _, Nat.zero_le _⟩
  case round =>
    obtain ⟨j, hj, hn, rfl, hb, hpj⟩ := hrel
    replace hn := Lib.hid hn
    have z := hb.size
    by_cases hlt : j < l.length
    · obtain ⟨x, hx⟩ : ∃ x, l[j]? = some x := ⟨_, List.getElem?_eq_getElem hlt⟩
      obtain ⟨b, o, rfl, hbl, k0, hnl, hE⟩ := hc.out j x hx
      obtain ⟨v0, v1, v2, v3, hnl1, A1, cap1, v4, hkl1, hkv1⟩ := (hE.below hb (Nat.le_refl _) (Nat.le_refl _) hbl).out
      have d0 : wr.cell? ⟨b, o + j * 6, none⟩ = some (strV x.name) := (hb.cell (p := ⟨b, _, none⟩) hbl).trans k0
      have d1 : wr.cell? ⟨b, o + j * 6 + 1, none⟩ = some (.int .i64 x.expr.kind) := v0
      have d2 : wr.cell? ⟨b, o + j * 6 + 2, none⟩ = some (.int .i64 x.expr.a) := v1
      have d3 : wr.cell? ⟨b, o + j * 6 + 3, none⟩ = some (.int .i64 x.expr.b) := v2
      have d4 : wr.cell? ⟨b, o + j * 6 + 4, none⟩ = some (strV x.expr.name) := v3
      have d5 : wr.cell? ⟨b, o + j * 6 + 5, none⟩ = some (.slice A1 x.expr.kids.length cap1) := v4
      have hpa := placeR_at (nm := nm) hx hpj
      clear v0 v1 v2 v3 v4 hx hE k0 hkv1
      cases ht2 : (x.name == nm) with
      | true =>
        have hp1 := hpa.1 ht2
        have hres := Lib.hid (show findI l nm = (j : Int) by unfold findI; rw [hp1, if_pos hlt])
        clear hpa hp1
        go_wp2
        go_ret
        exact ⟨by rw [hres.out]; rfl, (by repeat (first | exact Below.refl _ _ | assumption | refine Below.n _ ?_ (by first | omega | (simp; done) | (simp; omega)) | refine Below.alloc ?_ (by first | omega | (simp; done) | (simp; omega)) _ | refine Below.setCell ?_ (by first | omega | (simp; done) | (simp; omega)) _ | refine Below.drew ?_ | refine Below.setRow ?_ (by first | omega | (simp; done) | (simp; omega)) _ | refine Below.drewN ?_ _))⟩
      | false =>
        have hp1 : j + 1 ≤ placeR l nm := by
          rcases Nat.lt_or_ge j (placeR l nm) with h | h
          · exact h
          · have := hpa.2 (by omega); rw [ht2] at this; cases this
        clear hpa
        go_wp2
        go_roundg (l.length - (j + 1))
        case measure => rw [hn.out]; omega
        case rel => exact ⟨j + 1, by omega, rfl, by go_num, (by repeat (first | exact Below.refl _ _ | assumption | refine Below.n _ ?_ (by first | omega | (simp; done) | (simp; omega)) | refine Below.alloc ?_ (by first | omega | (simp; done) | (simp; omega)) _ | refine Below.setCell ?_ (by first | omega | (simp; done) | (simp; omega)) _ | refine Below.drew ?_ | refine Below.setRow ?_ (by first | omega | (simp; done) | (simp; omega)) _ | refine Below.drewN ?_ _)), hp1⟩
    · have hp1 := placeR_len l nm
      have hres := Lib.hid (show findI l nm = -1 by unfold findI; rw [if_neg (by omega)])
      obtain rfl : j = l.length := by omega
      go_wp2
      go_ret
      exact ⟨by rw [hres.out]; rfl, hb⟩


theorem speaksL_take {l : List Expr} {i : Nat} {e : Expr} (h : l[i]? = some e) (nm : List UInt8) : speaksL (l.drop i) nm = (speaksE e nm || speaksL (l.drop (i + 1)) nm) := by
  obtain ⟨hi, rfl⟩ := List.getElem?_eq_some_iff.1 h
  rw [List.drop_eq_getElem_cons hi, speaksL]
theorem unknownL_take (rs : List Rule) {l : List Expr} {i : Nat} {e : Expr} (h : l[i]? = some e) : unknownL rs (l.drop i) = (unknownE rs e || unknownL rs (l.drop (i + 1))) := by
  obtain ⟨hi, rfl⟩ := List.getElem?_eq_some_iff.1 h
  rw [List.drop_eq_getElem_cons hi, unknownL]

set_option maxRecDepth 100000 in
set_option maxHeartbeats 4000000 in
theorem Speaks_any : ∀ (N : Nat) (e : Expr) (v : Value) (nm : List UInt8) (w : World) (B : Nat), nodesE e ≤ N → ExprVal w B v e → B ≤ w.heap.size →
    Calls Tryd.prog 47 #[v, strV nm] w fun r w' => r = .returned (.bool (speaksE e nm)) ∧ Below w.heap.size w w' := by
  intro N
  induction N with
  | zero => intro e v nm w B hN; have := nodesE_pos e; omega
  | succ N ih =>
    intro e v nm w B hN he hB
    obtain ⟨A, cap, rfl, hnl, hkl, hkw⟩ := he
    have hnod : nodesL e.kids ≤ N := by cases e; rw [nodesE] at hN; simp only [Expr.kids]; omega
    obtain ⟨k, x, y, enm, kids⟩ := e
    simp only [Expr.kind, Expr.a, Expr.b, Expr.name, Expr.kids] at hnl hkl hkw hnod ⊢
    have hsp : speaksE (.mk k x y enm kids) nm = if k = 10 then enm == nm else speaksL kids nm := by rw [speaksE]
    replace ih := Lib.hid ih
    replace hkw := Lib.hid hkw
    replace hnod := Lib.hid hnod
    clear hN
    by_cases hk : k = 10
    · subst hk
      rw [if_pos rfl] at hsp
      replace hsp := Lib.hid hsp
      go_enter Tryd.func47, Tryd.ntmps47
      go_wp2
      go_ret
      exact ⟨by rw [hsp.out]; rfl, (by repeat (first | exact Below.refl _ _ | assumption | refine Below.n _ ?_ (by first | omega | (simp; done) | (simp; omega)) | refine Below.alloc ?_ (by first | omega | (simp; done) | (simp; omega)) _ | refine Below.setCell ?_ (by first | omega | (simp; done) | (simp; omega)) _ | refine Below.drew ?_ | refine Below.setRow ?_ (by first | omega | (simp; done) | (simp; omega)) _ | refine Below.drewN ?_ _))⟩
    · rw [if_neg hk] at hsp
      have gk : (k == 10) = false := by simpa using hk
      clear hk
      replace hsp := Lib.hid hsp
      go_enter Tryd.func47, Tryd.ntmps47
      go_wp2
      clear gk
      go_loopg [17] kids.length (fun m kv wr => ∃ j : Nat, j ≤ kids.length ∧ m = kids.length - j ∧ kv = .int .i64 j ∧ Hid (speaksL (kids.drop j) nm = speaksL kids nm) ∧ Below w.heap.size w wr)
      case atStart => exact ⟨0, by omega, rfl, rfl, Lib.hid rfl, (by repeat (first | exact Below.refl _ _ | assumption | refine Below.n _ ?_ (by first | omega | (simp; done) | (simp; omega)) | refine Below.alloc ?_ (by first | omega | (simp; done) | (simp; omega)) _ | refine Below.setCell ?_ (by first | omega | (simp; done) | (simp; omega)) _ | refine Below.drew ?_ | refine Below.setRow ?_ (by first | omega | (simp; done) | (simp; omega)) _ | refine Below.drewN ?_ _))⟩
      case round =>
        obtain ⟨j, hj, hm, rfl, hf, hb⟩ := hrel
        replace hm := Lib.hid hm
        have z := hb.size
        by_cases hlt : j < kids.length
        · obtain ⟨e1, hx⟩ : ∃ d, kids[j]? = some d := ⟨_, List.getElem?_eq_getElem hlt⟩
          obtain ⟨kb, ko, rfl, hkb, hke⟩ := hkw.out.at' hx
          have hst := speaksL_take hx nm
          have hkr := hke.below hb hB (Nat.le_refl _) (by omega)
          obtain ⟨v0, v1, v2, v3, hnl1, A1, cap1, v4, hkl1, hkv1⟩ := hkr.out
          have hzz : kb < wr.heap.size := by omega
          have hbz : Below w.heap.size w (wr.alloc (.cells #[.int .i64 e1.kind, .int .i64 e1.a, .int .i64 e1.b, strV e1.name, .slice A1 e1.kids.length cap1] 48)) := hb.alloc z _
          have hcall := Lib.hid (ih.out e1 (.agg #[.int .i64 e1.kind, .int .i64 e1.a, .int .i64 e1.b, strV e1.name, .slice A1 e1.kids.length cap1]) nm (wr.alloc (.cells #[.int .i64 e1.kind, .int .i64 e1.a, .int .i64 e1.b, strV e1.name, .slice A1 e1.kids.length cap1] 48)) B (by have := nodesE_kid hx; have := hnod.out; omega) ⟨A1, cap1, rfl, hnl1, hkl1, hkv1.below ((Below.refl B wr).alloc (by omega) _) (Nat.le_refl _) (Nat.le_refl _)⟩ (by simp; omega))
          clear hx hke hkv1 hkr hkl1 hnl1
          cases h0 : speaksE e1 nm with
          | false =>
            rw [h0, Bool.false_or, hf.out] at hst
            rw [h0] at hcall
            replace hst := Lib.hid hst
            clear h0
            go_wp2_with (go_at_call 47; refine hcall.out.mono ?_; rintro e w5 ⟨rfl, hb5⟩)
            go_roundg (kids.length - (j + 1))
            case measure => rw [hm.out]; omega
            case rel => exact ⟨j + 1, by omega, rfl, by go_num, Lib.hid hst.out.symm, hbz.trans (hb5.mono (by simp; omega))⟩
          | true =>
            rw [h0, Bool.true_or, hf.out] at hst
            rw [h0] at hcall
            have hsp2 := Lib.hid (hsp.out.trans hst)
            clear h0 hst
            go_wp2_with (go_at_call 47; refine hcall.out.mono ?_; rintro e w5 ⟨rfl, hb5⟩)
            go_ret
            exact ⟨by rw [hsp2.out]; rfl, hbz.trans (hb5.mono (by simp; omega))⟩
        · obtain rfl : j = kids.length := by omega
          have hsp2 := Lib.hid (show speaksE (.mk k x y enm kids) nm = false by rw [hsp.out, ← hf.out, List.drop_length, speaksL])
          go_wp2
          go_ret
          exact ⟨by rw [hsp2.out]; rfl, hb⟩


set_option maxRecDepth 100000 in
set_option maxHeartbeats 4000000 in
theorem Unknown_any (rs : List Rule) : ∀ (N : Nat) (e : Expr) (v rv : Value) (w : World) (B : Nat), nodesE e ≤ N → ExprVal w B v e → B ≤ w.heap.size → RulesV w B rv rs →
    Calls Tryd.prog 46 #[v, rv] w fun r w' => r = .returned (.bool (unknownE rs e)) ∧ Below w.heap.size w w' := by
  intro N
  induction N with
  | zero => intro e v rv w B hN; have := nodesE_pos e; omega
  | succ N ih =>
    intro e v rv w B hN he hB hrs
    obtain ⟨A, cap, rfl, hnl, hkl, hkw⟩ := he
    have hnod : nodesL e.kids ≤ N := by cases e; rw [nodesE] at hN; simp only [Expr.kids]; omega
    obtain ⟨k, x, y, enm, kids⟩ := e
    simp only [Expr.kind, Expr.a, Expr.b, Expr.name, Expr.kids] at hnl hkl hkw hnod ⊢
    have hsp : unknownE rs (.mk k x y enm kids) = if k = 10 then decide (findI rs enm < 0) else unknownL rs kids := by rw [unknownE]
    replace ih := Lib.hid ih
    have hrh := Lib.hid hrs
    obtain ⟨A9, cap9, rfl, hlen9, hc9⟩ := hrs
    replace hc9 := Lib.hid hc9
    replace hkw := Lib.hid hkw
    replace hnod := Lib.hid hnod
    clear hN
    by_cases hk : k = 10
    · subst hk
      rw [if_pos rfl] at hsp
      replace hsp := Lib.hid hsp
      have hbA : Below w.heap.size w (w.alloc (.cells #[.int .i64 10, .int .i64 x, .int .i64 y, strV enm, .slice A kids.length cap] 48)) := (Below.refl _ _).alloc (Nat.le_refl _) _
      have hA := Lib.hid (At_any _ rs enm (w.alloc (.cells #[.int .i64 10, .int .i64 x, .int .i64 y, strV enm, .slice A kids.length cap] 48)) (hrh.out.below hbA hB (by simp; omega)))
      go_enter Tryd.func46, Tryd.ntmps46
      go_wp2_with (go_at_call 45; refine hA.out.mono ?_; rintro e w5 ⟨rfl, hb5⟩)
      go_ret
      exact ⟨by rw [hsp.out]; rfl, hbA.trans (hb5.mono (by simp))⟩
    · rw [if_neg hk] at hsp
      have gk : (k == 10) = false := by simpa using hk
      clear hk
      replace hsp := Lib.hid hsp
      go_enter Tryd.func46, Tryd.ntmps46
      go_wp2
      clear gk
      go_loopg [18] kids.length (fun m kv wr => ∃ j : Nat, j ≤ kids.length ∧ m = kids.length - j ∧ kv = .int .i64 j ∧ Hid (unknownL rs (kids.drop j) = unknownL rs kids) ∧ Below w.heap.size w wr)
      case atStart => exact ⟨0, by omega, rfl, rfl, Lib.hid rfl, (by repeat (first | exact Below.refl _ _ | assumption | refine Below.n _ ?_ (by first | omega | (simp; done) | (simp; omega)) | refine Below.alloc ?_ (by first | omega | (simp; done) | (simp; omega)) _ | refine Below.setCell ?_ (by first | omega | (simp; done) | (simp; omega)) _ | refine Below.drew ?_ | refine Below.setRow ?_ (by first | omega | (simp; done) | (simp; omega)) _ | refine Below.drewN ?_ _))⟩
      case round =>
        obtain ⟨j, hj, hm, rfl, hf, hb⟩ := hrel
        replace hm := Lib.hid hm
        have z := hb.size
        by_cases hlt : j < kids.length
        · obtain ⟨e1, hx⟩ : ∃ d, kids[j]? = some d := ⟨_, List.getElem?_eq_getElem hlt⟩
          obtain ⟨kb, ko, rfl, hkb, hke⟩ := hkw.out.at' hx
          have hst := unknownL_take rs hx
          have hkr := hke.below hb hB (Nat.le_refl _) (by omega)
          obtain ⟨v0, v1, v2, v3, hnl1, A1, cap1, v4, hkl1, hkv1⟩ := hkr.out
          have hzz : kb < wr.heap.size := by omega
          have hbz : Below w.heap.size w (wr.alloc (.cells #[.int .i64 e1.kind, .int .i64 e1.a, .int .i64 e1.b, strV e1.name, .slice A1 e1.kids.length cap1] 48)) := hb.alloc z _
          have hcall := Lib.hid (ih.out e1 (.agg #[.int .i64 e1.kind, .int .i64 e1.a, .int .i64 e1.b, strV e1.name, .slice A1 e1.kids.length cap1]) (.slice A9 rs.length cap9) (wr.alloc (.cells #[.int .i64 e1.kind, .int .i64 e1.a, .int .i64 e1.b, strV e1.name, .slice A1 e1.kids.length cap1] 48)) B (by have := nodesE_kid hx; have := hnod.out; omega) ⟨A1, cap1, rfl, hnl1, hkl1, hkv1.below ((Below.refl B wr).alloc (by omega) _) (Nat.le_refl _) (Nat.le_refl _)⟩ (by simp; omega) (hrh.out.below hbz hB (Nat.le_refl _)))
          clear hx hke hkv1 hkr hkl1 hnl1
          cases h0 : unknownE rs e1 with
          | false =>
            rw [h0, Bool.false_or, hf.out] at hst
            rw [h0] at hcall
            replace hst := Lib.hid hst
            clear h0
            go_wp2_with (go_at_call 46; refine hcall.out.mono ?_; rintro e w5 ⟨rfl, hb5⟩)
            go_roundg (kids.length - (j + 1))
            case measure => rw [hm.out]; omega
            case rel => exact ⟨j + 1, by omega, rfl, by go_num, Lib.hid hst.out.symm, hbz.trans (hb5.mono (by simp; omega))⟩
          | true =>
            rw [h0, Bool.true_or, hf.out] at hst
            rw [h0] at hcall
            have hsp2 := Lib.hid (hsp.out.trans hst)
            clear h0 hst
            go_wp2_with (go_at_call 46; refine hcall.out.mono ?_; rintro e w5 ⟨rfl, hb5⟩)
            go_ret
            exact ⟨by rw [hsp2.out]; rfl, hbz.trans (hb5.mono (by simp; omega))⟩
        · obtain rfl : j = kids.length := by omega
          have hsp2 := Lib.hid (show unknownE rs (.mk k x y enm kids) = false by rw [hsp.out, ← hf.out, List.drop_length, unknownL])
          go_wp2
          go_ret
          exact ⟨by rw [hsp2.out]; rfl, hb⟩


end Ru
end Go.Proofs.YtbadplbdgpbdaaaDoor
