/- Rows of rows of ints, appended. (What XTup of chapter 10 holds of it, for the rules.) -/
import Derived.Test.YtijhaiificflhaaRulM
import Derived.Test.YtijhaiificflhaaApp
import Derived.Laws.AppendOwnNone
import Derived.Laws.OwnMore
namespace Go.Proofs.Ytijhaiificflhaa
open Go.RowKit
namespace Ru
open Sl

theorem elInts : El Try.prog 33 3 1 8 := El.mk' Try.underlying33 (by kernel_rfl) (by decide)
theorem elInts2 : El Try.prog 54 33 1 24 := El.mk' Try.underlying54 (by kernel_rfl) (by decide)

/-- values that lie side by side are appended to an own row -/
theorem wpList_append_vals {P : Program} {W : World} {ops : Array Oper} {rest : List Oper} {o : Oper} {a : Act} {Q : Exit → Act → World → Prop} {t e bytes : Nat} (hE : El P t e 1 bytes) (hgd : o.guard = none) (s x : Operand)
    (ho : o.op = .call { callee := .builtin .append, args := #[s, x], argTypes := #[t, t] })
    (base : Nat) (v : Value) (n : Nat) (xs : List Value) (hown : W.ownsRow base e 1 v n xs) (news : List Value) (u : Value) (hs : a.eval s = v) (hx : a.eval x = u)
    (hu : ∃ A cap, u = .slice A news.length cap ∧ (A = none → cap = 0) ∧ ∀ (j : Nat) (y : Value), news[j]? = some y → ∃ b o, A = some ⟨b, o, none⟩ ∧ W.cell? ⟨b, o + j, none⟩ = some y) (h1 : ∀ u ∈ news, u.oneCell' = true)
    (h63 : n + news.length ≤ maxLen) (hbytes : (n + news.length) * bytes ≤ 140737488355328) (hbase : base ≤ W.heap.size)
    (h : ∀ v' w', w'.ownsRow base e 1 v' (n + news.length) (xs ++ news) → W.grownBy w' v.ownBlock → wpList P ops Q rest (a.put o.dst v') w') :
    wpList P ops Q (o :: rest) a W := by
  obtain ⟨i, z, hi, hz, hsi, hby, hzs⟩ := hE.inf
  obtain ⟨A, cap, rfl, hcap, hc⟩ := hu
  cases A with
  | none =>
    have hn : news = [] := by
      cases news with
      | nil => rfl
      | cons y ys => obtain ⟨b, o, e, _⟩ := hc 0 y rfl; cases e
    subst hn
    obtain rfl := hcap rfl
    exact wpList_append_own_none hgd s x t ho base e i 1 hE.sl hi v n xs hs hown hx (h v W (by simpa using hown) ⟨rfl, rfl, rfl, Nat.le_refl _, fun _ _ _ => rfl⟩)
  | some ad =>
    refine wpList_append_own _ hgd s x t ho base e i z 1 bytes hE.sl hi hz hsi hby hzs hE.pos v n xs hs hown ad news.length cap news hx (by simp) (fun j y hy => ?_) h1 h63 hbytes hbase ?_
    · obtain ⟨b, o, e, h2⟩ := hc j y hy
      cases e
      rw [Addr.add_lit]
      exact h2
    · intro v' w' h2 h3 _
      exact h v' w' h2 h3

theorem own_types {w : World} {b1 b2 e1 e2 s1 s2 n1 n2 : Nat} {v1 v2 : Value} {xs1 xs2 : List Value} (h1 : w.ownsRow b1 e1 s1 v1 n1 xs1) (h2 : w.ownsRow b2 e2 s2 v2 n2 xs2) (hne : e1 ≠ e2) : v1.ownBlock = none ∨ v1.ownBlock ≠ v2.ownBlock := by
  rcases h1.2 with ⟨rfl, _⟩ | ⟨g, cap, cur, rfl, _, h3, _⟩
  · exact .inl rfl
  · rcases h2.2 with ⟨rfl, _⟩ | ⟨g', cap', cur', rfl, _, h4, _⟩
    · exact .inr (by simp [Value.ownBlock])
    · refine .inr fun h => ?_
      obtain rfl : g = g' := by simpa [Value.ownBlock] using h
      rw [h3] at h4
      simp only [Option.some.injEq, Obj.cells.injEq] at h4
      exact hne h4.2.1

/-- an own row of slices, each of which is an own row of ints -/
def NextV (w : World) (base : Nat) (v : Value) (L : List (List Int)) : Prop :=
  ∃ vs : List Value, w.ownsRow base 33 1 v L.length vs ∧ ∀ (i : Nat) (u : Value), vs[i]? = some u → ∀ x, L[i]? = some x → w.ownsRow base 3 1 u x.length (x.map (Value.int .i64))
theorem NextV.nil (w : World) (base : Nat) : NextV w base (.slice none 0 0) [] := ⟨[], World.ownsRow_nil _ _ _ _, fun i u h => by simp at h⟩
theorem NextV.below {w w' : World} {base : Nat} {v : Value} {L : List (List Int)} (h : NextV w base v L) {B : Nat} (hb : Below B w w') (hB : w.heap.size ≤ B) : NextV w' base v L := by
  obtain ⟨vs, h1, h2⟩ := h
  exact ⟨vs, own_keep h1 hb hB, fun i u hu x hx => own_keep (h2 i u hu x hx) hb hB⟩
theorem NextV.snoc {W w' : World} {base : Nat} {v v' u : Value} {L : List (List Int)} {x : List Int} {vs : List Value} (h1 : W.ownsRow base 33 1 v L.length vs) (h2 : ∀ (i : Nat) (u : Value), vs[i]? = some u → ∀ x, L[i]? = some x → W.ownsRow base 3 1 u x.length (x.map (Value.int .i64)))
    (hu : W.ownsRow base 3 1 u x.length (x.map (Value.int .i64))) (h3 : w'.ownsRow base 33 1 v' (L.length + 1) (vs ++ [u])) (hg : W.grownBy w' v.ownBlock) : NextV w' base v' (L ++ [x]) := by
  refine ⟨vs ++ [u], by simpa using h3, fun i y hy z hz => ?_⟩
  have hl : vs.length = L.length := by have := h1.1; simpa using this
  have keep : ∀ y z, W.ownsRow base 3 1 y (List.length z) (z.map (Value.int .i64)) → w'.ownsRow base 3 1 y z.length (z.map (Value.int .i64)) := fun y z h => h.kept hg (own_types h h1 (by decide))
  by_cases hi : i < L.length
  · rw [List.getElem?_append_left (by omega)] at hy hz
    exact keep _ _ (h2 i y hy z hz)
  · rw [List.getElem?_append_right (by omega)] at hy hz
    rw [hl] at hy
    cases hk : i - L.length with
    | zero => rw [hk] at hy hz; simp at hy hz; subst hy; subst hz; exact keep _ _ hu
    | succ k => rw [hk] at hy; simp at hy
/-- slices of ints, each an own row behind a base -/
def Ints2C (w : World) (B base : Nat) (v : Value) (l : List (List Int)) : Prop := Reads B v l fun b o i x => ∃ u, w.cell? ⟨b, o + i, none⟩ = some u ∧ w.ownsRow base 3 1 u x.length (x.map (Value.int .i64))
theorem own_nil0 {w : World} {base e k n : Nat} {v : Value} {xs : List Value} (h : w.ownsRow base e k v n xs) : ∀ m c, v = .slice none m c → c = 0 := fun m c e => by
  subst e
  rcases h.2 with ⟨h, _⟩ | ⟨g, cap, cur, h, _⟩
  · cases h; rfl
  · cases h
theorem NextV.reads {w : World} {base : Nat} {v : Value} {L : List (List Int)} (h : NextV w base v L) : Ints2C w w.heap.size base v L := by
  obtain ⟨vs, h1, h2⟩ := h
  have hl : vs.length = L.length := by have := h1.1; simpa using this
  rcases h1.2 with ⟨rfl, h0⟩ | ⟨g, cap, cur, rfl, _, hh, hcap, hcm, _, ht⟩
  · exact ⟨none, 0, by rw [h0], by omega, fun i x hx => by have := (List.getElem?_eq_some_iff.1 hx).1; omega⟩
  · refine ⟨_, cap, rfl, own_max h1, fun i x hx => ⟨g, 0, rfl, (Array.getElem?_eq_some_iff.1 hh).1, ?_⟩⟩
    have hi := (List.getElem?_eq_some_iff.1 hx).1
    refine ⟨vs[i]'(by omega), ?_, h2 i _ (List.getElem?_eq_getElem (by omega : i < vs.length)) x hx⟩
    have := h1.cells (g := g) rfl i _ (List.getElem?_eq_getElem (by omega : i < vs.length))
    rwa [Addr.add_lit] at this
theorem Ints2C.low {w : World} {B base base' : Nat} {v : Value} {l : List (List Int)} (h : Ints2C w B base v l) (hb : base' ≤ base) : Ints2C w B base' v l := Reads.mono h (Nat.le_refl _) fun _ _ _ _ _ _ ⟨u, h1, h2⟩ => ⟨u, h1, own_mono h2 hb⟩

/-- a literal of one value -/
theorem lit_cells (W : World) (te : TypeId) (u : Value) : ∃ A cap, Value.slice (some ⟨W.heap.size, 0, none⟩) 1 1 = .slice A [u].length cap ∧ (A = none → cap = 0) ∧
    ∀ (j : Nat) (y : Value), [u][j]? = some y → ∃ b o, A = some ⟨b, o, none⟩ ∧ (W.alloc (.cells #[u] te)).cell? ⟨b, o + j, none⟩ = some y :=
by
  refine ⟨some ⟨W.heap.size, 0, none⟩, 1, rfl, (fun h => by cases h), fun j y hy => ⟨W.heap.size, 0, rfl, ?_⟩⟩
  have := (Blk.new W te #[u]).cell j
  rw [Nat.zero_add, this]
  simpa using hy

/-- a literal of one value, just made, is appended to an own row -/
theorem wpList_append_one {P : Program} {W : World} {ops : Array Oper} {rest : List Oper} {o : Oper} {a : Act} {Q : Exit → Act → World → Prop} {t e bytes : Nat} (hE : El P t e 1 bytes) (hgd : o.guard = none) (s x : Operand)
    (ho : o.op = .call { callee := .builtin .append, args := #[s, x], argTypes := #[t, t] })
    (base : Nat) (v : Value) (n : Nat) (xs : List Value) (hown : W.ownsRow base e 1 v n xs) (u : Value) (te : TypeId) (hs : a.eval s = v) (hx : a.eval x = .slice (some ⟨W.heap.size, 0, none⟩) 1 1)
    (h1 : u.oneCell' = true) (h63 : n + 1 ≤ maxLen) (hbytes : (n + 1) * bytes ≤ 140737488355328) (hbase : base ≤ W.heap.size)
    (h : ∀ v' w', w'.ownsRow base e 1 v' (n + 1) (xs ++ [u]) → Below base W w' → (W.alloc (.cells #[u] te)).grownBy w' v.ownBlock → wpList P ops Q rest (a.put o.dst v') w') :
    wpList P ops Q (o :: rest) a (W.alloc (.cells #[u] te)) := by
  refine wpList_append_vals hE hgd s x ho base v n xs (hown.alloc _) [u] _ hs hx (lit_cells W te u) (fun y hy => by simp at hy; subst hy; exact h1) (by simpa using h63) (by simpa using hbytes) (by simp; omega) fun v' w' h2 h3 => ?_
  exact h v' w' (by simpa using h2) (((Below.refl _ _).alloc hbase _).trans (own_below (by simp; omega) (hown.alloc _) h3)) h3

end Ru
end Go.Proofs.Ytijhaiificflhaa
