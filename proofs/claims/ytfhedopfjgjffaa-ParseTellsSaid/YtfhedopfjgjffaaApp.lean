/- Rows of the call's own, of elements of so many cells each: a literal appended; read element by element. -/
import Derived.Test.YtfhedopfjgjffaaLib
import Derived.Laws.AppendOwn
namespace Go.Proofs.Ytfhedopfjgjffaa
open Go.RowKit

/-- what the table of types says of a slice's type -/
structure El (P : Program) (t e : TypeId) (size bytes : Nat) : Prop where
  sl : P.underlying t = some (.slice e)
  inf : ∃ i z, P.info? e = some i ∧ i.zero = some z ∧ i.size = size ∧ i.bytes = bytes ∧ z.cells.size = size
  pos : 0 < size
theorem El.mk' {P : Program} {t e size bytes : Nat} (h : P.underlying t = some (.slice e)) (hi : (P.info? e).map (fun i => (i.zero.map (·.cells.size), i.size, i.bytes)) = some (some size, size, bytes)) (h0 : 0 < size) : El P t e size bytes := by
  refine ⟨h, ?_, h0⟩
  cases hp : P.info? e with
  | none => rw [hp] at hi; cases hi
  | some i =>
    rw [hp] at hi
    simp only [Option.map_some, Option.some.injEq, Prod.mk.injEq] at hi
    obtain ⟨h1, h2, h3⟩ := hi
    cases hz : i.zero with
    | none => rw [hz] at h1; cases h1
    | some z =>
      rw [hz] at h1
      exact ⟨i, z, rfl, hz, h2, h3, Option.some.inj h1⟩

theorem own_below {base e size n : Nat} {v : Value} {xs : List Value} {w w' : World} (hb : base ≤ w.heap.size) (h : w.ownsRow base e size v n xs) (hg : w.grownBy w' v.ownBlock) : Below base w w' :=
  ⟨hg.os, hg.tape, hg.output, hg.size, fun k hk => hg.block k (by omega) fun e' => by
    rcases h.2 with ⟨rfl, _⟩ | ⟨g, cap, cur, rfl, hbg, _⟩
    · cases e'
    · have : k = g := Option.some.inj e'
      omega⟩
theorem own_keep {B base e size n : Nat} {v : Value} {xs : List Value} {w w' : World} (h : w.ownsRow base e size v n xs) (hb : Below B w w') (hB : w.heap.size ≤ B) : w'.ownsRow base e size v n xs := by
  refine ⟨h.1, ?_⟩
  rcases h.2 with h0 | ⟨g, cap, cur, h1, h2, h3, h4⟩
  · exact .inl h0
  · exact .inr ⟨g, cap, cur, h1, h2, by rw [hb.block g (Nat.lt_of_lt_of_le (Array.getElem?_eq_some_iff.1 h3).1 hB)]; exact h3, h4⟩
/-- an own row behind a store into another block -/
theorem own_far {base e size n : Nat} {v : Value} {xs : List Value} {w : World} (h : w.ownsRow base e size v n xs) {p : Addr} (hp : p.block < base) (u : Value) : (w.setCell p u).ownsRow base e size v n xs := by
  refine ⟨h.1, ?_⟩
  rcases h.2 with h0 | ⟨g, cap, cur, h1, h2, h3, h4⟩
  · exact .inl h0
  · exact .inr ⟨g, cap, cur, h1, h2, by rw [Below.heap_setCell w p u g (by omega)]; exact h3, h4⟩

section
variable {P : Program}
/-- a literal of one element, just made, is appended -/
theorem wpList_append_lit {W : World} {ops : Array Oper} {rest : List Oper} {o : Oper} {a : Act} {Q : Exit → Act → World → Prop} {t e size bytes : Nat} (hE : El P t e size bytes) (hgd : o.guard = none) (s x : Operand)
    (ho : o.op = .call { callee := .builtin .append, args := #[s, x], argTypes := #[t, t] })
    (base : Nat) (v : Value) (n : Nat) (xs : List Value) (hown : W.ownsRow base e size v n xs) (news : Array Value) (te : TypeId) (hs : a.eval s = v) (hx : a.eval x = .slice (some ⟨W.heap.size, 0, none⟩) 1 1)
    (hl : news.size = size) (h1 : ∀ u ∈ news.toList, u.oneCell' = true)
    (h63 : n + 1 ≤ maxLen) (hbytes : (n + 1) * bytes ≤ 140737488355328) (hbase : base ≤ W.heap.size)
    (h : ∀ v' w', w'.ownsRow base e size v' (n + 1) (xs ++ news.toList) → Below base W w' → W.heap.size < w'.heap.size → wpList P ops Q rest (a.put o.dst v') w') :
    wpList P ops Q (o :: rest) a (W.alloc (.cells news te)) := by
  obtain ⟨i, z, hi, hz, hsi, hby, hzs⟩ := hE.inf
  refine wpList_append_own _ hgd s x t ho base e i z size bytes hE.sl hi hz hsi hby hzs hE.pos v n xs hs (hown.alloc _) ⟨W.heap.size, 0, none⟩ 1 1 news.toList hx (by simp [hl]) (fun j u hu => ?_) h1 h63 hbytes (by simp; omega) ?_
  · have := (Blk.new W te news).cell j
    rw [Addr.add_lit]
    rw [Nat.zero_add]
    rw [this]
    simpa using hu
  · intro v' w' h2 h3 _
    have hb := own_below (by simp; omega) (hown.alloc (.cells news te)) h3
    refine h v' w' h2 (((Below.refl _ _).alloc hbase _).trans hb) ?_
    have := hb.size
    simp at this
    omega
end

/-- an element of an own row -/
theorem own_at {α : Type} {w : World} {base e k : Nat} {v : Value} {F : α → List Value} {l : List α} (h : w.ownsRow base e k v l.length (l.flatMap F)) (hF : ∀ x, (F x).length = k) {i : Nat} {x : α} (hx : l[i]? = some x) :
    ∃ g cap, v = .slice (some ⟨g, 0, none⟩) l.length cap ∧ base ≤ g ∧ g < w.heap.size ∧ ∀ j u, (F x)[j]? = some u → w.cell? ⟨g, i * k + j, none⟩ = some u := by
  have hi := (List.getElem?_eq_some_iff.1 hx).1
  rcases h.2 with ⟨_, h0⟩ | ⟨g, cap, cur, rfl, hbg, hg, hc, hcm, hcs, ht⟩
  · omega
  · refine ⟨g, cap, rfl, hbg, (Array.getElem?_eq_some_iff.1 hg).1, fun j u hu => ?_⟩
    have hj : j < k := by have := (List.getElem?_eq_some_iff.1 hu).1; rw [hF] at this; exact this
    have e1 : ∀ (l : List α) (i : Nat), l[i]? = some x → (l.flatMap F)[i * k + j]? = some u := by
      intro l
      induction l with
      | nil => intro i h; simp at h
      | cons y ys ih =>
        intro i h
        rw [List.flatMap_cons]
        cases i with
        | zero => simp at h; subst h; rw [List.getElem?_append_left (by rw [hF]; omega)]; simpa using hu
        | succ i =>
          rw [List.getElem?_append_right (by rw [hF, Nat.succ_mul]; omega), hF, show (i + 1) * k + j - k = i * k + j by rw [Nat.succ_mul]; omega]
          exact ih i (by simpa using h)
    have e2 := e1 l i hx
    rw [← ht] at e2
    rw [List.getElem?_take] at e2
    split at e2
    · simpa [World.cell?, hg] using e2
    · cases e2
theorem own_slice {w : World} {base e k n : Nat} {v : Value} {xs : List Value} (h : w.ownsRow base e k v n xs) : ∃ A cap, v = .slice A n cap := by
  rcases h.2 with ⟨rfl, h0⟩ | ⟨g, cap, cur, rfl, _⟩
  · exact ⟨none, 0, by rw [h0]⟩
  · exact ⟨_, _, rfl⟩
theorem own_max {w : World} {base e k n : Nat} {v : Value} {xs : List Value} (h : w.ownsRow base e k v n xs) : n ≤ 9223372036854775807 := by
  rcases h.2 with ⟨rfl, h0⟩ | ⟨g, cap, cur, rfl, _, _, h1, h2, _⟩
  · omega
  · simp only [maxLen] at h2; omega
/-- it may be said of a lower base -/
theorem own_mono {w : World} {base base' e k n : Nat} {v : Value} {xs : List Value} (h : w.ownsRow base e k v n xs) (hb : base' ≤ base) : w.ownsRow base' e k v n xs := by
  refine ⟨h.1, ?_⟩
  rcases h.2 with h0 | ⟨g, cap, cur, h1, h2, h3⟩
  · exact .inl h0
  · exact .inr ⟨g, cap, cur, h1, Nat.le_trans hb h2, h3⟩

end Go.Proofs.Ytfhedopfjgjffaa
