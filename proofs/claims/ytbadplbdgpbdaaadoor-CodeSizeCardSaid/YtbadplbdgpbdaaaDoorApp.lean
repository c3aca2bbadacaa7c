/- Small laws over any program that the walks of this claim lean on: an array value indexed in place; a part of an aggregate. A map that the call makes, of whatever elements: what is behind each key; its look-ups, its stores, its length. Rows of the call's own, of elements of so many cells each: a literal appended; read element by element. A region that draws its order: what is ahead of its last operations reads and calls quietly in a class of worlds; the last operations come in one order: one walk serves every order. -/
import Derived.WalkKit
import Derived.WalkSpells
import Derived.WalkLawsBesides
import Derived.Lib.Hide
import Derived.Deep.Draws
import Derived.Deep.LoopGhost
import Derived.Deep.QuietTactic
import Derived.BigQuiet
import Derived.Maps.OwnSet
import Derived.Maps.OwnOps
import Derived.Laws.AppendOwn
import Derived.StillTail
namespace Go.Proofs.YtbadplbdgpbdaaaDoor
open Go.RowKit

section
variable {P : Program} (w : World)

@[go_sem] theorem run_part_plain (t : TypeId) (cs : Array Value) (off : Nat) :
    (part t cs off).run P w = ((isAgg t).run P w).andThen fun b w => if b = true then ((sizeOf t).run P w).andThen fun s w => .ok (.agg (cs.extract off (off + s))) w
      else match cs[off]? with | some v => .ok v w | none => .halt (.stuck "part: no such cell") w := by
  simp only [part, Sem.run_bind]
  congr 1; funext b w'
  cases b
  · simp only [Bool.false_eq_true, if_false]
    cases cs[off]? <;> rfl
  · simp only [if_true, Sem.run_bind]
    congr 1

@[go_sem] theorem run_index_agg (t : TypeId) (cs : Array Value) (k : IntKind) (i : Int) (h : P.underlying t = some (.array (P.arrayLen t) (P.elem t))) (h0 : 0 ≤ i) (h1 : i < P.arrayLen t) :
    (Instr.index t (.agg cs) (.int k i)).run P w = ((sizeOf (P.elem t)).run P w).andThen fun s w => (part (P.elem t) cs (i.toNat * s)).run P w := by
  simp [Instr.index, run_underlying h, asIntOf, h0, h1]
end

theorem ret_bool {a b : Bool} (h : a = b) : Ending.returned (.bool a) = .returned (.bool b) := by rw [h]
theorem ret_int {k : IntKind} {a b : Int} (h : a = b) : Ending.returned (.int k a) = .returned (.int k b) := by rw [h]

theorem ret_int2 {k : IntKind} {a b : Int} {v : Value} (h : a = b) : Ending.returned (.tuple #[.int k a, v]) = .returned (.tuple #[.int k b, v]) := by rw [h]
theorem Below.drewN {B : Nat} {a w : World} (h : Below B a w) (n : Nat) : Below B a (w.drewN n) := ⟨h.os, h.tape, h.output, h.size, h.block⟩
/-- one call more -/
theorem Below.call {B : Nat} {a w w' : World} (h : Below B a w) (k : Below w.heap.size w w') (hB : B ≤ w.heap.size) : Below B a w' := h.trans (k.mono hB)

theorem below_alloc_drew (B : Nat) (w : World) (o : Obj) (h : B ≤ w.heap.size) : Below B w (w.alloc o).drew := ((Below.refl _ _).alloc h o).drew

/-! ### Worlds that come after one: below block B nothing has turned -/

/-- a world that comes after w0: below block number B it is as w0 is -/
structure After (B : Nat) (w0 : World) where
  w : World
  below : Below B w0 w

instance (B : Nat) (w0 : World) : Nonempty (After B w0) := ⟨⟨w0, Below.refl _ _⟩⟩

/-- a cell that is not known -/
def cellNew (w : World) (p : Addr) : Option Value := w.cell? p
def frozenNew (w : World) (p : Addr) : Bool := w.frozen? p

@[go_sem] theorem After.cell {B : Nat} {w0 : World} (n : After B w0) (p : Addr) : n.w.cell? p = if p.block < B then w0.cell? p else cellNew n.w p := by
  split
  · exact n.below.cell (by assumption)
  · rfl
@[go_sem] theorem After.frozen {B : Nat} {w0 : World} (n : After B w0) (p : Addr) : n.w.frozen? p = if p.block < B then w0.frozen? p else frozenNew n.w p := by
  split
  · exact n.below.frozen (by assumption)
  · rfl
theorem After.of {B : Nat} {w0 w : World} (h : Below B w0 w) : ∃ n : After B w0, w = n.w := ⟨⟨w, h⟩, rfl⟩
theorem Below.n {B b : Nat} {a w0 : World} (n : After B w0) (h : Below b a w0) (hB : b ≤ B) : Below b a n.w := h.trans (n.below.mono hB)
theorem After.size {B : Nat} {w0 : World} (n : After B w0) : w0.heap.size ≤ n.w.heap.size := n.below.size

section
variable {P : Program}
/-- A region that draws its order, whose operations only read and whose callees leave what is below block B: one walk, in the order of the text. -/
theorem wp_region_below {id : Nat} {Q : Exit → Act → World → Prop} {a : Act} {w : World} {l : List Oper} (B : Nat) (w0 : World) (hw : Below B w0 w) (hm : P.follows .mixedOrders = true) (hB : Region.lexB .any l.toArray = true)
    (h : wpQuiet P l.toArray (fun w' => ∃ n : After B w0, w' = n.w) (fun a' => ∀ w', (∃ n : After B w0, w' = n.w) → Q .normal a' w') l a) : (Code.region id l.toArray true).wp P Q a w :=
  wp_region_quiet (C := fun w' => ∃ n : After B w0, w' = n.w) hm hB ⟨⟨{ w with drawn := w.drawn + 1 }, hw.trans ⟨rfl, rfl, rfl, Nat.le_refl _, fun _ _ => rfl⟩⟩, rfl⟩ (by simpa using h)

/-- a callee's contract in such a region -/
theorem quiet_below {f : FuncId} {args : Array Value} {B : Nat} {w0 : World} {n : After B w0} {v : Value} (hB : B ≤ w0.heap.size)
    (h : Calls P f args n.w fun e w' => e = .returned v ∧ Below n.w.heap.size n.w w') : Calls P f args n.w fun e w'' => e = .returned v ∧ ∃ m : After B w0, w'' = m.w :=
  h.mono fun _ _ ⟨he, hb⟩ => ⟨he, ⟨⟨_, n.below.trans (hb.mono (Nat.le_trans hB n.size))⟩, rfl⟩⟩
theorem quiet_same {f : FuncId} {args : Array Value} {B : Nat} {w0 : World} {n : After B w0} {v : Value}
    (h : Calls P f args n.w fun e w' => e = .returned v ∧ n.w = w') : Calls P f args n.w fun e w'' => e = .returned v ∧ ∃ m : After B w0, w'' = m.w :=
  h.mono fun _ _ ⟨he, hb⟩ => ⟨he, n, hb.symm⟩
end

/-! ### A cell behind a new block, behind a store: which block it is, arithmetic decides -/
@[go_sem] theorem cell_alloc_ite (w : World) (cs : Array Value) (t : TypeId) (fz : Nat × Nat) (p : Addr) :
    (w.alloc (.cells cs t fz)).cell? p = if p.block < w.heap.size then w.cell? p else if p.block = w.heap.size then (if p.spot.isSome then none else cs[p.off]?) else none := by
  have e : (w.alloc (.cells cs t fz)).heap = w.heap.push (.cells cs t fz) := rfl
  unfold World.cell?
  rw [e, Array.getElem?_push]
  by_cases h : p.block < w.heap.size
  · rw [if_pos h, if_neg (by omega)]
  · rw [if_neg h]
    by_cases h' : p.block = w.heap.size
    · rw [if_pos h', if_pos h']
    · rw [if_neg h', if_neg h', Array.getElem?_eq_none (by omega)]
@[go_sem] theorem frozen_alloc_ite (w : World) (cs : Array Value) (t : TypeId) (p : Addr) :
    (w.alloc (.cells cs t)).frozen? p = if p.block < w.heap.size then w.frozen? p else false := by
  have e : (w.alloc (.cells cs t)).heap = w.heap.push (.cells cs t) := rfl
  unfold World.frozen?
  rw [e, Array.getElem?_push]
  by_cases h : p.block < w.heap.size
  · rw [if_pos h, if_neg (by omega)]
  · rw [if_neg h]
    by_cases h' : p.block = w.heap.size
    · rw [if_pos h']; simp
    · rw [if_neg h', Array.getElem?_eq_none (by omega)]
@[go_sem] theorem cell_setCell_ite (w : World) (b o c q : Nat) (v : Value) :
    (w.setCell ⟨b, o, none⟩ v).cell? ⟨c, q, none⟩ = if b = c ∧ o = q then (w.cell? ⟨c, q, none⟩).map (fun _ => v) else w.cell? ⟨c, q, none⟩ := by
  by_cases h : b = c ∧ o = q
  · obtain ⟨rfl, rfl⟩ := h
    rw [if_pos ⟨rfl, rfl⟩]
    cases hc : w.cell? ⟨b, o, none⟩ with
    | none =>
      simp only [World.cell?, World.setCell, Array.getElem?_modify, if_true, Option.map_none] at hc ⊢
      cases hb : w.heap[b]? with
      | none => simp
      | some ob => cases ob <;> simp_all
    | some u => rw [World.cell?_setCell_same w _ v hc]; rfl
  · rw [if_neg h, World.cell?_setCell_other]
    intro e
    injection e with e1 e2
    exact h ⟨by omega, by omega⟩

/-! ### A block of the call's own that is known whole -/
/-- block g holds just these cells, none of them frozen -/
def Blk (w : World) (g : Nat) (t : TypeId) (cs : Array Value) : Prop := w.heap[g]? = some (.cells cs t (0, 0))

section
variable {w w' : World} {g : Nat} {t : TypeId} {cs : Array Value}
theorem Blk.lt (h : Blk w g t cs) : g < w.heap.size := by
  unfold Blk at h
  exact (Array.getElem?_eq_some_iff.1 h).1
theorem Blk.cell (h : Blk w g t cs) (i : Nat) : w.cell? ⟨g, i, none⟩ = cs[i]? := by
  unfold Blk at h
  simp [World.cell?, h]
theorem Blk.frozen (h : Blk w g t cs) (i : Nat) : w.frozen? ⟨g, i, none⟩ = false := by
  unfold Blk at h
  simp [World.frozen?, h]
theorem Blk.new (w : World) (t : TypeId) (cs : Array Value) : Blk (w.alloc (.cells cs t)) w.heap.size t cs := by
  show (w.heap.push _)[w.heap.size]? = _
  rw [Array.getElem?_push, if_pos rfl]
theorem Blk.alloc (h : Blk w g t cs) (o : Obj) : Blk (w.alloc o) g t cs := by
  have hl := h.lt
  show (w.heap.push _)[g]? = _
  rw [Array.getElem?_push, if_neg (by omega)]
  exact h
theorem Blk.set (h : Blk w g t cs) (i : Nat) (u : Value) : Blk (w.setCell ⟨g, i, none⟩ u) g t (cs.setIfInBounds i u) := by
  unfold Blk at h ⊢
  simp [World.setCell, Array.getElem?_modify, h]
theorem Blk.far (h : Blk w g t cs) {p : Addr} (hp : g ≠ p.block) (u : Value) : Blk (w.setCell p u) g t cs := (Below.heap_setCell w p u g hp).trans h
theorem Blk.below {B : Nat} (h : Blk w g t cs) (hb : Below B w w') (hg : g < B) : Blk w' g t cs := (hb.block g hg).trans h
theorem Blk.after {B : Nat} (h : Blk w g t cs) (n : After B w) (hg : g < B) : Blk n.w g t cs := h.below n.below hg
end

end Go.Proofs.YtbadplbdgpbdaaaDoor

namespace Go.Proofs.YtbadplbdgpbdaaaDoor
open Go.RowKit Go.Maps
namespace Mp

/-- an element reads as itself -/
def selfR (v : Value) : Option (DataW Value × List MemPlace) := some (.held v, [])
/-- behind one key a new value -/
def put (F : Lit → Option Value) (kl : Lit) (v : Value) (x : Lit) : Option Value := if x.sameKey kl = true then some v else F x
/-- block b is a map with c keys (at most n stores old), behind which lie the values that F tells -/
def Is (w : World) (P : Program) (k : TypeId) (b n c : Nat) (F : Lit → Option Value) : Prop :=
  ∃ D : DataW Value, w.ownsMap P k selfR b n D ∧ Maps.size D = c ∧ ∀ kl, WideAt.IsKeyLit kl → (∀ z, D.atKey kl (.held z) = .held ((F kl).getD z)) ∧ Maps.has D kl = (F kl).isSome

section
variable {w w' : World} {P : Program} {k : TypeId} {b n c : Nat} {F : Lit → Option Value}

theorem Is.made (w : World) (P : Program) (k : TypeId) : Is (w.alloc (.map #[] 0)) P k w.heap.size 0 0 (fun _ => none) :=
  ⟨_, World.ownsMap_made _ _ _ _, rfl, fun _ _ => ⟨fun _ => rfl, rfl⟩⟩
theorem Is.kept (h : Is w P k b n c F) {row : Option Nat} (hg : w.grownBy w' row) (hne : some b ≠ row) : Is w' P k b n c F := by
  obtain ⟨D, h1, h2⟩ := h
  exact ⟨D, h1.kept hg hne, h2⟩
theorem Is.lt (h : Is w P k b n c F) : b < w.heap.size := by
  obtain ⟨D, h1, _⟩ := h
  exact h1.lt
theorem Is.alloc (h : Is w P k b n c F) (o : Obj) : Is (w.alloc o) P k b n c F := h.kept (World.grownBy_alloc w o none) (by simp)
theorem Is.drew (h : Is w P k b n c F) : Is w.drew P k b n c F := h
theorem Is.setCell (h : Is w P k b n c F) {a : Addr} (ha : b ≠ a.block) (u : Value) : Is (w.setCell a u) P k b n c F := by
  obtain ⟨D, h1, h2⟩ := h
  exact ⟨D, h1.setCell ha u, h2⟩
theorem Is.below {B : Nat} (h : Is w P k b n c F) (hb : Below B w w') (hB : b < B) : Is w' P k b n c F := by
  obtain ⟨D, ⟨es, clock, h1, h3⟩, h2⟩ := h
  exact ⟨D, ⟨es, clock, (hb.block b hB).trans h1, h3⟩, h2⟩
theorem Is.mono (h : Is w P k b n c F) {n' : Nat} (hn : n ≤ n') : Is w P k b n' c F := by
  obtain ⟨D, h1, h2⟩ := h
  exact ⟨D, h1.mono hn, h2⟩
theorem Is.congr (h : Is w P k b n c F) {G : Lit → Option Value} (hG : ∀ kl, WideAt.IsKeyLit kl → F kl = G kl) : Is w P k b n c G := by
  obtain ⟨D, h1, h2, h3⟩ := h
  exact ⟨D, h1, h2, fun kl hk => by rw [← hG kl hk]; exact h3 kl hk⟩

variable {t e : TypeId} {key val z : Value} {kl : Lit}
theorem keyLit (K : Keyed P k) (hkey : keyOf P k key = some kl) : WideAt.IsKeyLit kl := K.key hkey
theorem Is.look (h : Is w P k b n c F) (K : Keyed P k) (ht : P.underlying t = some (.map k e)) (hz : (zeroValue e).run P w = .ok z w) (hkey : keyOf P k key = some kl) :
    (Instr.lookup t (.map (some b)) key false).run P w = .ok ((F kl).getD z) w := by
  obtain ⟨D, h1, _, h3⟩ := h
  obtain ⟨v, ps, hr, hv⟩ := h1.lookup K ht hz (zd := .held z) (zp := []) rfl hkey
  rw [(h3 kl (keyLit K hkey)).1] at hv
  simp only [selfR, Option.some.injEq, Prod.mk.injEq, DataW.held.injEq] at hv
  rw [hr, hv.1]
theorem Is.look_ok (h : Is w P k b n c F) (K : Keyed P k) (ht : P.underlying t = some (.map k e)) (hz : (zeroValue e).run P w = .ok z w) (hkey : keyOf P k key = some kl) :
    (Instr.lookup t (.map (some b)) key true).run P w = .ok (.tuple #[(F kl).getD z, .bool (F kl).isSome]) w := by
  obtain ⟨D, h1, _, h3⟩ := h
  obtain ⟨v, ps, hr, hv⟩ := h1.look_ok K ht hz (zd := .held z) (zp := []) rfl hkey
  rw [(h3 kl (keyLit K hkey)).1] at hv
  simp only [selfR, Option.some.injEq, Prod.mk.injEq, DataW.held.injEq] at hv
  rw [hr, hv.1, (h3 kl (keyLit K hkey)).2]
theorem Is.len (h : Is w P k b n c F) (ht : P.underlying t = some (.map k e)) (ty : TypeId) : (Builtin.len_ #[t] ty #[.map (some b)]).run P w = .ok (.int .i64 c) w := by
  obtain ⟨D, h1, h2, _⟩ := h
  rw [h1.len ht ty, h2]
theorem Is.store (h : Is w P k b n c F) (K : Keyed P k) (ht : P.underlying t = some (.map k e)) (hn : n < maxLen) (hkey : keyOf P k key = some kl) :
    ∃ w', (Instr.mapUpdate t (.map (some b)) key val).run P w = .ok () w' ∧ Is w' P k b (n + 1) (if (F kl).isSome then c else c + 1) (put F kl val) ∧ w.grownBy w' (some b) := by
  obtain ⟨D, h1, h2, h3⟩ := h
  have hkl := keyLit K hkey
  obtain ⟨w', hr, ho, hg⟩ := h1.update K ht hn hkey (val := val) (d := .held val) (ps := []) rfl
  refine ⟨w', hr, ⟨_, ho, ?_, fun x hx => ?_⟩, hg⟩
  · rw [size_put (h1.tidy K), (h3 kl hkl).2, h2]
  · unfold put
    cases e : x.sameKey kl with
    | true =>
      have := WideAt.sameKey_eq e
      subst this
      exact ⟨fun z => atKey_put_same h1.isMap hx _ _, has_put_same h1.isMap hx _⟩
    | false =>
      have hne : x ≠ kl := fun h => by rw [h, WideAt.sameKey_self hkl] at e; cases e
      exact ⟨fun z => by rw [atKey_put_other hne]; exact (h3 x hx).1 z, by rw [has_put_other hne]; exact (h3 x hx).2⟩
end

end Mp
end Go.Proofs.YtbadplbdgpbdaaaDoor

namespace Go.Proofs.YtbadplbdgpbdaaaDoor
open Go.RowKit

/-- what the table of types says of a slice's type -/
structure El (P : Program) (t e : TypeId) (size bytes : Nat) : Prop where
  sl : P.underlying t = some (.slice e)
  inf : ∃ i z, P.info? e = some i ∧ i.zero = some z ∧ i.size = size ∧ i.bytes = bytes ∧ z.cells.size = size
  pos : 0 < size
theorem El.mk' {P : Program} {t e size bytes : Nat} (h : P.underlying t = some (.slice e)) (hi : (P.info? e).map (fun i => (i.zero.map (·.cells.size), i.size, i.bytes)) = some (some size, size, bytes)) (h0 : 0 < size) : El P t e size bytes := by
  refine ⟨h, ?_, h0⟩
  cases hp : P.info? e with
  | none => rw [hp] at hi; cases hi
  | some i =>
    rw [hp] at hi
    simp only [Option.map_some, Option.some.injEq, Prod.mk.injEq] at hi
    obtain ⟨h1, h2, h3⟩ := hi
    cases hz : i.zero with
    | none => rw [hz] at h1; cases h1
    | some z =>
      rw [hz] at h1
      exact ⟨i, z, rfl, hz, h2, h3, Option.some.inj h1⟩

theorem own_below {base e size n : Nat} {v : Value} {xs : List Value} {w w' : World} (hb : base ≤ w.heap.size) (h : w.ownsRow base e size v n xs) (hg : w.grownBy w' v.ownBlock) : Below base w w' :=
  ⟨hg.os, hg.tape, hg.output, hg.size, fun k hk => hg.block k (by omega) fun e' => by
    rcases h.2 with ⟨rfl, _⟩ | ⟨g, cap, cur, rfl, hbg, _⟩
    · cases e'
    · have : k = g := Option.some.inj e'
      omega⟩
theorem own_keep {B base e size n : Nat} {v : Value} {xs : List Value} {w w' : World} (h : w.ownsRow base e size v n xs) (hb : Below B w w') (hB : w.heap.size ≤ B) : w'.ownsRow base e size v n xs := by
  refine ⟨h.1, ?_⟩
  rcases h.2 with h0 | ⟨g, cap, cur, h1, h2, h3, h4⟩
  · exact .inl h0
  · exact .inr ⟨g, cap, cur, h1, h2, by rw [hb.block g (Nat.lt_of_lt_of_le (Array.getElem?_eq_some_iff.1 h3).1 hB)]; exact h3, h4⟩
/-- an own row behind a store into another block -/
theorem own_far {base e size n : Nat} {v : Value} {xs : List Value} {w : World} (h : w.ownsRow base e size v n xs) {p : Addr} (hp : p.block < base) (u : Value) : (w.setCell p u).ownsRow base e size v n xs := by
  refine ⟨h.1, ?_⟩
  rcases h.2 with h0 | ⟨g, cap, cur, h1, h2, h3, h4⟩
  · exact .inl h0
  · exact .inr ⟨g, cap, cur, h1, h2, by rw [Below.heap_setCell w p u g (by omega)]; exact h3, h4⟩

section
variable {P : Program}
/-- a literal of one element, just made, is appended -/
theorem wpList_append_lit {W : World} {ops : Array Oper} {rest : List Oper} {o : Oper} {a : Act} {Q : Exit → Act → World → Prop} {t e size bytes : Nat} (hE : El P t e size bytes) (hgd : o.guard = none) (s x : Operand)
    (ho : o.op = .call { callee := .builtin .append, args := #[s, x], argTypes := #[t, t] })
    (base : Nat) (v : Value) (n : Nat) (xs : List Value) (hown : W.ownsRow base e size v n xs) (news : Array Value) (te : TypeId) (hs : a.eval s = v) (hx : a.eval x = .slice (some ⟨W.heap.size, 0, none⟩) 1 1)
    (hl : news.size = size) (h1 : ∀ u ∈ news.toList, u.oneCell' = true)
    (h63 : n + 1 ≤ maxLen) (hbytes : (n + 1) * bytes ≤ 140737488355328) (hbase : base ≤ W.heap.size)
    (h : ∀ v' w', w'.ownsRow base e size v' (n + 1) (xs ++ news.toList) → Below base W w' → W.heap.size < w'.heap.size → wpList P ops Q rest (a.put o.dst v') w') :
    wpList P ops Q (o :: rest) a (W.alloc (.cells news te)) := by
  obtain ⟨i, z, hi, hz, hsi, hby, hzs⟩ := hE.inf
  refine wpList_append_own _ hgd s x t ho base e i z size bytes hE.sl hi hz hsi hby hzs hE.pos v n xs hs (hown.alloc _) ⟨W.heap.size, 0, none⟩ 1 1 news.toList hx (by simp [hl]) (fun j u hu => ?_) h1 h63 hbytes (by simp; omega) ?_
  · have := (Blk.new W te news).cell j
    rw [Addr.add_lit]
    rw [Nat.zero_add]
    rw [this]
    simpa using hu
  · intro v' w' h2 h3 _
    have hb := own_below (by simp; omega) (hown.alloc (.cells news te)) h3
    refine h v' w' h2 (((Below.refl _ _).alloc hbase _).trans hb) ?_
    have := hb.size
    simp at this
    omega
end

/-- an element of an own row -/
theorem own_at {α : Type} {w : World} {base e k : Nat} {v : Value} {F : α → List Value} {l : List α} (h : w.ownsRow base e k v l.length (l.flatMap F)) (hF : ∀ x, (F x).length = k) {i : Nat} {x : α} (hx : l[i]? = some x) :
    ∃ g cap, v = .slice (some ⟨g, 0, none⟩) l.length cap ∧ base ≤ g ∧ g < w.heap.size ∧ ∀ j u, (F x)[j]? = some u → w.cell? ⟨g, i * k + j, none⟩ = some u := by
  have hi := (List.getElem?_eq_some_iff.1 hx).1
  rcases h.2 with ⟨_, h0⟩ | ⟨g, cap, cur, rfl, hbg, hg, hc, hcm, hcs, ht⟩
  · omega
  · refine ⟨g, cap, rfl, hbg, (Array.getElem?_eq_some_iff.1 hg).1, fun j u hu => ?_⟩
    have hj : j < k := by have := (List.getElem?_eq_some_iff.1 hu).1; rw [hF] at this; exact this
    have e1 : ∀ (l : List α) (i : Nat), l[i]? = some x → (l.flatMap F)[i * k + j]? = some u := by
      intro l
      induction l with
      | nil => intro i h; simp at h
      | cons y ys ih =>
        intro i h
        rw [List.flatMap_cons]
        cases i with
        | zero => simp at h; subst h; rw [List.getElem?_append_left (by rw [hF]; omega)]; simpa using hu
        | succ i =>
          rw [List.getElem?_append_right (by rw [hF, Nat.succ_mul]; omega), hF, show (i + 1) * k + j - k = i * k + j by rw [Nat.succ_mul]; omega]
          exact ih i (by simpa using h)
    have e2 := e1 l i hx
    rw [← ht] at e2
    rw [List.getElem?_take] at e2
    split at e2
    · simpa [World.cell?, hg] using e2
    · cases e2
theorem own_slice {w : World} {base e k n : Nat} {v : Value} {xs : List Value} (h : w.ownsRow base e k v n xs) : ∃ A cap, v = .slice A n cap := by
  rcases h.2 with ⟨rfl, h0⟩ | ⟨g, cap, cur, rfl, _⟩
  · exact ⟨none, 0, by rw [h0]⟩
  · exact ⟨_, _, rfl⟩
theorem own_max {w : World} {base e k n : Nat} {v : Value} {xs : List Value} (h : w.ownsRow base e k v n xs) : n ≤ 9223372036854775807 := by
  rcases h.2 with ⟨rfl, h0⟩ | ⟨g, cap, cur, rfl, _, _, h1, h2, _⟩
  · omega
  · simp only [maxLen] at h2; omega
/-- it may be said of a lower base -/
theorem own_mono {w : World} {base base' e k n : Nat} {v : Value} {xs : List Value} (h : w.ownsRow base e k v n xs) (hb : base' ≤ base) : w.ownsRow base' e k v n xs := by
  refine ⟨h.1, ?_⟩
  rcases h.2 with h0 | ⟨g, cap, cur, h1, h2, h3⟩
  · exact .inl h0
  · exact .inr ⟨g, cap, cur, h1, Nat.le_trans hb h2, h3⟩

end Go.Proofs.YtbadplbdgpbdaaaDoor

namespace Go.Proofs.YtbadplbdgpbdaaaDoor
open Go.RowKit

section
variable {P : Program} {ops : Array Oper} {md : Region.Mode} {C : World → Prop}

/-- whatever order is picked, so many operations from here on, all ahead of operation n -/
def headQ (P : Program) (md : Region.Mode) (ops : Array Oper) (C : World → Prop) (n : Nat) (L : Array Bool → Act → Prop) : Nat → Array Bool → Act → Prop
  | 0, listed, a => L listed a
  | k + 1, listed, a => Region.ready md ops listed ≠ [] ∧ ∀ i ∈ Region.ready md ops listed, i < n ∧ qOp P ops C i (headQ P md ops C n L k (listed.setIfInBounds i true)) a

theorem headQ_wp {n g : Nat} {L : Array Bool → Act → Prop} {R : Exit → Act → World → Prop} (hL : ∀ listed a w, C w → L listed a → wpAny P md ops R g listed a w) :
    ∀ (k : Nat) (listed : Array Bool) (a : Act) (w : World), C w → headQ P md ops C n L k listed a → wpAny P md ops R (k + g) listed a w := by
  intro k
  induction k with
  | zero => intro listed a w hw h; rw [Nat.zero_add]; exact hL _ _ _ hw h
  | succ k ih =>
    intro listed a w hw h
    rw [Nat.add_right_comm]
    exact ⟨fun h0 => absurd h0 h.1, fun i hi => wpOp_of_qOp hw (fun a' w' hw' h' => ih _ a' w' hw' h') (h.2 i hi).2⟩

theorem headQ_first {n i : Nat} {oi : Oper} {v : Value} {L : Array Bool → Act → Prop} (hi : ops[i]? = some oi) (hsel : ∀ (j : Nat) (o : Oper) cs b, ops[j]? = some o → o.op ≠ .select cs b)
    (hs : Region.sinkB md ops n = true) (hc : Region.chainB md ops n = true) (hn : n < ops.size) (hin : i < n) (hdone : ∀ listed a, L listed a → ∀ j ∈ Region.ready md ops listed, n ≤ j) :
    ∀ (k : Nat) (listed : Array Bool) (a : Act), HeadInv md ops n listed →
      (∀ j oj, ops[j]? = some oj → j ≠ i → listed.getD j true = false → (∀ e ∈ oj.after, Region.binds md e = true → e.on ≠ i) → oi.apart ops oj = true) →
      i ∈ Region.ready md ops listed → YieldsIn P ops C oi v a → headQ P md ops C n L k (listed.setIfInBounds i true) (a.put oi.dst v) → headQ P md ops C n L (k + 1) listed a := by
  intro k
  induction k with
  | zero =>
    intro listed a inv _ hr hy H
    have hun := (mem_ready.1 hr).1
    refine ⟨fun h => (by rw [h] at hr; cases hr), fun j hj => ?_⟩
    have hjn : j < n := Decidable.byContradiction fun h => absurd hj (tail_waits hs hc hn inv _ i rfl hin hun j (by omega))
    refine ⟨hjn, ?_⟩
    rcases Decidable.em (j = i) with rfl | hji
    · exact hy.qOp hi H
    · have := hdone _ _ H j (ready_mono hj hji)
      omega
  | succ k ih =>
    intro listed a inv hfree hr hy H
    have hun := (mem_ready.1 hr).1
    refine ⟨fun h => (by rw [h] at hr; cases hr), fun j hj => ?_⟩
    have hjn : j < n := Decidable.byContradiction fun h => absurd hj (tail_waits hs hc hn inv _ i rfl hin hun j (by omega))
    refine ⟨hjn, ?_⟩
    rcases Decidable.em (j = i) with rfl | hji
    · exact hy.qOp hi H
    · have h1 := (H.2 j (ready_mono hj hji)).2
      obtain ⟨hjun, oj, hoj, hall⟩ := mem_ready.1 hj
      have hnot : ∀ e ∈ oj.after, Region.binds md e = true → e.on ≠ i := fun e he hb heq => by
        have h3 := hall e he hb
        rw [heq, getD_both hun] at h3
        cases h3
      have h2 := qOp_put hoj (hfree j oj hoj hji hjun hnot) (fun cs b => hsel i oi cs b hi) (fun cs b => hsel j oj cs b hoj) hy h1
      refine qOp_mono (fun a' h3 => ih (listed.setIfInBounds j true) a' (inv.set hj hjn) (fun m om hm hmi hmun hno => hfree m om hm hmi ?_ hno) (ready_mono hr (Ne.symm hji)) h3.1 ?_) h2
      · rcases Decidable.em (j = m) with rfl | hjm
        · exact hjun
        · rwa [getD_set_ne true hjm] at hmun
      · rw [Array.setIfInBounds_comm _ _ hji]; exact h3.2

theorem headQ_lex {n g : Nat} {Lq : Act → Prop} (hsel : Region.noSelect ops = true) (hs : Region.sinkB md ops n = true) (hc : Region.chainB md ops n = true) (hn : n < ops.size) :
    ∀ (l : List Oper) (k : Nat) (listed : Array Bool) (a : Act), (∀ j, j < l.length → l[j]? = ops[k + j]?) → k + l.length = n → HeadInv md ops n listed → Region.lexHead md ops g l.length k listed = true → wpQuiet P ops C Lq l a →
    headQ P md ops C n (fun listed' a' => Region.seqB md ops g n listed' = true ∧ Lq a') l.length listed a := by
  intro l
  induction l with
  | nil =>
    intro k listed a _ hk _ hB h
    obtain rfl : k = n := by simpa using hk
    exact ⟨by simpa [Region.lexHead] using hB, h⟩
  | cons o l ih =>
    intro k listed a hl hk inv hB h
    have h0 : ops[k]? = some o := by have := hl 0 (by simp); simpa using this.symm
    rw [List.length_cons] at hk hB
    simp only [Region.lexHead, Bool.and_eq_true] at hB
    have hr : k ∈ Region.ready md ops listed := by simpa using hB.1.1
    have hq : qOp P ops C k (wpQuiet P ops C Lq l) a := by unfold qOp; simp only [h0]; exact h
    obtain ⟨v, hy, hK⟩ := yieldsIn_of_qOp h0 hq
    refine headQ_first h0 (Region.noSelect_spec hsel) hs hc hn (by omega) (fun _ _ hL => seqB_ready hL.1) l.length listed a inv (Region.free_spec h0 hB.1.2) hr hy (ih (k + 1) _ _ (fun j hj => ?_) (by omega) (inv.set hr (by omega)) hB.2 hK)
    have := hl (j + 1) (by rw [List.length_cons]; omega)
    rw [List.getElem?_cons_succ] at this
    rw [this, Nat.add_right_comm]; rfl

theorem wp_region_quiet_tail {id : Nat} {Q : Exit → Act → World → Prop} {a : Act} {w : World} {l : List Oper} (n : Nat) (hm : P.follows .mixedOrders = true) (hB : Region.lexTailB .any l.toArray n = true) (hC : C { w with drawn := w.drawn + 1 })
    (h : wpQuiet P l.toArray C (fun a' => ∀ w', C w' → wpList P l.toArray Q (l.drop n) a' w') (l.take n) a) : (Code.region id l.toArray true).wp P Q a w := by
  simp only [Region.lexTailB, Bool.and_eq_true, decide_eq_true_eq] at hB
  obtain ⟨⟨⟨⟨hsel, hn⟩, hs⟩, hc⟩, hlex⟩ := hB
  have htl : (l.take n).length = n := by simp at hn ⊢; omega
  have inv0 : HeadInv .any l.toArray n (Array.replicate l.toArray.size false) :=
    ⟨by simp, fun j oj _ hl => (by rw [getD_replicate_false] at hl; cases hl), fun t _ ht => getD_in (by simpa using ht) (getD_replicate_false _ _)⟩
  have H := headQ_lex (md := .any) (g := l.toArray.size - n) (C := C) hsel hs hc hn (l.take n) 0 _ a (fun j hj => by rw [htl] at hj; simp [hj]) (by simpa using htl) inv0 (by rw [htl]; exact hlex) h
  rw [htl] at H
  refine wp_region_any hm ?_
  have h2 := headQ_wp (R := Q) (g := l.toArray.size - n) (fun listed a' w' hw' hL => by
    have h3 := wpAny_of_seq (md := .any) (Q' := Q) (l.drop n) n listed a' w' (fun j => by simp [List.getElem?_drop]) (by simpa using hL.1) (hL.2 w' hw')
    simpa using h3) n _ a _ hC H
  rwa [show n + (l.toArray.size - n) = l.toArray.size by omega] at h2

/-- the class of the worlds that are as one was below a block -/
theorem wp_region_below_tail {id : Nat} {Q : Exit → Act → World → Prop} {a : Act} {w : World} {l : List Oper} (n : Nat) (B : Nat) (w0 : World) (hw : Below B w0 w) (hm : P.follows .mixedOrders = true) (hB : Region.lexTailB .any l.toArray n = true)
    (h : wpQuiet P l.toArray (fun w' => ∃ m : After B w0, w' = m.w) (fun a' => ∀ w', (∃ m : After B w0, w' = m.w) → wpList P l.toArray Q (l.drop n) a' w') (l.take n) a) : (Code.region id l.toArray true).wp P Q a w :=
  wp_region_quiet_tail (C := fun w' => ∃ m : After B w0, w' = m.w) n hm hB ⟨⟨{ w with drawn := w.drawn + 1 }, hw.trans ⟨rfl, rfl, rfl, Nat.le_refl _, fun _ _ => rfl⟩⟩, rfl⟩ h
end

end Go.Proofs.YtbadplbdgpbdaaaDoor
