/- A map that the call makes, of whatever elements: what is behind each key; its look-ups, its stores, its length. -/
import Derived.Test.YtfhedopfjgjffaaLib
import Derived.Maps.OwnSet
import Derived.Maps.OwnOps
namespace Go.Proofs.Ytfhedopfjgjffaa
open Go.RowKit Go.Maps
namespace Mp

/-- an element reads as itself -/
def selfR (v : Value) : Option (DataW Value × List MemPlace) := some (.held v, [])
/-- behind one key a new value -/
def put (F : Lit → Option Value) (kl : Lit) (v : Value) (x : Lit) : Option Value := if x.sameKey kl = true then some v else F x
/-- block b is a map with c keys (at most n stores old), behind which lie the values that F tells -/
def Is (w : World) (P : Program) (k : TypeId) (b n c : Nat) (F : Lit → Option Value) : Prop :=
  ∃ D : DataW Value, w.ownsMap P k selfR b n D ∧ Maps.size D = c ∧ ∀ kl, WideAt.IsKeyLit kl → (∀ z, D.atKey kl (.held z) = .held ((F kl).getD z)) ∧ Maps.has D kl = (F kl).isSome

section
variable {w w' : World} {P : Program} {k : TypeId} {b n c : Nat} {F : Lit → Option Value}

theorem Is.made (w : World) (P : Program) (k : TypeId) : Is (w.alloc (.map #[] 0)) P k w.heap.size 0 0 (fun _ => none) :=
  ⟨_, World.ownsMap_made _ _ _ _, rfl, fun _ _ => ⟨fun _ => rfl, rfl⟩⟩
theorem Is.kept (h : Is w P k b n c F) {row : Option Nat} (hg : w.grownBy w' row) (hne : some b ≠ row) : Is w' P k b n c F := by
  obtain ⟨D, h1, h2⟩ := h
  exact ⟨D, h1.kept hg hne, h2⟩
theorem Is.lt (h : Is w P k b n c F) : b < w.heap.size := by
  obtain ⟨D, h1, _⟩ := h
  exact h1.lt
theorem Is.alloc (h : Is w P k b n c F) (o : Obj) : Is (w.alloc o) P k b n c F := h.kept (World.grownBy_alloc w o none) (by simp)
theorem Is.drew (h : Is w P k b n c F) : Is w.drew P k b n c F := h
theorem Is.setCell (h : Is w P k b n c F) {a : Addr} (ha : b ≠ a.block) (u : Value) : Is (w.setCell a u) P k b n c F := by
  obtain ⟨D, h1, h2⟩ := h
  exact ⟨D, h1.setCell ha u, h2⟩
theorem Is.below {B : Nat} (h : Is w P k b n c F) (hb : Below B w w') (hB : b < B) : Is w' P k b n c F := by
  obtain ⟨D, ⟨es, clock, h1, h3⟩, h2⟩ := h
  exact ⟨D, ⟨es, clock, (hb.block b hB).trans h1, h3⟩, h2⟩
theorem Is.mono (h : Is w P k b n c F) {n' : Nat} (hn : n ≤ n') : Is w P k b n' c F := by
  obtain ⟨D, h1, h2⟩ := h
  exact ⟨D, h1.mono hn, h2⟩
theorem Is.congr (h : Is w P k b n c F) {G : Lit → Option Value} (hG : ∀ kl, WideAt.IsKeyLit kl → F kl = G kl) : Is w P k b n c G := by
  obtain ⟨D, h1, h2, h3⟩ := h
  exact ⟨D, h1, h2, fun kl hk => by rw [← hG kl hk]; exact h3 kl hk⟩

variable {t e : TypeId} {key val z : Value} {kl : Lit}
theorem keyLit (K : Keyed P k) (hkey : keyOf P k key = some kl) : WideAt.IsKeyLit kl := K.key hkey
theorem Is.look (h : Is w P k b n c F) (K : Keyed P k) (ht : P.underlying t = some (.map k e)) (hz : (zeroValue e).run P w = .ok z w) (hkey : keyOf P k key = some kl) :
    (Instr.lookup t (.map (some b)) key false).run P w = .ok ((F kl).getD z) w := by
  obtain ⟨D, h1, _, h3⟩ := h
  obtain ⟨v, ps, hr, hv⟩ := h1.lookup K ht hz (zd := .held z) (zp := []) rfl hkey
  rw [(h3 kl (keyLit K hkey)).1] at hv
  simp only [selfR, Option.some.injEq, Prod.mk.injEq, DataW.held.injEq] at hv
  rw [hr, hv.1]
theorem Is.look_ok (h : Is w P k b n c F) (K : Keyed P k) (ht : P.underlying t = some (.map k e)) (hz : (zeroValue e).run P w = .ok z w) (hkey : keyOf P k key = some kl) :
    (Instr.lookup t (.map (some b)) key true).run P w = .ok (.tuple #[(F kl).getD z, .bool (F kl).isSome]) w := by
  obtain ⟨D, h1, _, h3⟩ := h
  obtain ⟨v, ps, hr, hv⟩ := h1.look_ok K ht hz (zd := .held z) (zp := []) rfl hkey
  rw [(h3 kl (keyLit K hkey)).1] at hv
  simp only [selfR, Option.some.injEq, Prod.mk.injEq, DataW.held.injEq] at hv
  rw [hr, hv.1, (h3 kl (keyLit K hkey)).2]
theorem Is.len (h : Is w P k b n c F) (ht : P.underlying t = some (.map k e)) (ty : TypeId) : (Builtin.len_ #[t] ty #[.map (some b)]).run P w = .ok (.int .i64 c) w := by
  obtain ⟨D, h1, h2, _⟩ := h
  rw [h1.len ht ty, h2]
theorem Is.store (h : Is w P k b n c F) (K : Keyed P k) (ht : P.underlying t = some (.map k e)) (hn : n < maxLen) (hkey : keyOf P k key = some kl) :
    ∃ w', (Instr.mapUpdate t (.map (some b)) key val).run P w = .ok () w' ∧ Is w' P k b (n + 1) (if (F kl).isSome then c else c + 1) (put F kl val) ∧ w.grownBy w' (some b) := by
  obtain ⟨D, h1, h2, h3⟩ := h
  have hkl := keyLit K hkey
  obtain ⟨w', hr, ho, hg⟩ := h1.update K ht hn hkey (val := val) (d := .held val) (ps := []) rfl
  refine ⟨w', hr, ⟨_, ho, ?_, fun x hx => ?_⟩, hg⟩
  · rw [size_put (h1.tidy K), (h3 kl hkl).2, h2]
  · unfold put
    cases e : x.sameKey kl with
    | true =>
      have := WideAt.sameKey_eq e
      subst this
      exact ⟨fun z => atKey_put_same h1.isMap hx _ _, has_put_same h1.isMap hx _⟩
    | false =>
      have hne : x ≠ kl := fun h => by rw [h, WideAt.sameKey_self hkl] at e; cases e
      exact ⟨fun z => by rw [atKey_put_other hne]; exact (h3 x hx).1 z, by rw [has_put_other hne]; exact (h3 x hx).2⟩
end

end Mp
end Go.Proofs.Ytfhedopfjgjffaa
