/- The last step of every claim here: a law that returns true and leaves what was in memory as it was is the statement's row. Arguments opened, whatever their type: what a type's cells read as, type by type: integers, strings, structs, arrays, slices; each length within the reach. -/
import Derived.Test.YtbadplbdgpbdaaaDoorApp
import Derived.ProofKit
import Derived.OpenShut
import Derived.Lib.SmallJoins
import Derived.Test.YtbadplbdgpbdaaaDoorStr
import Derived.Deep.Slices
import Derived.SizedLaws
namespace Go.Proofs.YtbadplbdgpbdaaaDoor
open Go.ChangeShapes Go.WideShapes Go.ChangeAt Go.RowKit

section
variable {H : Type} {enc : TypeId × Value → H} {P : Program}

/-- all arguments read as they did -/
theorem trodAll_below (hl : laidOutB P = true) {W W' : World} (hb : Below W.heap.size W W') {sp : Nat → Bool} : ∀ (ts : List TypeId) (vs : List Value) (ds : List (DataW H)) (ps : List MemPlace),
    (∀ t ∈ ts, P.readableRec t = true ∧ t < P.types.size) → DataW.TrodAll enc P W 0 (fun _ => true) true ts vs ds ps → (∀ p ∈ ps, p.block < W.heap.size) → (∀ p ∈ ps, sp p.block = true) →
    DataW.TrodAll enc P W' 0 sp true ts vs ds ps
  | [], vs, ds, ps, _, h, _, _ => by
    obtain ⟨rfl, rfl, rfl⟩ := trodAll_nil h
    exact rfl
  | t :: ts, vs, ds, ps, ht, h, hlt, hsp => by
    obtain ⟨v, vs', d, ds', p, q, rfl, rfl, rfl, h1, h2⟩ := trodAll_cons h
    have ht1 := ht t (List.mem_cons_self ..)
    refine ⟨p, q, WideElems.Trod_stays hl ht1.1 ht1.2 h1 (fun x hx => hb.same (hlt x (List.mem_append_left _ hx))) (fun x hx => hsp x (List.mem_append_left _ hx)), ?_, rfl⟩
    exact trodAll_below hl hb ts vs' ds' q (fun t' h' => ht t' (List.mem_cons_of_mem _ h')) h2 (fun x hx => hlt x (List.mem_append_right _ hx)) (fun x hx => hsp x (List.mem_append_right _ hx))

theorem law_post {f : Func} {s : ChangeSpec} {apart fresh handsOn again : Bool} {W W' : World} {args : Array Value} {ds gs : List (DataW H)} {before : List MemPlace} {tb : TypeId}
    (hl : laidOutB P = true) (hvars : s.vars = []) (hres : f.resultTypes = #[tb]) (htb : P.underlying tb = some .bool)
    (hpar : f.params.toList.all (fun t => P.readableRec t && decide (t < P.types.size)) = true)
    (hW : DataW.Whole enc P f.params.toList s.vars apart W args.toList ds gs before)
    (hspec : ∀ e : List (DataW H), e = ds → (s.fn H e).results = [.lit (.bool true)] ∧ (s.fn H e).args = ds ∧ (s.fn H e).vars = [])
    (hb : Below W.heap.size W W') : s.post enc P f apart fresh handsOn again W args (.bool true) W' := by
  have hW0 := hW
  have hlt : ∀ p ∈ before, p.block < W.heap.size := fun p hp => hW.lt p hp
  have hold : ∀ p ∈ before, (fun b => decide (b < W.heap.size)) p.block = true := fun p hp => by simpa using hlt p hp
  obtain ⟨p, q, hA, hV, rfl, hz, hn⟩ := hW0
  have hq : gs = [] ∧ q = [] := by
    rw [hvars] at hV
    exact trodVars_none hV
  obtain ⟨rfl, rfl⟩ := hq
  obtain ⟨e1, e2, e3⟩ := hspec (ds ++ []) (by simp)
  have hpar' : ∀ t ∈ f.params.toList, P.readableRec t = true ∧ t < P.types.size := fun t ht => by
    have := List.all_eq_true.1 hpar t ht
    simpa using this
  simp only [List.append_nil] at hW hlt hold hz hn
  have hargs : ∀ sp : Nat → Bool, (∀ x ∈ p, sp x.block = true) → DataW.TrodAll enc P W' 0 sp true f.params.toList args.toList ds p := fun sp hsp =>
    trodAll_below hl hb _ _ _ _ hpar' hA hlt hsp
  have hresu : ∀ (b : Nat) (sp : Nat → Bool) (hd : Bool), DataW.TrodAll enc P W' b sp hd f.resultTypes.toList ((Value.bool true).resultList f.resultTypes.size) [DataW.lit (H := H) (.bool true)] [] := fun b sp hd => by
    rw [hres]
    exact trodAll_mk1 (shut_bool htb true)
  have hvv : ∀ sp : Nat → Bool, DataW.TrodVars enc P W' sp s.vars ([] : List (DataW H)) [] := fun sp => by rw [hvars]; exact rfl
  refine ⟨ds, [], p, [], p, [], hW, by rw [e1]; exact hresu _ _ _, by rw [e2]; exact hargs _ hold, by rw [e3]; exact hvv _, World.keptBut_mono (fun x hx => ⟨hx, Or.inr (by simpa using hx)⟩) (hb.frame (· ∈ p)), fun _ => ?_⟩
  refine ⟨ok_one hres rfl (okWide_bool_mk htb true), _, _, ([] ++ p) ++ [], ⟨[] ++ p, [], trodAll_append (hargs _ (fun _ _ => rfl)) (hresu _ _ _), hvv _, rfl, ?_, ?_⟩, ?_⟩
  · intro b off hp
    have hin : MemPlace.cell b off ∈ p := by simpa using hp
    rw [hb.frozen (hlt _ hin)]
    exact hz b off hin
  · intro ha
    simpa using hn ha
  · intro x hx _
    simpa using hx
end

end Go.Proofs.YtbadplbdgpbdaaaDoor

namespace Go.Proofs.YtbadplbdgpbdaaaDoor
open Go.ChangeShapes Go.WideShapes Go.ChangeAt Go.RowKit Go.Deep
namespace Op

/-- cells of a type read as something -/
def OpensF (P : Program) (w : World) (t : TypeId) {α : Type} (R : List Value → α → Prop) (fuel : Nat) : Prop :=
  ∀ (H : Type) (enc : TypeId × Value → H) (base : Nat) (spare : Nat → Bool) (held : Bool) (cs : List Value) (x : DataW H × List MemPlace),
    DataW.trod enc P w base spare held fuel t cs = some x → (∀ n ∈ x.1.weights P t, n ≤ reachBytes) → ∃ d, R cs d
def Opens (P : Program) (w : World) (t : TypeId) {α : Type} (R : List Value → α → Prop) : Prop := ∀ fuel, OpensF P w t R fuel

/-- a slice of elements of so many cells, each so many bytes -/
def SlV {α : Type} (w : World) (B k by_ : Nat) (R : List Value → α → Prop) (v : Value) (l : List α) : Prop :=
  (∃ A cap, v = .slice A l.length cap ∧ l.length ≤ cap ∧ cap ≤ 9223372036854775807) ∧ l.length ≤ 9223372036854775807 ∧ l.length * by_ ≤ 140737488351232 ∧
    ∀ (i : Nat) (x : α), l[i]? = some x → ∃ b o cap cs, v = .slice (some ⟨b, o, none⟩) l.length cap ∧ b < B ∧ cs.length = k ∧ (∀ j, j < k → w.cell? ⟨b, o + i * k + j, none⟩ = cs[j]?) ∧ R cs x

section
variable {P : Program} {w : World}

theorem opens_int {t : TypeId} {k : IntKind} (ht : P.underlying t = some (.int k)) : Opens P w t (fun cs (n : Int) => cs = [.int k n] ∧ (Lit.int k n).wf = true) := by
  intro fuel H enc base spare held cs x h _
  obtain ⟨n, h1, _, h2⟩ := DataW.trod_int ht h
  exact ⟨n, h1, h2⟩
theorem opens_string {t : TypeId} (ht : P.underlying t = some .string) : Opens P w t (fun cs (s : List UInt8) => cs = [.string ⟨s.toArray⟩] ∧ s.length ≤ 140737488351232) := by
  intro fuel H enc base spare held cs x h hz
  obtain ⟨s, h1, h2, _⟩ := DataW.trod_string ht h
  refine ⟨s.data.toList, by rw [h1], ?_⟩
  subst h2
  have := hz s.data.toList.length (by simp [DataW.weights])
  simp only [reachBytes] at this
  omega

theorem weightsAll_mem {H : Type} {e : TypeId} : ∀ {l : List (DataW H)} {d : DataW H}, d ∈ l → ∀ n ∈ d.weights P e, n ∈ DataW.weightsAll P e l
  | [], _, h, _, _ => by cases h
  | a :: l, d, h, n, hn => by
    rw [DataW.weightsAll]
    rcases List.mem_cons.1 h with rfl | h
    · exact List.mem_append_left _ hn
    · exact List.mem_append_right _ (weightsAll_mem h n hn)

/-- a list of what is so at each index -/
theorem list_of {α : Type} {p : Nat → α → Prop} : ∀ n, (∀ i, i < n → ∃ x, p i x) → ∃ l : List α, l.length = n ∧ ∀ i x, l[i]? = some x → p i x
  | 0, _ => ⟨[], rfl, fun i x h => by simp at h⟩
  | n + 1, h => by
    obtain ⟨l, hl, hp⟩ := list_of n (fun i hi => h i (by omega))
    obtain ⟨y, hy⟩ := h n (by omega)
    refine ⟨l ++ [y], by simp [hl], fun i x hx => ?_⟩
    by_cases hi : i < l.length
    · rw [List.getElem?_append_left hi] at hx; exact hp i x hx
    · rw [List.getElem?_append_right (by omega)] at hx
      have hlt := (List.getElem?_eq_some_iff.1 hx).1
      have : i = n := by simp at hlt; omega
      subst this
      simp [hl] at hx
      subst hx
      exact hy

theorem opens_slice {t e : TypeId} {k by_ fuel : Nat} {α : Type} {R : List Value → α → Prop} (ht : P.underlying t = some (.slice e)) (hk : P.cellsOf e = k) (hk0 : 0 < k) (hb : P.bytesOf e = by_)
    (he : ∀ f, f < fuel → OpensF P w e R f) : OpensF P w t (fun cs l => ∃ v, cs = [v] ∧ SlV w w.heap.size k by_ R v l) fuel := by
  intro H enc base spare held cs x h hz
  rcases DataW.trod_slice ht h with ⟨rfl, rfl⟩ | ⟨a, len, cap, elems, rest, n, hn, rfl, rfl, _, hl, hm, hel, hE, _, _⟩
  · exact ⟨[], _, rfl, ⟨none, 0, rfl, by simp, by simp⟩, by simp, by simp, fun i x hx => by simp at hx⟩
  have hw0 : (elems.length + rest.length) * by_ ≤ reachBytes := hz _ (by simp [DataW.weights, ht, hb])
  have hw1 : ∀ y ∈ elems, ∀ n ∈ y.1.weights P e, n ≤ reachBytes := fun y hy n hn => hz _ (by
    simp only [DataW.weights, ht]
    exact List.mem_cons_of_mem _ (List.mem_append_left _ (weightsAll_mem (List.mem_map_of_mem hy) n hn)))
  obtain ⟨l, hll, hlp⟩ := list_of (p := fun i (d : α) => ∃ cs' : List Value, w.cells? base (a.add (i * k)) k = some cs' ∧ R cs' d) len (fun i hi => by
    have h1 := hE i hi
    rw [List.getElem?_eq_getElem (show i < elems.length by omega)] at h1
    obtain ⟨cs', g1, g2⟩ := Option.bind_eq_some_iff.1 h1
    obtain ⟨d, hd⟩ := he n (by omega) H enc base spare held cs' _ g2 (hw1 _ (List.getElem_mem _))
    rw [hk] at g1
    exact ⟨d, cs', g1, hd⟩)
  have hw2 : l.length * by_ ≤ 140737488351232 := by
    have : l.length * by_ ≤ (elems.length + rest.length) * by_ := Nat.mul_le_mul_right _ (by omega)
    simp only [reachBytes] at hw0
    omega
  refine ⟨l, _, rfl, ⟨some a, cap, by rw [hll], by rw [hll]; exact hl, by unfold maxLen at hm; omega⟩, by unfold maxLen at hm; omega, hw2, fun i x hx => ?_⟩
  obtain ⟨cs', g1, g2⟩ := hlp i x hx
  obtain ⟨_, g3, g4⟩ := World.cells?_some g1
  obtain ⟨b, o, sp⟩ := a
  have hsp : sp = none := by
    have hi := (List.getElem?_eq_some_iff.1 hx).1
    obtain ⟨cs0, q1, _⟩ := hlp 0 _ (List.getElem?_eq_getElem (show 0 < l.length by omega))
    obtain ⟨_, q3, q4⟩ := World.cells?_some q1
    have h0 := q4 0 hk0
    rw [List.getElem?_eq_getElem (by omega)] at h0
    simpa [Addr.add] using World.cell?_spot h0
  subst hsp
  have h0 := g4 0 hk0
  rw [List.getElem?_eq_getElem (by omega)] at h0
  refine ⟨b, o, cap, cs', by rw [hll], ?_, g3, fun j hj => ?_, g2⟩
  · have hc := h0
    rw [Addr.add_lit, Addr.add_lit] at hc
    unfold World.cell? at hc
    cases hb' : w.heap[b]? with
    | none => simp only [hb'] at hc; cases hc
    | some ob => exact (Array.getElem?_eq_some_iff.1 hb').1
  · have := g4 j hj
    rw [Addr.add_lit, Addr.add_lit] at this
    exact this

/-- a struct's field -/
def Part (cs : List Value) (off k : Nat) : List Value := (cs.drop off).take k
theorem opens_struct {t : TypeId} {fs : Array Field} {fuel : Nat} {H : Type} {enc : TypeId × Value → H} {base : Nat} {spare : Nat → Bool} {held : Bool} {cs : List Value} {x : DataW H × List MemPlace}
    (ht : P.underlying t = some (.struct fs)) (h : DataW.trod enc P w base spare held fuel t cs = some x) (hz : ∀ n ∈ x.1.weights P t, n ≤ reachBytes) :
    ∃ n, n < fuel ∧ cs.length = P.cellsOf t ∧ ∀ (i : Nat) (f : Field) (α : Type) (R : List Value → α → Prop), fs[i]? = some f → OpensF P w f.type R n → ∃ d, R (Part cs f.offset (P.cellsOf f.type)) d := by
  obtain ⟨xs, n, hn, rfl, hcs, hx, hf⟩ := DataW.trod_struct ht h
  refine ⟨n, by omega, hcs, fun i f α R hi hR => ?_⟩
  have h1 := hf i f hi
  have hil : i < xs.length := by rw [hx]; exact (Array.getElem?_eq_some_iff.1 hi).1
  rw [List.getElem?_eq_getElem hil] at h1
  refine hR H enc base spare held _ _ h1 fun m hm => hz m ?_
  simp only [DataW.weights, ht]
  exact DataW.weights_mem_each (j := i) (t := f.type) (d := xs[i].1) (by simp [hi]) (by simp [hil]) m hm

theorem opens_array {t e : TypeId} {n k fuel : Nat} {α : Type} {R : List Value → α → Prop} (ht : P.underlying t = some (.array n e)) (hk : P.cellsOf e = k) (he : ∀ f, f < fuel → OpensF P w e R f) :
    OpensF P w t (fun cs (l : List α) => cs.length = P.cellsOf t ∧ l.length = n ∧ ∀ i x, l[i]? = some x → R (Part cs (i * k) k) x) fuel := by
  intro H enc base spare held cs x h hz
  obtain ⟨xs, m, hm, rfl, hcs, hx, hf⟩ := DataW.trod_array ht h
  obtain ⟨l, hll, hlp⟩ := list_of (p := fun i (d : α) => R (Part cs (i * k) k) d) n (fun i hi => by
    have h1 := hf i hi
    rw [List.getElem?_eq_getElem (by omega)] at h1
    rw [hk] at h1
    exact he m (by omega) H enc base spare held _ _ h1 fun q hq => hz q (by
      simp only [DataW.weights, ht]
      exact weightsAll_mem (List.mem_map_of_mem (List.getElem_mem _)) q hq))
  exact ⟨l, hcs, hll, hlp⟩

/-- a parameter of a struct's or an array's type -/
theorem top {t : TypeId} {α : Type} {R : List Value → α → Prop} {H : Type} {enc : TypeId × Value → H} {base : Nat} {spare : Nat → Bool} {held : Bool} {v : Value} {d : DataW H} {p : List MemPlace}
    (hO : Opens P w t R) (h : DataW.Trod enc P w base spare held t v d p) (hz : ∀ n ∈ d.weights P t, n ≤ reachBytes) : ∃ x, R v.cells.toList x := by
  obtain ⟨fuel, hf⟩ := h
  exact hO fuel H enc base spare held _ _ hf hz
theorem top_slice {t e : TypeId} {k by_ : Nat} {α : Type} {R : List Value → α → Prop} {r : Reach} {b0 : Nat} {H : Type} {enc : TypeId × Value → H} {base : Nat} {spare : Nat → Bool} {held : Bool} {v : Value} {d : DataW H} {p : List MemPlace}
    (ht : P.underlying t = some (.slice e)) (hk : P.cellsOf e = k) (hk0 : 0 < k) (hb : P.bytesOf e = by_) (he : Opens P w e R)
    (hv : Value.okWide P w r b0 t v) (h : DataW.Trod enc P w base spare held t v d p) (hz : ∀ n ∈ d.weights P t, n ≤ reachBytes) : ∃ l, SlV w w.heap.size k by_ R v l := by
  obtain ⟨A, len, cap, rfl⟩ := okWide_slice ht hv
  obtain ⟨fuel, hf⟩ := h
  obtain ⟨l, v', e, hl⟩ := opens_slice ht hk hk0 hb (fun f _ => he f) H enc base spare held _ _ hf hz
  simp [Value.cells] at e
  subst e
  exact ⟨l, hl⟩
end

end Op

theorem sized_at {H : Type} {P : Program} {ts us : List TypeId} {ds gs : List (DataW H)} (h : (DataW.weightsEach P (ts ++ us) (ds ++ gs)).all (· ≤ reachBytes) = true) (j : Nat) (t : TypeId) (d : DataW H) (ht : ts[j]? = some t) (hd : ds[j]? = some d) :
    ∀ n ∈ d.weights P t, n ≤ reachBytes := fun n hn => by
  have := List.all_eq_true.1 h n (DataW.weights_mem_each (j := j) (t := t) (d := d) (by rw [List.getElem?_append_left (List.getElem?_eq_some_iff.1 ht).1]; exact ht) (by rw [List.getElem?_append_left (List.getElem?_eq_some_iff.1 hd).1]; exact hd) n hn)
  simpa using this

end Go.Proofs.YtbadplbdgpbdaaaDoor
