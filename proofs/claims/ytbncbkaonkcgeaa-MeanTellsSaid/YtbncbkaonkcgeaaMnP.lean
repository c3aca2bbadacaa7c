/- A mask laid into a literal, cell by cell. No walk. Rules that are right; what is known of their masks so far; rows of masks. -/
import Derived.Test.YtbncbkaonkcgeaaMask
import Derived.WalkKit
import Derived.WalkSpells
import Derived.Deep.Draws
import Derived.Test.YtbncbkaonkcgeaaOrd
import Derived.Test.YtbncbkaonkcgeaaMea
import Derived.Test.YtbncbkaonkcgeaaMsE
namespace Go.Proofs.Ytbncbkaonkcgeaa
open Go.RowKit
namespace Ru
open Msk
/-- cells laid into a row one by one -/
theorem lay_list : ∀ (xs : List Value) (s : Nat) (cs : Array Value) (j : Nat), ((xs.zipIdx s).foldl (fun (cs : Array Value) (x : Value × Nat) => cs.setIfInBounds x.snd x.fst) cs)[j]? =
    if s ≤ j ∧ j < s + xs.length ∧ j < cs.size then xs[j - s]? else cs[j]?
  | [], s, cs, j => by simp; intro h1 h2; omega
  | x :: xs, s, cs, j => by
    rw [List.zipIdx_cons, List.foldl_cons, lay_list xs (s + 1)]
    simp only [Array.size_setIfInBounds, Array.getElem?_setIfInBounds, List.length_cons]
    by_cases h1 : s = j
    · subst h1
      rw [if_neg (by omega), if_pos rfl]
      by_cases h2 : s < cs.size
      · rw [if_pos h2, if_pos ⟨by omega, by omega, h2⟩]; simp
      · rw [if_neg h2, if_neg (by omega), Array.getElem?_eq_none (by omega)]
    · rw [if_neg h1]
      by_cases h2 : s + 1 ≤ j ∧ j < s + 1 + xs.length ∧ j < cs.size
      · rw [if_pos h2, if_pos ⟨by omega, by omega, h2.2.2⟩, show j - s = (j - (s + 1)) + 1 by omega]; simp
      · rw [if_neg h2, if_neg (by omega)]
@[go_sem] theorem lay_mask (f : Nat → Nat) (z : Array Value) (hz : z.size = 23) : Array.foldl (fun (cs : Array Value) (x : Value × Nat) => cs.setIfInBounds x.snd x.fst) z (maskA f).zipIdx 0 23 = maskA f := by
  have e : Array.foldl (fun (cs : Array Value) (x : Value × Nat) => cs.setIfInBounds x.snd x.fst) z (maskA f).zipIdx 0 23 = ((maskA f).toList.zipIdx 0).foldl (fun (cs : Array Value) (x : Value × Nat) => cs.setIfInBounds x.snd x.fst) z := by
    have := Array.foldl_toList (f := fun (cs : Array Value) (x : Value × Nat) => cs.setIfInBounds x.snd x.fst) (init := z) (xs := (maskA f).zipIdx)
    rw [Array.toList_zipIdx, Array.size_zipIdx, maskA_size] at this
    exact this.symm
  rw [e]
  apply Array.ext_getElem?
  intro j
  rw [lay_list]
  have hs := maskA_size f
  by_cases h : j < 23
  · rw [if_pos ⟨by omega, by simp [hs]; omega, by omega⟩]; simp
  · rw [if_neg (by simp [hs]; omega), Array.getElem?_eq_none (by omega), Array.getElem?_eq_none (by omega)]

@[go_sem] theorem cell_setRow_far (w : World) (g : Nat) (cs : Array Value) (c q : Nat) : (w.setRow g cs).cell? ⟨c, q, none⟩ = if g = c then cellNew (w.setRow g cs) ⟨c, q, none⟩ else w.cell? ⟨c, q, none⟩ := by
  split
  · rfl
  · rename_i h
    exact World.cell?_of_block (setRow_other w g c cs (Ne.symm h))
@[go_sem] theorem frozen_setRow_far (w : World) (g : Nat) (cs : Array Value) (c q : Nat) : (w.setRow g cs).frozen? ⟨c, q, none⟩ = if g = c then frozenNew (w.setRow g cs) ⟨c, q, none⟩ else w.frozen? ⟨c, q, none⟩ := by
  split
  · rfl
  · rename_i h
    exact World.frozen?_of_block (setRow_other w g c cs (Ne.symm h))

end Ru
end Go.Proofs.Ytbncbkaonkcgeaa

namespace Go.Proofs.Ytbncbkaonkcgeaa
open Go.RowKit
namespace Ru
open Msk Vm

theorem dup_none {l : List Rule} (h : (wrongR l).1 = 0) : (firstErr (dupErr l) 0 l).1 = 0 := by
  have h2 := h
  unfold wrongR at h2
  rw [if_pos (wrong_form h)] at h2
  split at h2
  · assumption
  · rename_i h4; exact absurd h2 h4
theorem right_of {l : List Rule} (h : (wrongR l).1 = 0) : RightR l := by
  refine ⟨fun i r hi => ?_, fun i r hi nm hn => ?_, noring_of h⟩
  · have h1 := firstErr_zero _ l 0 (dup_none h) i r hi
    rw [Nat.zero_add, dup_place hi] at h1
    split at h1
    · rename_i h2
      have h3 := placeR_le hi
      have h4 := (List.getElem?_eq_some_iff.1 hi).1
      rw [findI_nat (by omega)] at h2
      omega
    · cases h1
  · have h1 := noneErr_all (wrong_none h) i (List.getElem?_eq_some_iff.1 hi).1 (findI l nm) (by rw [directR_at hi]; exact List.mem_map.2 ⟨nm, hn, rfl⟩)
    have h2 : ¬ findI l nm < 0 := by omega
    rw [findI_neg] at h2
    omega
theorem form_each {l : List Rule} (h : (wrongF l).1 = 0) {i : Nat} {r : Rule} (hi : l[i]? = some r) : (formE Lx.isName r.expr 1 0).1 = 0 := by
  unfold wrongF at h
  split at h
  · cases h
  · have h1 := firstErr_zero _ l 0 h i r hi
    have h2 : ruleErr Lx.isName r = 0 := h1
    unfold ruleErr at h2
    split at h2
    · exact h2
    · cases h2
/-- where all places are taken, each is -/
theorem Ord.full {d : Nat → List Int} {n : Nat} {o : List Int} (h : Ord d n o) (hl : o.length = n) {k : Nat} (hk : k < n) : (k : Int) ∈ o := by
  cases e : o.contains (k : Int) with
  | true => exact List.contains_iff_mem.1 e
  | false =>
    exfalso
    have hnd : (o ++ [(k : Int)]).Nodup := by
      rw [List.nodup_append]
      refine ⟨h.nodup, by simp, fun a ha b hb e2 => ?_⟩
      simp at hb
      subst hb
      subst e2
      rw [List.contains_iff_mem.2 ha] at e
      cases e
    have := met_len (S := fun x => (o ++ [(k : Int)]).contains x) (left := fun _ => false) (ks := o ++ [(k : Int)]) ⟨hnd, fun x => by rw [List.contains_iff_mem]; simp⟩ (n := n) (fun x hx => by
      have hx2 := List.contains_iff_mem.1 hx
      rcases List.mem_append.1 hx2 with hx2 | hx2
      · exact h.inn x hx2
      · simp at hx2; exact ⟨k, hx2, hk⟩)
    rw [List.length_append] at this
    simp at this
    omega

/-- what is known of the masks: of the rules at the first so many places of an order -/
structure Known (l : List Rule) (env : List UInt8 → Nat → Bool) (o : List Int) (i : Nat) (M : List UInt8 → Option (Nat → Bool)) : Prop where
  has : ∀ j, j < i → ∀ (k : Nat) (r : Rule), o[j]? = some (k : Int) → l[k]? = some r → M r.name = some (env r.name)
theorem Known.start (l : List Rule) (env : List UInt8 → Nat → Bool) (o : List Int) : Known l env o 0 (fun _ => none) := ⟨fun j hj => by omega⟩
theorem Known.put {l : List Rule} {env : List UInt8 → Nat → Bool} {o : List Int} {i : Nat} {M : List UInt8 → Option (Nat → Bool)} (h : Known l env o i M) {k : Nat} {r : Rule} (hi : o[i]? = some (k : Int)) (hr : l[k]? = some r) : Known l env o (i + 1) (fun x => if x = r.name then some (env r.name) else M x) := by
  refine ⟨fun j hj k2 r2 h1 h2 => ?_⟩
  by_cases e : r2.name = r.name
  · rw [if_pos e, e]
  · rw [if_neg e]
    refine h.has j ?_ k2 r2 h1 h2
    have : j ≠ i := fun e2 => by
      subst e2
      rw [hi] at h1
      obtain rfl : k = k2 := by injection h1 with h1; omega
      rw [hr] at h2
      injection h2 with h2
      subst h2
      exact e rfl
    omega
theorem Known.mean {l : List Rule} {env : List UInt8 → Nat → Bool} {o : List Int} {i : Nat} {M : List UInt8 → Option (Nat → Bool)} {wd : Nat} {day : Int} (h : Known l env o i M) (hM : Means wd day l env) (hR : RightR l) (hO : Ord (directR l) l.length o) {k : Nat} {r : Rule} (hi : o[i]? = some (k : Int)) (hr : l[k]? = some r) :
    meanE wd day (fun nm => (M nm).getD noS) r.expr = env r.name := by
  rw [hM k r hr]
  refine meanE_loc r.expr fun nm hn => ?_
  have hk := hR.known k r hr nm hn
  have hy : findI l nm ∈ directR l k := by rw [directR_at hr]; exact List.mem_map.2 ⟨nm, hn, rfl⟩
  have hj := hO.deps i k hi _ hy
  rw [findI_nat hk] at hj
  obtain ⟨j, hj1, hj2⟩ := List.mem_iff_getElem.1 hj
  rw [List.length_take] at hj1
  rw [List.getElem_take] at hj2
  have h1 : o[j]? = some ((placeR l nm : Nat) : Int) := by rw [List.getElem?_eq_getElem (by omega), hj2]
  have h2 : l[placeR l nm]? = some l[placeR l nm] := List.getElem?_eq_getElem hk
  have h3 := h.has j (by omega) _ _ h1 h2
  have h4 := placeR_name h2
  show (M nm).getD noS = env nm
  rw [← h4, h3]
  rfl
theorem Known.all {l : List Rule} {env : List UInt8 → Nat → Bool} {o : List Int} {M : List UInt8 → Option (Nat → Bool)} (h : Known l env o o.length M) (hO : Ord (directR l) l.length o) (hl : o.length = l.length) {k : Nat} {r : Rule} (hr : l[k]? = some r) : (M r.name).getD noS = env r.name := by
  obtain ⟨j, hj, e⟩ := List.mem_iff_getElem.1 (hO.full hl (List.getElem?_eq_some_iff.1 hr).1)
  rw [h.has j hj k r (by rw [List.getElem?_eq_getElem hj, e]) hr]
  rfl

/-! ### rows of masks -/
theorem el_maskM : El Try.prog 23 51 23 184 := El.mk' Try.underlying23 (by kernel_rfl) (by omega)
def maskL (p : Nat → Bool) : List Value := (maskA (setW p)).toList
theorem maskL_len (p : Nat → Bool) : (maskL p).length = 23 := by unfold maskL; rw [Array.length_toList]; exact maskA_size _
def MaskRow (w : World) (base : Nat) (v : Value) (S : List (Nat → Bool)) : Prop := w.ownsRow base 51 23 v S.length (S.flatMap maskL)
/-- a mask, laid out just now, is appended -/
theorem wp_pushP {W : World} {ops : Array Oper} {rest : List Oper} {o : Oper} {a : Act} {Q : Exit → Act → World → Prop} (hgd : o.guard = none) (s x : Operand)
    (ho : o.op = .call { callee := .builtin .append, args := #[s, x], argTypes := #[23, 23] })
    (base : Nat) (v : Value) (S : List (Nat → Bool)) (p : Nat → Bool) (hown : MaskRow W base v S) (hs : a.eval s = v) (hx : a.eval x = .slice (some ⟨W.heap.size, 0, none⟩) 1 1) (hS : S.length < 1000000) (hbase : base ≤ W.heap.size)
    (h : ∀ v' w', MaskRow w' base v' (S ++ [p]) → Below base W w' → W.heap.size < w'.heap.size → wpList Try.prog ops Q rest (a.put o.dst v') w') :
    wpList Try.prog ops Q (o :: rest) a (W.alloc (.cells (maskA (setW p)) 51)) := by
  refine wpList_append_lit el_maskM hgd s x ho base v S.length (S.flatMap maskL) hown (maskA (setW p)) 51 hs hx (maskA_size _) (Msk.one_cell _) (by simp only [maxLen]; omega) (by omega) hbase fun v' w' h1 h2 h3 => ?_
  refine h v' w' ?_ h2 h3
  unfold MaskRow
  rw [List.length_append, List.flatMap_append]
  simpa [maskL] using h1
/-- a mask that lies in a block of its own is appended -/
theorem wp_pushG {W : World} {ops : Array Oper} {rest : List Oper} {o : Oper} {a : Act} {Q : Exit → Act → World → Prop} (hgd : o.guard = none) (s x : Operand)
    (ho : o.op = .call { callee := .builtin .append, args := #[s, x], argTypes := #[23, 23] })
    (base : Nat) (v : Value) (S : List (Nat → Bool)) (p : Nat → Bool) (g : Nat) (hown : MaskRow W base v S) (hG : Blk W g 51 (maskA (setW p))) (hs : a.eval s = v) (hx : a.eval x = .slice (some ⟨g, 0, none⟩) 1 1) (hS : S.length < 1000000) (hbase : base ≤ W.heap.size)
    (h : ∀ v' w', MaskRow w' base v' (S ++ [p]) → Below base W w' → wpList Try.prog ops Q rest (a.put o.dst v') w') :
    wpList Try.prog ops Q (o :: rest) a W := by
  obtain ⟨i, z, hi, hz, hsi, hby, hzs⟩ := el_maskM.inf
  refine wpList_append_own _ hgd s x 23 ho base 51 i z 23 184 el_maskM.sl hi hz hsi hby hzs el_maskM.pos v S.length (S.flatMap maskL) hs hown ⟨g, 0, none⟩ 1 1 (maskL p) hx (by simp [maskL_len]) (fun j u hu => ?_) (Msk.one_cell (setW p)) (by simp only [maxLen]; omega) (by omega) hbase ?_
  · have := hG.cell j
    rw [Addr.add_lit, Nat.zero_add, this]
    simpa [maskL] using hu
  · intro v' w' h2 h3 _
    refine h v' w' ?_ (own_below hbase hown h3)
    unfold MaskRow
    rw [List.length_append, List.flatMap_append]
    simpa using h2
/-- a literal of one mask -/
def MadeAt (p : Nat → Bool) (v : Value) (w : World) : Prop := ∃ g, v = .slice (some ⟨g, 0, none⟩) 1 1 ∧ Blk w g 51 (maskA (setW p))
theorem MadeAt.new (w : World) (p : Nat → Bool) : MadeAt p (.slice (some ⟨w.heap.size, 0, none⟩) 1 1) (w.alloc (.cells (maskA (setW p)) 51)) := ⟨_, rfl, Blk.new _ _ _⟩
@[go_sem ↓] theorem run_buildSlice_mask (f : Nat → Nat) (w : World) : (Instr.buildSlice 23 1 #[(0, .agg (maskA f))]).run Try.prog w = .ok (.slice (some ⟨w.heap.size, 0, none⟩) 1 1) (w.alloc (.cells (maskA f) 51)) := by
  go_simp

end Ru
end Go.Proofs.Ytbncbkaonkcgeaa
