/- Where a rule of a name is: check.Find. -/
import Derived.Test.YtijhaiificflhaaRulM
import Derived.Outline
import Derived.Laws.StructEq
namespace Go.Proofs.Ytijhaiificflhaa
open Go.RowKit
namespace Ru
open Sl (strV Reads)

theorem bytes_list (s : List UInt8) : (⟨s.toArray⟩ : ByteArray).toList = s := by
  simp [ByteArray.toList_eq]
attribute [local go_sem] bytes_list

set_option maxHeartbeats 1000000 in
theorem test_any (u : List UInt8) (c1 c2 c3 c4 c5 : Value) (nm : List UInt8) (p : Nat) (w : World) (hp : w.cell? ⟨p, 0, none⟩ = some (strV nm)) (hlt : p < w.heap.size) :
    Calls Try.prog 45 #[.agg #[strV u, c1, c2, c3, c4, c5], .pointer (some ⟨p, 0, none⟩)] w fun e w' => e = .returned (.bool (u == nm)) ∧ Below w.heap.size w w' := by
  go_enter Try.func45, Try.ntmps45
  go_wp2
  go_ret
  exact ⟨rfl, (by repeat (first | exact Below.refl _ _ | assumption | refine Below.n _ ?_ (by first | omega | (simp; done) | (simp; omega)) | refine Below.alloc ?_ (by first | omega | (simp; done) | (simp; omega)) _ | refine Below.setCell ?_ (by first | omega | (simp; done) | (simp; omega)) _ | refine Below.drew ?_ | refine Below.setRow ?_ (by first | omega | (simp; done) | (simp; omega)) _ | refine Below.drewN ?_ _))⟩

theorem placeR_at {l : List Rule} {nm : List UInt8} {i : Nat} {x : Rule} (h : l[i]? = some x) (hn : i ≤ placeR l nm) : (x.name == nm) = true ↔ placeR l nm = i := by
  obtain ⟨hi, rfl⟩ := List.getElem?_eq_some_iff.1 h
  constructor
  · intro hx
    have : placeR l nm ≤ i := by
      rcases Nat.lt_or_ge i (placeR l nm) with hlt | hge
      · have := List.not_of_lt_findIdx (xs := l) (p := fun x : Rule => x.name == nm) hlt
        rw [hx] at this
        simp at this
      · exact hge
    omega
  · rintro hx
    have := placeR_name (l := l) (nm := nm) (r := l[i]) (by rw [hx]; exact List.getElem?_eq_getElem hi)
    simp [this]
theorem placeR_len (l : List Rule) (nm : List UInt8) : placeR l nm ≤ l.length := List.findIdx_le_length

set_option maxRecDepth 100000 in
set_option maxHeartbeats 2000000 in
theorem index_any (v : Value) (l : List Rule) (nm : List UInt8) (p : Nat) (w : World) (hr : RulesV w w.heap.size v l) (hp : w.cell? ⟨p, 0, none⟩ = some (strV nm)) (hpl : p < w.heap.size) :
    Calls Try.prog 44 #[v, .func (.func 45) #[] #[.pointer (some ⟨p, 0, none⟩)]] w fun e w' => e = .returned (.int .i64 (findI l nm)) ∧ Below w.heap.size w w' := by
  obtain ⟨A, cap, rfl, hlen, hc⟩ := hr
  replace hc := Lib.hid hc
  go_enter Try.func44, Try.ntmps44
  go_wp2
  go_loopg [8] l.length (fun n i wr => ∃ j : Nat, j ≤ l.length ∧ n = l.length - j ∧ i = .int .i64 j ∧ Below w.heap.size w wr ∧ j ≤ placeR l nm)
  case atStart => exact ⟨0, by omega, rfl, rfl, Below.refl _ _, Nat.zero_le _⟩
  case round =>
    obtain ⟨j, hj, hn, rfl, hb, hpj⟩ := hrel
    replace hn := Lib.hid hn
    by_cases hlt : j < l.length
    · obtain ⟨x, hx⟩ : ∃ x, l[j]? = some x := ⟨_, List.getElem?_eq_getElem hlt⟩
      obtain ⟨b, o, rfl, hbl, k0, hnl, hE⟩ := hc.out j x hx
      have z := hb.size
      obtain ⟨v0, v1, v2, v3, hnl1, A1, cap1, v4, hkl1, hkv1⟩ := (hE.below hb (Nat.le_refl _) (Nat.le_refl _) hbl).out
      have d0 : wr.cell? ⟨b, o + j * 6, none⟩ = some (strV x.name) := (hb.cell (p := ⟨b, _, none⟩) hbl).trans k0
      have d1 : wr.cell? ⟨b, o + j * 6 + 1, none⟩ = some (.int .i64 x.expr.kind) := v0
      have d2 : wr.cell? ⟨b, o + j * 6 + 2, none⟩ = some (.int .i64 x.expr.a) := v1
      have d3 : wr.cell? ⟨b, o + j * 6 + 3, none⟩ = some (.int .i64 x.expr.b) := v2
      have d4 : wr.cell? ⟨b, o + j * 6 + 4, none⟩ = some (strV x.expr.name) := v3
      have d5 : wr.cell? ⟨b, o + j * 6 + 5, none⟩ = some (.slice A1 x.expr.kids.length cap1) := v4
      have hpa := placeR_at (nm := nm) hx hpj
      have ht := Lib.hid (test_any x.name (.int .i64 x.expr.kind) (.int .i64 x.expr.a) (.int .i64 x.expr.b) (strV x.expr.name) (.slice A1 x.expr.kids.length cap1) nm p wr ((hb.cell (p := ⟨p, _, none⟩) hpl).trans hp) (by omega))
      clear v0 v1 v2 v3 v4 hx hE k0 hkv1
      cases ht2 : (x.name == nm) with
      | true =>
        have hp1 := hpa.1 ht2
        rw [ht2] at ht
        have hres := Lib.hid (show findI l nm = (j : Int) by unfold findI; rw [hp1, if_pos hlt])
        clear ht2 hpa hp1
        go_wp2_with (go_at_call 45; refine ht.out.mono ?_; rintro e w2 ⟨rfl, hb2⟩; obtain ⟨n2, rfl⟩ := After.of hb2)
        go_ret
        exact ⟨by rw [hres.out]; rfl, (by repeat (first | exact Below.refl _ _ | assumption | refine Below.n _ ?_ (by first | omega | (simp; done) | (simp; omega)) | refine Below.alloc ?_ (by first | omega | (simp; done) | (simp; omega)) _ | refine Below.setCell ?_ (by first | omega | (simp; done) | (simp; omega)) _ | refine Below.drew ?_ | refine Below.setRow ?_ (by first | omega | (simp; done) | (simp; omega)) _ | refine Below.drewN ?_ _))⟩
      | false =>
        have hp1 : j + 1 ≤ placeR l nm := by
          rcases Nat.lt_or_ge j (placeR l nm) with h | h
          · exact h
          · have := hpa.2 (by omega); rw [ht2] at this; cases this
        rw [ht2] at ht
        clear ht2 hpa
        go_wp2_with (go_at_call 45; refine ht.out.mono ?_; rintro e w2 ⟨rfl, hb2⟩; obtain ⟨n2, rfl⟩ := After.of hb2)
        go_roundg (l.length - (j + 1))
        case measure => rw [hn.out]; omega
        case rel => exact ⟨j + 1, by omega, rfl, by go_num, (by repeat (first | exact Below.refl _ _ | assumption | refine Below.n _ ?_ (by first | omega | (simp; done) | (simp; omega)) | refine Below.alloc ?_ (by first | omega | (simp; done) | (simp; omega)) _ | refine Below.setCell ?_ (by first | omega | (simp; done) | (simp; omega)) _ | refine Below.drew ?_ | refine Below.setRow ?_ (by first | omega | (simp; done) | (simp; omega)) _ | refine Below.drewN ?_ _)), hp1⟩
    · have hp1 := placeR_len l nm
      have hres := Lib.hid (show findI l nm = -1 by unfold findI; rw [if_neg (by omega)])
      obtain rfl : j = l.length := by omega
      go_wp2
      go_ret
      exact ⟨by rw [hres.out]; rfl, (by repeat (first | exact Below.refl _ _ | assumption | refine Below.n _ ?_ (by first | omega | (simp; done) | (simp; omega)) | refine Below.alloc ?_ (by first | omega | (simp; done) | (simp; omega)) _ | refine Below.setCell ?_ (by first | omega | (simp; done) | (simp; omega)) _ | refine Below.drew ?_ | refine Below.setRow ?_ (by first | omega | (simp; done) | (simp; omega)) _ | refine Below.drewN ?_ _))⟩

set_option maxHeartbeats 1000000 in
theorem Find_any (v : Value) (l : List Rule) (nm : List UInt8) (w : World) (hr : RulesV w w.heap.size v l) :
    Calls Try.prog 17 #[v, strV nm] w fun e w' => e = .returned (.int .i64 (findI l nm)) ∧ Below w.heap.size w w' := by
  have hb : Below w.heap.size w (w.alloc (.cells #[strV nm] 9)) := (Below.refl _ _).alloc (Nat.le_refl _) _
  have hi := index_any v l nm w.heap.size (w.alloc (.cells #[strV nm] 9)) (hr.below hb (Nat.le_refl _) (by simp)) ((Blk.new w 9 #[strV nm]).cell 0) (by simp)
  replace hi := Lib.hid hi
  have hrr := Lib.hid hr
  clear hr
  obtain ⟨A, cap, rfl, _⟩ := hrr.out
  go_enter Try.func17, Try.ntmps17
  go_wp2_with (go_at_call 44; refine hi.out.mono ?_; rintro e w2 ⟨rfl, hb2⟩)
  go_ret
  exact ⟨rfl, hb.trans (hb2.mono (by simp))⟩

end Ru
end Go.Proofs.Ytijhaiificflhaa
