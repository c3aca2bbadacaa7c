/- The walk of slotlaw10.MatchMore: true. -/
import Derived.Test.YtbaomgdkoglebaaMatC
import Derived.Test.YtbaomgdkoglebaaOpen
import Derived.Test.YtbaomgdkoglebaaPut
namespace Go.Proofs.Ytbaomgdkoglebaa
open Go.RowKit
namespace Mat

set_option maxHeartbeats 2000000 in
theorem MatchMore_out (len bef aft day res : Int) (rolesV daysV : Value) (more : Nat → Nat) (days : List (List (Nat → Nat))) (w : World) (hd : Sl.Masks2V w w.heap.size daysV days)
    (h : day < 0 ∨ (days.length : Int) ≤ day ∨ res < 0 ∨ ((days.getD day.toNat []).length : Int) ≤ res) :
    Calls Try.prog 11 #[.agg #[.int .i64 len, .int .i64 bef, .int .i64 aft, rolesV], daysV, .int .i64 day, .int .i64 res, .agg (Msk.maskA more)] w fun e w' => e = .returned (.bool true) ∧ Below w.heap.size w w' := by
  obtain ⟨A, cap, rfl, hl, hc⟩ := hd
  by_cases h0 : day < 0 ∨ (days.length : Int) ≤ day ∨ res < 0
  · clear hc h
    have g : decide (day < 0) = true ∨ decide (day < 0) = false ∧ decide ((days.length : Int) ≤ day) = true ∨ decide (day < 0) = false ∧ decide ((days.length : Int) ≤ day) = false ∧ decide (res < 0) = true := by simp; omega
    clear h0
    rcases g with g | ⟨g, g2⟩ | ⟨g, g2, g3⟩
    all_goals
      go_enter Try.func11, Try.ntmps11
      go_wp2_with fail
      refine (alive_true _).mono ?_
      rintro e w1 ⟨rfl, hb1⟩
      obtain ⟨n1, rfl⟩ := After.of hb1
      go_wp2
      go_ret
      exact ⟨rfl, (by repeat (first | exact Below.refl _ _ | assumption | refine Below.n _ ?_ (by first | omega | (simp; done) | (simp; omega)) | refine Below.alloc ?_ (by first | omega | (simp; done) | (simp; omega)) _ | refine Below.setCell ?_ (by first | omega | (simp; done) | (simp; omega)) _ | refine Below.drew ?_ | refine Below.setRow ?_ (by first | omega | (simp; done) | (simp; omega)) _ | refine Below.drewN ?_ _))⟩
  · obtain ⟨dn, rfl⟩ := Int.eq_ofNat_of_zero_le (show 0 ≤ day by omega)
    have hdl : dn < days.length := by omega
    obtain ⟨b, o, rfl, hb, u, hu, A4, c4, rfl, hl4, _⟩ := hc dn _ (List.getElem?_eq_getElem hdl)
    rw [show (dn : Int).toNat = dn by omega, List.getD, List.getElem?_eq_getElem hdl] at h
    simp only [Option.getD_some] at h
    have g1 : decide ((dn : Int) < 0) = false := by simp
    have g2 : decide ((days.length : Int) ≤ (dn : Int)) = false := by simp; omega
    have g2' : decide (days.length ≤ dn) = false := by simp; omega
    have g3 : decide (res < 0) = false := by simp; omega
    have g4 : decide ((days[dn].length : Int) ≤ res) = true := by simp; omega
    clear hc h h0
    go_enter Try.func11, Try.ntmps11
    go_wp2_with fail
    refine (alive_true _).mono ?_
    rintro e w1 ⟨rfl, hb1⟩
    obtain ⟨n1, rfl⟩ := After.of hb1
    have z1 := n1.size
    simp at z1
    go_wp2
    go_ret
    exact ⟨rfl, (by repeat (first | exact Below.refl _ _ | assumption | refine Below.n _ ?_ (by first | omega | (simp; done) | (simp; omega)) | refine Below.alloc ?_ (by first | omega | (simp; done) | (simp; omega)) _ | refine Below.setCell ?_ (by first | omega | (simp; done) | (simp; omega)) _ | refine Below.drew ?_ | refine Below.setRow ?_ (by first | omega | (simp; done) | (simp; omega)) _ | refine Below.drewN ?_ _))⟩

/-! ### Rows that are copied -/
theorem own_blk {w : World} {base e size n : Nat} {v : Value} {xs : List Value} (h : w.ownsRow base e size v n xs) (hn : 0 < n) :
    ∃ g cap cur, v = .slice (some ⟨g, 0, none⟩) n cap ∧ base ≤ g ∧ Blk w g e cur ∧ n * size ≤ cur.size ∧ ∀ j, j < n * size → cur[j]? = xs[j]? := by
  rcases h.2 with ⟨_, h0⟩ | ⟨g, cap, cur, rfl, hb, hh, hc, _, hs, ht⟩
  · omega
  · refine ⟨g, cap, cur, rfl, hb, hh, by rw [hs]; exact Nat.mul_le_mul_right _ hc, fun j hj => ?_⟩
    rw [← ht, List.getElem?_take_of_lt hj]; simp
/-- the cells of a row of masks -/
def flat (d : List (Nat → Nat)) : List Value := (List.range (d.length * 23)).map fun j => .int .u64 ((d.getD (j / 23) (fun _ => 0)) (j % 23) : Nat)
theorem flat_length (d : List (Nat → Nat)) : (flat d).length = d.length * 23 := by simp [flat]
theorem flat_get (d : List (Nat → Nat)) (j : Nat) (h : j < d.length * 23) : (flat d)[j]? = some (.int .u64 ((d.getD (j / 23) (fun _ => 0)) (j % 23) : Nat)) := by
  unfold flat
  rw [List.getElem?_map, List.getElem?_range h]; rfl
theorem flat_one (d : List (Nat → Nat)) : ∀ u ∈ flat d, u.oneCell' = true := by
  intro u hu
  unfold flat at hu
  obtain ⟨j, _, rfl⟩ := List.mem_map.1 hu
  rfl
theorem masks2_vals {w : World} {B n cap : Nat} {A : Option Addr} {l : List (List (Nat → Nat))} (h : Sl.Masks2V w B (.slice A n cap) l) (hn : 0 < l.length) :
    ∃ b o, ∃ vs : List Value, A = some ⟨b, o, none⟩ ∧ b < B ∧ vs.length = l.length ∧ ∀ i u, vs[i]? = some u → w.cell? ⟨b, o + i, none⟩ = some u ∧ u.oneCell' = true ∧ ∀ x, l[i]? = some x → Sl.MasksV w B u x := by
  obtain ⟨A', cap', e, hl, hc⟩ := h
  cases e
  obtain ⟨b, o, rfl, hb, _⟩ := hc 0 _ (List.getElem?_eq_getElem hn)
  obtain ⟨vs, hvl, hv⟩ := Op.list_of (p := fun i (u : Value) => w.cell? ⟨b, o + i, none⟩ = some u ∧ u.oneCell' = true ∧ ∀ x, l[i]? = some x → Sl.MasksV w B u x) l.length (fun i hi => by
    obtain ⟨b', o', e, _, u, hu, hm⟩ := hc i _ (List.getElem?_eq_getElem hi)
    cases e
    refine ⟨u, hu, ?_, fun x hx => by rw [List.getElem?_eq_getElem hi] at hx; cases hx; exact hm⟩
    obtain ⟨_, _, rfl, _⟩ := hm
    rfl)
  exact ⟨b, o, vs, rfl, hb, hvl, hv⟩
theorem masks_flat {w : World} {B n cap : Nat} {A : Option Addr} {d : List (Nat → Nat)} (h : Sl.MasksV w B (.slice A n cap) d) (hn : 0 < d.length) :
    ∃ b o, A = some ⟨b, o, none⟩ ∧ b < B ∧ (∀ j v, (flat d)[j]? = some v → w.cell? ⟨b, o + j, none⟩ = some v) ∧ ∀ f ∈ d, Sl.okW f := by
  obtain ⟨A', cap', e, hl, hc⟩ := h
  cases e
  obtain ⟨b, o, rfl, hb, _⟩ := hc 0 _ (List.getElem?_eq_getElem hn)
  refine ⟨b, o, rfl, hb, fun j v hj => ?_, fun f hf => ?_⟩
  · have hlt := (List.getElem?_eq_some_iff.1 hj).1
    rw [flat_length] at hlt
    rw [flat_get _ _ hlt] at hj
    cases hj
    have hi : j / 23 < d.length := by omega
    obtain ⟨b', o', e, _, hm, _⟩ := hc (j / 23) _ (List.getElem?_eq_getElem hi)
    cases e
    have := (cellsAt_some.1 hm).2 (j % 23) (by omega)
    rw [show o + j / 23 * 23 + j % 23 = o + j by omega] at this
    rw [this, Msk.maskA_get, if_pos (by omega), List.getD, List.getElem?_eq_getElem hi]; rfl
  · obtain ⟨i, hi, rfl⟩ := List.getElem_of_mem hf
    obtain ⟨_, _, _, _, _, hok⟩ := hc i _ (List.getElem?_eq_getElem hi)
    exact hok
/-- the copy, with a new mask in it -/
theorem more_masks {wx : World} {B g1 g2 t1 t2 cap1 cap2 dn rn : Nat} {cur1 cur2 : Array Value} {vs : List Value} {days : List (List (Nat → Nat))} {d : List (Nat → Nat)} {f' : Nat → Nat} (hd : days[dn]? = some d) (hvl : vs.length = days.length) (h63 : days.length ≤ 9223372036854775807) (h63' : d.length ≤ 9223372036854775807)
    (H1 : Blk wx g1 t1 cur1) (e1 : ∀ i, i < days.length → cur1[i]? = (vs.set dn (.slice (some ⟨g2, 0, none⟩) d.length cap2))[i]?) (H2 : Blk wx g2 t2 cur2) (hs2 : d.length * 23 ≤ cur2.size) (e2 : ∀ j, j < d.length * 23 → cur2[j]? = (flat d)[j]?)
    (H3 : ∀ i u x, i ≠ dn → vs[i]? = some u → days[i]? = some x → Sl.MasksV wx B u x) (hB : B ≤ g2) (hne : g1 ≠ g2) (hok : ∀ f ∈ d, Sl.okW f) (hok' : Sl.okW f') :
    Sl.Masks2V (putList wx g2 (rn * 23) (Msk.maskA f').toList) (putList wx g2 (rn * 23) (Msk.maskA f').toList).heap.size (.slice (some ⟨g1, 0, none⟩) days.length cap1) (days.set dn (d.set rn f')) := by
  have l1 := H1.lt
  have l2 := H2.lt
  have hdl := (List.getElem?_eq_some_iff.1 hd).1
  refine ⟨some ⟨g1, 0, none⟩, cap1, by simp, by simpa using h63, fun i x hx => ⟨g1, 0, rfl, by rw [putList_size]; exact l1, ?_⟩⟩
  have hil : i < days.length := by have := (List.getElem?_eq_some_iff.1 hx).1; simpa using this
  have hc : (putList wx g2 (rn * 23) (Msk.maskA f').toList).cell? ⟨g1, 0 + i, none⟩ = (vs.set dn (.slice (some ⟨g2, 0, none⟩) d.length cap2))[i]? := by
    rw [Nat.zero_add, (H1.farList hne _ _).cell, e1 i hil]
  by_cases e : i = dn
  · subst e
    rw [List.getElem?_set_self (by omega)] at hc
    rw [List.getElem?_set_self hdl] at hx
    cases hx
    refine ⟨_, hc, some ⟨g2, 0, none⟩, cap2, by simp, by simpa using h63', fun k f hf => ⟨g2, 0, rfl, by rw [putList_size]; exact l2, ?_⟩⟩
    have hkl : k < d.length := by have := (List.getElem?_eq_some_iff.1 hf).1; simpa using this
    have hsz : (Msk.maskA f').toList.length = 23 := by simp [Msk.maskA_size]
    by_cases hk : k = rn
    · subst hk
      rw [List.getElem?_set_self hkl] at hf
      cases hf
      generalize hW : putList wx g2 (k * 23) (Msk.maskA f').toList = W
      have hW2 : Blk W g2 t2 (spliceAt cur2 (k * 23) (Msk.maskA f').toList) := by rw [← hW]; exact H2.putList _ _
      have hm : cellsAt W g2 (0 + k * 23) 23 = some (Msk.maskA f') := by
        rw [cellsAt_some]
        refine ⟨Msk.maskA_size _, fun j hj => ?_⟩
        rw [hW2.cell, spliceAt_get, hsz, if_pos (by omega), Array.getElem?_toList, show 0 + k * 23 + j - k * 23 = j by omega]
      exact And.intro hm hok'
    · rw [List.getElem?_set_ne (by omega)] at hf
      generalize hW : putList wx g2 (rn * 23) (Msk.maskA f').toList = W
      have hW2 : Blk W g2 t2 (spliceAt cur2 (rn * 23) (Msk.maskA f').toList) := by rw [← hW]; exact H2.putList _ _
      have hm : cellsAt W g2 (0 + k * 23) 23 = some (Msk.maskA f) := by
        rw [cellsAt_some]
        refine ⟨Msk.maskA_size _, fun j hj => ?_⟩
        rw [hW2.cell, spliceAt_get, hsz, if_neg (by omega), e2 _ (by omega), flat_get _ _ (by omega), Msk.maskA_get, if_pos hj]
        rw [show (0 + k * 23 + j) / 23 = k by omega, show (0 + k * 23 + j) % 23 = j by omega, List.getD, hf]; rfl
      exact And.intro hm (hok f (List.mem_of_getElem? hf))
  · rw [List.getElem?_set_ne (by omega)] at hc hx
    have hvi : vs[i]? = some vs[i] := List.getElem?_eq_getElem (by omega)
    exact ⟨_, hc.trans hvi, (H3 i _ x e hvi hx).below (B' := B) (Below.putList hB (Below.refl _ _) _ _) (Nat.le_refl _) (by
      have hh := H3 i _ x e hvi hx
      rw [putList_size]; omega)⟩

end Mat
end Go.Proofs.Ytbaomgdkoglebaa
