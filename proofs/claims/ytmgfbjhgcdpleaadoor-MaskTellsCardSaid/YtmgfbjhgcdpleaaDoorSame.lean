/- The walk of slotref2.Same. -/
import Derived.Test.YtmgfbjhgcdpleaaDoorMskO
import Derived.Test.YtmgfbjhgcdpleaaDoorApp
import Derived.Test.YtmgfbjhgcdpleaaDoorEq
namespace Go.Proofs.YtmgfbjhgcdpleaaDoor
open Go.RowKit
namespace Msk


set_option maxHeartbeats 2000000 in
theorem Same_any (u v : Value) (a b : List (Int × Int)) (w : World) (ha : SpansV w w.heap.size u a) (hb : SpansV w w.heap.size v b) :
    Calls Tryd.prog 17 #[u, v] w fun e w' => e = .returned (.bool (a == b)) ∧ Below w.heap.size w w' := by
  obtain ⟨A, cap, rfl, hlen, hc⟩ := ha
  obtain ⟨A2, cap2, rfl, hlen2, hc2⟩ := hb
  replace hc := Lib.hid hc
  replace hc2 := Lib.hid hc2
  by_cases hl : a.length = b.length
  · have g : ((a.length : Int) != (b.length : Int)) = false := by simp [hl]
    replace hl := Lib.hid hl
    go_enter Tryd.func17, Tryd.ntmps17
    go_wp2
    clear g
    go_loopg [13] a.length (fun n k wr => ∃ j : Nat, j ≤ a.length ∧ n = a.length - j ∧ k = .int .i64 j ∧ Below w.heap.size w wr ∧ (∀ i, i < j → a[i]? = b[i]?))
    case atStart => exact ⟨0, by omega, rfl, rfl, (by repeat (first | exact Below.refl _ _ | assumption | refine Below.n _ ?_ (by first | omega | (simp; done) | (simp; omega)) | refine Below.alloc ?_ (by first | omega | (simp; done) | (simp; omega)) _ | refine Below.setCell ?_ (by first | omega | (simp; done) | (simp; omega)) _ | refine Below.drew ?_ | refine Below.setRow ?_ (by first | omega | (simp; done) | (simp; omega)) _ | refine Below.drewN ?_ _)), fun i hi => by omega⟩
    case round =>
      obtain ⟨j, hj, hn, rfl, hbw, hal⟩ := hrel
      replace hn := Lib.hid hn
      replace hal := Lib.hid hal
      by_cases hlt : j < a.length
      · have hlt2 : j < b.length := by have := hl.out; omega
        obtain ⟨x, hx⟩ : ∃ x, a[j]? = some x := ⟨_, List.getElem?_eq_getElem hlt⟩
        obtain ⟨y, hy⟩ : ∃ y, b[j]? = some y := ⟨_, List.getElem?_eq_getElem hlt2⟩
        obtain ⟨b1, o1, rfl, hl1, c1, c1'⟩ := hc.out j x hx
        obtain ⟨b2, o2, rfl, hl2, c2, c2'⟩ := hc2.out j y hy
        have d1 : wr.cell? ⟨b1, o1 + j * 2, none⟩ = some (.int .i64 x.1) := (hbw.cell (p := ⟨b1, _, none⟩) hl1).trans c1
        have d2 : wr.cell? ⟨b2, o2 + j * 2, none⟩ = some (.int .i64 y.1) := (hbw.cell (p := ⟨b2, _, none⟩) hl2).trans c2
        have d1' : wr.cell? ⟨b1, o1 + j * 2 + 1, none⟩ = some (.int .i64 x.2) := (hbw.cell (p := ⟨b1, _, none⟩) hl1).trans c1'
        have d2' : wr.cell? ⟨b2, o2 + j * 2 + 1, none⟩ = some (.int .i64 y.2) := (hbw.cell (p := ⟨b2, _, none⟩) hl2).trans c2'
        have z := hbw.size
        by_cases hxy : x = y
        · have hal2 := Lib.hid (show ∀ i, i < j + 1 → a[i]? = b[i]? from fun i hi => by
            by_cases h : i = j
            · subst h; rw [hx, hy, hxy]
            · exact hal.out i (by omega))
          have g : eq4 x.1 x.2 y.1 y.2 = true := by rw [eq4_prod]; simp [hxy]
          clear hx hy hxy
          go_wp2
          refine wp_region_below (wr.heap.size) _ (Below.refl _ _) (by kernel_rfl) (by kernel_rfl) ?_
          repeat (go_big_quiet_step ((fail)))
          refine wpQuiet_nil ?_
          rintro _ ⟨n1, rfl⟩
          go_wp2
          go_roundg (a.length - (j + 1))
          case measure => rw [hn.out]; omega
          case rel => exact ⟨j + 1, by omega, rfl, by go_num, (by repeat (first | exact Below.refl _ _ | assumption | refine Below.n _ ?_ (by first | omega | (simp; done) | (simp; omega)) | refine Below.alloc ?_ (by first | omega | (simp; done) | (simp; omega)) _ | refine Below.setCell ?_ (by first | omega | (simp; done) | (simp; omega)) _ | refine Below.drew ?_ | refine Below.setRow ?_ (by first | omega | (simp; done) | (simp; omega)) _ | refine Below.drewN ?_ _)), hal2.out⟩
        · have e := Lib.hid (show (a == b) = false by
            rw [beq_eq_false_iff_ne]
            rintro rfl
            rw [hx] at hy
            exact hxy (Option.some.inj hy))
          have g : eq4 x.1 x.2 y.1 y.2 = false := by rw [eq4_prod]; simpa using hxy
          clear hx hy hxy
          go_wp2
          refine wp_region_below (wr.heap.size) _ (Below.refl _ _) (by kernel_rfl) (by kernel_rfl) ?_
          repeat (go_big_quiet_step ((fail)))
          refine wpQuiet_nil ?_
          rintro _ ⟨n1, rfl⟩
          go_wp2
          go_ret
          exact ⟨ret_bool e.out.symm, (by repeat (first | exact Below.refl _ _ | assumption | refine Below.n _ ?_ (by first | omega | (simp; done) | (simp; omega)) | refine Below.alloc ?_ (by first | omega | (simp; done) | (simp; omega)) _ | refine Below.setCell ?_ (by first | omega | (simp; done) | (simp; omega)) _ | refine Below.drew ?_ | refine Below.setRow ?_ (by first | omega | (simp; done) | (simp; omega)) _ | refine Below.drewN ?_ _))⟩
      · have e := Lib.hid (show (a == b) = true by
          rw [beq_iff_eq]
          apply List.ext_getElem?
          intro i
          by_cases h : i < j
          · exact hal.out i h
          · rw [List.getElem?_eq_none (by omega), List.getElem?_eq_none (by have := hl.out; omega)])
        obtain rfl : j = a.length := by omega
        go_wp2
        go_ret
        exact ⟨ret_bool e.out.symm, (by repeat (first | exact Below.refl _ _ | assumption | refine Below.n _ ?_ (by first | omega | (simp; done) | (simp; omega)) | refine Below.alloc ?_ (by first | omega | (simp; done) | (simp; omega)) _ | refine Below.setCell ?_ (by first | omega | (simp; done) | (simp; omega)) _ | refine Below.drew ?_ | refine Below.setRow ?_ (by first | omega | (simp; done) | (simp; omega)) _ | refine Below.drewN ?_ _))⟩
  · have e := Lib.hid (show (a == b) = false by
      rw [beq_eq_false_iff_ne]
      rintro rfl
      exact hl rfl)
    have g : ((a.length : Int) != (b.length : Int)) = true := by simp; omega
    clear hl
    go_enter Tryd.func17, Tryd.ntmps17
    go_wp2
    go_ret
    exact ⟨ret_bool e.out.symm, (by repeat (first | exact Below.refl _ _ | assumption | refine Below.n _ ?_ (by first | omega | (simp; done) | (simp; omega)) | refine Below.alloc ?_ (by first | omega | (simp; done) | (simp; omega)) _ | refine Below.setCell ?_ (by first | omega | (simp; done) | (simp; omega)) _ | refine Below.drew ?_ | refine Below.setRow ?_ (by first | omega | (simp; done) | (simp; omega)) _ | refine Below.drewN ?_ _))⟩


end Msk
end Go.Proofs.YtmgfbjhgcdpleaaDoor
