/- The walk of slotref3.Same. -/
import Derived.Test.YtbcgcpcjepigeaaLexK
import Derived.Test.YtbcgcpcjepigeaaEqT
namespace Go.Proofs.Ytbcgcpcjepigeaa
open Go.RowKit
namespace Lx

/-- a []api.Token -/
def TokV (w : World) (B : Nat) (v : Value) (l : List Tok) : Prop := Sl.Reads B v l fun b o i t =>
  w.cell? ⟨b, o + i * 4, none⟩ = some (.int .i64 t.1) ∧ w.cell? ⟨b, o + i * 4 + 1, none⟩ = some (.int .i64 t.2.1) ∧ w.cell? ⟨b, o + i * 4 + 2, none⟩ = some (.int .i64 t.2.2.1) ∧ w.cell? ⟨b, o + i * 4 + 3, none⟩ = some (Sl.strV t.2.2.2)
theorem TokV.of_own {w : World} {base : Nat} {v : Value} {l : List Tok} (h : w.ownsRow base 34 4 v l.length (toksC l)) : TokV w w.heap.size v l := by
  obtain ⟨A, cap, e⟩ := own_slice h
  refine ⟨A, cap, e, own_max h, fun i t ht => ?_⟩
  obtain ⟨g, cap', h1, h2, h3, h4⟩ := own_at (F := tokC) h (fun _ => rfl) ht
  rw [e] at h1
  cases h1
  refine ⟨g, 0, rfl, h3, ?_, ?_, ?_, ?_⟩
  · have := h4 0 _ rfl; rw [Nat.zero_add]; exact this
  · have := h4 1 _ rfl; rw [Nat.zero_add]; exact this
  · have := h4 2 _ rfl; rw [Nat.zero_add]; exact this
  · have := h4 3 _ rfl; rw [Nat.zero_add]; exact this
theorem TokV.below {w w' : World} {B B' B'' : Nat} {v : Value} {l : List Tok} (h : TokV w B v l) (hb : Below B' w w') (hB : B ≤ B') (hB2 : B ≤ B'') : TokV w' B'' v l :=
  Sl.Reads.mono h hB2 fun b o i n hlt _ h1 => ⟨(hb.cell (p := ⟨b, _, none⟩) (by simp; omega)).trans h1.1, (hb.cell (p := ⟨b, _, none⟩) (by simp; omega)).trans h1.2.1, (hb.cell (p := ⟨b, _, none⟩) (by simp; omega)).trans h1.2.2.1, (hb.cell (p := ⟨b, _, none⟩) (by simp; omega)).trans h1.2.2.2⟩

set_option maxHeartbeats 2000000 in
theorem SameT_any (u v : Value) (a b : List Tok) (w : World) (ha : TokV w w.heap.size u a) (hb : TokV w w.heap.size v b) :
    Calls Try.prog 12 #[u, v] w fun e w' => e = .returned (.bool (a == b)) ∧ Below w.heap.size w w' := by
  obtain ⟨A, cap, rfl, hlen, hc⟩ := ha
  obtain ⟨A2, cap2, rfl, hlen2, hc2⟩ := hb
  replace hc := Lib.hid hc
  replace hc2 := Lib.hid hc2
  by_cases hl : a.length = b.length
  · have g : ((a.length : Int) != (b.length : Int)) = false := by simp [hl]
    replace hl := Lib.hid hl
    go_enter Try.func12, Try.ntmps12
    go_wp2
    clear g
    go_loopg [13] a.length (fun n k wr => ∃ j : Nat, j ≤ a.length ∧ n = a.length - j ∧ k = .int .i64 j ∧ Below w.heap.size w wr ∧ (∀ i, i < j → a[i]? = b[i]?))
    case atStart => exact ⟨0, by omega, rfl, rfl, (by repeat (first | exact Below.refl _ _ | assumption | refine Below.n _ ?_ (by first | omega | (simp; done) | (simp; omega)) | refine Below.alloc ?_ (by first | omega | (simp; done) | (simp; omega)) _ | refine Below.setCell ?_ (by first | omega | (simp; done) | (simp; omega)) _ | refine Below.drew ?_ | refine Below.setRow ?_ (by first | omega | (simp; done) | (simp; omega)) _ | refine Below.drewN ?_ _)), fun i hi => by omega⟩
    case round =>
      obtain ⟨j, hj, hn, rfl, hbw, hal⟩ := hrel
      replace hn := Lib.hid hn
      replace hal := Lib.hid hal
      by_cases hlt : j < a.length
      · have hlt2 : j < b.length := by have := hl.out; omega
        obtain ⟨x, hx⟩ : ∃ x, a[j]? = some x := ⟨_, List.getElem?_eq_getElem hlt⟩
        obtain ⟨y, hy⟩ : ∃ y, b[j]? = some y := ⟨_, List.getElem?_eq_getElem hlt2⟩
        obtain ⟨b1, o1, rfl, hl1, p0, p1, p2, p3⟩ := hc.out j x hx
        obtain ⟨b2, o2, rfl, hl2, q0, q1, q2, q3⟩ := hc2.out j y hy
        obtain ⟨x0, x1, x2, x3⟩ := x
        obtain ⟨y0, y1, y2, y3⟩ := y
        dsimp only at p0 p1 p2 p3 q0 q1 q2 q3
        have d0 : wr.cell? ⟨b1, o1 + j * 4, none⟩ = some (.int .i64 x0) := (hbw.cell (p := ⟨b1, _, none⟩) hl1).trans p0
        have d1 : wr.cell? ⟨b1, o1 + j * 4 + 1, none⟩ = some (.int .i64 x1) := (hbw.cell (p := ⟨b1, _, none⟩) hl1).trans p1
        have d2 : wr.cell? ⟨b1, o1 + j * 4 + 2, none⟩ = some (.int .i64 x2) := (hbw.cell (p := ⟨b1, _, none⟩) hl1).trans p2
        have d3 : wr.cell? ⟨b1, o1 + j * 4 + 3, none⟩ = some (Sl.strV x3) := (hbw.cell (p := ⟨b1, _, none⟩) hl1).trans p3
        have e0 : wr.cell? ⟨b2, o2 + j * 4, none⟩ = some (.int .i64 y0) := (hbw.cell (p := ⟨b2, _, none⟩) hl2).trans q0
        have e1 : wr.cell? ⟨b2, o2 + j * 4 + 1, none⟩ = some (.int .i64 y1) := (hbw.cell (p := ⟨b2, _, none⟩) hl2).trans q1
        have e2 : wr.cell? ⟨b2, o2 + j * 4 + 2, none⟩ = some (.int .i64 y2) := (hbw.cell (p := ⟨b2, _, none⟩) hl2).trans q2
        have e3 : wr.cell? ⟨b2, o2 + j * 4 + 3, none⟩ = some (Sl.strV y3) := (hbw.cell (p := ⟨b2, _, none⟩) hl2).trans q3
        have z := hbw.size
        by_cases hxy : (x0, x1, x2, x3) = (y0, y1, y2, y3)
        · have hal2 := Lib.hid (show ∀ i, i < j + 1 → a[i]? = b[i]? from fun i hi => by
            by_cases h : i = j
            · subst h; rw [hx, hy, hxy]
            · exact hal.out i (by omega))
          have g : eqT (x0, x1, x2, x3) (y0, y1, y2, y3) = true := eqT_iff.2 hxy
          clear hx hy hxy
          go_wp2
          refine wp_region_below (wr.heap.size) _ (Below.refl _ _) (by kernel_rfl) (by kernel_rfl) ?_
          repeat (go_big_quiet_step ((fail)))
          refine wpQuiet_nil ?_
          rintro _ ⟨n1, rfl⟩
          go_wp2
          go_roundg (a.length - (j + 1))
          case measure => rw [hn.out]; omega
          case rel => exact ⟨j + 1, by omega, rfl, by go_num, (by repeat (first | exact Below.refl _ _ | assumption | refine Below.n _ ?_ (by first | omega | (simp; done) | (simp; omega)) | refine Below.alloc ?_ (by first | omega | (simp; done) | (simp; omega)) _ | refine Below.setCell ?_ (by first | omega | (simp; done) | (simp; omega)) _ | refine Below.drew ?_ | refine Below.setRow ?_ (by first | omega | (simp; done) | (simp; omega)) _ | refine Below.drewN ?_ _)), hal2.out⟩
        · have e := Lib.hid (show (a == b) = false by
            rw [beq_eq_false_iff_ne]
            rintro rfl
            rw [hx] at hy
            exact hxy (Option.some.inj hy))
          have g : eqT (x0, x1, x2, x3) (y0, y1, y2, y3) = false := eqT_other hxy
          clear hx hy hxy
          go_wp2
          refine wp_region_below (wr.heap.size) _ (Below.refl _ _) (by kernel_rfl) (by kernel_rfl) ?_
          repeat (go_big_quiet_step ((fail)))
          refine wpQuiet_nil ?_
          rintro _ ⟨n1, rfl⟩
          go_wp2
          go_ret
          exact ⟨ret_bool e.out.symm, (by repeat (first | exact Below.refl _ _ | assumption | refine Below.n _ ?_ (by first | omega | (simp; done) | (simp; omega)) | refine Below.alloc ?_ (by first | omega | (simp; done) | (simp; omega)) _ | refine Below.setCell ?_ (by first | omega | (simp; done) | (simp; omega)) _ | refine Below.drew ?_ | refine Below.setRow ?_ (by first | omega | (simp; done) | (simp; omega)) _ | refine Below.drewN ?_ _))⟩
      · have e := Lib.hid (show (a == b) = true by
          rw [beq_iff_eq]
          apply List.ext_getElem?
          intro i
          by_cases h : i < j
          · exact hal.out i h
          · rw [List.getElem?_eq_none (by omega), List.getElem?_eq_none (by have := hl.out; omega)])
        obtain rfl : j = a.length := by omega
        go_wp2
        go_ret
        exact ⟨ret_bool e.out.symm, (by repeat (first | exact Below.refl _ _ | assumption | refine Below.n _ ?_ (by first | omega | (simp; done) | (simp; omega)) | refine Below.alloc ?_ (by first | omega | (simp; done) | (simp; omega)) _ | refine Below.setCell ?_ (by first | omega | (simp; done) | (simp; omega)) _ | refine Below.drew ?_ | refine Below.setRow ?_ (by first | omega | (simp; done) | (simp; omega)) _ | refine Below.drewN ?_ _))⟩
  · have e := Lib.hid (show (a == b) = false by
      rw [beq_eq_false_iff_ne]
      rintro rfl
      exact hl rfl)
    have g : ((a.length : Int) != (b.length : Int)) = true := by simp; omega
    clear hl
    go_enter Try.func12, Try.ntmps12
    go_wp2
    go_ret
    exact ⟨ret_bool e.out.symm, (by repeat (first | exact Below.refl _ _ | assumption | refine Below.n _ ?_ (by first | omega | (simp; done) | (simp; omega)) | refine Below.alloc ?_ (by first | omega | (simp; done) | (simp; omega)) _ | refine Below.setCell ?_ (by first | omega | (simp; done) | (simp; omega)) _ | refine Below.drew ?_ | refine Below.setRow ?_ (by first | omega | (simp; done) | (simp; omega)) _ | refine Below.drewN ?_ _))⟩


end Lx
end Go.Proofs.Ytbcgcpcjepigeaa
