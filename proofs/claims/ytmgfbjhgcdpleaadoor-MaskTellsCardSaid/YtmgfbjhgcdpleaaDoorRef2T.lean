/- The walk of slotref2.Spans. -/
import Derived.Test.YtmgfbjhgcdpleaaDoorRef2S
import Derived.Laws.OwnMore
import Derived.Outline
namespace Go.Proofs.YtmgfbjhgcdpleaaDoor
open Go.RowKit
namespace Msk

theorem set_last : ∀ (k : List (Int × Int)) (a e b : Int), (flatS (k ++ [(a, e)])).set (k.length * 2 + 1) (.int .i64 b) = flatS (k ++ [(a, b)])
  | [], a, e, b => rfl
  | x :: k, a, e, b => by
    have := set_last k a e b
    simp only [List.cons_append, flatS, List.flatMap_cons, List.length_cons] at this ⊢
    rw [show (k.length + 1) * 2 + 1 = (k.length * 2 + 1) + 2 by omega]
    simp only [List.nil_append, List.set_cons_succ]
    rw [this]
/-- the last span's end is written -/
theorem own_end {w : World} {base g cap : Nat} {k : List (Int × Int)} {a e b : Int} (h : w.ownsRow base 30 2 (.slice (some ⟨g, 0, none⟩) (k.length + 1) cap) (k.length + 1) (flatS (k ++ [(a, e)]))) :
    (w.setCell ⟨g, k.length * 2 + 1, none⟩ (.int .i64 b)).ownsRow base 30 2 (.slice (some ⟨g, 0, none⟩) (k.length + 1) cap) (k.length + 1) (flatS (k ++ [(a, b)])) := by
  have := (h.stored (k.length * 2 + 1) (.int .i64 b)).1
  rwa [set_last] at this
/-- a row of spans with a last one -/
theorem own_last {w : World} {base : Nat} {v : Value} {k : List (Int × Int)} {a e : Int} (h : w.ownsRow base 30 2 v (k.length + 1) (flatS (k ++ [(a, e)]))) :
    ∃ g cap, v = .slice (some ⟨g, 0, none⟩) (k.length + 1) cap ∧ base ≤ g ∧ g < w.heap.size ∧ w.cell? ⟨g, k.length * 2 + 1, none⟩ = some (.int .i64 e) ∧ w.frozen? ⟨g, k.length * 2 + 1, none⟩ = false := by
  have h' : w.ownsRow base 30 2 v (k ++ [(a, e)]).length (flatS (k ++ [(a, e)])) := by simpa using h
  obtain ⟨g, cap, rfl, h1, h2, h3⟩ := own_at (F := fun s : Int × Int => [.int .i64 s.1, .int .i64 s.2]) h' (fun _ => rfl) (i := k.length) (x := (a, e)) (by simp)
  simp only [List.length_append, List.length_cons, List.length_nil, Nat.zero_add] at h h3 ⊢
  exact ⟨g, cap, rfl, h1, h2, h3 1 _ rfl, h.frozenAt _⟩

set_option maxHeartbeats 2000000 in
set_option maxRecDepth 100000 in
theorem RSpans_any (f : Nat → Nat) (w : World) (of : Sl.okW f) :
    Calls Tryd.prog 22 #[.agg (maskA f)] w fun e w' => ∃ v l, e = .returned v ∧ Below w.heap.size w w' ∧ IsSpans (has f) l ∧ w'.ownsRow w.heap.size 30 2 v l.length (flatS l) := by
  have cf := Lib.hid (fun (i : Nat) W => Has_nat f i W of)
  have cp := Lib.hid (fun (i : Nat) W => Has_any f ((i : Int) - 1) W of)
  generalize hp : has f = p at *
  replace hp := Lib.hid hp
  go_enter Tryd.func22, Tryd.ntmps22
  go_wp2_with fail
  go_loopg [3, 4] 1440 (fun q v k wr => ∃ (i : Nat) (l : List (Int × Int)), i ≤ 1440 ∧ q = 1440 - i ∧ k = .int .i64 i ∧ SpansTo p i l ∧ wr.ownsRow (w.heap.size + 1) 30 2 v l.length (flatS l) ∧
    Below w.heap.size w wr ∧ w.heap.size + 1 ≤ wr.heap.size ∧ Blk wr w.heap.size 24 (maskA f))
  case atStart => exact ⟨0, [], by omega, rfl, rfl, SpansTo.zero p, World.ownsRow_nil _ _ _ _, (by repeat (first | exact Below.refl _ _ | assumption | refine Below.n _ ?_ (by first | omega | (simp; done) | (simp; omega)) | refine Below.alloc ?_ (by first | omega | (simp; done) | (simp; omega)) _ | refine Below.setCell ?_ (by first | omega | (simp; done) | (simp; omega)) _ | refine Below.drew ?_ | refine Below.setRow ?_ (by first | omega | (simp; done) | (simp; omega)) _ | refine Below.drewN ?_ _)), by simp, Blk.new _ _ _⟩
  case round =>
    obtain ⟨i, l, hi, hq, rfl, hl, ho, hb, hsz, B⟩ := hrel
    replace hq := Lib.hid hq
    have k0 := blk_cells B
    by_cases hlt : i < 1440
    · have cfi := Lib.hid (cf.out i)
      cases hpi : p i with
      | false =>
        rw [hpi] at cfi
        have hl2 := Lib.hid (hl.skip (i' := i + 1) (by omega) (by omega) fun j h1 h2 => by rw [show j = i by omega]; exact hpi)
        replace ho := Lib.hid ho
        replace hl := Lib.hid hl
        clear hpi
        go_wp2_with fail
        refine (cfi.out _).mono ?_
        rintro e w1 ⟨rfl, hb1⟩
        have B1 := B.below hb1 (by omega)
        have k1 := blk_cells B1
        have z1 := hb1.size
        go_wp2_with fail
        refine (cfi.out _).mono ?_
        rintro e w2 ⟨rfl, hb2⟩
        go_wp2
        go_roundg (1440 - (i + 1))
        case measure => rw [hq.out]; omega
        case rel => exact ⟨i + 1, l, by omega, rfl, by go_num, hl2.out, own_keep (own_keep ho.out hb1 (Nat.le_refl _)) hb2 (Nat.le_refl _), hb.trans ((hb1.trans (hb2.mono z1)).mono (by omega)), by have := hb2.size; omega, B1.below hb2 (by omega)⟩
      | true =>
        rw [hpi] at cfi
        have cpi := Lib.hid (cp.out i)
        by_cases hpr : 0 < i ∧ p (i - 1) = true
        · have hh : hasI f ((i : Int) - 1) = true := by
            rw [show (i : Int) - 1 = ((i - 1 : Nat) : Int) by omega, hasI_nat, hp.out]; exact hpr.2
          rw [hh] at cpi
          obtain ⟨k, s, rfl, hs⟩ := hl.last hpr.1 hpr.2
          have hl2 := Lib.hid (hl.grow hlt hs hpi)
          obtain ⟨a, e⟩ := s
          rw [List.length_append, List.length_singleton] at ho
          obtain ⟨g, cap, rfl, hg1, hg2, _, _⟩ := own_last ho
          replace ho := Lib.hid ho
          replace hl := Lib.hid hl
          have hkl : k.length ≤ 1440 := by rcases chain_len hl.out.ch with h | h <;> simp at h; omega
          clear hpi hpr hh hs
          go_wp2_with fail
          refine (cfi.out _).mono ?_
          rintro e1 w1 ⟨rfl, hb1⟩
          have B1 := B.below hb1 (by omega)
          have k1 := blk_cells B1
          have z1 := hb1.size
          go_wp2_with fail
          refine (cpi.out _).mono ?_
          rintro e1 w2 ⟨rfl, hb2⟩
          have B2 := B1.below hb2 (by omega)
          have k2 := blk_cells B2
          have z2 := hb2.size
          go_wp2_with fail
          refine (cfi.out _).mono ?_
          rintro e1 w3 ⟨rfl, hb3⟩
          have B3 := B2.below hb3 (by omega)
          have z3 := hb3.size
          have ho3 := own_keep (own_keep (own_keep ho.out hb1 (Nat.le_refl _)) hb2 (Nat.le_refl _)) hb3 (Nat.le_refl _)
          obtain ⟨g', cap', e2, _, _, c3, f3⟩ := own_last ho3
          cases e2
          replace ho3 := Lib.hid ho3
          have hbw := hb.trans (((hb1.trans (hb2.mono z1)).trans (hb3.mono (by omega))).mono (by omega))
          clear hb1 hb2 hb3 B B1 B2 k0 k1 k2 ho cfi cpi cp cf
          go_wp2
          go_roundg (1440 - (i + 1))
          case measure => rw [hq.out]; omega
          case rel => exact ⟨i + 1, k ++ [(a, (i : Int) + 1)], by omega, rfl, by go_num, hl2.out, by rw [List.length_append]; exact own_end ho3.out, hbw.setCell (by first | omega | (simp; done) | (simp; omega)) _, by simp; omega, B3.far (by first | omega | (simp; done) | (simp; omega)) _⟩
        · have hh : hasI f ((i : Int) - 1) = false := by
            by_cases h0 : i = 0
            · subst h0; exact hasI_out (by omega)
            · rw [show (i : Int) - 1 = ((i - 1 : Nat) : Int) by omega, hasI_nat, hp.out]
              cases h : p (i - 1)
              · rfl
              · exact absurd ⟨by omega, h⟩ hpr
          rw [hh] at cpi
          have hl2 := Lib.hid (hl.push (a := i) (b := i + 1) (Nat.le_refl _) (by omega) (by omega) (fun j h1 h2 => by omega) (fun j h1 h2 => by rw [show j = i by omega]; exact hpi) (by
            by_cases h0 : i = 0
            · exact .inl h0
            · right
              cases h : p (i - 1)
              · rfl
              · exact absurd ⟨by omega, h⟩ hpr))
          have hlen : l.length ≤ 1500 := by rcases chain_len hl.ch with h | h <;> first | omega | simp [h]
          have hnew := Lib.hid (show ∀ u ∈ (#[.int .i64 (i : Int), .int .i64 0] : Array Value).toList, u.oneCell' = true from fun u hu => by simp at hu; rcases hu with rfl | rfl <;> rfl)
          replace hl := Lib.hid hl
          clear hpi hpr hh
          go_wp2_with fail
          refine (cfi.out _).mono ?_
          rintro e1 w1 ⟨rfl, hb1⟩
          have B1 := B.below hb1 (by omega)
          have k1 := blk_cells B1
          have z1 := hb1.size
          go_wp2_with fail
          refine (cpi.out _).mono ?_
          rintro e1 w2 ⟨rfl, hb2⟩
          have B2 := B1.below hb2 (by omega)
          have k2 := blk_cells B2
          have z2 := hb2.size
          have ho2 := Lib.hid (own_keep (own_keep ho hb1 (Nat.le_refl _)) hb2 (Nat.le_refl _))
          have hbw := hb.trans ((hb1.trans (hb2.mono z1)).mono (by omega))
          have hz2 : w.heap.size + 1 ≤ w2.heap.size := by omega
          clear hb1 hb2 B B1 k0 k1 ho hb cpi cp cf
          go_wp2_with (at_builtin; refine wpList_append_lit el_span rfl (.tmp 19) (.tmp 22) rfl (w.heap.size + 1) u3 l.length (flatS l) ho2.out #[.int .i64 (i : Int), .int .i64 0] 30 rfl rfl rfl hnew.out (by simp only [maxLen]; omega) (by omega) hz2 ?_; intro v' w5 hown5 hb5 hs5; have B5 := B2.below hb5 (by omega); have k5 := blk_cells B5)
          have e5 : flatS l ++ (#[.int .i64 (i : Int), .int .i64 0] : Array Value).toList = flatS (l ++ [((i : Int), 0)]) := by rw [flatS_snoc]
          rw [e5] at hown5
          have hb5' := hbw.trans (hb5.mono (by omega))
          clear hb5 B2 k2 ho2 hbw e5
          go_wp2_with fail
          refine (cfi.out _).mono ?_
          rintro e1 w3 ⟨rfl, hb3⟩
          have B3 := B5.below hb3 (by omega)
          have z3 := hb3.size
          have ho3 := own_keep hown5 hb3 (Nat.le_refl _)
          obtain ⟨g, cap, rfl, hg1, hg2, c3, f3⟩ := own_last ho3
          replace ho3 := Lib.hid ho3
          have hbw := hb5'.trans (hb3.mono (by omega))
          clear hb3 B5 k5 hown5 hb5' cfi
          go_wp2
          go_roundg (1440 - (i + 1))
          case measure => rw [hq.out]; omega
          case rel => exact ⟨i + 1, l ++ [((i : Int), (i : Int) + 1)], by omega, rfl, by go_num, hl2.out, by rw [List.length_append]; exact own_end ho3.out, hbw.setCell (by first | omega | (simp; done) | (simp; omega)) _, by simp; omega, B3.far (by first | omega | (simp; done) | (simp; omega)) _⟩
    · obtain rfl : i = 1440 := by omega
      go_wp2
      go_ret
      exact ⟨_, l, rfl, hb, hl, own_mono ho (by omega)⟩

end Msk
end Go.Proofs.YtmgfbjhgcdpleaaDoor
