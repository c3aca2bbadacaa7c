/- The law slotlaw3.LexPlaces. -/
import Derived.Test.YtbcgcpcjepigeaaLexA
import Derived.Test.YtbcgcpcjepigeaaLexD
namespace Go.Proofs.Ytbcgcpcjepigeaa
open Go.RowKit
namespace Sl
theorem drop_cons_of {α : Type} {l : List α} {i : Nat} {t : α} (h : l[i]? = some t) : l.drop i = t :: l.drop (i + 1) := by
  obtain ⟨h1, h2⟩ := List.getElem?_eq_some_iff.1 h
  rw [← h2, List.drop_eq_getElem_cons h1]
end Sl
namespace Lx
open Sl (strV)

set_option maxHeartbeats 2000000 in
theorem LexPlaces_true (s : List UInt8) (w : World) (hl : s.length ≤ 140737488351232) : Calls Try.prog 4 #[strV s] w fun e w' => e = .returned (.bool true) ∧ Below w.heap.size w w' := by
  have cA := Lib.hid (fun W => alive3_any W)
  have cL := fun W => Lex_any s W (by omega)
  obtain ⟨h1, h2, h3, h4⟩ := lexV_stand s
  unfold LexPost at cL
  obtain ⟨⟨l, e, b⟩, hx⟩ : ∃ x, lexV s = x := ⟨_, rfl⟩
  rw [hx] at cL h1 h2 h3 h4
  dsimp only at cL h1 h2 h3 h4
  clear hx
  replace cL := Lib.hid cL
  by_cases he : e = 0
  · subst he
    replace h1 := Lib.hid (h1 rfl)
    clear h4 h2 h3
    go_enter Try.func4, Try.ntmps4
    go_wp2_with fail
    refine (cA.out _).mono ?_
    rintro e1 w1 ⟨rfl, hb1⟩
    have z1 := hb1.size
    go_wp2_with fail
    refine (cL.out _).mono ?_
    rintro e1 w2 ⟨v, rfl, hb2, ho⟩
    have z2 := hb2.size
    obtain ⟨A, cap, rfl⟩ := own_slice ho
    have hmax := own_max ho
    have hb := Below.call hb1 hb2 z1
    replace ho := Lib.hid ho
    go_wp2_with fail
    clear cA cL
    go_loopg [5, 35] l.length (fun q u k wr => ∃ (i z : Nat), i ≤ l.length ∧ q = l.length - i ∧ k = .int .i64 i ∧ u = .int .i64 z ∧ Hid (stand s z (l.drop i)) ∧ Below w2.heap.size w2 wr)
    case atStart => exact ⟨0, 0, by omega, rfl, rfl, rfl, h1, (by repeat (first | exact Below.refl _ _ | assumption | refine Below.n _ ?_ (by first | omega | (simp; done) | (simp; omega)) | refine Below.alloc ?_ (by first | omega | (simp; done) | (simp; omega)) _ | refine Below.setCell ?_ (by first | omega | (simp; done) | (simp; omega)) _ | refine Below.drew ?_ | refine Below.setRow ?_ (by first | omega | (simp; done) | (simp; omega)) _ | refine Below.drewN ?_ _))⟩
    case round =>
      obtain ⟨i, z, hi, hq, rfl, rfl, hst, hbr⟩ := hrel
      have zr := hbr.size
      replace hq := Lib.hid hq
      by_cases hlt : i < l.length
      · obtain ⟨⟨k, n, p, x⟩, ht⟩ : ∃ t, l[i]? = some t := ⟨_, List.getElem?_eq_getElem hlt⟩
        have hst1 := hst.out
        rw [Sl.drop_cons_of ht] at hst1
        obtain ⟨a, ha, h2, h3, h4, h5⟩ := hst1
        dsimp only at ha h3 h4 h5
        subst ha
        replace h5 := Lib.hid h5
        obtain ⟨g, cap', e2, hg1, hg2, c0, c1, c2, c3⟩ := toks_at (own_keep ho.out hbr (Nat.le_refl _)) ht
        cases e2
        dsimp only at c0 c1 c2 c3
        have g1 : decide ((a : Int) < (z : Int)) = false := by simp; omega
        have g2 : decide ((s.length : Int) < (a : Int) + (x.length : Int)) = false := by simp; omega
        have g1' : decide (a < z) = false := by simp; omega
        have g2' : decide (s.length < a + x.length) = false := by simp; omega
        clear ht hst
        go_wp2
        have hwr : IntKind.i64.wrap ((a : Int) + (x.length : Int)) = (a : Int) + (x.length : Int) := IntWalk.i64_in _ (by omega)
        refine wp_region_below (wr.heap.size + 1) _ (Below.refl _ _) (by kernel_rfl) (by kernel_rfl) ?_
        repeat (go_big_quiet_step ((fail)))
        refine wpQuiet_nil ?_
        rintro _ ⟨n1, rfl⟩
        have z3 := n1.size
        simp only [World.size_alloc] at z3
        clear hwr g1 g2 g1' g2' h4
        go_wp2
        go_roundg (l.length - (i + 1))
        case measure => rw [hq.out]; omega
        case rel => exact ⟨i + 1, a + max x.length 1, by omega, rfl, by go_num, by go_num, h5, (hbr.alloc zr _).trans (n1.below.mono (by omega))⟩
      · obtain rfl : i = l.length := by omega
        go_wp2
        go_ret
        exact ⟨rfl, hb.trans (hbr.mono (by omega))⟩
  · have hn := h4 he
    subst hn
    have g : (e != 0) = true := by simpa using he
    clear h1 h4 he
    go_enter Try.func4, Try.ntmps4
    go_wp2_with fail
    refine (cA.out _).mono ?_
    rintro e1 w1 ⟨rfl, hb1⟩
    have z1 := hb1.size
    go_wp2_with fail
    refine (cL.out _).mono ?_
    rintro e1 w2 ⟨v, rfl, hb2, ho⟩
    have z2 := hb2.size
    obtain ⟨A, cap, rfl⟩ := own_slice ho
    have hb := Below.call hb1 hb2 z1
    clear ho
    go_wp2
    go_ret
    exact ⟨rfl, (hb.alloc (by omega) _)⟩

end Lx
end Go.Proofs.Ytbcgcpcjepigeaa
