/- The walk of slotlaw3's alive. -/
import Derived.Test.YtbcgcpcjepigeaaLexK
import Derived.Test.YtbcgcpcjepigeaaLexN
namespace Go.Proofs.Ytbcgcpcjepigeaa
open Go.RowKit
namespace Lx
open Sl (strV)

theorem Lex_any (s : List UInt8) (w : World) (hl : s.length ≤ 9223372036854775807) : Calls Try.prog 10 #[strV s] w (LexPost s w) := by
  by_cases h : s.length ≤ 6000
  · exact Lex_fits s w h
  · exact Lex_much s w (by omega) hl
/-- an element's cells of a row of tokens -/
theorem toks_at {w : World} {base : Nat} {v : Value} {l : List Tok} (h : w.ownsRow base 34 4 v l.length (toksC l)) {i : Nat} {t : Tok} (hi : l[i]? = some t) :
    ∃ g cap, v = .slice (some ⟨g, 0, none⟩) l.length cap ∧ base ≤ g ∧ g < w.heap.size ∧ w.cell? ⟨g, i * 4, none⟩ = some (.int .i64 t.1) ∧ w.cell? ⟨g, i * 4 + 1, none⟩ = some (.int .i64 t.2.1) ∧ w.cell? ⟨g, i * 4 + 2, none⟩ = some (.int .i64 t.2.2.1) ∧ w.cell? ⟨g, i * 4 + 3, none⟩ = some (strV t.2.2.2) := by
  obtain ⟨g, cap, h1, h2, h3, h4⟩ := own_at (F := tokC) h (fun _ => rfl) hi
  exact ⟨g, cap, h1, h2, h3, h4 0 _ rfl, h4 1 _ rfl, h4 2 _ rfl, h4 3 _ rfl⟩

def litA : List UInt8 := [114, 117, 108, 101, 32, 97, 32, 61, 32, 48, 57, 58, 51, 48, 45, 49, 48, 58, 48, 48, 59, 32, 35, 32, 110]
def litT : List Tok := [(2, 0, 0, [114, 117, 108, 101]), (1, 0, 5, [97]), (3, 0, 7, [61]), (4, 570, 9, []), (3, 0, 14, [45]), (4, 600, 15, []), (3, 0, 20, [59])]
theorem lex_litA : lexV litA = (litT, 0, 0) := by kernel_rfl

set_option maxHeartbeats 1000000 in
theorem alive3_any (w : World) : Calls Try.prog 17 #[] w fun e w' => e = .returned (.bool true) ∧ Below w.heap.size w w' := by
  have cL := fun W => Lex_any litA W (by decide)
  unfold LexPost at cL
  rw [lex_litA] at cL
  replace cL := Lib.hid cL
  have cN := fun W => Named_any [97] W (by decide)
  rw [show isName [97] = true by decide] at cN
  replace cN := Lib.hid cN
  have cM := fun W => Named_any [114, 117, 108, 101] W (by decide)
  rw [show isName [114, 117, 108, 101] = false by decide] at cM
  replace cM := Lib.hid cM
  go_enter Try.func17, Try.ntmps17
  go_wp2_with fail
  refine (cL.out _).mono ?_
  rintro e1 w1 ⟨v, rfl, hb1, ho⟩
  have z1 := hb1.size
  obtain ⟨g, cap, rfl, hg1, hg2, _, c3, _, _⟩ := toks_at ho (i := 3) rfl
  obtain ⟨g', cap', e2, _, _, _, _, c5, _⟩ := toks_at ho (i := 5) rfl
  cases e2
  simp only [show litT.length = 7 from rfl] at *
  replace c3 : w1.cell? ⟨g, 13, none⟩ = some (.int .i64 570) := c3
  replace c5 : w1.cell? ⟨g, 22, none⟩ = some (.int .i64 15) := c5
  clear ho
  go_wp2_with fail
  refine (cN.out _).mono ?_
  rintro e1 w2 ⟨rfl, hb2⟩
  go_wp2_with fail
  refine (cM.out _).mono ?_
  rintro e1 w3 ⟨rfl, hb3⟩
  have z2 := hb2.size
  simp only [World.size_alloc] at z2
  have hb := Below.call (Below.call (hb1.alloc (by omega) _) hb2 (by rw [World.size_alloc]; omega)) hb3 (by omega)
  go_wp2
  go_ret
  exact ⟨rfl, hb⟩

end Lx
end Go.Proofs.Ytbcgcpcjepigeaa
