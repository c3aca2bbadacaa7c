/- The walks of lex.Words, Named and strings.HasPrefix. -/
import Derived.Test.YtbcgcpcjepigeaaLexW
import Derived.Test.YtbcgcpcjepigeaaStr
namespace Go.Proofs.Ytbcgcpcjepigeaa
open Go.RowKit
namespace Lx
open Sl (strV)

def wordsA : Array Value := #[strV [97, 108, 119, 97, 121, 115], strV [100, 97, 116, 101, 115], strV [102, 114, 105], strV [109, 111, 110], strV [110, 101, 118, 101, 114], strV [114, 117, 108, 101], strV [115, 97, 116], strV [115, 104, 105, 102, 116], strV [115, 117, 110], strV [116, 104, 117], strV [116, 117, 101], strV [119, 101, 100], strV [119, 101, 101, 107, 108, 121]]
theorem words_get (i : Nat) : wordsA[i]? = (wordsL[i]?).map strV := by
  rcases i with _ | _ | _ | _ | _ | _ | _ | _ | _ | _ | _ | _ | _ | i <;> first | rfl | simp [wordsA, wordsL]
theorem words_row {W : World} {g B : Nat} {t : TypeId} (h : Blk W g t wordsA) (hB : g < B) : Sl.StrsV W B (.slice (some ⟨g, 0, none⟩) 13 13) wordsL :=
  ⟨some ⟨g, 0, none⟩, 13, rfl, by decide, fun i s hs => ⟨g, 0, rfl, hB, by show W.cell? ⟨g, 0 + i, none⟩ = _; rw [Nat.zero_add, h.cell, words_get, hs]; rfl⟩⟩
set_option maxHeartbeats 400000 in
theorem Words_any (w : World) : Calls Try.prog 15 #[] w fun e w' => ∃ t, e = .returned (.slice (some ⟨w.heap.size, 0, none⟩) 13 13) ∧ w' = w.alloc (.cells wordsA t) := by
  go_enter Try.func15, Try.ntmps15
  go_wp2
  go_ret
  exact ⟨_, rfl, rfl⟩
theorem Words_row (w : World) : Calls Try.prog 15 #[] w fun e w' => ∃ v, e = .returned v ∧ Below w.heap.size w w' ∧ Sl.StrsV w' w'.heap.size v wordsL :=
  (Words_any w).mono fun _ _ ⟨_, h1, h2⟩ => by
    subst h2
    exact ⟨_, h1, (by repeat (first | exact Below.refl _ _ | assumption | refine Below.n _ ?_ (by first | omega | (simp; done) | (simp; omega)) | refine Below.alloc ?_ (by first | omega | (simp; done) | (simp; omega)) _ | refine Below.setCell ?_ (by first | omega | (simp; done) | (simp; omega)) _ | refine Below.drew ?_ | refine Below.setRow ?_ (by first | omega | (simp; done) | (simp; omega)) _ | refine Below.drewN ?_ _)), words_row (Blk.new _ _ _) (by simp)⟩

/- Whether a text starts so. -/
def isPre (p s : List UInt8) : Bool := decide (s.take p.length = p)

set_option maxHeartbeats 400000 in
theorem HasPrefix_any (s p : List UInt8) (w : World) (_hl : s.length ≤ 9223372036854775807) (_hp : p.length ≤ 9223372036854775807) :
    Calls Try.prog 65 #[strV s, strV p] w fun e w' => e = .returned (.bool (isPre p s)) ∧ w = w' := by
  have c : Calls Try.prog 88 #[strV s, strV p] w fun e w' => e = .returned (.bool (isPre p s)) ∧ w = w' := by
    by_cases h : p.length ≤ s.length
    · go_enter Try.func88, Try.ntmps88
      go_wp2
      go_ret
      exact ⟨ret_bool (by unfold isPre; rw [Bool.eq_iff_iff]; simp), rfl⟩
    · have e : isPre p s = false := by
        unfold isPre
        rw [decide_eq_false_iff_not]
        intro e
        have := congrArg List.length e
        rw [List.length_take] at this
        omega
      rw [e]
      have g : decide ((p.length : Int) ≤ s.length) = false := by simp; omega
      go_enter Try.func88, Try.ntmps88
      go_wp2
      go_ret
      exact ⟨rfl, rfl⟩
  replace c := Lib.hid c
  go_enter Try.func65, Try.ntmps65
  go_wp2_with fail
  refine c.out.mono ?_
  rintro e w1 ⟨rfl, rfl⟩
  go_wp2
  go_ret
  exact ⟨rfl, rfl⟩

end Lx
end Go.Proofs.Ytbcgcpcjepigeaa
