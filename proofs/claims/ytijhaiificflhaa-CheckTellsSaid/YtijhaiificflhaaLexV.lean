/- The walks of lex.Words, Named and strings.HasPrefix. -/
import Derived.Test.YtijhaiificflhaaLexW
import Derived.Test.YtijhaiificflhaaStr
namespace Go.Proofs.Ytijhaiificflhaa
open Go.RowKit
namespace Lx
open Sl (strV)

def wordsA : Array Value := #[strV [97, 108, 119, 97, 121, 115], strV [100, 97, 116, 101, 115], strV [102, 114, 105], strV [109, 111, 110], strV [110, 101, 118, 101, 114], strV [114, 117, 108, 101], strV [115, 97, 116], strV [115, 104, 105, 102, 116], strV [115, 117, 110], strV [116, 104, 117], strV [116, 117, 101], strV [119, 101, 100], strV [119, 101, 101, 107, 108, 121]]
theorem words_get (i : Nat) : wordsA[i]? = (wordsL[i]?).map strV := by
  rcases i with _ | _ | _ | _ | _ | _ | _ | _ | _ | _ | _ | _ | _ | i <;> first | rfl | simp [wordsA, wordsL]
theorem words_row {W : World} {g B : Nat} {t : TypeId} (h : Blk W g t wordsA) (hB : g < B) : Sl.StrsV W B (.slice (some ⟨g, 0, none⟩) 13 13) wordsL :=
  ⟨some ⟨g, 0, none⟩, 13, rfl, by decide, fun i s hs => ⟨g, 0, rfl, hB, by show W.cell? ⟨g, 0 + i, none⟩ = _; rw [Nat.zero_add, h.cell, words_get, hs]; rfl⟩⟩
set_option maxHeartbeats 400000 in
theorem Words_any (w : World) : Calls Try.prog 67 #[] w fun e w' => ∃ t, e = .returned (.slice (some ⟨w.heap.size, 0, none⟩) 13 13) ∧ w' = w.alloc (.cells wordsA t) := by
  go_enter Try.func67, Try.ntmps67
  go_wp2
  go_ret
  exact ⟨_, rfl, rfl⟩
theorem Words_row (w : World) : Calls Try.prog 67 #[] w fun e w' => ∃ v, e = .returned v ∧ Below w.heap.size w w' ∧ Sl.StrsV w' w'.heap.size v wordsL :=
  (Words_any w).mono fun _ _ ⟨_, h1, h2⟩ => by
    subst h2
    exact ⟨_, h1, (by repeat (first | exact Below.refl _ _ | assumption | refine Below.n _ ?_ (by first | omega | (simp; done) | (simp; omega)) | refine Below.alloc ?_ (by first | omega | (simp; done) | (simp; omega)) _ | refine Below.setCell ?_ (by first | omega | (simp; done) | (simp; omega)) _ | refine Below.drew ?_ | refine Below.setRow ?_ (by first | omega | (simp; done) | (simp; omega)) _ | refine Below.drewN ?_ _)), words_row (Blk.new _ _ _) (by simp)⟩

/- Whether a text starts so. -/
def isPre (p s : List UInt8) : Bool := decide (s.take p.length = p)


































end Lx
end Go.Proofs.Ytijhaiificflhaa
