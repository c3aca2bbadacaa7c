/- Code that came in: how its cells read. -/
import Derived.Test.YthdaeddaofickaaVm
import Derived.Test.YthdaeddaofickaaMskO
import Derived.Test.YthdaeddaofickaaRdB
namespace Go.Proofs.Ythdaeddaofickaa
open Go.RowKit
namespace Vm
open Msk Sl

theorem dec (p : Prop) [Decidable p] : decide p = true ∧ p ∨ decide p = false ∧ ¬ p := by
  by_cases h : p
  · exact .inl ⟨by simpa using h, h⟩
  · exact .inr ⟨by simpa using h, h⟩
/-- an instruction at a place -/
def InsAt (w : World) (B b o : Nat) (x : Ins) : Prop :=
  w.cell? ⟨b, o, none⟩ = some (.int .i64 x.op) ∧ w.cell? ⟨b, o + 1, none⟩ = some (.int .i64 x.a) ∧ w.cell? ⟨b, o + 2, none⟩ = some (.int .i64 x.b) ∧ w.cell? ⟨b, o + 3, none⟩ = some (.int .i64 x.to) ∧
    ∃ u, w.cell? ⟨b, o + 4, none⟩ = some u ∧ SpansV w B u x.sp
theorem InsAt.below {w w' : World} {B B' B'' b o : Nat} {x : Ins} (h : InsAt w B b o x) (hb : Below B' w w') (hlt : b < B') (hB : B ≤ B') (hB2 : B ≤ B'') : InsAt w' B'' b o x := by
  obtain ⟨h0, h1, h2, h3, u, h4, h5⟩ := h
  exact ⟨(hb.cell (p := ⟨b, _, none⟩) hlt).trans h0, (hb.cell (p := ⟨b, _, none⟩) hlt).trans h1, (hb.cell (p := ⟨b, _, none⟩) hlt).trans h2, (hb.cell (p := ⟨b, _, none⟩) hlt).trans h3, u, (hb.cell (p := ⟨b, _, none⟩) hlt).trans h4, (h5.below hb hB).more hB2⟩
def InsV (w : World) (B : Nat) (v : Value) (l : List Ins) : Prop := Reads B v l fun b o i x => InsAt w B b (o + i * 5) x
theorem InsV.below {w w' : World} {B B' B'' : Nat} {v : Value} {l : List Ins} (h : InsV w B v l) (hb : Below B' w w') (hB : B ≤ B') (hB2 : B ≤ B'') : InsV w' B'' v l :=
  Reads.mono h hB2 fun b o i x hlt _ h1 => InsAt.below h1 hb (by omega) hB hB2
def CodeAt (w : World) (B b o : Nat) (c : Code) : Prop :=
  (∃ u, w.cell? ⟨b, o, none⟩ = some u ∧ InsV w B u c.ins) ∧ w.cell? ⟨b, o + 1, none⟩ = some (.int .i64 c.high) ∧ w.cell? ⟨b, o + 2, none⟩ = some (.int .i64 c.steps)
theorem CodeAt.below {w w' : World} {B B' B'' b o : Nat} {c : Code} (h : CodeAt w B b o c) (hb : Below B' w w') (hlt : b < B') (hB : B ≤ B') (hB2 : B ≤ B'') : CodeAt w' B'' b o c := by
  obtain ⟨⟨u, h0, h1⟩, h2, h3⟩ := h
  exact ⟨⟨u, (hb.cell (p := ⟨b, _, none⟩) hlt).trans h0, h1.below hb hB hB2⟩, (hb.cell (p := ⟨b, _, none⟩) hlt).trans h2, (hb.cell (p := ⟨b, _, none⟩) hlt).trans h3⟩
def CodesV (w : World) (B : Nat) (v : Value) (l : List Code) : Prop := Reads B v l fun b o i c => CodeAt w B b (o + i * 3) c
theorem CodesV.below {w w' : World} {B B' B'' : Nat} {v : Value} {l : List Code} (h : CodesV w B v l) (hb : Below B' w w') (hB : B ≤ B') (hB2 : B ≤ B'') : CodesV w' B'' v l :=
  Reads.mono h hB2 fun b o i x hlt _ h1 => CodeAt.below h1 hb (by omega) hB hB2

end Vm
end Go.Proofs.Ythdaeddaofickaa
