/- A whole row appended to a row of the call's own. -/
import Derived.Test.YtbcgcpcjepigeaaApp
import Derived.Laws.AppendOwnNone
namespace Go.Proofs.Ytbcgcpcjepigeaa
open Go.RowKit

theorem wpList_append_row {P : Program} {W : World} {ops : Array Oper} {rest : List Oper} {o : Oper} {a : Act} {Q : Exit → Act → World → Prop} {t e size bytes : Nat} (hE : El P t e size bytes) (hgd : o.guard = none) (s x : Operand)
    (ho : o.op = .call { callee := .builtin .append, args := #[s, x], argTypes := #[t, t] })
    (base : Nat) (v : Value) (n : Nat) (xs : List Value) (hown : W.ownsRow base e size v n xs) (base2 : Nat) (u : Value) (m : Nat) (ys : List Value) (hown2 : W.ownsRow base2 e size u m ys) (hs : a.eval s = v) (hx : a.eval x = u)
    (h1 : ∀ u ∈ ys, u.oneCell' = true)
    (h63 : n + m ≤ maxLen) (hbytes : (n + m) * bytes ≤ 140737488355328) (hbase : base ≤ W.heap.size)
    (h : ∀ v' w', w'.ownsRow base e size v' (n + m) (xs ++ ys) → Below base W w' → wpList P ops Q rest (a.put o.dst v') w') :
    wpList P ops Q (o :: rest) a W := by
  obtain ⟨i, z, hi, hz, hsi, hby, hzs⟩ := hE.inf
  rcases hown2.2 with ⟨rfl, rfl⟩ | ⟨g, cap, cur, rfl, h2, h3, h4, h5, h6, h7⟩
  · have hy : ys = [] := by have := hown2.1; simpa using this
    subst hy
    refine wpList_append_own_none hgd s x t ho base e i size hE.sl hi v n xs hs hown hx ?_
    exact h v W (by simpa using hown) (Below.refl _ _)
  · refine wpList_append_own _ hgd s x t ho base e i z size bytes hE.sl hi hz hsi hby hzs hE.pos v n xs hs hown ⟨g, 0, none⟩ m cap ys hx hown2.1 (fun j u hu => hown2.cells rfl j u hu) h1 h63 hbytes hbase ?_
    intro v' w' h8 h9 _
    exact h v' w' h8 (own_below hbase hown h9)

end Go.Proofs.Ytbcgcpcjepigeaa
