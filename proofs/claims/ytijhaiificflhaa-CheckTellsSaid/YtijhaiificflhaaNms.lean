/- The names that a rule speaks of: check.names. -/
import Derived.Test.YtijhaiificflhaaRulM
import Derived.Test.YtijhaiificflhaaApp
import Derived.Outline
namespace Go.Proofs.Ytijhaiificflhaa
open Go.RowKit
namespace Ru
open Sl (strV Reads)

theorem el_str : El Try.prog 81 9 1 16 := El.mk' Try.underlying81 (by kernel_rfl) (by decide)

mutual
theorem names_len : ∀ (e : Expr), (namesE e).length ≤ nodesE e
  | .mk k a b name kids => by
    rw [namesE, nodesE]
    split
    · simp
    · have := namesL_len kids; omega
theorem namesL_len : ∀ (l : List Expr), (namesL l).length ≤ nodesL l
  | [] => by rw [namesL, nodesL]; exact Nat.le_refl _
  | e :: l => by
    have h1 := names_len e
    have h2 := namesL_len l
    rw [namesL, nodesL, List.length_append]
    omega
end
theorem namesL_room : ∀ {l : List Expr} {i : Nat} {e : Expr}, l[i]? = some e → (namesL (l.take i)).length + nodesE e ≤ nodesL l
  | [], _, _, h => by simp at h
  | x :: l, 0, e, h => by
    simp at h
    subst h
    rw [List.take_zero, namesL, nodesL]
    simp
  | x :: l, i + 1, e, h => by
    have := namesL_room (l := l) (i := i) (e := e) (by simpa using h)
    have h1 := names_len x
    rw [List.take_succ_cons, namesL, nodesL, List.length_append]
    omega

set_option maxRecDepth 100000 in
set_option maxHeartbeats 4000000 in
theorem names_any : ∀ (N : Nat) (e : Expr) (w : World) (gs base b o : Nat) (v : Value) (l : List (List UInt8)), nodesE e ≤ N → ExprAt w gs b o e → b < gs → gs ≤ base → base ≤ w.heap.size → l.length + nodesE e ≤ 1000 → w.ownsRow base 9 1 v l.length (l.map strV) →
    Calls Try.prog 46 #[.pointer (some ⟨b, o, none⟩), v] w fun r w' => ∃ v', r = .returned v' ∧ w'.ownsRow base 9 1 v' (l ++ namesE e).length ((l ++ namesE e).map strV) ∧ Below base w w' := by
  intro N
  induction N with
  | zero => intro e w gs base b o v l hN; have := nodesE_pos e; omega
  | succ N ih =>
    intro e w gs base b o v l hN he hb hgb hbw hl ho
    obtain ⟨k0, k1, k2, k3, hnl, A, cap, k4, hkl, hkv⟩ := he.out
    have hnod : nodesL e.kids ≤ N ∧ l.length + nodesL e.kids + 1 ≤ 1000 := by cases e; rw [nodesE] at hN hl; simp only [Expr.kids]; omega
    obtain ⟨k, x, y, nm, kids⟩ := e
    simp only [Expr.kind, Expr.a, Expr.b, Expr.name, Expr.kids] at k0 k1 k2 k3 k4 hnl hkl hkv hnod
    have hnames : namesE (.mk k x y nm kids) = if k = 10 then [nm] else namesL kids := by rw [namesE]
    have zb : b < w.heap.size := by omega
    clear he hN hl k1 k2
    obtain ⟨A0, cap0, hv⟩ := own_slice ho
    replace ho := Lib.hid ho
    replace ih := Lib.hid ih
    by_cases hk : k = 10
    · subst hk
      rw [if_pos rfl] at hnames
      replace hnames := Lib.hid hnames
      have hnew := Lib.hid (show ∀ u ∈ (#[strV nm] : Array Value).toList, u.oneCell' = true from fun u hu => by simp at hu; subst hu; rfl)
      clear hv
      go_enter Try.func46, Try.ntmps46
      go_wp2_with (at_builtin; refine wpList_append_lit el_str rfl (.tmp 11) (.tmp 16) rfl base v l.length (l.map strV) ho.out #[strV nm] 9 rfl rfl rfl hnew.out (by simp only [maxLen]; omega) (by omega) hbw ?_; intro v' w5 hown5 hb5 hs5)
      go_ret
      refine ⟨_, rfl, ?_, hb5⟩
      rw [hnames.out]
      exact hown5
    · rw [if_neg hk] at hnames
      have gk : (k == 10) = false := by simpa using hk
      clear hk
      replace hnames := Lib.hid hnames
      replace hkv := Lib.hid hkv
      have k4' := Lib.hid k4
      go_enter Try.func46, Try.ntmps46
      go_wp2
      clear k4 k0 k3 gk hv
      go_loopg [1, 23] kids.length (fun m vv kv wr => ∃ j : Nat, j ≤ kids.length ∧ m = kids.length - j ∧ kv = .int .i64 j ∧ Hid (wr.ownsRow base 9 1 vv (l ++ namesL (kids.take j)).length ((l ++ namesL (kids.take j)).map strV)) ∧ Below base w wr)
      case atStart => exact ⟨0, by omega, rfl, rfl, by rw [List.take_zero, namesL, List.append_nil]; exact ho, Below.refl _ _⟩
      case round =>
        obtain ⟨j, hj, hm, rfl, hor, hbr⟩ := hrel
        replace hm := Lib.hid hm
        have zr := hbr.size
        have c4 : wr.cell? ⟨b, o + 4, none⟩ = some (.slice A kids.length cap) := (hbr.cell (p := ⟨b, _, none⟩) (show b < base by omega)).trans k4'.out
        by_cases hlt : j < kids.length
        · obtain ⟨e1, hx⟩ : ∃ d, kids[j]? = some d := ⟨_, List.getElem?_eq_getElem hlt⟩
          obtain ⟨kb, ko, rfl, hkb, hke⟩ := hkv.out.at' hx
          have hroom := namesL_room hx
          have htake := Lib.hid (namesL_take hx)
          have hcall := Lib.hid (ih.out e1 wr gs base kb (ko + j * 5) _ (l ++ namesL (kids.take j)) (by have := nodesE_kid hx; omega) (hke.below hbr (by omega) (Nat.le_refl _) (by omega)) hkb hgb (by omega) (by rw [List.length_append]; omega) hor.out)
          clear hx hke hroom
          go_wp2_with (go_at_call 46; refine hcall.out.mono ?_; rintro e w5 ⟨v5, rfl, ho5, hb5⟩)
          go_roundg (kids.length - (j + 1))
          case measure => rw [hm.out]; omega
          case rel => exact ⟨j + 1, by omega, rfl, by go_num, by rw [htake.out, ← List.append_assoc]; exact ho5, hbr.trans hb5⟩
        · obtain rfl : j = kids.length := by omega
          go_wp2
          go_ret
          exact ⟨_, rfl, by rw [hnames.out]; simpa using hor.out, hbr⟩

end Ru
end Go.Proofs.Ytijhaiificflhaa
