/- The document's walk over tokens: (*slotref4.Walk).guard, and the small arms of Thing. The document's walk over tokens: the small arms of (*slotref4.Walk).Thing. The document's walk over tokens: the arms of (*slotref4.Walk).Thing for spans and dates. The document's walk over tokens: the arm of (*slotref4.Walk).Thing for days of the week. The document's walk over tokens: (*slotref4.Walk).Thing whole, and Sum at the top. -/
import Derived.Test.YtfhedopfjgjffaaWks
import Derived.StringKeys
namespace Go.Proofs.Ytfhedopfjgjffaa
open Go.RowKit
namespace Ru
open Lx
open Sl (strV Reads)

attribute [local go_sem] bytes_list
abbrev zeroE : Array Value := #[.int .i64 0, .int .i64 0, .int .i64 0, strV [], .slice none 0 0]
/-- a block that a result is stored in -/
theorem fin_cells {w5 : World} {g : Nat} {a0 a1 a2 a3 a4 b0 b1 b2 b3 b4 : Value} (h : Blk w5 g 38 #[b0, b1, b2, b3, b4]) : Blk (((((w5.setCell ⟨g, 0, none⟩ a0).setCell ⟨g, 1, none⟩ a1).setCell ⟨g, 2, none⟩ a2).setCell ⟨g, 3, none⟩ a3).setCell ⟨g, 4, none⟩ a4) g 38 #[a0, a1, a2, a3, a4] := ((((h.set 0 a0).set 1 a1).set 2 a2).set 3 a3).set 4 a4

set_option maxRecDepth 100000 in
set_option maxHeartbeats 8000000 in
theorem Rguard_any (deep : Int) (hd0 : 0 ≤ deep) (hd1 : deep ≤ 1000) (l : List Tok) (en : Int) (hl : l.length ≤ 1000000) (fa : St → Expr × St) (hon : OnF l fa) (hfa : SubS 74 (deep + 1) l en fa) (k a b : Int) (hk0 : 0 ≤ k) (hk1 : k ≤ 10) (s : St) (w : World) (B pb : Nat) (tv : Value) (h : WkAt w B pb tv l en s) (hin : Inb l s) :
    Calls Try.prog 126 #[.pointer (some ⟨pb, 0, none⟩), .agg #[.int .i64 k, .int .i64 a, .int .i64 b, strV [], .slice none 0 0], .int .i64 deep] w (WkPost (guardS l en fa k a b s) w B pb tv l en) := by
  have hlt := h.lt
  have hbA := ((Below.refl w.heap.size w).alloc (Nat.le_refl _) (.cells #[.int .i64 k, .int .i64 a, .int .i64 b, strV [], .slice none 0 0] 38)).alloc (by simp) (.cells zeroE 38)
  have hA := h.below hbA (Nat.le_refl _)
  have E0 := (Blk.new w 38 #[.int .i64 k, .int .i64 a, .int .i64 b, strV [], .slice none 0 0]).alloc (.cells zeroE 38)
  have R0 : Blk ((w.alloc (.cells #[.int .i64 k, .int .i64 a, .int .i64 b, strV [], .slice none 0 0] 38)).alloc (.cells zeroE 38)) (w.heap.size + 1) 38 zeroE := by simpa using Blk.new (w.alloc (.cells #[.int .i64 k, .int .i64 a, .int .i64 b, strV [], .slice none 0 0] 38)) 38 zeroE
  have hNd := Lib.hid (Rneed_any l en s [58] _ B pb tv hA hl)
  have hin1 := (need_onS (en := en) (t := [58]) hin).inb
  obtain ⟨s1, hs1⟩ : ∃ s1, needS l en [58] s = s1 := ⟨_, rfl⟩
  unfold guardS
  rw [hs1] at hNd hin1 ⊢
  have hF := Lib.hid (fun (W : World) (hW : WkAt W B pb tv l en s1) => hfa s1 W B pb tv hW hin1)
  have hin2 := (hon s1 hin1).inb
  obtain ⟨⟨e2, s2⟩, hR⟩ : ∃ r, fa s1 = r := ⟨_, rfl⟩
  rw [hR] at hF hin2 ⊢
  show Calls _ _ _ _ (WkPost (if goodS s2 = true then (.mk k a b [] [e2], madeS l en s2) else (.mk k a b [] [], s2)) w B pb tv l en)
  obtain ⟨R, hRR⟩ : ∃ R, R = (if goodS s2 = true then (Expr.mk k a b [] [e2], madeS l en s2) else (.mk k a b [] [], s2)) := ⟨_, rfl⟩
  rw [← hRR]
  replace hRR := Lib.hid hRR
  clear hs1 hR hA
  go_enter Try.func126, Try.ntmps126
  go_wp2_with fail
  refine hNd.out.mono ?_
  rintro e w1 ⟨rfl, hg1, h1⟩
  have z1 := hg1.size
  simp at z1
  have E1 := hg1.blk E0 (by omega)
  have R1 := hg1.blk R0 (by omega)
  have gw1 := grown_grown (grown_of _ hbA) hg1
  go_wp2_with fail
  refine (hF.out _ h1).mono ?_
  rintro e w2 ⟨hg2, A2, cap2, rfl, hE2, h2⟩
  unfold exprA
  replace hE2 : ExprOk w2 (Nw w1.heap.size w2) e2 A2 := hE2
  replace h2 : WkAt w2 B pb tv l en s2 := h2
  have z2 := hg2.size
  have hb3 := (Below.refl w2.heap.size w2).alloc (Nat.le_refl _) (.cells #[.int .i64 e2.kind, .int .i64 e2.a, .int .i64 e2.b, strV e2.name, .slice A2 e2.kids.length cap2] 38)
  have h3 := h2.below hb3 (Nat.le_refl _)
  have g3 := grown_below (grown_grown gw1 hg2) hb3
  have E3 := (hg2.blk E1 (by omega)).below hb3 (by omega)
  have R3 := (hg2.blk R1 (by omega)).below hb3 (by omega)
  have F3 := Blk.new w2 38 #[.int .i64 e2.kind, .int .i64 e2.a, .int .i64 e2.b, strV e2.name, .slice A2 e2.kids.length cap2]
  obtain ⟨W3, hW3⟩ : ∃ W3, W3 = w2.alloc (.cells #[.int .i64 e2.kind, .int .i64 e2.a, .int .i64 e2.b, strV e2.name, .slice A2 e2.kids.length cap2] 38) := ⟨_, rfl⟩
  have zW3 : w2.heap.size + 1 ≤ W3.heap.size ∧ W3.heap.size ≤ w2.heap.size + 1 := by rw [hW3]; simp
  replace hE2 := hE2.keep (w' := w2.alloc (.cells #[.int .i64 e2.kind, .int .i64 e2.a, .int .i64 e2.b, strV e2.name, .slice A2 e2.kids.length cap2] 38)) (S' := fun k => w1.heap.size ≤ k ∧ k < w2.heap.size) (fun k hk => ⟨hb3.block k hk.2, hk⟩)
  go_wp2_with fail
  rw [← hW3] at h3 g3 E3 R3 F3 hE2 ⊢
  clear hW3 hb3 R1 E1 R0 E0 hg1 hg2 h1 h2 hNd hF gw1
  refine (Rgood_any l en s2 _ B pb tv h3).mono ?_
  rintro e w4 ⟨rfl, hw4⟩
  subst w4
  obtain ⟨⟨x0, x1, x2, x3, x4⟩, y0, y1, y2, y3, y4⟩ := set_cells5 E3
  obtain ⟨⟨r0, r1, r2, r3, r4⟩, q0, q1, q2, q3, q4⟩ := set_cells5 R3
  cases hgd : goodS s2 with
  | false =>
    have hR2 := hRR.out
    rw [hgd, if_neg (by decide)] at hR2
    subst hR2
    go_wp2_with fail
    obtain ⟨⟨e0', e1', e2', e3', e4'⟩, _⟩ := set_cells5 (fin_cells (a0 := .int .i64 k) (a1 := .int .i64 a) (a2 := .int .i64 b) (a3 := strV []) (a4 := .slice none 0 0) R3)
    exact bodyPost_ret (v := exprA (.mk k a b [] []) none 0) (by simp [results, Try.results126, e0', e1', e2', e3', e4', go_sem, exprA, Expr.kind, Expr.a, Expr.b, Expr.name, Expr.kids]) rfl (finS (R := (.mk k a b [] [], s2)) (S := fun _ => False) hlt (by omega) h3 g3 (.leaf (by show 0 ≤ _; omega) hk0 hk1) (fun k hk => hk.elim) _ _ _ _ _)
  | true =>
    have hR2 := hRR.out
    rw [hgd, if_pos rfl] at hR2
    subst hR2
    have n3 := hin2.nd hgd
    have hin2' := hin2
    obtain ⟨⟨t0, t1, t2, t3, t4⟩, _⟩ := set_cells5 F3
    have hbW : Below W3.heap.size W3 (W3.alloc (.cells #[.int .i64 e2.kind, .int .i64 e2.a, .int .i64 e2.b, strV e2.name, .slice A2 e2.kids.length cap2] 38)) := (Below.refl _ _).alloc (Nat.le_refl _) _
    have h4 := h3.below hbW (Nat.le_refl _)
    have g4 := grown_below g3 hbW
    have O := hE2.one (cap := cap2) (k := k) (x := a) (y := b) hk0 hk1 (S' := fun k => w1.heap.size ≤ k ∧ k < W3.heap.size + 1 ∧ k ≠ w.heap.size ∧ k ≠ w.heap.size + 1) (fun k hk => ⟨by have := hk.2; omega, hk.1, by have := hk.2; omega, by have := hk.1; omega, by have := hk.1; omega⟩) ⟨by omega, by omega, by omega, by omega⟩ 38
    have E4 := E3.alloc (.cells #[.int .i64 e2.kind, .int .i64 e2.a, .int .i64 e2.b, strV e2.name, .slice A2 e2.kids.length cap2] 38)
    have R4 := R3.alloc (.cells #[.int .i64 e2.kind, .int .i64 e2.a, .int .i64 e2.b, strV e2.name, .slice A2 e2.kids.length cap2] 38)
    have E5 := E4.set 4 (.slice (some ⟨W3.heap.size, 0, none⟩) 1 1)
    have R5 := R4.far (p := ⟨w.heap.size, 4, none⟩) (by show w.heap.size + 1 ≠ w.heap.size; omega) (.slice (some ⟨W3.heap.size, 0, none⟩) 1 1)
    have h5 := h4.far hlt 4 (.slice (some ⟨W3.heap.size, 0, none⟩) 1 1)
    have g5 := g4.far (Nat.le_refl _) 4 (.slice (some ⟨W3.heap.size, 0, none⟩) 1 1)
    obtain ⟨⟨u0, u1, u2, u3, u4⟩, _⟩ := set_cells5 (a0 := .int .i64 k) (a1 := .int .i64 a) (a2 := .int .i64 b) (a3 := strV []) (a4 := .slice (some ⟨W3.heap.size, 0, none⟩) 1 1) E5
    go_wp2_with fail
    obtain ⟨W5, hW5⟩ : ∃ W5, W5 = (W3.alloc (.cells #[.int .i64 e2.kind, .int .i64 e2.a, .int .i64 e2.b, strV e2.name, .slice A2 e2.kids.length cap2] 38)).setCell ⟨w.heap.size, 4, none⟩ (.slice (some ⟨W3.heap.size, 0, none⟩) 1 1) := ⟨_, rfl⟩
    have zW5 : W3.heap.size + 1 ≤ W5.heap.size ∧ W5.heap.size ≤ W3.heap.size + 1 := by rw [hW5]; simp
    have O5 : ExprOk W5 (fun k => w1.heap.size ≤ k ∧ k < W3.heap.size + 1 ∧ k ≠ w.heap.size ∧ k ≠ w.heap.size + 1) (.mk k a b [] [e2]) (some ⟨W3.heap.size, 0, none⟩) := by
      rw [hW5]
      exact O.keep fun k hk => ⟨Below.heap_setCell _ ⟨w.heap.size, 4, none⟩ _ k hk.2.2.1, hk⟩
    rw [← hW5] at h5 g5 R5 ⊢
    refine (Rmade_any l en s2 k a b [] (some ⟨W3.heap.size, 0, none⟩) 1 1 W5 B pb tv h5 n3).mono ?_
    rintro e w6 ⟨rfl, hg6, h6⟩
    have z6 := hg6.size
    have R6 := hg6.blk R5 (by omega)
    obtain ⟨⟨r0, r1, r2, r3, r4⟩, q0, q1, q2, q3, q4⟩ := set_cells5 R6
    have O6 := O5.grown (S' := fun k => w1.heap.size ≤ k ∧ k < W3.heap.size + 1 ∧ k ≠ w.heap.size ∧ k ≠ w.heap.size + 1) hg6 (fun k hk => ⟨by have := hk.2.1; omega, by have := hk.1; omega, hk⟩)
    go_wp2_with fail
    obtain ⟨⟨e0', e1', e2', e3', e4'⟩, _⟩ := set_cells5 (fin_cells (a0 := .int .i64 k) (a1 := .int .i64 a) (a2 := .int .i64 b) (a3 := strV []) (a4 := .slice (some ⟨W3.heap.size, 0, none⟩) 1 1) R6)
    exact bodyPost_ret (v := exprA (.mk k a b [] [e2]) (some ⟨W3.heap.size, 0, none⟩) 1) (by simp [results, Try.results126, e0', e1', e2', e3', e4', go_sem, exprA, Expr.kind, Expr.a, Expr.b, Expr.name, Expr.kids]) rfl (finS (R := (.mk k a b [] [e2], madeS l en s2)) hlt (by omega) h6 (grown_grown g5 hg6) O6 (fun k hk => ⟨by have := hk.1; omega, hk.2.2.2, by have := hk.2.1; omega⟩) _ _ _ _ _)

end Ru
end Go.Proofs.Ytfhedopfjgjffaa

namespace Go.Proofs.Ytfhedopfjgjffaa
open Go.RowKit
namespace Ru
open Lx
open Sl (strV Reads)

attribute [local go_sem] bytes_list
@[go_sem] theorem expr_zero_P (w : World) : (Instr.build 38 #[]).run Try.prog w = .ok (.agg zeroE) w := by kernel_rfl

set_option maxRecDepth 100000 in
set_option maxHeartbeats 8000000 in
theorem Rthing_never (deep : Int) (hd1 : deep ≤ 40) (l : List Tok) (en : Int) (hl : l.length ≤ 1000000) (s : St) (w : World) (B pb : Nat) (tv : Value) (h : WkAt w B pb tv l en s) (hin : Inb l s) (hgd : goodS s = true) (tn ta : Int) (ht : nextS l en s = (2, tn, ta, [110, 101, 118, 101, 114])) :
    Calls Try.prog 105 #[.pointer (some ⟨pb, 0, none⟩), .int .i64 deep] w (WkPost (.mk 1 0 0 [] [], madeS l en (incS s)) w B pb tv l en) := by
  have hlt := h.lt
  have hbA := (Below.refl w.heap.size w).alloc (Nat.le_refl _) (.cells zeroE 38)
  have hA := h.below hbA (Nat.le_refl _)
  have R0 := Blk.new w 38 zeroE
  have gdp : decide ((40 : Int) < deep) = false := by simp; omega
  have hG := Lib.hid (Rgood_any l en s _ B pb tv hA)
  rw [hgd] at hG
  have hNx := Lib.hid (Rnext_any l en s _ B pb tv hA)
  rw [ht] at hNx
  unfold tokA at hNx
  have hon : onS l en 3 [40] s = false := by unfold onS; rw [ht, hgd]; rfl
  have hO := Lib.hid (fun W (hW : WkAt W B pb tv l en s) => Ron_any l en s 3 [40] W B pb tv hW)
  rw [hon] at hO
  go_enter Try.func105, Try.ntmps105
  go_wp2_with fail
  refine hG.out.mono ?_
  rintro e w1 ⟨rfl, hw1⟩
  subst w1
  go_wp2_with fail
  refine hNx.out.mono ?_
  rintro e w2 ⟨rfl, hb2⟩
  have z2 := hb2.size
  simp at z2
  have hb3 := (Below.refl w2.heap.size w2).alloc (Nat.le_refl _) (.cells #[.int .i64 2, .int .i64 tn, .int .i64 ta, strV [110, 101, 118, 101, 114]] 75)
  have hbw3 := (hbA.trans (hb2.mono (by simp))).trans (hb3.mono (by omega))
  have h3 := h.below hbw3 (Nat.le_refl _)
  have T3 := Blk.new w2 75 (tokB (2, tn, ta, [110, 101, 118, 101, 114]))
  have R3 := (R0.below hb2 (by simp)).below hb3 (by omega)
  obtain ⟨⟨k0, k1, k2, k3⟩, m0, m1, m2, m3⟩ := tok_cells T3
  go_wp2_with fail
  refine (hO.out _ h3).mono ?_
  rintro e w4 ⟨rfl, hb4⟩
  have hb := hbw3.trans (hb4.mono hbw3.size)
  have h4 := h3.below hb4 (Nat.le_refl _)
  have T4 := T3.below hb4 (by simp)
  have R4 := R3.below hb4 (by simp; omega)
  have z4 := hb4.size
  simp at z4
  have gw4 : w.grownBy w4 (some pb) := grown_of _ hb
  clear hb4 hb3 hbw3 h3 T3 R3 R0 hA hbA hG hNx hO hb2 k0 k1 k2 k3 m0 m1 m2 m3
  have c1 : w4.cell? ⟨pb, 1, none⟩ = some (.int .i64 s.i) := Blk.cell h4.blk 1
  have f1 : w4.frozen? ⟨pb, 1, none⟩ = false := Blk.frozen h4.blk 1
  obtain ⟨⟨k0, k1, k2, k3⟩, _⟩ := tok_cells T4
  have hi : s.i < l.length := next_lt (k := 2) (by decide) (by rw [ht])
  have st := h4.step hi
  have n4 : (incS s).nd ≤ 600 := hin.nd hgd
  go_wp2_with fail
  refine (Rmade_any l en (incS s) 1 0 0 [] none 0 0 _ B pb tv st.1 n4).mono ?_
  rintro e w5 ⟨rfl, hg5, h5⟩
  have g5 := grown_grown st.2 hg5
  have R5 := g5.blk R4 (by omega)
  have gw5 := grown_grown gw4 g5
  obtain ⟨⟨r0, r1, r2, r3, r4⟩, q0, q1, q2, q3, q4⟩ := set_cells5 R5
  go_wp2_with fail
  obtain ⟨⟨e0', e1', e2', e3', e4'⟩, _⟩ := set_cells5 (fin_cells (a0 := .int .i64 1) (a1 := .int .i64 0) (a2 := .int .i64 0) (a3 := strV []) (a4 := .slice none 0 0) R5)
  exact bodyPost_ret (v := exprA (.mk 1 0 0 [] []) none 0) (by simp [results, Try.results105, e0', e1', e2', e3', e4', go_sem, exprA, Expr.kind, Expr.a, Expr.b, Expr.name, Expr.kids]) rfl (finS (R := (.mk 1 0 0 [] [], madeS l en (incS s))) (S := fun _ => False) hlt (by omega) h5 gw5 (.leaf (by show 0 ≤ _; omega) (by decide) (by decide)) (fun k hk => hk.elim) _ _ _ _ _)

set_option maxRecDepth 100000 in
set_option maxHeartbeats 8000000 in
theorem Rthing_always (deep : Int) (hd1 : deep ≤ 40) (l : List Tok) (en : Int) (hl : l.length ≤ 1000000) (s : St) (w : World) (B pb : Nat) (tv : Value) (h : WkAt w B pb tv l en s) (hin : Inb l s) (hgd : goodS s = true) (tn ta : Int) (ht : nextS l en s = (2, tn, ta, [97, 108, 119, 97, 121, 115])) :
    Calls Try.prog 105 #[.pointer (some ⟨pb, 0, none⟩), .int .i64 deep] w (WkPost (.mk 2 0 0 [] [], madeS l en (incS s)) w B pb tv l en) := by
  have hlt := h.lt
  have hbA := (Below.refl w.heap.size w).alloc (Nat.le_refl _) (.cells zeroE 38)
  have hA := h.below hbA (Nat.le_refl _)
  have R0 := Blk.new w 38 zeroE
  have gdp : decide ((40 : Int) < deep) = false := by simp; omega
  have hG := Lib.hid (Rgood_any l en s _ B pb tv hA)
  rw [hgd] at hG
  have hNx := Lib.hid (Rnext_any l en s _ B pb tv hA)
  rw [ht] at hNx
  unfold tokA at hNx
  have hon : onS l en 3 [40] s = false := by unfold onS; rw [ht, hgd]; rfl
  have hO := Lib.hid (fun W (hW : WkAt W B pb tv l en s) => Ron_any l en s 3 [40] W B pb tv hW)
  rw [hon] at hO
  go_enter Try.func105, Try.ntmps105
  go_wp2_with fail
  refine hG.out.mono ?_
  rintro e w1 ⟨rfl, hw1⟩
  subst w1
  go_wp2_with fail
  refine hNx.out.mono ?_
  rintro e w2 ⟨rfl, hb2⟩
  have z2 := hb2.size
  simp at z2
  have hb3 := (Below.refl w2.heap.size w2).alloc (Nat.le_refl _) (.cells #[.int .i64 2, .int .i64 tn, .int .i64 ta, strV [97, 108, 119, 97, 121, 115]] 75)
  have hbw3 := (hbA.trans (hb2.mono (by simp))).trans (hb3.mono (by omega))
  have h3 := h.below hbw3 (Nat.le_refl _)
  have T3 := Blk.new w2 75 (tokB (2, tn, ta, [97, 108, 119, 97, 121, 115]))
  have R3 := (R0.below hb2 (by simp)).below hb3 (by omega)
  obtain ⟨⟨k0, k1, k2, k3⟩, m0, m1, m2, m3⟩ := tok_cells T3
  go_wp2_with fail
  refine (hO.out _ h3).mono ?_
  rintro e w4 ⟨rfl, hb4⟩
  have hb := hbw3.trans (hb4.mono hbw3.size)
  have h4 := h3.below hb4 (Nat.le_refl _)
  have T4 := T3.below hb4 (by simp)
  have R4 := R3.below hb4 (by simp; omega)
  have z4 := hb4.size
  simp at z4
  have gw4 : w.grownBy w4 (some pb) := grown_of _ hb
  clear hb4 hb3 hbw3 h3 T3 R3 R0 hA hbA hG hNx hO hb2 k0 k1 k2 k3 m0 m1 m2 m3
  have c1 : w4.cell? ⟨pb, 1, none⟩ = some (.int .i64 s.i) := Blk.cell h4.blk 1
  have f1 : w4.frozen? ⟨pb, 1, none⟩ = false := Blk.frozen h4.blk 1
  obtain ⟨⟨k0, k1, k2, k3⟩, _⟩ := tok_cells T4
  have hi : s.i < l.length := next_lt (k := 2) (by decide) (by rw [ht])
  have st := h4.step hi
  have n4 : (incS s).nd ≤ 600 := hin.nd hgd
  go_wp2_with fail
  refine (Rmade_any l en (incS s) 2 0 0 [] none 0 0 _ B pb tv st.1 n4).mono ?_
  rintro e w5 ⟨rfl, hg5, h5⟩
  have g5 := grown_grown st.2 hg5
  have R5 := g5.blk R4 (by omega)
  have gw5 := grown_grown gw4 g5
  obtain ⟨⟨r0, r1, r2, r3, r4⟩, q0, q1, q2, q3, q4⟩ := set_cells5 R5
  go_wp2_with fail
  obtain ⟨⟨e0', e1', e2', e3', e4'⟩, _⟩ := set_cells5 (fin_cells (a0 := .int .i64 2) (a1 := .int .i64 0) (a2 := .int .i64 0) (a3 := strV []) (a4 := .slice none 0 0) R5)
  exact bodyPost_ret (v := exprA (.mk 2 0 0 [] []) none 0) (by simp [results, Try.results105, e0', e1', e2', e3', e4', go_sem, exprA, Expr.kind, Expr.a, Expr.b, Expr.name, Expr.kids]) rfl (finS (R := (.mk 2 0 0 [] [], madeS l en (incS s))) (S := fun _ => False) hlt (by omega) h5 gw5 (.leaf (by show 0 ≤ _; omega) (by decide) (by decide)) (fun k hk => hk.elim) _ _ _ _ _)

set_option maxRecDepth 100000 in
set_option maxHeartbeats 8000000 in
theorem Rthing_name (deep : Int) (hd1 : deep ≤ 40) (l : List Tok) (en : Int) (hl : l.length ≤ 1000000) (s : St) (w : World) (B pb : Nat) (tv : Value) (h : WkAt w B pb tv l en s) (hin : Inb l s) (hgd : goodS s = true) (tn ta : Int) (tt : List UInt8) (ht : nextS l en s = (1, tn, ta, tt)) (hnm : tt.length ≤ 9223372036854775807) :
    Calls Try.prog 105 #[.pointer (some ⟨pb, 0, none⟩), .int .i64 deep] w (WkPost (.mk 10 0 0 tt [], madeS l en (incS s)) w B pb tv l en) := by
  have hlt := h.lt
  have hbA := (Below.refl w.heap.size w).alloc (Nat.le_refl _) (.cells zeroE 38)
  have hA := h.below hbA (Nat.le_refl _)
  have R0 := Blk.new w 38 zeroE
  have gdp : decide ((40 : Int) < deep) = false := by simp; omega
  have hG := Lib.hid (Rgood_any l en s _ B pb tv hA)
  rw [hgd] at hG
  have hNx := Lib.hid (Rnext_any l en s _ B pb tv hA)
  rw [ht] at hNx
  unfold tokA at hNx
  have hon : onS l en 3 [40] s = false := by unfold onS; rw [ht, hgd]; rfl
  have hO := Lib.hid (fun W (hW : WkAt W B pb tv l en s) => Ron_any l en s 3 [40] W B pb tv hW)
  rw [hon] at hO
  go_enter Try.func105, Try.ntmps105
  go_wp2_with fail
  refine hG.out.mono ?_
  rintro e w1 ⟨rfl, hw1⟩
  subst w1
  go_wp2_with fail
  refine hNx.out.mono ?_
  rintro e w2 ⟨rfl, hb2⟩
  have z2 := hb2.size
  simp at z2
  have hb3 := (Below.refl w2.heap.size w2).alloc (Nat.le_refl _) (.cells #[.int .i64 1, .int .i64 tn, .int .i64 ta, strV tt] 75)
  have hbw3 := (hbA.trans (hb2.mono (by simp))).trans (hb3.mono (by omega))
  have h3 := h.below hbw3 (Nat.le_refl _)
  have T3 := Blk.new w2 75 (tokB (1, tn, ta, tt))
  have R3 := (R0.below hb2 (by simp)).below hb3 (by omega)
  obtain ⟨⟨k0, k1, k2, k3⟩, m0, m1, m2, m3⟩ := tok_cells T3
  go_wp2_with fail
  refine (hO.out _ h3).mono ?_
  rintro e w4 ⟨rfl, hb4⟩
  have hb := hbw3.trans (hb4.mono hbw3.size)
  have h4 := h3.below hb4 (Nat.le_refl _)
  have T4 := T3.below hb4 (by simp)
  have R4 := R3.below hb4 (by simp; omega)
  have z4 := hb4.size
  simp at z4
  have gw4 : w.grownBy w4 (some pb) := grown_of _ hb
  clear hb4 hb3 hbw3 h3 T3 R3 R0 hA hbA hG hNx hO hb2 k0 k1 k2 k3 m0 m1 m2 m3
  have c1 : w4.cell? ⟨pb, 1, none⟩ = some (.int .i64 s.i) := Blk.cell h4.blk 1
  have f1 : w4.frozen? ⟨pb, 1, none⟩ = false := Blk.frozen h4.blk 1
  obtain ⟨⟨k0, k1, k2, k3⟩, _⟩ := tok_cells T4
  have hi : s.i < l.length := next_lt (k := 1) (by decide) (by rw [ht])
  have st := h4.step hi
  have n4 : (incS s).nd ≤ 600 := hin.nd hgd
  go_wp2_with fail
  refine (Rmade_any l en (incS s) 10 0 0 tt none 0 0 _ B pb tv st.1 n4).mono ?_
  rintro e w5 ⟨rfl, hg5, h5⟩
  have g5 := grown_grown st.2 hg5
  have R5 := g5.blk R4 (by omega)
  have gw5 := grown_grown gw4 g5
  obtain ⟨⟨r0, r1, r2, r3, r4⟩, q0, q1, q2, q3, q4⟩ := set_cells5 R5
  go_wp2_with fail
  obtain ⟨⟨e0', e1', e2', e3', e4'⟩, _⟩ := set_cells5 (fin_cells (a0 := .int .i64 10) (a1 := .int .i64 0) (a2 := .int .i64 0) (a3 := strV tt) (a4 := .slice none 0 0) R5)
  exact bodyPost_ret (v := exprA (.mk 10 0 0 tt []) none 0) (by simp [results, Try.results105, e0', e1', e2', e3', e4', go_sem, exprA, Expr.kind, Expr.a, Expr.b, Expr.name, Expr.kids]) rfl (finS (R := (.mk 10 0 0 tt [], madeS l en (incS s))) (S := fun _ => False) hlt (by omega) h5 gw5 (.leaf hnm (by decide) (by decide)) (fun k hk => hk.elim) _ _ _ _ _)

set_option maxRecDepth 100000 in
set_option maxHeartbeats 8000000 in
theorem Rthing_paren (deep : Int) (hd0 : 1 ≤ deep) (hd1 : deep ≤ 40) (l : List Tok) (en : Int) (hl : l.length ≤ 1000000) (ex : St → Expr × St) (hxo : OnF l ex) (hx : SumS 0 (deep + 1) l en ex) (s : St) (w : World) (B pb : Nat) (tv : Value) (h : WkAt w B pb tv l en s) (hin : Inb l s) (hgd : goodS s = true) (tn ta : Int) (ht : nextS l en s = (3, tn, ta, [40])) :
    Calls Try.prog 105 #[.pointer (some ⟨pb, 0, none⟩), .int .i64 deep] w (WkPost ((ex (incS s)).1, needS l en [41] (ex (incS s)).2) w B pb tv l en) := by
  obtain ⟨⟨e1, s1⟩, hR⟩ : ∃ r, ex (incS s) = r := ⟨_, rfl⟩
  rw [hR]
  show Calls _ _ _ _ (WkPost (e1, needS l en [41] s1) w B pb tv l en)
  have hlt := h.lt
  have hbA := (Below.refl w.heap.size w).alloc (Nat.le_refl _) (.cells zeroE 38)
  have hA := h.below hbA (Nat.le_refl _)
  have R0 := Blk.new w 38 zeroE
  have gdp : decide ((40 : Int) < deep) = false := by simp; omega
  have hG := Lib.hid (Rgood_any l en s _ B pb tv hA)
  rw [hgd] at hG
  have hNx := Lib.hid (Rnext_any l en s _ B pb tv hA)
  rw [ht] at hNx
  unfold tokA at hNx
  have hon : onS l en 3 [40] s = true := by unfold onS; rw [ht, hgd]; rfl
  have hO := Lib.hid (fun W (hW : WkAt W B pb tv l en s) => Ron_any l en s 3 [40] W B pb tv hW)
  rw [hon] at hO
  go_enter Try.func105, Try.ntmps105
  go_wp2_with fail
  refine hG.out.mono ?_
  rintro e w1 ⟨rfl, hw1⟩
  subst w1
  go_wp2_with fail
  refine hNx.out.mono ?_
  rintro e w2 ⟨rfl, hb2⟩
  have z2 := hb2.size
  simp at z2
  have hb3 := (Below.refl w2.heap.size w2).alloc (Nat.le_refl _) (.cells #[.int .i64 3, .int .i64 tn, .int .i64 ta, strV [40]] 75)
  have hbw3 := (hbA.trans (hb2.mono (by simp))).trans (hb3.mono (by omega))
  have h3 := h.below hbw3 (Nat.le_refl _)
  have T3 := Blk.new w2 75 (tokB (3, tn, ta, [40]))
  have R3 := (R0.below hb2 (by simp)).below hb3 (by omega)
  obtain ⟨⟨k0, k1, k2, k3⟩, m0, m1, m2, m3⟩ := tok_cells T3
  go_wp2_with fail
  refine (hO.out _ h3).mono ?_
  rintro e w4 ⟨rfl, hb4⟩
  have hb := hbw3.trans (hb4.mono hbw3.size)
  have h4 := h3.below hb4 (Nat.le_refl _)
  have T4 := T3.below hb4 (by simp)
  have R4 := R3.below hb4 (by simp; omega)
  have z4 := hb4.size
  simp at z4
  have gw4 : w.grownBy w4 (some pb) := grown_of _ hb
  clear hb4 hb3 hbw3 h3 T3 R3 R0 hA hbA hG hNx hO hb2 k0 k1 k2 k3 m0 m1 m2 m3
  have c1 : w4.cell? ⟨pb, 1, none⟩ = some (.int .i64 s.i) := Blk.cell h4.blk 1
  have f1 : w4.frozen? ⟨pb, 1, none⟩ = false := Blk.frozen h4.blk 1
  obtain ⟨⟨k0, k1, k2, k3⟩, _⟩ := tok_cells T4
  have hi : s.i < l.length := next_lt (k := 3) (by decide) (by rw [ht])
  have st := h4.step hi
  have hin1 := (inc_onS hin hi).inb
  have hin2 := (hxo _ hin1).inb
  have hS := Lib.hid (hx (incS s) _ B pb tv st.1 hin1)
  rw [hR] at hS hin2
  clear hR
  go_wp2_with fail
  refine hS.out.mono ?_
  rintro e w5 ⟨hg5, A, cap, rfl, hE, h5⟩
  unfold exprA
  replace hE : ExprOk w5 (Nw w4.heap.size w5) e1 A := by simpa using hE
  replace h5 : WkAt w5 B pb tv l en s1 := h5
  have z5 := hg5.size
  simp at z5
  have hb6 := (Below.refl w5.heap.size w5).alloc (Nat.le_refl _) (.cells #[.int .i64 e1.kind, .int .i64 e1.a, .int .i64 e1.b, strV e1.name, .slice A e1.kids.length cap] 38)
  have h6 := h5.below hb6 (Nat.le_refl _)
  have F6 := Blk.new w5 38 #[.int .i64 e1.kind, .int .i64 e1.a, .int .i64 e1.b, strV e1.name, .slice A e1.kids.length cap]
  have g6 := grown_below (grown_grown st.2 hg5) hb6
  have R6 := g6.blk R4 (by omega)
  have gw6 := grown_grown gw4 g6
  have E6 := hE.keep (w' := w5.alloc (.cells #[.int .i64 e1.kind, .int .i64 e1.a, .int .i64 e1.b, strV e1.name, .slice A e1.kids.length cap] 38)) (S' := fun k => w4.heap.size ≤ k ∧ k < w5.heap.size) (fun k hk => ⟨hb6.block k hk.2, hk⟩)
  go_wp2_with fail
  refine (Rneed_any l en s1 [41] _ B pb tv h6 hl).mono ?_
  rintro e w7 ⟨rfl, hg7, h7⟩
  have z7 := hg7.size
  simp at z7
  have R7 := hg7.blk R6 (by omega)
  have F7 := hg7.blk F6 (by omega)
  have E7 := E6.grown (S' := fun k => w4.heap.size ≤ k ∧ k < w5.heap.size) hg7 (fun k hk => ⟨by have := hk.2; simp; omega, by have := hk.1; omega, hk⟩)
  obtain ⟨⟨x0, x1, x2, x3, x4⟩, _⟩ := set_cells5 F7
  obtain ⟨⟨r0, r1, r2, r3, r4⟩, q0, q1, q2, q3, q4⟩ := set_cells5 R7
  go_wp2_with fail
  obtain ⟨⟨e0', e1', e2', e3', e4'⟩, _⟩ := set_cells5 (fin_cells (a0 := .int .i64 e1.kind) (a1 := .int .i64 e1.a) (a2 := .int .i64 e1.b) (a3 := strV e1.name) (a4 := .slice A e1.kids.length cap) R7)
  exact bodyPost_ret (v := exprA e1 A cap) (by simp [results, Try.results105, e0', e1', e2', e3', e4', go_sem, exprA]) rfl (finS (R := (e1, needS l en [41] s1)) hlt (by omega) h7 (grown_grown gw6 hg7) E7 (fun k hk => ⟨by have := hk.1; omega, by have := hk.1; omega, by have := hk.2; omega⟩) _ _ _ _ _)

end Ru
end Go.Proofs.Ytfhedopfjgjffaa

namespace Go.Proofs.Ytfhedopfjgjffaa
open Go.RowKit
namespace Ru
open Lx
open Sl (strV Reads)

attribute [local go_sem] bytes_list

set_option maxRecDepth 100000 in
set_option maxHeartbeats 8000000 in
theorem Rthing_spanA (deep : Int) (hd1 : deep ≤ 40) (l : List Tok) (en : Int) (hl : l.length ≤ 1000000) (s : St) (w : World) (B pb : Nat) (tv : Value) (h : WkAt w B pb tv l en s) (hin : Inb l s) (hgd : goodS s = true) (tk tn ta : Int) (tt : List UInt8) (ht : nextS l en s = (tk, tn, ta, tt)) (g2 : (tk == 2) = false) (g1 : (tk == 1) = false) (hon : onS l en 3 [40] s = false) :
    Calls Try.prog 105 #[.pointer (some ⟨pb, 0, none⟩), .int .i64 deep] w (WkPost (spanS l en s) w B pb tv l en) := by
  have hG1 := Lib.hid (fun W (hW : WkAt W B pb tv l en s) => Rget_any l en s 4 (by decide) W B pb tv hW hl)
  have on1 := get_onS (en := en) (k := 4) (by decide) hin
  obtain ⟨s1, hs1⟩ : ∃ s1, getS l en 4 s = s1 := ⟨_, rfl⟩
  have on2 := need_onS (en := en) (t := [45]) (hs1 ▸ on1).inb
  obtain ⟨s2, hs2⟩ : ∃ s2, needS l en [45] s1 = s2 := ⟨_, rfl⟩
  rw [hs2] at on2
  have on3 := get_onS (en := en) (k := 4) (by decide) on2.inb
  obtain ⟨s3, hs3⟩ : ∃ s3, getS l en 4 s2 = s3 := ⟨_, rfl⟩
  rw [hs3] at on3
  obtain ⟨tb, htb⟩ : ∃ t, nextS l en s2 = t := ⟨_, rfl⟩
  obtain ⟨bk, bn, ba, bt⟩ := tb
  have hspan : spanS l en s = if goodS (faultS (decide (bn ≤ tn)) 3 ba s3) = true then (.mk 3 tn bn [] [], madeS l en (faultS (decide (bn ≤ tn)) 3 ba s3)) else (nilE, faultS (decide (bn ≤ tn)) 3 ba s3) := by
    unfold spanS untilS
    rw [hs1, hs2, hs3, htb, ht]
  rw [hspan]
  obtain ⟨RR, hRR⟩ : ∃ r, r = if goodS (faultS (decide (bn ≤ tn)) 3 ba s3) = true then (Expr.mk 3 tn bn [] [], madeS l en (faultS (decide (bn ≤ tn)) 3 ba s3)) else (nilE, faultS (decide (bn ≤ tn)) 3 ba s3) := ⟨_, rfl⟩
  rw [← hRR]
  replace hRR := Lib.hid hRR
  clear hspan
  have hN1 := Lib.hid (fun W (hW : WkAt W B pb tv l en s1) => Rneed_any l en s1 [45] W B pb tv hW hl)
  have hG2 := Lib.hid (fun W (hW : WkAt W B pb tv l en s2) => Rget_any l en s2 4 (by decide) W B pb tv hW hl)
  rw [ht, hs1] at hG1
  rw [hs2] at hN1
  rw [htb, hs3] at hG2
  unfold tokA at hG1 hG2
  clear hs1 hs2 hs3 htb on1 on2
  have hlt := h.lt
  have hbA := (Below.refl w.heap.size w).alloc (Nat.le_refl _) (.cells zeroE 38)
  have hA := h.below hbA (Nat.le_refl _)
  have R0 := Blk.new w 38 zeroE
  have gdp : decide ((40 : Int) < deep) = false := by simp; omega
  have hG := Lib.hid (Rgood_any l en s _ B pb tv hA)
  rw [hgd] at hG
  have hNx := Lib.hid (Rnext_any l en s _ B pb tv hA)
  rw [ht] at hNx
  unfold tokA at hNx
  have hO := Lib.hid (fun W (hW : WkAt W B pb tv l en s) => Ron_any l en s 3 [40] W B pb tv hW)
  rw [hon] at hO
  go_enter Try.func105, Try.ntmps105
  go_wp2_with fail
  refine hG.out.mono ?_
  rintro e w1 ⟨rfl, hw1⟩
  subst w1
  go_wp2_with fail
  refine hNx.out.mono ?_
  rintro e w2 ⟨rfl, hb2⟩
  have z2 := hb2.size
  simp at z2
  have hb3 := (Below.refl w2.heap.size w2).alloc (Nat.le_refl _) (.cells #[.int .i64 tk, .int .i64 tn, .int .i64 ta, strV tt] 75)
  have hbw3 := (hbA.trans (hb2.mono (by simp))).trans (hb3.mono (by omega))
  have h3 := h.below hbw3 (Nat.le_refl _)
  have T3 := Blk.new w2 75 (tokB (tk, tn, ta, tt))
  have R3 := (R0.below hb2 (by simp)).below hb3 (by omega)
  obtain ⟨⟨k0, k1, k2, k3⟩, m0, m1, m2, m3⟩ := tok_cells T3
  go_wp2_with fail
  refine (hO.out _ h3).mono ?_
  rintro e w4 ⟨rfl, hb4⟩
  have hb := hbw3.trans (hb4.mono hbw3.size)
  have h4 := h3.below hb4 (Nat.le_refl _)
  have T4 := T3.below hb4 (by simp)
  have R4 := R3.below hb4 (by simp; omega)
  have z4 := hb4.size
  simp at z4
  have gw4 : w.grownBy w4 (some pb) := grown_of _ hb
  clear hb4 hb3 hbw3 h3 T3 R3 R0 hA hbA hG hNx hO hb2 k0 k1 k2 k3 m0 m1 m2 m3
  have c1 : w4.cell? ⟨pb, 1, none⟩ = some (.int .i64 s.i) := Blk.cell h4.blk 1
  have f1 : w4.frozen? ⟨pb, 1, none⟩ = false := Blk.frozen h4.blk 1
  obtain ⟨⟨k0, k1, k2, k3⟩, _⟩ := tok_cells T4
  go_wp2_with fail
  refine (hG1.out _ h4).mono ?_
  rintro e w5 ⟨rfl, hg5, h5⟩
  have z5 := hg5.size
  have hb5 := (Below.refl w5.heap.size w5).alloc (Nat.le_refl _) (.cells #[.int .i64 tk, .int .i64 tn, .int .i64 ta, strV tt] 75)
  have k5 := h5.below hb5 (Nat.le_refl _)
  have T5 := Blk.new w5 75 (tokB (tk, tn, ta, tt))
  have g5 := grown_below hg5 hb5
  have R5 := g5.blk R4 (by omega)
  have gw5 := grown_grown gw4 g5
  go_wp2_with fail
  refine (hN1.out _ k5).mono ?_
  rintro e w6 ⟨rfl, hg6, h6⟩
  have z6 := hg6.size
  simp at z6
  have T6 := hg6.blk T5 (by omega)
  have R6 := hg6.blk R5 (by omega)
  have gw6 := grown_grown gw5 hg6
  go_wp2_with fail
  refine (hG2.out _ h6).mono ?_
  rintro e w7 ⟨rfl, hg7, h7⟩
  have z7 := hg7.size
  have hb7 := (Below.refl w7.heap.size w7).alloc (Nat.le_refl _) (.cells #[.int .i64 bk, .int .i64 bn, .int .i64 ba, strV bt] 75)
  have k7 := h7.below hb7 (Nat.le_refl _)
  have T7 := Blk.new w7 75 (tokB (bk, bn, ba, bt))
  have g7 := grown_below hg7 hb7
  have R7 := g7.blk R6 (by omega)
  have T7a := g7.blk T6 (by omega)
  have gw7 := grown_grown gw6 g7
  obtain ⟨⟨a0, a1, a2, a3⟩, _⟩ := tok_cells T7a
  obtain ⟨⟨b0, b1, b2, b3⟩, _⟩ := tok_cells T7
  go_wp2_with fail
  obtain ⟨W7, hW7⟩ : ∃ W7, W7 = w7.alloc (.cells #[.int .i64 bk, .int .i64 bn, .int .i64 ba, strV bt] 75) := ⟨_, rfl⟩
  have zW7 : w7.heap.size + 1 ≤ W7.heap.size ∧ W7.heap.size ≤ w7.heap.size + 1 := by rw [hW7]; simp
  rw [← hW7] at k7 R7 gw7 a0 a1 a2 a3 b0 b1 b2 b3 ⊢
  clear hW7 g7 T7a T7 hb7 h7 gw6 R6 T6 h6 hg6 gw5 R5 g5 T5 k5 hb5 h5 hg5
  refine (Rgood_any l en s3 W7 B pb tv k7).mono ?_
  rintro e w8 ⟨rfl, hw8⟩
  subst w8
  cases hg3 : goodS s3 with
  | false =>
    have hst : faultS (decide (bn ≤ tn)) 3 ba s3 = s3 := fault_keep hg3
    have hR2 : RR = (nilE, s3) := by rw [hRR.out, hst, if_neg (by rw [hg3]; decide)]
    subst hR2
    go_wp2_with fail
    refine (Rgood_any l en s3 W7 B pb tv k7).mono ?_
    rintro e w8 ⟨rfl, hw8⟩
    subst w8
    rw [hg3]
    obtain ⟨⟨r0, r1, r2, r3, r4⟩, q0, q1, q2, q3, q4⟩ := set_cells5 R7
    go_wp2_with fail
    obtain ⟨⟨e0', e1', e2', e3', e4'⟩, _⟩ := set_cells5 (fin_cells (a0 := .int .i64 0) (a1 := .int .i64 0) (a2 := .int .i64 0) (a3 := strV []) (a4 := .slice none 0 0) R7)
    exact bodyPost_ret (v := exprA nilE none 0) (by simp [results, Try.results105, e0', e1', e2', e3', e4', go_sem, exprA, nilE, Expr.kind, Expr.a, Expr.b, Expr.name, Expr.kids]) rfl (finS (R := (nilE, s3)) (S := fun _ => False) hlt (by omega) k7 gw7 (.leaf (by show 0 ≤ _; omega) (by decide) (by decide)) (fun k hk => hk.elim) _ _ _ _ _)
  | true =>
    rcases dec (bn ≤ tn) with ⟨q, hv⟩ | ⟨q, hv⟩
    · have hst : faultS (decide (bn ≤ tn)) 3 ba s3 = stopS 3 ba s3 := by rw [fault_good hg3, if_pos q, stop_good hg3]
      have hbad : goodS (stopS 3 ba s3) = false := by rw [stop_good hg3]; rfl
      have hR2 : RR = (nilE, stopS 3 ba s3) := by rw [hRR.out, hst, if_neg (by rw [hbad]; decide)]
      subst hR2
      go_wp2_with fail
      refine (Rstop_any l en s3 3 ba W7 B pb tv k7).mono ?_
      rintro e w8 ⟨rfl, hg8, h8⟩
      have z8 := hg8.size
      have R8 := hg8.blk R7 (by omega)
      have gw8 := grown_grown gw7 hg8
      go_wp2_with fail
      refine (Rgood_any l en _ w8 B pb tv h8).mono ?_
      rintro e w9 ⟨rfl, hw9⟩
      subst w9
      rw [hbad]
      obtain ⟨⟨r0, r1, r2, r3, r4⟩, q0, q1, q2, q3, q4⟩ := set_cells5 R8
      go_wp2_with fail
      obtain ⟨⟨e0', e1', e2', e3', e4'⟩, _⟩ := set_cells5 (fin_cells (a0 := .int .i64 0) (a1 := .int .i64 0) (a2 := .int .i64 0) (a3 := strV []) (a4 := .slice none 0 0) R8)
      exact bodyPost_ret (v := exprA nilE none 0) (by simp [results, Try.results105, e0', e1', e2', e3', e4', go_sem, exprA, nilE, Expr.kind, Expr.a, Expr.b, Expr.name, Expr.kids]) rfl (finS (R := (nilE, stopS 3 ba s3)) (S := fun _ => False) hlt (by omega) h8 gw8 (.leaf (by show 0 ≤ _; omega) (by decide) (by decide)) (fun k hk => hk.elim) _ _ _ _ _)
    · have hst : faultS (decide (bn ≤ tn)) 3 ba s3 = s3 := by rw [fault_good hg3, if_neg (by rw [q]; decide)]
      have hR2 : RR = (.mk 3 tn bn [] [], madeS l en s3) := by rw [hRR.out, hst, if_pos hg3]
      subst hR2
      have n3 := on3.inb.nd hg3
      go_wp2_with fail
      refine (Rgood_any l en s3 W7 B pb tv k7).mono ?_
      rintro e w8 ⟨rfl, hw8⟩
      subst w8
      rw [hg3]
      go_wp2_with fail
      refine (Rmade_any l en s3 3 tn bn [] none 0 0 W7 B pb tv k7 n3).mono ?_
      rintro e w8 ⟨rfl, hg8, h8⟩
      have z8 := hg8.size
      have R8 := hg8.blk R7 (by omega)
      have gw8 := grown_grown gw7 hg8
      obtain ⟨⟨r0, r1, r2, r3, r4⟩, q0, q1, q2, q3, q4⟩ := set_cells5 R8
      go_wp2_with fail
      obtain ⟨⟨e0', e1', e2', e3', e4'⟩, _⟩ := set_cells5 (fin_cells (a0 := .int .i64 3) (a1 := .int .i64 tn) (a2 := .int .i64 bn) (a3 := strV []) (a4 := .slice none 0 0) R8)
      exact bodyPost_ret (v := exprA (.mk 3 tn bn [] []) none 0) (by simp [results, Try.results105, e0', e1', e2', e3', e4', go_sem, exprA, Expr.kind, Expr.a, Expr.b, Expr.name, Expr.kids]) rfl (finS (R := (.mk 3 tn bn [] [], madeS l en s3)) (S := fun _ => False) hlt (by omega) h8 gw8 (.leaf (by show 0 ≤ _; omega) (by decide) (by decide)) (fun k hk => hk.elim) _ _ _ _ _)

set_option maxRecDepth 100000 in
set_option maxHeartbeats 8000000 in
theorem Rthing_spanB (deep : Int) (hd1 : deep ≤ 40) (l : List Tok) (en : Int) (hl : l.length ≤ 1000000) (s : St) (w : World) (B pb : Nat) (tv : Value) (h : WkAt w B pb tv l en s) (hin : Inb l s) (hgd : goodS s = true) (tn ta : Int) (tt : List UInt8) (ht : nextS l en s = (2, tn, ta, tt)) (e1 : (tt == [110, 101, 118, 101, 114]) = false) (e2 : (tt == [97, 108, 119, 97, 121, 115]) = false) (e3 : (tt == [119, 101, 101, 107, 108, 121]) = false) (e4 : (tt == [100, 97, 116, 101, 115]) = false) (hon : onS l en 3 [40] s = false) :
    Calls Try.prog 105 #[.pointer (some ⟨pb, 0, none⟩), .int .i64 deep] w (WkPost (spanS l en s) w B pb tv l en) := by
  have hG1 := Lib.hid (fun W (hW : WkAt W B pb tv l en s) => Rget_any l en s 4 (by decide) W B pb tv hW hl)
  have on1 := get_onS (en := en) (k := 4) (by decide) hin
  obtain ⟨s1, hs1⟩ : ∃ s1, getS l en 4 s = s1 := ⟨_, rfl⟩
  have on2 := need_onS (en := en) (t := [45]) (hs1 ▸ on1).inb
  obtain ⟨s2, hs2⟩ : ∃ s2, needS l en [45] s1 = s2 := ⟨_, rfl⟩
  rw [hs2] at on2
  have on3 := get_onS (en := en) (k := 4) (by decide) on2.inb
  obtain ⟨s3, hs3⟩ : ∃ s3, getS l en 4 s2 = s3 := ⟨_, rfl⟩
  rw [hs3] at on3
  obtain ⟨tb, htb⟩ : ∃ t, nextS l en s2 = t := ⟨_, rfl⟩
  obtain ⟨bk, bn, ba, bt⟩ := tb
  have hspan : spanS l en s = if goodS (faultS (decide (bn ≤ tn)) 3 ba s3) = true then (.mk 3 tn bn [] [], madeS l en (faultS (decide (bn ≤ tn)) 3 ba s3)) else (nilE, faultS (decide (bn ≤ tn)) 3 ba s3) := by
    unfold spanS untilS
    rw [hs1, hs2, hs3, htb, ht]
  rw [hspan]
  obtain ⟨RR, hRR⟩ : ∃ r, r = if goodS (faultS (decide (bn ≤ tn)) 3 ba s3) = true then (Expr.mk 3 tn bn [] [], madeS l en (faultS (decide (bn ≤ tn)) 3 ba s3)) else (nilE, faultS (decide (bn ≤ tn)) 3 ba s3) := ⟨_, rfl⟩
  rw [← hRR]
  replace hRR := Lib.hid hRR
  clear hspan
  have hN1 := Lib.hid (fun W (hW : WkAt W B pb tv l en s1) => Rneed_any l en s1 [45] W B pb tv hW hl)
  have hG2 := Lib.hid (fun W (hW : WkAt W B pb tv l en s2) => Rget_any l en s2 4 (by decide) W B pb tv hW hl)
  rw [ht, hs1] at hG1
  rw [hs2] at hN1
  rw [htb, hs3] at hG2
  unfold tokA at hG1 hG2
  clear hs1 hs2 hs3 htb on1 on2
  have hlt := h.lt
  have hbA := (Below.refl w.heap.size w).alloc (Nat.le_refl _) (.cells zeroE 38)
  have hA := h.below hbA (Nat.le_refl _)
  have R0 := Blk.new w 38 zeroE
  have gdp : decide ((40 : Int) < deep) = false := by simp; omega
  have hG := Lib.hid (Rgood_any l en s _ B pb tv hA)
  rw [hgd] at hG
  have hNx := Lib.hid (Rnext_any l en s _ B pb tv hA)
  rw [ht] at hNx
  unfold tokA at hNx
  have hO := Lib.hid (fun W (hW : WkAt W B pb tv l en s) => Ron_any l en s 3 [40] W B pb tv hW)
  rw [hon] at hO
  go_enter Try.func105, Try.ntmps105
  go_wp2_with fail
  refine hG.out.mono ?_
  rintro e w1 ⟨rfl, hw1⟩
  subst w1
  go_wp2_with fail
  refine hNx.out.mono ?_
  rintro e w2 ⟨rfl, hb2⟩
  have z2 := hb2.size
  simp at z2
  have hb3 := (Below.refl w2.heap.size w2).alloc (Nat.le_refl _) (.cells #[.int .i64 2, .int .i64 tn, .int .i64 ta, strV tt] 75)
  have hbw3 := (hbA.trans (hb2.mono (by simp))).trans (hb3.mono (by omega))
  have h3 := h.below hbw3 (Nat.le_refl _)
  have T3 := Blk.new w2 75 (tokB (2, tn, ta, tt))
  have R3 := (R0.below hb2 (by simp)).below hb3 (by omega)
  obtain ⟨⟨k0, k1, k2, k3⟩, m0, m1, m2, m3⟩ := tok_cells T3
  go_wp2_with fail
  refine (hO.out _ h3).mono ?_
  rintro e w4 ⟨rfl, hb4⟩
  have hb := hbw3.trans (hb4.mono hbw3.size)
  have h4 := h3.below hb4 (Nat.le_refl _)
  have T4 := T3.below hb4 (by simp)
  have R4 := R3.below hb4 (by simp; omega)
  have z4 := hb4.size
  simp at z4
  have gw4 : w.grownBy w4 (some pb) := grown_of _ hb
  clear hb4 hb3 hbw3 h3 T3 R3 R0 hA hbA hG hNx hO hb2 k0 k1 k2 k3 m0 m1 m2 m3
  have c1 : w4.cell? ⟨pb, 1, none⟩ = some (.int .i64 s.i) := Blk.cell h4.blk 1
  have f1 : w4.frozen? ⟨pb, 1, none⟩ = false := Blk.frozen h4.blk 1
  obtain ⟨⟨k0, k1, k2, k3⟩, _⟩ := tok_cells T4
  go_wp2_with fail
  refine (hG1.out _ h4).mono ?_
  rintro e w5 ⟨rfl, hg5, h5⟩
  have z5 := hg5.size
  have hb5 := (Below.refl w5.heap.size w5).alloc (Nat.le_refl _) (.cells #[.int .i64 2, .int .i64 tn, .int .i64 ta, strV tt] 75)
  have k5 := h5.below hb5 (Nat.le_refl _)
  have T5 := Blk.new w5 75 (tokB (2, tn, ta, tt))
  have g5 := grown_below hg5 hb5
  have R5 := g5.blk R4 (by omega)
  have gw5 := grown_grown gw4 g5
  go_wp2_with fail
  refine (hN1.out _ k5).mono ?_
  rintro e w6 ⟨rfl, hg6, h6⟩
  have z6 := hg6.size
  simp at z6
  have T6 := hg6.blk T5 (by omega)
  have R6 := hg6.blk R5 (by omega)
  have gw6 := grown_grown gw5 hg6
  go_wp2_with fail
  refine (hG2.out _ h6).mono ?_
  rintro e w7 ⟨rfl, hg7, h7⟩
  have z7 := hg7.size
  have hb7 := (Below.refl w7.heap.size w7).alloc (Nat.le_refl _) (.cells #[.int .i64 bk, .int .i64 bn, .int .i64 ba, strV bt] 75)
  have k7 := h7.below hb7 (Nat.le_refl _)
  have T7 := Blk.new w7 75 (tokB (bk, bn, ba, bt))
  have g7 := grown_below hg7 hb7
  have R7 := g7.blk R6 (by omega)
  have T7a := g7.blk T6 (by omega)
  have gw7 := grown_grown gw6 g7
  obtain ⟨⟨a0, a1, a2, a3⟩, _⟩ := tok_cells T7a
  obtain ⟨⟨b0, b1, b2, b3⟩, _⟩ := tok_cells T7
  go_wp2_with fail
  obtain ⟨W7, hW7⟩ : ∃ W7, W7 = w7.alloc (.cells #[.int .i64 bk, .int .i64 bn, .int .i64 ba, strV bt] 75) := ⟨_, rfl⟩
  have zW7 : w7.heap.size + 1 ≤ W7.heap.size ∧ W7.heap.size ≤ w7.heap.size + 1 := by rw [hW7]; simp
  rw [← hW7] at k7 R7 gw7 a0 a1 a2 a3 b0 b1 b2 b3 ⊢
  clear hW7 g7 T7a T7 hb7 h7 gw6 R6 T6 h6 hg6 gw5 R5 g5 T5 k5 hb5 h5 hg5
  refine (Rgood_any l en s3 W7 B pb tv k7).mono ?_
  rintro e w8 ⟨rfl, hw8⟩
  subst w8
  cases hg3 : goodS s3 with
  | false =>
    have hst : faultS (decide (bn ≤ tn)) 3 ba s3 = s3 := fault_keep hg3
    have hR2 : RR = (nilE, s3) := by rw [hRR.out, hst, if_neg (by rw [hg3]; decide)]
    subst hR2
    go_wp2_with fail
    refine (Rgood_any l en s3 W7 B pb tv k7).mono ?_
    rintro e w8 ⟨rfl, hw8⟩
    subst w8
    rw [hg3]
    obtain ⟨⟨r0, r1, r2, r3, r4⟩, q0, q1, q2, q3, q4⟩ := set_cells5 R7
    go_wp2_with fail
    obtain ⟨⟨e0', e1', e2', e3', e4'⟩, _⟩ := set_cells5 (fin_cells (a0 := .int .i64 0) (a1 := .int .i64 0) (a2 := .int .i64 0) (a3 := strV []) (a4 := .slice none 0 0) R7)
    exact bodyPost_ret (v := exprA nilE none 0) (by simp [results, Try.results105, e0', e1', e2', e3', e4', go_sem, exprA, nilE, Expr.kind, Expr.a, Expr.b, Expr.name, Expr.kids]) rfl (finS (R := (nilE, s3)) (S := fun _ => False) hlt (by omega) k7 gw7 (.leaf (by show 0 ≤ _; omega) (by decide) (by decide)) (fun k hk => hk.elim) _ _ _ _ _)
  | true =>
    rcases dec (bn ≤ tn) with ⟨q, hv⟩ | ⟨q, hv⟩
    · have hst : faultS (decide (bn ≤ tn)) 3 ba s3 = stopS 3 ba s3 := by rw [fault_good hg3, if_pos q, stop_good hg3]
      have hbad : goodS (stopS 3 ba s3) = false := by rw [stop_good hg3]; rfl
      have hR2 : RR = (nilE, stopS 3 ba s3) := by rw [hRR.out, hst, if_neg (by rw [hbad]; decide)]
      subst hR2
      go_wp2_with fail
      refine (Rstop_any l en s3 3 ba W7 B pb tv k7).mono ?_
      rintro e w8 ⟨rfl, hg8, h8⟩
      have z8 := hg8.size
      have R8 := hg8.blk R7 (by omega)
      have gw8 := grown_grown gw7 hg8
      go_wp2_with fail
      refine (Rgood_any l en _ w8 B pb tv h8).mono ?_
      rintro e w9 ⟨rfl, hw9⟩
      subst w9
      rw [hbad]
      obtain ⟨⟨r0, r1, r2, r3, r4⟩, q0, q1, q2, q3, q4⟩ := set_cells5 R8
      go_wp2_with fail
      obtain ⟨⟨e0', e1', e2', e3', e4'⟩, _⟩ := set_cells5 (fin_cells (a0 := .int .i64 0) (a1 := .int .i64 0) (a2 := .int .i64 0) (a3 := strV []) (a4 := .slice none 0 0) R8)
      exact bodyPost_ret (v := exprA nilE none 0) (by simp [results, Try.results105, e0', e1', e2', e3', e4', go_sem, exprA, nilE, Expr.kind, Expr.a, Expr.b, Expr.name, Expr.kids]) rfl (finS (R := (nilE, stopS 3 ba s3)) (S := fun _ => False) hlt (by omega) h8 gw8 (.leaf (by show 0 ≤ _; omega) (by decide) (by decide)) (fun k hk => hk.elim) _ _ _ _ _)
    · have hst : faultS (decide (bn ≤ tn)) 3 ba s3 = s3 := by rw [fault_good hg3, if_neg (by rw [q]; decide)]
      have hR2 : RR = (.mk 3 tn bn [] [], madeS l en s3) := by rw [hRR.out, hst, if_pos hg3]
      subst hR2
      have n3 := on3.inb.nd hg3
      go_wp2_with fail
      refine (Rgood_any l en s3 W7 B pb tv k7).mono ?_
      rintro e w8 ⟨rfl, hw8⟩
      subst w8
      rw [hg3]
      go_wp2_with fail
      refine (Rmade_any l en s3 3 tn bn [] none 0 0 W7 B pb tv k7 n3).mono ?_
      rintro e w8 ⟨rfl, hg8, h8⟩
      have z8 := hg8.size
      have R8 := hg8.blk R7 (by omega)
      have gw8 := grown_grown gw7 hg8
      obtain ⟨⟨r0, r1, r2, r3, r4⟩, q0, q1, q2, q3, q4⟩ := set_cells5 R8
      go_wp2_with fail
      obtain ⟨⟨e0', e1', e2', e3', e4'⟩, _⟩ := set_cells5 (fin_cells (a0 := .int .i64 3) (a1 := .int .i64 tn) (a2 := .int .i64 bn) (a3 := strV []) (a4 := .slice none 0 0) R8)
      exact bodyPost_ret (v := exprA (.mk 3 tn bn [] []) none 0) (by simp [results, Try.results105, e0', e1', e2', e3', e4', go_sem, exprA, Expr.kind, Expr.a, Expr.b, Expr.name, Expr.kids]) rfl (finS (R := (.mk 3 tn bn [] [], madeS l en s3)) (S := fun _ => False) hlt (by omega) h8 gw8 (.leaf (by show 0 ≤ _; omega) (by decide) (by decide)) (fun k hk => hk.elim) _ _ _ _ _)

set_option maxRecDepth 100000 in
set_option maxHeartbeats 8000000 in
theorem Rthing_dates1 (deep : Int) (hd0 : 1 ≤ deep) (hd1 : deep ≤ 40) (l : List Tok) (en : Int) (hl : l.length ≤ 1000000) (fa : St → Expr × St) (hfo : OnF l fa) (hfa : SubS 74 (deep + 1) l en fa) (s : St) (w : World) (B pb : Nat) (tv : Value) (h : WkAt w B pb tv l en s) (hin : Inb l s) (hgd : goodS s = true) (tn ta : Int) (ht : nextS l en s = (2, tn, ta, [100, 97, 116, 101, 115])) (ak an aa : Int) (att : List UInt8) (hta : nextS l en (incS s) = (ak, an, aa, att)) (hdd : onS l en 3 [46, 46] (getS l en 5 (incS s)) = false) :
    Calls Try.prog 105 #[.pointer (some ⟨pb, 0, none⟩), .int .i64 deep] w (WkPost (guardS l en fa 5 an an (getS l en 5 (incS s))) w B pb tv l en) := by
  have hi : s.i < l.length := next_lt (k := 2) (by decide) (by rw [ht])
  have hin0 := (inc_onS hin hi).inb
  have hG1 := Lib.hid (fun W (hW : WkAt W B pb tv l en (incS s)) => Rget_any l en (incS s) 5 (by decide) W B pb tv hW hl)
  have on1 := get_onS (en := en) (k := 5) (by decide) hin0
  obtain ⟨s1, hs1⟩ : ∃ s1, getS l en 5 (incS s) = s1 := ⟨_, rfl⟩
  rw [hs1] at on1 hdd ⊢
  rw [hta, hs1] at hG1
  unfold tokA at hG1
  clear hs1 hta
  have hGu := Lib.hid (fun W (hW : WkAt W B pb tv l en s1) => Rguard_any deep (by omega) (by omega) l en hl fa hfo hfa 5 an an (by decide) (by decide) s1 W B pb tv hW on1.inb)
  obtain ⟨⟨e1, s9⟩, hR⟩ : ∃ r, guardS l en fa 5 an an s1 = r := ⟨_, rfl⟩
  rw [hR] at hGu ⊢
  clear hR
  have hlt := h.lt
  have hbA := (Below.refl w.heap.size w).alloc (Nat.le_refl _) (.cells zeroE 38)
  have hA := h.below hbA (Nat.le_refl _)
  have R0 := Blk.new w 38 zeroE
  have gdp : decide ((40 : Int) < deep) = false := by simp; omega
  have hG := Lib.hid (Rgood_any l en s _ B pb tv hA)
  rw [hgd] at hG
  have hNx := Lib.hid (Rnext_any l en s _ B pb tv hA)
  rw [ht] at hNx
  unfold tokA at hNx
  have hon : onS l en 3 [40] s = false := by unfold onS; rw [ht, hgd]; rfl
  have hO := Lib.hid (fun W (hW : WkAt W B pb tv l en s) => Ron_any l en s 3 [40] W B pb tv hW)
  rw [hon] at hO
  go_enter Try.func105, Try.ntmps105
  go_wp2_with fail
  refine hG.out.mono ?_
  rintro e w1 ⟨rfl, hw1⟩
  subst w1
  go_wp2_with fail
  refine hNx.out.mono ?_
  rintro e w2 ⟨rfl, hb2⟩
  have z2 := hb2.size
  simp at z2
  have hb3 := (Below.refl w2.heap.size w2).alloc (Nat.le_refl _) (.cells #[.int .i64 2, .int .i64 tn, .int .i64 ta, strV [100, 97, 116, 101, 115]] 75)
  have hbw3 := (hbA.trans (hb2.mono (by simp))).trans (hb3.mono (by omega))
  have h3 := h.below hbw3 (Nat.le_refl _)
  have T3 := Blk.new w2 75 (tokB (2, tn, ta, [100, 97, 116, 101, 115]))
  have R3 := (R0.below hb2 (by simp)).below hb3 (by omega)
  obtain ⟨⟨k0, k1, k2, k3⟩, m0, m1, m2, m3⟩ := tok_cells T3
  go_wp2_with fail
  refine (hO.out _ h3).mono ?_
  rintro e w4 ⟨rfl, hb4⟩
  have hb := hbw3.trans (hb4.mono hbw3.size)
  have h4 := h3.below hb4 (Nat.le_refl _)
  have T4 := T3.below hb4 (by simp)
  have R4 := R3.below hb4 (by simp; omega)
  have z4 := hb4.size
  simp at z4
  have gw4 : w.grownBy w4 (some pb) := grown_of _ hb
  clear hb4 hb3 hbw3 h3 T3 R3 R0 hA hbA hG hNx hO hb2 k0 k1 k2 k3 m0 m1 m2 m3
  have c1 : w4.cell? ⟨pb, 1, none⟩ = some (.int .i64 s.i) := Blk.cell h4.blk 1
  have f1 : w4.frozen? ⟨pb, 1, none⟩ = false := Blk.frozen h4.blk 1
  obtain ⟨⟨k0, k1, k2, k3⟩, _⟩ := tok_cells T4
  have st := h4.step hi
  go_wp2_with fail
  refine (hG1.out _ st.1).mono ?_
  rintro e w5 ⟨rfl, hg5, h5⟩
  have z5 := hg5.size
  have hb5 := (Below.refl w5.heap.size w5).alloc (Nat.le_refl _) (.cells #[.int .i64 ak, .int .i64 an, .int .i64 aa, strV att] 75)
  have k5 := h5.below hb5 (Nat.le_refl _)
  have T5 := Blk.new w5 75 (tokB (ak, an, aa, att))
  have g5 := grown_below hg5 hb5
  have g45 := grown_grown st.2 g5
  have R5 := g45.blk R4 (by omega)
  have gw5 := grown_grown gw4 g45
  have hbc := (Below.refl (w5.heap.size + 1) (w5.alloc (.cells #[.int .i64 ak, .int .i64 an, .int .i64 aa, strV att] 75))).alloc (by simp) (.cells #[.int .i64 ak, .int .i64 an, .int .i64 aa, strV att] 75)
  have k6 := k5.below hbc (by simp)
  have T6 := T5.alloc (.cells #[.int .i64 ak, .int .i64 an, .int .i64 aa, strV att] 75)
  have U6 : Blk ((w5.alloc (.cells #[.int .i64 ak, .int .i64 an, .int .i64 aa, strV att] 75)).alloc (.cells #[.int .i64 ak, .int .i64 an, .int .i64 aa, strV att] 75)) (w5.heap.size + 1) 75 (tokB (ak, an, aa, att)) := by simpa using Blk.new (w5.alloc (.cells #[.int .i64 ak, .int .i64 an, .int .i64 aa, strV att] 75)) 75 (tokB (ak, an, aa, att))
  have R6 := R5.alloc (.cells #[.int .i64 ak, .int .i64 an, .int .i64 aa, strV att] 75)
  have gw6 := grown_below gw5 (hbc.mono (by simp))
  obtain ⟨⟨a0, a1, a2, a3⟩, _⟩ := tok_cells T5
  have z4' : w4.heap.size ≤ w5.heap.size := by simpa using z5
  go_wp2_with fail
  obtain ⟨W6, hW6⟩ : ∃ W6, W6 = (w5.alloc (.cells #[.int .i64 ak, .int .i64 an, .int .i64 aa, strV att] 75)).alloc (.cells #[.int .i64 ak, .int .i64 an, .int .i64 aa, strV att] 75) := ⟨_, rfl⟩
  have zW6 : w5.heap.size + 2 ≤ W6.heap.size ∧ W6.heap.size ≤ w5.heap.size + 2 := by rw [hW6]; simp
  rw [← hW6] at k6 T6 U6 R6 gw6 ⊢
  clear hW6 hbc gw5 R5 g45 g5 T5 k5 hb5 h5 hg5 a0 a1 a2 a3
  have hO6 := Ron_any l en s1 3 [46, 46] W6 B pb tv k6
  rw [hdd] at hO6
  refine hO6.mono ?_
  rintro e w7 ⟨rfl, hb7⟩
  have h7 := k6.below hb7 (Nat.le_refl _)
  have z7 := hb7.size
  have T7 := T6.below hb7 (by omega)
  have U7 := U6.below hb7 (by omega)
  have R7 := R6.below hb7 (by omega)
  have gw7 := grown_below gw6 hb7
  clear hO6 hb7 gw6 R6 U6 T6 k6
  obtain ⟨⟨a0, a1, a2, a3⟩, _⟩ := tok_cells T7
  obtain ⟨⟨b0, b1, b2, b3⟩, _⟩ := tok_cells U7
  go_wp2_with fail
  refine (hGu.out _ h7).mono ?_
  rintro e w9 ⟨hg9, A, cap, rfl, hE9, h9⟩
  unfold exprA
  replace hE9 : ExprOk w9 (Nw w7.heap.size w9) e1 A := hE9
  replace h9 : WkAt w9 B pb tv l en s9 := h9
  have z9 := hg9.size
  have R9 := hg9.blk R7 (by omega)
  have gw9 := grown_grown gw7 hg9
  obtain ⟨⟨r0, r1, r2, r3, r4⟩, q0, q1, q2, q3, q4⟩ := set_cells5 R9
  go_wp2_with fail
  obtain ⟨⟨e0', e1', e2', e3', e4'⟩, _⟩ := set_cells5 (fin_cells (a0 := .int .i64 e1.kind) (a1 := .int .i64 e1.a) (a2 := .int .i64 e1.b) (a3 := strV e1.name) (a4 := .slice A e1.kids.length cap) R9)
  exact bodyPost_ret (v := exprA e1 A cap) (by simp [results, Try.results105, e0', e1', e2', e3', e4', go_sem, exprA]) rfl (finS (R := (e1, s9)) hlt (by omega) h9 gw9 hE9 (fun k hk => by have hk' : w7.heap.size ≤ k ∧ k < w9.heap.size := hk; omega) _ _ _ _ _)

set_option maxRecDepth 100000 in
set_option maxHeartbeats 8000000 in
theorem Rthing_dates2 (deep : Int) (hd0 : 1 ≤ deep) (hd1 : deep ≤ 40) (l : List Tok) (en : Int) (hl : l.length ≤ 1000000) (fa : St → Expr × St) (hfo : OnF l fa) (hfa : SubS 74 (deep + 1) l en fa) (s : St) (w : World) (B pb : Nat) (tv : Value) (h : WkAt w B pb tv l en s) (hin : Inb l s) (hgd : goodS s = true) (tn ta : Int) (ht : nextS l en s = (2, tn, ta, [100, 97, 116, 101, 115])) (ak an aa bk bn ba : Int) (att bt : List UInt8) (hta : nextS l en (incS s) = (ak, an, aa, att)) (htb : nextS l en (incS (getS l en 5 (incS s))) = (bk, bn, ba, bt)) (hdd : onS l en 3 [46, 46] (getS l en 5 (incS s)) = true) :
    Calls Try.prog 105 #[.pointer (some ⟨pb, 0, none⟩), .int .i64 deep] w (WkPost (guardS l en fa 5 an bn (faultS (decide (bn < an)) 3 ba (getS l en 5 (incS (getS l en 5 (incS s)))))) w B pb tv l en) := by
  have hi : s.i < l.length := next_lt (k := 2) (by decide) (by rw [ht])
  have hin0 := (inc_onS hin hi).inb
  have hG1 := Lib.hid (fun W (hW : WkAt W B pb tv l en (incS s)) => Rget_any l en (incS s) 5 (by decide) W B pb tv hW hl)
  have on1 := get_onS (en := en) (k := 5) (by decide) hin0
  obtain ⟨s1, hs1⟩ : ∃ s1, getS l en 5 (incS s) = s1 := ⟨_, rfl⟩
  rw [hs1] at on1 hdd htb ⊢
  rw [hta, hs1] at hG1
  unfold tokA at hG1
  clear hs1 hta
  have hi1 := (on_lt (by decide) hdd).1
  have on1' := inc_onS on1.inb hi1
  have hG2 := Lib.hid (fun W (hW : WkAt W B pb tv l en (incS s1)) => Rget_any l en (incS s1) 5 (by decide) W B pb tv hW hl)
  have on2 := get_onS (en := en) (k := 5) (by decide) on1'.inb
  obtain ⟨s2, hs2⟩ : ∃ s2, getS l en 5 (incS s1) = s2 := ⟨_, rfl⟩
  rw [hs2] at on2 ⊢
  rw [htb, hs2] at hG2
  unfold tokA at hG2
  clear hs2 htb
  have on3 := fault_onS (c := decide (bn < an)) (e := 3) (p := ba) (by decide) on2.inb
  obtain ⟨s3, hs3⟩ : ∃ s3, faultS (decide (bn < an)) 3 ba s2 = s3 := ⟨_, rfl⟩
  rw [hs3] at on3 ⊢
  replace hs3 := Lib.hid hs3
  have hGu := Lib.hid (fun W (hW : WkAt W B pb tv l en s3) => Rguard_any deep (by omega) (by omega) l en hl fa hfo hfa 5 an bn (by decide) (by decide) s3 W B pb tv hW on3.inb)
  obtain ⟨⟨e1, s9⟩, hR⟩ : ∃ r, guardS l en fa 5 an bn s3 = r := ⟨_, rfl⟩
  rw [hR] at hGu ⊢
  clear hR
  have hlt := h.lt
  have hbA := (Below.refl w.heap.size w).alloc (Nat.le_refl _) (.cells zeroE 38)
  have hA := h.below hbA (Nat.le_refl _)
  have R0 := Blk.new w 38 zeroE
  have gdp : decide ((40 : Int) < deep) = false := by simp; omega
  have hG := Lib.hid (Rgood_any l en s _ B pb tv hA)
  rw [hgd] at hG
  have hNx := Lib.hid (Rnext_any l en s _ B pb tv hA)
  rw [ht] at hNx
  unfold tokA at hNx
  have hon : onS l en 3 [40] s = false := by unfold onS; rw [ht, hgd]; rfl
  have hO := Lib.hid (fun W (hW : WkAt W B pb tv l en s) => Ron_any l en s 3 [40] W B pb tv hW)
  rw [hon] at hO
  go_enter Try.func105, Try.ntmps105
  go_wp2_with fail
  refine hG.out.mono ?_
  rintro e w1 ⟨rfl, hw1⟩
  subst w1
  go_wp2_with fail
  refine hNx.out.mono ?_
  rintro e w2 ⟨rfl, hb2⟩
  have z2 := hb2.size
  simp at z2
  have hb3 := (Below.refl w2.heap.size w2).alloc (Nat.le_refl _) (.cells #[.int .i64 2, .int .i64 tn, .int .i64 ta, strV [100, 97, 116, 101, 115]] 75)
  have hbw3 := (hbA.trans (hb2.mono (by simp))).trans (hb3.mono (by omega))
  have h3 := h.below hbw3 (Nat.le_refl _)
  have T3 := Blk.new w2 75 (tokB (2, tn, ta, [100, 97, 116, 101, 115]))
  have R3 := (R0.below hb2 (by simp)).below hb3 (by omega)
  obtain ⟨⟨k0, k1, k2, k3⟩, m0, m1, m2, m3⟩ := tok_cells T3
  go_wp2_with fail
  refine (hO.out _ h3).mono ?_
  rintro e w4 ⟨rfl, hb4⟩
  have hb := hbw3.trans (hb4.mono hbw3.size)
  have h4 := h3.below hb4 (Nat.le_refl _)
  have T4 := T3.below hb4 (by simp)
  have R4 := R3.below hb4 (by simp; omega)
  have z4 := hb4.size
  simp at z4
  have gw4 : w.grownBy w4 (some pb) := grown_of _ hb
  clear hb4 hb3 hbw3 h3 T3 R3 R0 hA hbA hG hNx hO hb2 k0 k1 k2 k3 m0 m1 m2 m3
  have c1 : w4.cell? ⟨pb, 1, none⟩ = some (.int .i64 s.i) := Blk.cell h4.blk 1
  have f1 : w4.frozen? ⟨pb, 1, none⟩ = false := Blk.frozen h4.blk 1
  obtain ⟨⟨k0, k1, k2, k3⟩, _⟩ := tok_cells T4
  have st := h4.step hi
  go_wp2_with fail
  refine (hG1.out _ st.1).mono ?_
  rintro e w5 ⟨rfl, hg5, h5⟩
  have z5 := hg5.size
  have hb5 := (Below.refl w5.heap.size w5).alloc (Nat.le_refl _) (.cells #[.int .i64 ak, .int .i64 an, .int .i64 aa, strV att] 75)
  have k5 := h5.below hb5 (Nat.le_refl _)
  have T5 := Blk.new w5 75 (tokB (ak, an, aa, att))
  have g5 := grown_below hg5 hb5
  have g45 := grown_grown st.2 g5
  have R5 := g45.blk R4 (by omega)
  have gw5 := grown_grown gw4 g45
  have hbc := (Below.refl (w5.heap.size + 1) (w5.alloc (.cells #[.int .i64 ak, .int .i64 an, .int .i64 aa, strV att] 75))).alloc (by simp) (.cells #[.int .i64 ak, .int .i64 an, .int .i64 aa, strV att] 75)
  have k6 := k5.below hbc (by simp)
  have T6 := T5.alloc (.cells #[.int .i64 ak, .int .i64 an, .int .i64 aa, strV att] 75)
  have U6 : Blk ((w5.alloc (.cells #[.int .i64 ak, .int .i64 an, .int .i64 aa, strV att] 75)).alloc (.cells #[.int .i64 ak, .int .i64 an, .int .i64 aa, strV att] 75)) (w5.heap.size + 1) 75 (tokB (ak, an, aa, att)) := by simpa using Blk.new (w5.alloc (.cells #[.int .i64 ak, .int .i64 an, .int .i64 aa, strV att] 75)) 75 (tokB (ak, an, aa, att))
  have R6 := R5.alloc (.cells #[.int .i64 ak, .int .i64 an, .int .i64 aa, strV att] 75)
  have gw6 := grown_below gw5 (hbc.mono (by simp))
  obtain ⟨⟨a0, a1, a2, a3⟩, _⟩ := tok_cells T5
  have z4' : w4.heap.size ≤ w5.heap.size := by simpa using z5
  go_wp2_with fail
  obtain ⟨W6, hW6⟩ : ∃ W6, W6 = (w5.alloc (.cells #[.int .i64 ak, .int .i64 an, .int .i64 aa, strV att] 75)).alloc (.cells #[.int .i64 ak, .int .i64 an, .int .i64 aa, strV att] 75) := ⟨_, rfl⟩
  have zW6 : w5.heap.size + 2 ≤ W6.heap.size ∧ W6.heap.size ≤ w5.heap.size + 2 := by rw [hW6]; simp
  rw [← hW6] at k6 T6 U6 R6 gw6 ⊢
  clear hW6 hbc gw5 R5 g45 g5 T5 k5 hb5 h5 hg5 a0 a1 a2 a3
  have hO6 := Ron_any l en s1 3 [46, 46] W6 B pb tv k6
  rw [hdd] at hO6
  refine hO6.mono ?_
  rintro e w7 ⟨rfl, hb7⟩
  have h7 := k6.below hb7 (Nat.le_refl _)
  have z7 := hb7.size
  have T7 := T6.below hb7 (by omega)
  have U7 := U6.below hb7 (by omega)
  have R7 := R6.below hb7 (by omega)
  have gw7 := grown_below gw6 hb7
  clear hO6 hb7 gw6 R6 U6 T6 k6
  have c7 : w7.cell? ⟨pb, 1, none⟩ = some (.int .i64 s1.i) := Blk.cell h7.blk 1
  have f7 : w7.frozen? ⟨pb, 1, none⟩ = false := Blk.frozen h7.blk 1
  have st7 := h7.step hi1
  have li7 := on1.inb.i
  go_wp2_with fail
  refine (hG2.out _ st7.1).mono ?_
  rintro e w8 ⟨rfl, hg8, h8⟩
  have g8 := grown_grown st7.2 hg8
  have z8 := g8.size
  have T8 := g8.blk T7 (by omega)
  have U8 := g8.blk U7 (by omega)
  have R8 := g8.blk R7 (by omega)
  have gw8 := grown_grown gw7 g8
  obtain ⟨⟨a0, a1, a2, a3⟩, _⟩ := tok_cells T8
  obtain ⟨⟨b0, b1, b2, b3⟩, v0, v1, v2, v3⟩ := tok_cells U8
  have U9 := (((U8.set 0 (.int .i64 bk)).set 1 (.int .i64 bn)).set 2 (.int .i64 ba)).set 3 (strV bt)
  have far : ∀ {W : World} {b : Nat} {t : TypeId} {cs : Array Value}, Blk W b t cs → b ≠ w5.heap.size + 1 → Blk ((((W.setCell ⟨w5.heap.size + 1, 0, none⟩ (.int .i64 bk)).setCell ⟨w5.heap.size + 1, 1, none⟩ (.int .i64 bn)).setCell ⟨w5.heap.size + 1, 2, none⟩ (.int .i64 ba)).setCell ⟨w5.heap.size + 1, 3, none⟩ (strV bt)) b t cs := fun hB hne => (((hB.far (p := ⟨w5.heap.size + 1, 0, none⟩) hne _).far (p := ⟨w5.heap.size + 1, 1, none⟩) hne _).far (p := ⟨w5.heap.size + 1, 2, none⟩) hne _).far (p := ⟨w5.heap.size + 1, 3, none⟩) hne _
  have T9 := far T8 (by omega)
  have R9 := far R8 (by omega)
  have h9 := (((h8.far (g := w5.heap.size + 1) (by omega) 0 (.int .i64 bk)).far (g := w5.heap.size + 1) (by omega) 1 (.int .i64 bn)).far (g := w5.heap.size + 1) (by omega) 2 (.int .i64 ba)).far (g := w5.heap.size + 1) (by omega) 3 (strV bt)
  have gw9 := (((gw8.far (g := w5.heap.size + 1) (by omega) 0 (.int .i64 bk)).far (g := w5.heap.size + 1) (by omega) 1 (.int .i64 bn)).far (g := w5.heap.size + 1) (by omega) 2 (.int .i64 ba)).far (g := w5.heap.size + 1) (by omega) 3 (strV bt)
  go_wp2_with fail
  obtain ⟨W9, hW9⟩ : ∃ W9, W9 = (((w8.setCell ⟨w5.heap.size + 1, 0, none⟩ (.int .i64 bk)).setCell ⟨w5.heap.size + 1, 1, none⟩ (.int .i64 bn)).setCell ⟨w5.heap.size + 1, 2, none⟩ (.int .i64 ba)).setCell ⟨w5.heap.size + 1, 3, none⟩ (strV bt) := ⟨_, rfl⟩
  have zW9 : w8.heap.size ≤ W9.heap.size ∧ W9.heap.size ≤ w8.heap.size := by rw [hW9]; simp
  have e9 : ∀ W, W = W9 → WkAt W B pb tv l en s2 → WkAt W9 B pb tv l en s2 := fun _ h => h ▸ id
  replace U9 : Blk W9 (w5.heap.size + 1) 75 (tokB (bk, bn, ba, bt)) := by rw [hW9]; exact U9
  rw [← hW9] at T9 R9 h9 gw9 ⊢
  clear far e9 hW9 gw8 R8 U8 T8 g8 hg8 h8 a0 a1 a2 a3 b0 b1 b2 b3 v0 v1 v2 v3
  obtain ⟨⟨a0, a1, a2, a3⟩, _⟩ := tok_cells T9
  obtain ⟨⟨b0, b1, b2, b3⟩, _⟩ := tok_cells U9
  refine (Rgood_any l en s2 W9 B pb tv h9).mono ?_
  rintro e wx ⟨rfl, hwx⟩
  subst wx
  have arm : goodS s2 = false ∨ (goodS s2 = true ∧ (decide (bn < an) = false)) ∨ (goodS s2 = true ∧ decide (bn < an) = true) := by
    cases goodS s2 with
    | false => exact .inl rfl
    | true => cases decide (bn < an) with
      | false => exact .inr (.inl ⟨rfl, rfl⟩)
      | true => exact .inr (.inr ⟨rfl, rfl⟩)
  rcases arm with hg2 | ⟨hg2, hv⟩ | ⟨hg2, hv⟩
  · have hs3' : s3 = s2 := by rw [← hs3.out]; exact fault_keep hg2
    subst hs3'
    rw [hg2]
    go_wp2_with fail
    refine (hGu.out _ h9).mono ?_
    rintro e wy ⟨hgy, A, cap, rfl, hEy, hy⟩
    unfold exprA
    replace hEy : ExprOk wy (Nw W9.heap.size wy) e1 A := hEy
    replace hy : WkAt wy B pb tv l en s9 := hy
    have zy := hgy.size
    have Ry := hgy.blk R9 (by omega)
    have gwy := grown_grown gw9 hgy
    obtain ⟨⟨r0, r1, r2, r3, r4⟩, q0, q1, q2, q3, q4⟩ := set_cells5 Ry
    go_wp2_with fail
    obtain ⟨⟨e0', e1', e2', e3', e4'⟩, _⟩ := set_cells5 (fin_cells (a0 := .int .i64 e1.kind) (a1 := .int .i64 e1.a) (a2 := .int .i64 e1.b) (a3 := strV e1.name) (a4 := .slice A e1.kids.length cap) Ry)
    exact bodyPost_ret (v := exprA e1 A cap) (by simp [results, Try.results105, e0', e1', e2', e3', e4', go_sem, exprA]) rfl (finS (R := (e1, s9)) hlt (by omega) hy gwy hEy (fun k hk => by have hk' : W9.heap.size ≤ k ∧ k < wy.heap.size := hk; omega) _ _ _ _ _)
  · have hs3' : s3 = s2 := by rw [← hs3.out, fault_good hg2, if_neg (by rw [hv]; decide)]
    subst hs3'
    rw [hg2]
    go_wp2_with fail
    refine (hGu.out _ h9).mono ?_
    rintro e wy ⟨hgy, A, cap, rfl, hEy, hy⟩
    unfold exprA
    replace hEy : ExprOk wy (Nw W9.heap.size wy) e1 A := hEy
    replace hy : WkAt wy B pb tv l en s9 := hy
    have zy := hgy.size
    have Ry := hgy.blk R9 (by omega)
    have gwy := grown_grown gw9 hgy
    obtain ⟨⟨r0, r1, r2, r3, r4⟩, q0, q1, q2, q3, q4⟩ := set_cells5 Ry
    go_wp2_with fail
    obtain ⟨⟨e0', e1', e2', e3', e4'⟩, _⟩ := set_cells5 (fin_cells (a0 := .int .i64 e1.kind) (a1 := .int .i64 e1.a) (a2 := .int .i64 e1.b) (a3 := strV e1.name) (a4 := .slice A e1.kids.length cap) Ry)
    exact bodyPost_ret (v := exprA e1 A cap) (by simp [results, Try.results105, e0', e1', e2', e3', e4', go_sem, exprA]) rfl (finS (R := (e1, s9)) hlt (by omega) hy gwy hEy (fun k hk => by have hk' : W9.heap.size ≤ k ∧ k < wy.heap.size := hk; omega) _ _ _ _ _)
  · have hs3' : stopS 3 ba s2 = s3 := by rw [← hs3.out, fault_good hg2, if_pos hv, stop_good hg2]
    have hSt := Rstop_any l en s2 3 ba W9 B pb tv h9
    rw [hs3'] at hSt
    rw [hg2]
    go_wp2_with fail
    refine hSt.mono ?_
    rintro e wx ⟨rfl, hgx, hx⟩
    have zx := hgx.size
    have Rx := hgx.blk R9 (by omega)
    have gwx := grown_grown gw9 hgx
    obtain ⟨⟨a0, a1, a2, a3⟩, _⟩ := tok_cells (hgx.blk T9 (by omega))
    obtain ⟨⟨b0, b1, b2, b3⟩, _⟩ := tok_cells (hgx.blk U9 (by omega))
    go_wp2_with fail
    refine (hGu.out _ hx).mono ?_
    rintro e wy ⟨hgy, A, cap, rfl, hEy, hy⟩
    unfold exprA
    replace hEy : ExprOk wy (Nw wx.heap.size wy) e1 A := hEy
    replace hy : WkAt wy B pb tv l en s9 := hy
    have zy := hgy.size
    have Ry := hgy.blk Rx (by omega)
    have gwy := grown_grown gwx hgy
    obtain ⟨⟨r0, r1, r2, r3, r4⟩, q0, q1, q2, q3, q4⟩ := set_cells5 Ry
    go_wp2_with fail
    obtain ⟨⟨e0', e1', e2', e3', e4'⟩, _⟩ := set_cells5 (fin_cells (a0 := .int .i64 e1.kind) (a1 := .int .i64 e1.a) (a2 := .int .i64 e1.b) (a3 := strV e1.name) (a4 := .slice A e1.kids.length cap) Ry)
    exact bodyPost_ret (v := exprA e1 A cap) (by simp [results, Try.results105, e0', e1', e2', e3', e4', go_sem, exprA]) rfl (finS (R := (e1, s9)) hlt (by omega) hy gwy hEy (fun k hk => by have hk' : wx.heap.size ≤ k ∧ k < wy.heap.size := hk; omega) _ _ _ _ _)

end Ru
end Go.Proofs.Ytfhedopfjgjffaa

namespace Go.Proofs.Ytfhedopfjgjffaa
open Go.RowKit Go.Maps Go.ChangeShapes
namespace Ru
open Lx
open Sl (strV Reads)

/-- what a map from texts keeps -/
def dayF (F : List UInt8 → Option Int) : Lit → Option Value
  | .string b => (F b).map (Value.int .i64)
  | _ => none
def putD (F : List UInt8 → Option Int) (nm : List UInt8) (h : Int) : List UInt8 → Option Int := fun x => if x = nm then some h else F x
theorem put_dayF (F : List UInt8 → Option Int) (nm : List UInt8) (h : Int) : Mp.put (dayF F) (.string nm) (.int .i64 h) = dayF (putD F nm h) := by
  funext x
  unfold Mp.put
  cases e : x.sameKey (.string nm) with
  | true =>
    have := WideAt.sameKey_eq e
    subst this
    simp [dayF, putD]
  | false =>
    simp only [Bool.false_eq_true, if_false]
    unfold dayF
    split
    · rename_i y
      have hy : ¬ y = nm := fun e' => by subst e'; rw [WideAt.sameKey_self (show WideAt.IsKeyLit (.string y) from trivial)] at e; cases e
      simp [putD, hy]
    · rfl
section
variable {w : World} {mb n c : Nat} {F : List UInt8 → Option Int}
theorem look_day (hM : Mp.Is w Try.prog 9 mb n c (dayF F)) {nm : List UInt8} (h : nm.length ≤ 9223372036854775807) :
    (Instr.lookup 159 (.map (some mb)) (strV nm) false).run Try.prog w = .ok (.int .i64 ((F nm).getD 0)) w := by
  have := hM.look (string_keyed Try.underlying9) Try.underlying159 (zero_int w) (key_str h)
  rw [this]
  have e : dayF F (.string nm) = (F nm).map (Value.int .i64) := rfl
  rw [e]
  cases F nm <;> rfl
theorem store_day (hM : Mp.Is w Try.prog 9 mb n c (dayF F)) (nm : List UInt8) (p : Int) (hn : n < 1000000) (h : nm.length ≤ 9223372036854775807) :
    ∃ w' c', (Instr.mapUpdate 159 (.map (some mb)) (strV nm) (.int .i64 p)).run Try.prog w = .ok () w' ∧ Mp.Is w' Try.prog 9 mb (n + 1) c' (dayF (putD F nm p)) ∧ w.grownBy w' (some mb) := by
  obtain ⟨w', hr, hI, hg⟩ := hM.store (val := .int .i64 p) (string_keyed Try.underlying9) Try.underlying159 (by simp only [maxLen]; omega) (key_str h)
  rw [put_dayF] at hI
  exact ⟨w', _, hr, hI, hg⟩
end
theorem days_made (w : World) (g : Nat) (hg : w.heap.size = g) : ∃ w1 w2 w3 w4 w5 w6 w7 : World, (Instr.mapUpdate 159 (.map (some g)) (.string ⟨#[109, 111, 110]⟩) (.int .i64 1)).run Try.prog (w.alloc (.map #[] 0)) = .ok () w1 ∧
    (Instr.mapUpdate 159 (.map (some g)) (.string ⟨#[116, 117, 101]⟩) (.int .i64 2)).run Try.prog w1 = .ok () w2 ∧
    (Instr.mapUpdate 159 (.map (some g)) (.string ⟨#[119, 101, 100]⟩) (.int .i64 4)).run Try.prog w2 = .ok () w3 ∧
    (Instr.mapUpdate 159 (.map (some g)) (.string ⟨#[116, 104, 117]⟩) (.int .i64 8)).run Try.prog w3 = .ok () w4 ∧
    (Instr.mapUpdate 159 (.map (some g)) (.string ⟨#[102, 114, 105]⟩) (.int .i64 16)).run Try.prog w4 = .ok () w5 ∧
    (Instr.mapUpdate 159 (.map (some g)) (.string ⟨#[115, 97, 116]⟩) (.int .i64 32)).run Try.prog w5 = .ok () w6 ∧
    (Instr.mapUpdate 159 (.map (some g)) (.string ⟨#[115, 117, 110]⟩) (.int .i64 64)).run Try.prog w6 = .ok () w7 ∧
    Below w.heap.size w w7 ∧ w.heap.size < w7.heap.size ∧ ∀ nm : List UInt8, nm.length ≤ 9223372036854775807 → (Instr.lookup 159 (.map (some g)) (strV nm) false).run Try.prog w7 = .ok (.int .i64 (dayB nm : Nat)) w7 := by
  subst hg
  have e0 : (fun _ => none : Lit → Option Value) = dayF (fun _ => none) := by funext x; unfold dayF; split <;> rfl
  have I0 := Mp.Is.made w Try.prog 9
  rw [e0] at I0
  have B0 : Below w.heap.size w (w.alloc (.map #[] 0)) := (Below.refl w.heap.size w).alloc (Nat.le_refl _) (.map #[] 0)
  have z0 : w.heap.size < (w.alloc (.map #[] 0)).heap.size := by simp
  obtain ⟨w1, c1, r1, I1, g1⟩ := store_day I0 [109, 111, 110] 1 (by omega) (by decide)
  have B1 := below_row B0 g1 (Nat.le_refl _) (by omega)
  have z1 : w.heap.size < w1.heap.size := by have := g1.size; omega
  obtain ⟨w2, c2, r2, I2, g2⟩ := store_day I1 [116, 117, 101] 2 (by omega) (by decide)
  have B2 := below_row B1 g2 (Nat.le_refl _) (by omega)
  have z2 : w.heap.size < w2.heap.size := by have := g2.size; omega
  obtain ⟨w3, c3, r3, I3, g3⟩ := store_day I2 [119, 101, 100] 4 (by omega) (by decide)
  have B3 := below_row B2 g3 (Nat.le_refl _) (by omega)
  have z3 : w.heap.size < w3.heap.size := by have := g3.size; omega
  obtain ⟨w4, c4, r4, I4, g4⟩ := store_day I3 [116, 104, 117] 8 (by omega) (by decide)
  have B4 := below_row B3 g4 (Nat.le_refl _) (by omega)
  have z4 : w.heap.size < w4.heap.size := by have := g4.size; omega
  obtain ⟨w5, c5, r5, I5, g5⟩ := store_day I4 [102, 114, 105] 16 (by omega) (by decide)
  have B5 := below_row B4 g5 (Nat.le_refl _) (by omega)
  have z5 : w.heap.size < w5.heap.size := by have := g5.size; omega
  obtain ⟨w6, c6, r6, I6, g6⟩ := store_day I5 [115, 97, 116] 32 (by omega) (by decide)
  have B6 := below_row B5 g6 (Nat.le_refl _) (by omega)
  have z6 : w.heap.size < w6.heap.size := by have := g6.size; omega
  obtain ⟨w7, c7, r7, I7, g7⟩ := store_day I6 [115, 117, 110] 64 (by omega) (by decide)
  have B7 := below_row B6 g7 (Nat.le_refl _) (by omega)
  have z7 : w.heap.size < w7.heap.size := by have := g7.size; omega
  refine ⟨w1, w2, w3, w4, w5, w6, w7, r1, r2, r3, r4, r5, r6, r7, B7, z7, fun nm h => ?_⟩
  rw [look_day I7 h]
  simp only [putD]
  by_cases h6 : nm = [115, 117, 110]
  · subst h6; rfl
  rw [if_neg h6]
  by_cases h5 : nm = [115, 97, 116]
  · subst h5; rfl
  rw [if_neg h5]
  by_cases h4 : nm = [102, 114, 105]
  · subst h4; rfl
  rw [if_neg h4]
  by_cases h3 : nm = [116, 104, 117]
  · subst h3; rfl
  rw [if_neg h3]
  by_cases h2 : nm = [119, 101, 100]
  · subst h2; rfl
  rw [if_neg h2]
  by_cases h1 : nm = [116, 117, 101]
  · subst h1; rfl
  rw [if_neg h1]
  by_cases h0 : nm = [109, 111, 110]
  · subst h0; rfl
  rw [if_neg h0]
  have : dayB nm = 0 := by
    unfold dayB dayT
    have k : ∀ {x : List UInt8}, ¬ nm = x → (nm == x) = false := fun h => by simpa using h
    simp only [List.findIdx_cons, List.findIdx_nil, k h0, k h1, k h2, k h3, k h4, k h5, k h6, cond_false]
    rfl
  rw [this]
  rfl
theorem or_bits : ∀ set : Fin 128, ∀ d : Fin 8, bits BinOp.or IntKind.i64 (set.val : Int) ((if d.val < 7 then 2 ^ d.val else 0 : Nat) : Int) = ((set.val ||| (if d.val < 7 then 2 ^ d.val else 0) : Nat) : Int) ∧ (set.val ||| (if d.val < 7 then 2 ^ d.val else 0)) < 128 := by decide +kernel
theorem or_bit {set : Nat} (hs : set < 128) (nm : List UInt8) : bits BinOp.or IntKind.i64 (set : Int) ((dayB nm : Nat) : Int) = ((set ||| dayB nm : Nat) : Int) ∧ (set ||| dayB nm) < 128 := by
  have h := or_bits ⟨set, hs⟩ ⟨min (dayT nm) 7, by omega⟩
  have e : (if min (dayT nm) 7 < 7 then 2 ^ (min (dayT nm) 7) else 0) = dayB nm := by
    unfold dayB
    by_cases hd : dayT nm < 7
    · rw [if_pos (by omega), if_pos hd, Nat.min_eq_left (by omega)]
    · rw [if_neg (by omega), if_neg hd]
  simp only [e] at h
  exact h
theorem next_len {l : List Tok} {en : Int} (hnm : ∀ t ∈ l, t.2.2.2.length ≤ 9223372036854775807) (s : St) : (nextS l en s).2.2.2.length ≤ 9223372036854775807 := by
  unfold nextS
  cases h : l[s.i]? with
  | none => show 0 ≤ _; omega
  | some t => exact hnm t (List.mem_of_getElem? h)

set_option maxRecDepth 100000 in
set_option maxHeartbeats 8000000 in
theorem Rthing_weekly (deep : Int) (hd0 : 1 ≤ deep) (hd1 : deep ≤ 40) (l : List Tok) (en : Int) (hl : l.length ≤ 1000000) (fa : St → Expr × St) (hfo : OnF l fa) (hfa : SubS 74 (deep + 1) l en fa) (s : St) (w : World) (B pb : Nat) (tv : Value) (h : WkAt w B pb tv l en s) (hin : Inb l s) (hgd : goodS s = true) (tn ta : Int) (ht : nextS l en s = (2, tn, ta, [119, 101, 101, 107, 108, 121])) (hnm : ∀ t ∈ l, t.2.2.2.length ≤ 9223372036854775807) :
    Calls Try.prog 105 #[.pointer (some ⟨pb, 0, none⟩), .int .i64 deep] w (WkPost (weeklyS l en fa (incS s)) w B pb tv l en) := by
  have hi : s.i < l.length := next_lt (k := 2) (by decide) (by rw [ht])
  have hin0 := (inc_onS hin hi).inb
  unfold weeklyS
  have onw := week_onS (l := l) (en := en) (l.length + 1) 0 (incS s) hin0
  obtain ⟨⟨set9, s9⟩, hRW⟩ : ∃ r, weekS l en (l.length + 1) 0 (incS s) = r := ⟨_, rfl⟩
  rw [hRW] at onw ⊢
  replace onw : Inb l s9 := onw.inb
  show Calls _ _ _ _ (WkPost (guardS l en fa 4 set9 0 s9) w B pb tv l en)
  have hGu := Lib.hid (fun W (hW : WkAt W B pb tv l en s9) => Rguard_any deep (by omega) (by omega) l en hl fa hfo hfa 4 set9 0 (by decide) (by decide) s9 W B pb tv hW onw)
  obtain ⟨⟨e1, sf⟩, hR⟩ : ∃ r, guardS l en fa 4 set9 0 s9 = r := ⟨_, rfl⟩
  rw [hR] at hGu ⊢
  clear hR
  replace hRW := Lib.hid hRW
  have hlt := h.lt
  have hbA := (Below.refl w.heap.size w).alloc (Nat.le_refl _) (.cells zeroE 38)
  have hA := h.below hbA (Nat.le_refl _)
  have R0 := Blk.new w 38 zeroE
  have gdp : decide ((40 : Int) < deep) = false := by simp; omega
  have hG := Lib.hid (Rgood_any l en s _ B pb tv hA)
  rw [hgd] at hG
  have hNx := Lib.hid (Rnext_any l en s _ B pb tv hA)
  rw [ht] at hNx
  unfold tokA at hNx
  have hon : onS l en 3 [40] s = false := by unfold onS; rw [ht, hgd]; rfl
  have hO := Lib.hid (fun W (hW : WkAt W B pb tv l en s) => Ron_any l en s 3 [40] W B pb tv hW)
  rw [hon] at hO
  go_enter Try.func105, Try.ntmps105
  go_wp2_with fail
  refine hG.out.mono ?_
  rintro e w1 ⟨rfl, hw1⟩
  subst w1
  go_wp2_with fail
  refine hNx.out.mono ?_
  rintro e w2 ⟨rfl, hb2⟩
  have z2 := hb2.size
  simp at z2
  have hb3 := (Below.refl w2.heap.size w2).alloc (Nat.le_refl _) (.cells #[.int .i64 2, .int .i64 tn, .int .i64 ta, strV [119, 101, 101, 107, 108, 121]] 75)
  have hbw3 := (hbA.trans (hb2.mono (by simp))).trans (hb3.mono (by omega))
  have h3 := h.below hbw3 (Nat.le_refl _)
  have T3 := Blk.new w2 75 (tokB (2, tn, ta, [119, 101, 101, 107, 108, 121]))
  have R3 := (R0.below hb2 (by simp)).below hb3 (by omega)
  obtain ⟨⟨k0, k1, k2, k3⟩, m0, m1, m2, m3⟩ := tok_cells T3
  go_wp2_with fail
  refine (hO.out _ h3).mono ?_
  rintro e w4 ⟨rfl, hb4⟩
  have hb := hbw3.trans (hb4.mono hbw3.size)
  have h4 := h3.below hb4 (Nat.le_refl _)
  have T4 := T3.below hb4 (by simp)
  have R4 := R3.below hb4 (by simp; omega)
  have z4 := hb4.size
  simp at z4
  have gw4 : w.grownBy w4 (some pb) := grown_of _ hb
  clear hb4 hb3 hbw3 h3 T3 R3 R0 hA hbA hG hNx hO hb2 k0 k1 k2 k3 m0 m1 m2 m3
  have c1 : w4.cell? ⟨pb, 1, none⟩ = some (.int .i64 s.i) := Blk.cell h4.blk 1
  have f1 : w4.frozen? ⟨pb, 1, none⟩ = false := Blk.frozen h4.blk 1
  obtain ⟨⟨k0, k1, k2, k3⟩, _⟩ := tok_cells T4
  have st := h4.step hi
  have g5 := grown_grown gw4 st.2
  have R5 := st.2.blk R4 (by omega)
  go_wp2_with fail
  go_loopg [8, 9, 10] (l.length - (incS s).i) (fun q a _ _ wr => ∃ (set : Nat) (s : St) (f : Nat), q = l.length - s.i ∧ a = .int .i64 set ∧ set < 128 ∧ WkAt wr B pb tv l en s ∧ Inb l s ∧ Blk wr w.heap.size 38 zeroE ∧ Hid (weekS l en f set s = (set9, s9)) ∧ l.length < f + s.i ∧ w.grownBy wr (some pb))
  case atStart => exact ⟨0, incS s, l.length + 1, rfl, rfl, by omega, st.1, hin0, R5, hRW, by omega, g5⟩
  case round =>
    clear st g5 R5 hRW hin0 hin hi h4 T4 R4 gw4 c1 f1 hb k0 k1 k2 k3 h hgd ht hon
    obtain ⟨set, s, f, hq, rfl, hset, hP, hin, hRb, hR, hf, hgw⟩ := hrel
    replace hq := Lib.hid hq
    have zw := hgw.size
    have zR := hRb.lt
    cases f with
    | zero => have := hin.i; omega
    | succ f =>
    have hsh := hR.out
    rw [weekS] at hsh
    have hG := Lib.hid (Rgood_any l en s wr B pb tv hP)
    cases hgd : goodS s with
    | false =>
      rw [hgd] at hG
      rw [hgd, if_neg (by decide)] at hsh
      obtain ⟨rfl, rfl⟩ := Prod.mk.inj hsh
      go_wp2_with fail
      refine hG.out.mono ?_
      rintro e wg ⟨rfl, hwg⟩
      subst wg
      go_wp2_with fail
      refine (hGu.out _ hP).mono ?_
      rintro e wy ⟨hgy, A, cap, rfl, hEy, hy⟩
      unfold exprA
      replace hEy : ExprOk wy (Nw wr.heap.size wy) e1 A := hEy
      replace hy : WkAt wy B pb tv l en sf := hy
      have zy := hgy.size
      have Ry := hgy.blk hRb (by omega)
      have gwy := grown_grown hgw hgy
      obtain ⟨⟨r0, r1, r2, r3, r4⟩, q0, q1, q2, q3, q4⟩ := set_cells5 Ry
      go_wp2_with fail
      obtain ⟨⟨e0', e1', e2', e3', e4'⟩, _⟩ := set_cells5 (fin_cells (a0 := .int .i64 e1.kind) (a1 := .int .i64 e1.a) (a2 := .int .i64 e1.b) (a3 := strV e1.name) (a4 := .slice A e1.kids.length cap) Ry)
      exact bodyPost_ret (v := exprA e1 A cap) (by simp [results, Try.results105, e0', e1', e2', e3', e4', go_sem, exprA]) rfl (finS (R := (e1, sf)) hlt (by omega) hy gwy hEy (fun k hk => by have hk' : wr.heap.size ≤ k ∧ k < wy.heap.size := hk; omega) _ _ _ _ _)
    | true =>
      rw [hgd] at hG
      rw [hgd, if_pos rfl] at hsh
      obtain ⟨⟨dk, dn, da, dt⟩, hdt⟩ : ∃ t, nextS l en s = t := ⟨_, rfl⟩
      have hlen := next_len (en := en) hnm s
      have on1 := get_onS (en := en) (k := 2) (by decide) hin
      have on2 := day_onS (en := en) hin
      have hGt := Lib.hid (Rget_any l en s 2 (by decide) wr B pb tv hP hl)
      unfold dayS at hsh on2
      rw [hdt] at hsh hlen hGt on2
      unfold tokA at hGt
      obtain ⟨s1, hs1⟩ : ∃ s1, getS l en 2 s = s1 := ⟨_, rfl⟩
      rw [hs1] at hsh on1 hGt on2
      replace hlen : dt.length ≤ 9223372036854775807 := hlen
      obtain ⟨hor, hset2⟩ := or_bit hset dt
      replace hsh : (if onS l en 3 [44] (faultS (dayB dt == 0) 2 da s1) = true then weekS l en f (set ||| dayB dt) (incS (faultS (dayB dt == 0) 2 da s1)) else (set ||| dayB dt, faultS (dayB dt == 0) 2 da s1)) = (set9, s9) := hsh
      replace on2 : On l s (faultS (dayB dt == 0) 2 da s1) := on2
      go_wp2_with fail
      refine hG.out.mono ?_
      rintro e wg ⟨rfl, hwg⟩
      subst wg
      go_wp2_with fail
      refine hGt.out.mono ?_
      rintro e w5 ⟨rfl, hg5, h5⟩
      have z5 := hg5.size
      have hb5 := (Below.refl w5.heap.size w5).alloc (Nat.le_refl _) (.cells #[.int .i64 dk, .int .i64 dn, .int .i64 da, strV dt] 75)
      have T5 := Blk.new w5 75 (tokB (dk, dn, da, dt))
      obtain ⟨m1, m2, m3, m4, m5, m6, W7, r1, r2, r3, r4, r5, r6, r7, hbw, zw7, hlook⟩ := days_made (w5.alloc (.cells #[.int .i64 dk, .int .i64 dn, .int .i64 da, strV dt] 75)) (w5.heap.size + 1) (by simp)
      simp at zw7
      have hlk := hlook dt hlen
      clear hlook
      obtain ⟨b, hb⟩ : ∃ b, dayB dt = b := ⟨_, rfl⟩
      rw [hb] at hlk hsh hor hset2 on2
      have hmm := @run_makeMap Try.prog
      have T7 := T5.below hbw (by simp)
      obtain ⟨⟨k0, k1, k2, k3⟩, _⟩ := tok_cells T5
      obtain ⟨⟨x0, x1, x2, x3⟩, _⟩ := tok_cells T7
      have hb7 : Below w5.heap.size w5 W7 := hb5.trans (hbw.mono (by simp))
      have h7 := h5.below hb7 (Nat.le_refl _)
      have g7 := grown_below hg5 hb7
      have R7 := g7.blk hRb (by omega)
      have gw7 := grown_grown hgw g7
      have li1 := on1.inb.i
      have lo1 := on1.lo
      clear hs1 hdt hb T5 T7 hb5 hb7 hbw h5 hg5 hlen hG hGt hP hRb hR
      go_wp2_with fail
      refine (Rgood_any l en s1 _ B pb tv h7).mono ?_
      rintro e wg ⟨rfl, hwg⟩
      subst wg
      clear r1 r2 r3 r4 r5 r6 r7 hlk hmm k0 k1 k2 k3
      cases hg1 : goodS s1 with
      | false =>
        have hst : faultS (b == 0) 2 da s1 = s1 := fault_keep hg1
        have hoff : onS l en 3 [44] s1 = false := on_bad hg1
        rw [hst, hoff, if_neg (by decide)] at hsh
        obtain ⟨rfl, rfl⟩ := Prod.mk.inj hsh
        go_wp2_with fail
        refine (Ron_any l en (s1) 3 [44] W7 B pb tv h7).mono ?_
        rintro e wo ⟨rfl, hbo⟩
        rw [hoff]
        have ho := h7.below hbo (Nat.le_refl _)
        have zo := hbo.size
        have Ro := R7.below hbo (by omega)
        have gwo := grown_below gw7 hbo
        go_wp2_with fail
        refine (hGu.out _ ho).mono ?_
        rintro e wy ⟨hgy, A, cap, rfl, hEy, hy⟩
        unfold exprA
        replace hEy : ExprOk wy (Nw wo.heap.size wy) e1 A := hEy
        replace hy : WkAt wy B pb tv l en sf := hy
        have zy := hgy.size
        have Ry := hgy.blk Ro (by omega)
        have gwy := grown_grown gwo hgy
        obtain ⟨⟨r0, r1, r2, r3, r4⟩, q0, q1, q2, q3, q4⟩ := set_cells5 Ry
        go_wp2_with fail
        obtain ⟨⟨e0', e1', e2', e3', e4'⟩, _⟩ := set_cells5 (fin_cells (a0 := .int .i64 e1.kind) (a1 := .int .i64 e1.a) (a2 := .int .i64 e1.b) (a3 := strV e1.name) (a4 := .slice A e1.kids.length cap) Ry)
        exact bodyPost_ret (v := exprA e1 A cap) (by simp [results, Try.results105, e0', e1', e2', e3', e4', go_sem, exprA]) rfl (finS (R := (e1, sf)) hlt (by omega) hy gwy hEy (fun k hk => by have hk' : wo.heap.size ≤ k ∧ k < wy.heap.size := hk; omega) _ _ _ _ _)
      | true =>
        have hpos : b = 0 ∨ ¬ b = 0 := by omega
        rcases hpos with hb0 | hb0
        · have q1 : ((b : Int) == 0) = true := by rw [hb0]; rfl
          have q2 : (b == 0) = true := by rw [hb0]; rfl
          replace hb0 := Lib.hid hb0
          have hst : faultS (b == 0) 2 da s1 = stopS 2 da s1 := by rw [fault_good hg1, if_pos q2, stop_good hg1]
          have hbad : goodS (stopS 2 da s1) = false := by rw [stop_good hg1]; rfl
          have hoff : onS l en 3 [44] (stopS 2 da s1) = false := on_bad hbad
          rw [hst, hoff, if_neg (by decide)] at hsh
          obtain ⟨rfl, rfl⟩ := Prod.mk.inj hsh
          go_wp2_with fail
          refine (Rstop_any l en s1 2 da W7 B pb tv h7).mono ?_
          rintro e w8 ⟨rfl, hg8, h8⟩
          have z8 := hg8.size
          have R8 := hg8.blk R7 (by omega)
          have gw8 := grown_grown gw7 hg8
          go_wp2_with fail
          refine (Ron_any l en (stopS 2 da s1) 3 [44] w8 B pb tv h8).mono ?_
          rintro e wo ⟨rfl, hbo⟩
          rw [hoff]
          have ho := h8.below hbo (Nat.le_refl _)
          have zo := hbo.size
          have Ro := R8.below hbo (by omega)
          have gwo := grown_below gw8 hbo
          go_wp2_with fail
          refine (hGu.out _ ho).mono ?_
          rintro e wy ⟨hgy, A, cap, rfl, hEy, hy⟩
          unfold exprA
          replace hEy : ExprOk wy (Nw wo.heap.size wy) e1 A := hEy
          replace hy : WkAt wy B pb tv l en sf := hy
          have zy := hgy.size
          have Ry := hgy.blk Ro (by omega)
          have gwy := grown_grown gwo hgy
          obtain ⟨⟨r0, r1, r2, r3, r4⟩, q0, q1, q2, q3, q4⟩ := set_cells5 Ry
          go_wp2_with fail
          obtain ⟨⟨e0', e1', e2', e3', e4'⟩, _⟩ := set_cells5 (fin_cells (a0 := .int .i64 e1.kind) (a1 := .int .i64 e1.a) (a2 := .int .i64 e1.b) (a3 := strV e1.name) (a4 := .slice A e1.kids.length cap) Ry)
          exact bodyPost_ret (v := exprA e1 A cap) (by simp [results, Try.results105, e0', e1', e2', e3', e4', go_sem, exprA]) rfl (finS (R := (e1, sf)) hlt (by omega) hy gwy hEy (fun k hk => by have hk' : wo.heap.size ≤ k ∧ k < wy.heap.size := hk; omega) _ _ _ _ _)
        · have q1 : ((b : Int) == 0) = false := by simp; omega
          have q2 : (b == 0) = false := by simpa using hb0
          have hst : faultS (b == 0) 2 da s1 = s1 := by rw [fault_good hg1, if_neg (by rw [q2]; decide)]
          rw [hst] at hsh on2
          cases hon : onS l en 3 [44] s1 with
          | false =>
            rw [hon, if_neg (by decide)] at hsh
            obtain ⟨rfl, rfl⟩ := Prod.mk.inj hsh
            go_wp2_with fail
            refine (Ron_any l en (s1) 3 [44] W7 B pb tv h7).mono ?_
            rintro e wo ⟨rfl, hbo⟩
            rw [hon]
            have ho := h7.below hbo (Nat.le_refl _)
            have zo := hbo.size
            have Ro := R7.below hbo (by omega)
            have gwo := grown_below gw7 hbo
            go_wp2_with fail
            refine (hGu.out _ ho).mono ?_
            rintro e wy ⟨hgy, A, cap, rfl, hEy, hy⟩
            unfold exprA
            replace hEy : ExprOk wy (Nw wo.heap.size wy) e1 A := hEy
            replace hy : WkAt wy B pb tv l en sf := hy
            have zy := hgy.size
            have Ry := hgy.blk Ro (by omega)
            have gwy := grown_grown gwo hgy
            obtain ⟨⟨r0, r1, r2, r3, r4⟩, q0, q1, q2, q3, q4⟩ := set_cells5 Ry
            go_wp2_with fail
            obtain ⟨⟨e0', e1', e2', e3', e4'⟩, _⟩ := set_cells5 (fin_cells (a0 := .int .i64 e1.kind) (a1 := .int .i64 e1.a) (a2 := .int .i64 e1.b) (a3 := strV e1.name) (a4 := .slice A e1.kids.length cap) Ry)
            exact bodyPost_ret (v := exprA e1 A cap) (by simp [results, Try.results105, e0', e1', e2', e3', e4', go_sem, exprA]) rfl (finS (R := (e1, sf)) hlt (by omega) hy gwy hEy (fun k hk => by have hk' : wo.heap.size ≤ k ∧ k < wy.heap.size := hk; omega) _ _ _ _ _)
          | true =>
            rw [hon, if_pos rfl] at hsh
            have hi1 := (on_lt (by decide) hon).1
            go_wp2_with fail
            refine (Ron_any l en s1 3 [44] W7 B pb tv h7).mono ?_
            rintro e w8 ⟨rfl, hb8⟩
            rw [hon]
            have h8 := h7.below hb8 (Nat.le_refl _)
            have R8 := R7.below hb8 (by omega)
            have gw8 := grown_below gw7 hb8
            have c8 : w8.cell? ⟨pb, 1, none⟩ = some (.int .i64 s1.i) := Blk.cell h8.blk 1
            have f8 : w8.frozen? ⟨pb, 1, none⟩ = false := Blk.frozen h8.blk 1
            have z8 := hb8.size
            have st8 := h8.step hi1
            have on3 := inc_onS on1.inb hi1
            go_wp2_with fail
            go_roundg (l.length - (incS s1).i)
            exact ⟨set ||| b, incS s1, f, rfl, rfl, hset2, st8.1, on3.inb, st8.2.blk R8 (by omega), Lib.hid hsh, by have := on3.lo; show l.length < f + (s1.i + 1); omega, grown_grown gw8 st8.2⟩
            rw [hq.out]
            show l.length - (s1.i + 1) < _
            omega

end Ru
end Go.Proofs.Ytfhedopfjgjffaa

namespace Go.Proofs.Ytfhedopfjgjffaa
open Go.RowKit
namespace Ru
open Lx
open Sl (strV Reads)

set_option maxRecDepth 100000 in
set_option maxHeartbeats 8000000 in
theorem Rthing_bad (deep : Int) (l : List Tok) (en : Int) (s : St) (w : World) (B pb : Nat) (tv : Value) (h : WkAt w B pb tv l en s) (hgd : goodS s = false) :
    Calls Try.prog 105 #[.pointer (some ⟨pb, 0, none⟩), .int .i64 deep] w (WkPost (nilE, s) w B pb tv l en) := by
  have hlt := h.lt
  have hbA := (Below.refl w.heap.size w).alloc (Nat.le_refl _) (.cells zeroE 38)
  have hA := h.below hbA (Nat.le_refl _)
  have R0 := Blk.new w 38 zeroE
  have hG := Lib.hid (Rgood_any l en s _ B pb tv hA)
  rw [hgd] at hG
  have gw : w.grownBy _ (some pb) := grown_of _ hbA
  go_enter Try.func105, Try.ntmps105
  go_wp2_with fail
  refine hG.out.mono ?_
  rintro e w1 ⟨rfl, hw1⟩
  rw [← hw1] at hA gw R0
  have z1 : w.heap.size < w1.heap.size := by rw [hw1]; simp
  clear hw1 hG hbA
  obtain ⟨⟨r0, r1, r2, r3, r4⟩, q0, q1, q2, q3, q4⟩ := set_cells5 R0
  go_wp2_with fail
  obtain ⟨⟨e0', e1', e2', e3', e4'⟩, _⟩ := set_cells5 (fin_cells (a0 := .int .i64 0) (a1 := .int .i64 0) (a2 := .int .i64 0) (a3 := strV []) (a4 := .slice none 0 0) R0)
  exact bodyPost_ret (v := exprA nilE none 0) (by simp [results, Try.results105, e0', e1', e2', e3', e4', go_sem, exprA, nilE, Expr.kind, Expr.a, Expr.b, Expr.name, Expr.kids]) rfl (finS (R := (nilE, s)) (S := fun _ => False) hlt (Nat.le_refl _) hA gw (.leaf (by show 0 ≤ _; omega) (by decide) (by decide)) (fun k hk => hk.elim) _ _ _ _ _)

set_option maxRecDepth 100000 in
set_option maxHeartbeats 8000000 in
theorem Rthing_deep (l : List Tok) (en : Int) (s : St) (w : World) (B pb : Nat) (tv : Value) (h : WkAt w B pb tv l en s) (hgd : goodS s = true) :
    Calls Try.prog 105 #[.pointer (some ⟨pb, 0, none⟩), .int .i64 41] w (WkPost (nilE, stopS 4 (nextS l en s).2.2.1 s) w B pb tv l en) := by
  obtain ⟨⟨tk, tn, ta, tt⟩, ht⟩ : ∃ t, nextS l en s = t := ⟨_, rfl⟩
  rw [ht]
  show Calls _ _ _ _ (WkPost (nilE, stopS 4 ta s) w B pb tv l en)
  have hlt := h.lt
  have hbA := (Below.refl w.heap.size w).alloc (Nat.le_refl _) (.cells zeroE 38)
  have hA := h.below hbA (Nat.le_refl _)
  have R0 := Blk.new w 38 zeroE
  have hG := Lib.hid (Rgood_any l en s _ B pb tv hA)
  rw [hgd] at hG
  have hNx := Lib.hid (Rnext_any l en s _ B pb tv hA)
  rw [ht] at hNx
  unfold tokA at hNx
  go_enter Try.func105, Try.ntmps105
  go_wp2_with fail
  refine hG.out.mono ?_
  rintro e w1 ⟨rfl, hw1⟩
  subst w1
  go_wp2_with fail
  refine hNx.out.mono ?_
  rintro e w2 ⟨rfl, hb2⟩
  have z2 := hb2.size
  simp at z2
  have hb := hbA.trans (hb2.mono (by simp))
  have h2 := h.below hb (Nat.le_refl _)
  have R2 := R0.below hb2 (by simp)
  go_wp2_with fail
  refine (Rstop_any l en s 4 ta w2 B pb tv h2).mono ?_
  rintro e w3 ⟨rfl, hg3, h3⟩
  have z3 := hg3.size
  have R3 := hg3.blk R2 (by omega)
  have gw3 := grown_grown (grown_of _ hb) hg3
  obtain ⟨⟨r0, r1, r2, r3, r4⟩, q0, q1, q2, q3, q4⟩ := set_cells5 R3
  go_wp2_with fail
  obtain ⟨⟨e0', e1', e2', e3', e4'⟩, _⟩ := set_cells5 (fin_cells (a0 := .int .i64 0) (a1 := .int .i64 0) (a2 := .int .i64 0) (a3 := strV []) (a4 := .slice none 0 0) R3)
  exact bodyPost_ret (v := exprA nilE none 0) (by simp [results, Try.results105, e0', e1', e2', e3', e4', go_sem, exprA, nilE, Expr.kind, Expr.a, Expr.b, Expr.name, Expr.kids]) rfl (finS (R := (nilE, stopS 4 ta s)) (S := fun _ => False) hlt (by omega) h3 gw3 (.leaf (by show 0 ≤ _; omega) (by decide) (by decide)) (fun k hk => hk.elim) _ _ _ _ _)

theorem Rsum_all (deep : Int) (l : List Tok) (en : Int) (hl : l.length ≤ 1000000) (hN : NumOk l) (th : St → Expr × St) (hto : OnF l th) (hth : SubS 105 deep l en th) : SumS 0 deep l en (exprS l en th) :=
  Rsum0_any deep l en hl _ (term_onS (factor_onS hto)) (Rsum1_any deep l en hl _ (factor_onS hto) (Rsum2_any deep l en _ (Rfactor_any deep l en hl hN th hto hth)))

theorem Rthing_step (deep : Int) (hd0 : 1 ≤ deep) (hd1 : deep ≤ 40) (d : Nat) (l : List Tok) (en : Int) (hl : l.length ≤ 1000000) (hN : NumOk l) (hnm : ∀ t ∈ l, t.2.2.2.length ≤ 9223372036854775807)
    (hth : SubS 105 (deep + 1) l en (thingS l en d)) : SubS 105 deep l en (thingS l en (d + 1)) := by
  intro s w B pb tv h hin
  have hto := thing_onS (l := l) (en := en) d
  have hfo := factor_onS (en := en) hto
  have hfa := Rfactor_any (deep + 1) l en hl hN _ hto hth
  have hlen := next_len (en := en) hnm s
  rw [thingS]
  cases hgd : goodS s with
  | false =>
    rw [if_pos rfl]
    exact Rthing_bad deep l en s w B pb tv h hgd
  | true =>
    rw [if_neg (by decide)]
    obtain ⟨⟨tk, tn, ta, tt⟩, ht⟩ : ∃ t, nextS l en s = t := ⟨_, rfl⟩
    have hw : ∀ x, wordS l en s x = (tk == 2 && tt == x) := fun x => by unfold wordS; rw [ht]
    rw [ht] at hlen
    replace hlen : tt.length ≤ 9223372036854775807 := hlen
    by_cases hon : onS l en 3 [40] s = true
    · rw [if_pos hon]
      obtain ⟨_, _, h3, h4⟩ := on_lt (by decide) hon
      rw [ht] at h3 h4
      replace h3 : tk = 3 := h3
      replace h4 : tt = [40] := h4
      subst h3 h4
      exact Rthing_paren deep hd0 hd1 l en hl _ (expr_onS hto) (Rsum_all (deep + 1) l en hl hN _ hto hth) s w B pb tv h hin hgd tn ta ht
    rw [if_neg hon, hw, hw, hw, hw, ht]
    have hon' : onS l en 3 [40] s = false := by simpa using hon
    clear hon hw
    by_cases h2 : tk = 2
    · subst h2
      by_cases e1 : tt = neverT
      · subst e1
        rw [if_pos (by decide)]
        exact Rthing_never deep hd1 l en hl s w B pb tv h hin hgd tn ta ht
      rw [if_neg (by simpa using e1)]
      by_cases e2 : tt = alwaysT
      · subst e2
        rw [if_pos (by decide)]
        exact Rthing_always deep hd1 l en hl s w B pb tv h hin hgd tn ta ht
      rw [if_neg (by simpa using e2)]
      by_cases e3 : tt = weeklyT
      · subst e3
        rw [if_pos (by decide)]
        exact Rthing_weekly deep hd0 hd1 l en hl _ hfo hfa s w B pb tv h hin hgd tn ta ht hnm
      rw [if_neg (by simpa using e3)]
      by_cases e4 : tt = datesT
      · subst e4
        rw [if_pos (by decide)]
        have hi : s.i < l.length := next_lt (k := 2) (by decide) (by rw [ht])
        have hin0 := (inc_onS hin hi).inb
        unfold datesS
        obtain ⟨⟨ak, an, aa, att⟩, hta⟩ : ∃ t, nextS l en (incS s) = t := ⟨_, rfl⟩
        rw [hta]
        by_cases hdd : onS l en 3 [46, 46] (getS l en 5 (incS s)) = true
        · rw [if_pos hdd]
          obtain ⟨⟨bk, bn, ba, bt⟩, htb⟩ : ∃ t, nextS l en (incS (getS l en 5 (incS s))) = t := ⟨_, rfl⟩
          unfold toS
          rw [htb]
          exact Rthing_dates2 deep hd0 hd1 l en hl _ hfo hfa s w B pb tv h hin hgd tn ta ht ak an aa bk bn ba att bt hta htb hdd
        · rw [if_neg hdd]
          exact Rthing_dates1 deep hd0 hd1 l en hl _ hfo hfa s w B pb tv h hin hgd tn ta ht ak an aa att hta (by simpa using hdd)
      rw [if_neg (by simpa using e4), if_neg (show ¬ (2 : Int) = 1 by decide)]
      exact Rthing_spanB deep hd1 l en hl s w B pb tv h hin hgd tn ta tt ht (by simpa [neverT] using e1) (by simpa [alwaysT] using e2) (by simpa [weeklyT] using e3) (by simpa [datesT] using e4) hon'
    · have hk : (tk == 2) = false := by simpa using h2
      rw [hk, Bool.false_and, Bool.false_and, Bool.false_and, Bool.false_and, if_neg (by decide), if_neg (by decide), if_neg (by decide), if_neg (by decide)]
      by_cases h1 : tk = 1
      · subst h1
        rw [if_pos rfl]
        exact Rthing_name deep hd1 l en hl s w B pb tv h hin hgd tn ta tt ht hlen
      · rw [if_neg h1]
        exact Rthing_spanA deep hd1 l en hl s w B pb tv h hin hgd tk tn ta tt ht hk (by simpa using h1) hon'

theorem Rthing_any (l : List Tok) (en : Int) (hl : l.length ≤ 1000000) (hN : NumOk l) (hnm : ∀ t ∈ l, t.2.2.2.length ≤ 9223372036854775807) (d : Nat) (hd : d ≤ 40) : SubS 105 (41 - d) l en (thingS l en d) := by
  induction d with
  | zero =>
    intro s w B pb tv h hin
    rw [thingS]
    cases hgd : goodS s with
    | false => rw [stop_keep hgd]; exact Rthing_bad _ l en s w B pb tv h hgd
    | true => exact Rthing_deep l en s w B pb tv h hgd
  | succ d ih =>
    have := ih (by omega)
    rw [show (41 : Int) - d = (41 - (d + 1 : Nat)) + 1 from by omega] at this
    exact Rthing_step _ (by omega) (by omega) d l en hl hN hnm this
/-- an expression, from the top -/
theorem Rsum_top (l : List Tok) (en : Int) (hl : l.length ≤ 1000000) (hN : NumOk l) (hnm : ∀ t ∈ l, t.2.2.2.length ≤ 9223372036854775807) : SumS 0 1 l en (exprS l en (thingS l en 40)) :=
  Rsum_all 1 l en hl hN _ (thing_onS 40) (Rthing_any l en hl hN hnm 40 (by omega))

end Ru
end Go.Proofs.Ytfhedopfjgjffaa
