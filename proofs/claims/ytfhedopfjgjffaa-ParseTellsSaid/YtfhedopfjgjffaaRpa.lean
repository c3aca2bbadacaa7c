/- How deep an expression is (slotref4.Deep); the same expression, and the same rules, twice (slotref4.Equal, slotref4.Same). The document's parsing of a text's rules: slotref4.Parse makes what parsing makes. -/
import Derived.Test.YtfhedopfjgjffaaPrT
import Derived.Test.YtfhedopfjgjffaaShp
import Derived.Test.YtfhedopfjgjffaaQt
import Derived.Test.YtfhedopfjgjffaaWky
import Derived.Test.YtfhedopfjgjffaaLexTd
import Derived.Test.YtfhedopfjgjffaaAlv
namespace Go.Proofs.Ytfhedopfjgjffaa
open Go.RowKit
namespace Ru
open Lx
open Sl (strV Reads)

mutual
theorem deep_le : ∀ e : Expr, deepE e ≤ nodesE e
  | .mk k x y nm kids => by
    have := deepK_le kids
    rw [deepE, nodesE]
    omega
theorem deepK_le : ∀ l : List Expr, deepK l ≤ nodesL l
  | [] => by rw [deepK, nodesL]; omega
  | e :: l => by
    have h1 := deep_le e
    have h2 := deepK_le l
    rw [deepK, nodesL]
    omega
end
theorem set_cells5' {w : World} {g : Nat} {t : TypeId} {a0 a1 a2 a3 a4 : Value} (h : Blk w g t #[a0, a1, a2, a3, a4]) : (w.cell? ⟨g, 0, none⟩ = some a0 ∧ w.cell? ⟨g, 1, none⟩ = some a1 ∧ w.cell? ⟨g, 2, none⟩ = some a2 ∧ w.cell? ⟨g, 3, none⟩ = some a3 ∧ w.cell? ⟨g, 4, none⟩ = some a4) ∧ g < w.heap.size :=
  ⟨⟨h.cell 0, h.cell 1, h.cell 2, h.cell 3, h.cell 4⟩, h.lt⟩
theorem deepK_at {l : List Expr} {i : Nat} {e : Expr} (h : l[i]? = some e) : deepK (l.drop i) = max (deepE e) (deepK (l.drop (i + 1))) := by
  obtain ⟨hi, rfl⟩ := List.getElem?_eq_some_iff.1 h
  rw [List.drop_eq_getElem_cons hi, deepK]

set_option maxRecDepth 100000 in
set_option maxHeartbeats 8000000 in
theorem Deep_any : ∀ (N : Nat) (e : Expr) (v : Value) (w : World) (B : Nat), N ≤ 100000 → nodesE e ≤ N → B ≤ w.heap.size → ExprVal w B v e →
    Calls Try.prog 49 #[v] w fun r w' => r = .returned (.int .i64 (deepE e : Nat)) ∧ Below w.heap.size w w' := by
  intro N
  induction N with
  | zero => intro e v w B _ hN; have := nodesE_pos e; omega
  | succ N ih =>
    intro e v w B hN hn hB he
    obtain ⟨A, cap, rfl, hnl, hkl, hkw⟩ := he
    have hnod : nodesL e.kids ≤ N := by cases e; rw [nodesE] at hn; simp only [Expr.kids]; omega
    have hdk := deepK_le e.kids
    have hde : deepE e = deepK e.kids + 1 := by cases e; rw [deepE]; rfl
    obtain ⟨k, x, y, nm, kids⟩ := e
    simp only [Expr.kind, Expr.a, Expr.b, Expr.name, Expr.kids] at hnl hkl hkw hnod hdk hde ⊢
    rw [hde]
    replace ih := Lib.hid ih
    replace hkw := Lib.hid hkw
    replace hde := Lib.hid hde
    have hbA := (Below.refl w.heap.size w).alloc (Nat.le_refl _) (.cells #[.int .i64 k, .int .i64 x, .int .i64 y, strV nm, .slice A kids.length cap] 38)
    go_enter Try.func49, Try.ntmps49
    go_wp2
    go_loopg [3, 10, 5, 6] kids.length (fun m v3 v10 _ _ wr => ∃ j n : Nat, j ≤ kids.length ∧ m = kids.length - j ∧ v10 = .int .i64 j ∧ v3 = .int .i64 n ∧ max n (deepK (kids.drop j)) = deepK kids ∧ Below w.heap.size w wr)
    case atStart => exact ⟨0, 0, by omega, rfl, rfl, rfl, by simp, hbA⟩
    case round =>
      obtain ⟨j, n, hj, hm, rfl, rfl, hmax, hbr⟩ := hrel
      replace hm := Lib.hid hm
      have zr := hbr.size
      by_cases hlt : j < kids.length
      · obtain ⟨e1, hx⟩ : ∃ d, kids[j]? = some d := ⟨_, List.getElem?_eq_getElem hlt⟩
        obtain ⟨kb, ko, rfl, hkb, hke⟩ := hkw.out.at' hx
        have hst := deepK_at hx
        have hn1 := nodesE_kid hx
        have hkr := hke.below hbr hB (Nat.le_refl _) (by omega)
        obtain ⟨v0, v1, v2, v3, hnl1, A1, cap1, v4, hkl1, hkv1⟩ := hkr.out
        have hzz : kb < wr.heap.size := by omega
        have hbz : Below w.heap.size w (wr.alloc (.cells #[.int .i64 e1.kind, .int .i64 e1.a, .int .i64 e1.b, strV e1.name, .slice A1 e1.kids.length cap1] 38)) := hbr.alloc (by omega) _
        have hcall := ih.out e1 (.agg #[.int .i64 e1.kind, .int .i64 e1.a, .int .i64 e1.b, strV e1.name, .slice A1 e1.kids.length cap1]) (wr.alloc (.cells #[.int .i64 e1.kind, .int .i64 e1.a, .int .i64 e1.b, strV e1.name, .slice A1 e1.kids.length cap1] 38)) B (by omega) (by omega) (by simp; omega) ⟨A1, cap1, rfl, hnl1, hkl1, hkv1.below ((Below.refl B wr).alloc (by omega) _) (Nat.le_refl _) (Nat.le_refl _)⟩
        replace hcall := Lib.hid hcall
        have hde1 := deep_le e1
        generalize deepE e1 = d1 at *
        clear hx hke hkv1 hkr hkl1 hnl1
        rcases dec ((n : Int) < (d1 : Int)) with ⟨q, hv⟩ | ⟨q, hv⟩
        · go_wp2_with fail
          refine hcall.out.mono ?_
          rintro e w5 ⟨rfl, hb5⟩
          go_wp2_with fail
          go_roundg (kids.length - (j + 1))
          case measure => rw [hm.out]; omega
          case rel => exact ⟨j + 1, d1, by omega, rfl, by go_num, rfl, by omega, hbz.trans (hb5.mono (by simp; omega))⟩
        · go_wp2_with fail
          refine hcall.out.mono ?_
          rintro e w5 ⟨rfl, hb5⟩
          go_wp2_with fail
          go_roundg (kids.length - (j + 1))
          case measure => rw [hm.out]; omega
          case rel => exact ⟨j + 1, n, by omega, rfl, by go_num, rfl, by omega, hbz.trans (hb5.mono (by simp; omega))⟩
      · obtain rfl : j = kids.length := by omega
        have hn0 : n = deepK kids := by rw [← hmax, List.drop_length, deepK]; omega
        subst hn0
        go_wp2
        go_ret
        exact ⟨rfl, hbr⟩

set_option maxRecDepth 100000 in
set_option maxHeartbeats 8000000 in
theorem Equal_any : ∀ (N : Nat) (e : Expr) (v u : Value) (w : World) (B : Nat), nodesE e ≤ N → B ≤ w.heap.size → ExprVal w B v e → ExprVal w B u e →
    Calls Try.prog 50 #[v, u] w fun r w' => r = .returned (.bool true) ∧ Below w.heap.size w w' := by
  intro N
  induction N with
  | zero => intro e v u w B hN; have := nodesE_pos e; omega
  | succ N ih =>
    intro e v u w B hn hB he hf
    obtain ⟨A, cap, rfl, hnl, hkl, hkw⟩ := he
    obtain ⟨A2, cap2, rfl, _, _, hkw2⟩ := hf
    have hnod : nodesL e.kids ≤ N := by cases e; rw [nodesE] at hn; simp only [Expr.kids]; omega
    obtain ⟨k, x, y, nm, kids⟩ := e
    simp only [Expr.kind, Expr.a, Expr.b, Expr.name, Expr.kids] at hnl hkl hkw hkw2 hnod ⊢
    replace ih := Lib.hid ih
    replace hkw := Lib.hid hkw
    replace hkw2 := Lib.hid hkw2
    have hbA := ((Below.refl w.heap.size w).alloc (Nat.le_refl _) (.cells #[.int .i64 k, .int .i64 x, .int .i64 y, strV nm, .slice A kids.length cap] 38)).alloc (by simp) (.cells #[.int .i64 k, .int .i64 x, .int .i64 y, strV nm, .slice A2 kids.length cap2] 38)
    have P0 := (Blk.new w 38 #[.int .i64 k, .int .i64 x, .int .i64 y, strV nm, .slice A kids.length cap]).alloc (.cells #[.int .i64 k, .int .i64 x, .int .i64 y, strV nm, .slice A2 kids.length cap2] 38)
    have Q0 : Blk ((w.alloc (.cells #[.int .i64 k, .int .i64 x, .int .i64 y, strV nm, .slice A kids.length cap] 38)).alloc (.cells #[.int .i64 k, .int .i64 x, .int .i64 y, strV nm, .slice A2 kids.length cap2] 38)) (w.heap.size + 1) 38 #[.int .i64 k, .int .i64 x, .int .i64 y, strV nm, .slice A2 kids.length cap2] := by simpa using Blk.new (w.alloc (.cells #[.int .i64 k, .int .i64 x, .int .i64 y, strV nm, .slice A kids.length cap] 38)) 38 #[.int .i64 k, .int .i64 x, .int .i64 y, strV nm, .slice A2 kids.length cap2]
    obtain ⟨W0, hW0⟩ : ∃ W0, W0 = (w.alloc (.cells #[.int .i64 k, .int .i64 x, .int .i64 y, strV nm, .slice A kids.length cap] 38)).alloc (.cells #[.int .i64 k, .int .i64 x, .int .i64 y, strV nm, .slice A2 kids.length cap2] 38) := ⟨_, rfl⟩
    have zW0 : w.heap.size + 2 ≤ W0.heap.size := by rw [hW0]; simp
    go_enter Try.func50, Try.ntmps50
    go_upto_region 1 with fail
    rw [← hW0] at hbA P0 Q0 ⊢
    clear hW0
    obtain ⟨⟨p0, p1, p2, p3, p4⟩, _⟩ := set_cells5' P0
    obtain ⟨⟨q0, q1, q2, q3, q4⟩, _⟩ := set_cells5' Q0
    go_wp2_with fail
    go_loopg [5, 44] kids.length (fun m _ v44 wr => ∃ j : Nat, j ≤ kids.length ∧ m = kids.length - j ∧ v44 = .int .i64 j ∧ Below W0.heap.size W0 wr)
    case atStart => exact ⟨0, by omega, rfl, rfl, Below.refl _ _⟩
    case round =>
      clear p0 p1 p2 p3 p4 q0 q1 q2 q3 q4
      obtain ⟨j, hj, hm, rfl, hbr⟩ := hrel
      replace hm := Lib.hid hm
      have zr := hbr.size
      have hbw := hbA.trans (hbr.mono (by omega))
      obtain ⟨⟨p0, p1, p2, p3, p4⟩, _⟩ := set_cells5' (P0.below hbr (by omega))
      obtain ⟨⟨q0, q1, q2, q3, q4⟩, _⟩ := set_cells5' (Q0.below hbr (by omega))
      by_cases hlt : j < kids.length
      · obtain ⟨e1, hx⟩ : ∃ d, kids[j]? = some d := ⟨_, List.getElem?_eq_getElem hlt⟩
        obtain ⟨kb, ko, rfl, hkb, hke⟩ := hkw.out.at' hx
        obtain ⟨kb2, ko2, rfl, hkb2, hke2⟩ := hkw2.out.at' hx
        have hn1 := nodesE_kid hx
        have hkr := hke.below hbw hB (Nat.le_refl _) (by omega)
        have hkr2 := hke2.below hbw hB (Nat.le_refl _) (by omega)
        obtain ⟨v0, v1, v2, v3, hnl1, A1, cap1, v4, hkl1, hkv1⟩ := hkr.out
        obtain ⟨u0, u1, u2, u3, _, A3, cap3, u4, _, hkv3⟩ := hkr2.out
        have hzz : kb < wr.heap.size := by omega
        have hzz2 : kb2 < wr.heap.size := by omega
        have hE := Lib.hid (fun m : After wr.heap.size wr => show Calls Try.prog 50 #[.agg #[.int .i64 e1.kind, .int .i64 e1.a, .int .i64 e1.b, strV e1.name, .slice A1 e1.kids.length cap1], .agg #[.int .i64 e1.kind, .int .i64 e1.a, .int .i64 e1.b, strV e1.name, .slice A3 e1.kids.length cap3]] m.w (fun r w' => r = .returned (.bool true) ∧ Below m.w.heap.size m.w w') from
          ih.out e1 _ _ m.w B (by omega) (by have := m.size; omega) ⟨A1, cap1, rfl, hnl1, hkl1, hkv1.below m.below (by omega) (Nat.le_refl _)⟩ ⟨A3, cap3, rfl, hnl1, hkl1, hkv3.below m.below (by omega) (Nat.le_refl _)⟩)
        clear hx hke hkv1 hkr hkl1 hnl1 hkr2 hke2 hkv3
        go_wp2_with fail
        refine wp_region_below (wr.heap.size) _ (Below.refl _ _) (by kernel_rfl) (by kernel_rfl) ?_
        repeat (go_big_quiet_step (((go_at_call 50; exact quiet_below (Nat.le_refl _) (hE.out _)))))
        refine wpQuiet_nil ?_
        rintro _ ⟨n1, rfl⟩
        go_wp2_with fail
        go_roundg (kids.length - (j + 1))
        case measure => rw [hm.out]; omega
        case rel => exact ⟨j + 1, by omega, rfl, by go_num, hbr.trans (n1.below.mono (by omega))⟩
      · obtain rfl : j = kids.length := by omega
        go_wp2
        go_ret
        exact ⟨rfl, hbw⟩

set_option maxRecDepth 100000 in
set_option maxHeartbeats 8000000 in
theorem Same_any (l : List Rule) (v u : Value) (w : World) (B : Nat) (hB : B ≤ w.heap.size) (hv : RulesV w B v l) (hu : RulesV w B u l) :
    Calls Try.prog 14 #[v, u] w fun r w' => r = .returned (.bool true) ∧ Below w.heap.size w w' := by
  obtain ⟨A, cap, rfl, hl, hc⟩ := hv
  obtain ⟨A2, cap2, rfl, _, hc2⟩ := hu
  replace hc := Lib.hid hc
  replace hc2 := Lib.hid hc2
  go_enter Try.func14, Try.ntmps14
  go_wp2_with fail
  go_loopg [5, 13] l.length (fun m _ v13 wr => ∃ j : Nat, j ≤ l.length ∧ m = l.length - j ∧ v13 = .int .i64 j ∧ Below w.heap.size w wr)
  case atStart => exact ⟨0, by omega, rfl, rfl, Below.refl _ _⟩
  case round =>
    obtain ⟨j, hj, hm, rfl, hbr⟩ := hrel
    replace hm := Lib.hid hm
    have zr := hbr.size
    by_cases hlt : j < l.length
    · obtain ⟨r, hx⟩ : ∃ d, l[j]? = some d := ⟨_, List.getElem?_eq_getElem hlt⟩
      obtain ⟨b, o, rfl, hb, hr⟩ := hc.out j r hx
      obtain ⟨b2, o2, rfl, hb2, hr2⟩ := hc2.out j r hx
      obtain ⟨n0, _, x0⟩ := hr.below hbr (by omega) hB (Nat.le_refl _)
      obtain ⟨m0, _, y0⟩ := hr2.below hbr (by omega) hB (Nat.le_refl _)
      obtain ⟨v0, v1, v2, v3, hnl1, A1, cap1, v4, hkl1, hkv1⟩ := x0.out
      obtain ⟨u0, u1, u2, u3, _, A3, cap3, u4, _, hkv3⟩ := y0.out
      have hzz : b < wr.heap.size := by omega
      have hzz2 : b2 < wr.heap.size := by omega
      have hE := Lib.hid (fun m : After wr.heap.size wr => show Calls Try.prog 50 #[.agg #[.int .i64 r.expr.kind, .int .i64 r.expr.a, .int .i64 r.expr.b, strV r.expr.name, .slice A1 r.expr.kids.length cap1], .agg #[.int .i64 r.expr.kind, .int .i64 r.expr.a, .int .i64 r.expr.b, strV r.expr.name, .slice A3 r.expr.kids.length cap3]] m.w (fun r w' => r = .returned (.bool true) ∧ Below m.w.heap.size m.w w') from
        Equal_any (nodesE r.expr) r.expr _ _ m.w B (Nat.le_refl _) (by have := m.size; omega) ⟨A1, cap1, rfl, hnl1, hkl1, hkv1.below m.below (by omega) (Nat.le_refl _)⟩ ⟨A3, cap3, rfl, hnl1, hkl1, hkv3.below m.below (by omega) (Nat.le_refl _)⟩)
      clear hx hkv1 x0 y0 hkl1 hnl1 hkv3 hr hr2
      generalize r.expr = ex at *
      go_wp2_with fail
      refine wp_region_below (wr.heap.size) _ (Below.refl _ _) (by kernel_rfl) (by kernel_rfl) ?_
      repeat (go_big_quiet_step (((go_at_call 50; exact quiet_below (Nat.le_refl _) (hE.out _)))))
      refine wpQuiet_nil ?_
      rintro _ ⟨n1, rfl⟩
      go_wp2_with fail
      go_roundg (l.length - (j + 1))
      case measure => rw [hm.out]; omega
      case rel => exact ⟨j + 1, by omega, rfl, by go_num, hbr.trans (n1.below.mono (by omega))⟩
    · obtain rfl : j = l.length := by omega
      go_wp2
      go_ret
      exact ⟨rfl, hbr⟩

end Ru
end Go.Proofs.Ytfhedopfjgjffaa

namespace Go.Proofs.Ytfhedopfjgjffaa
open Go.RowKit
namespace Ru
open Lx
open Sl (strV Reads)

/-- all is well: then nothing stands where a fault's place would -/
def Gd (s : St) : Prop := goodS s = true → s.po = 0
section
variable {l : List Tok} {en : Int}
theorem stop_bad {e p : Int} (he : e ≠ 0) (s : St) : goodS (stopS e p s) = false := by
  cases h : goodS s with
  | false => rw [stop_keep h, h]
  | true => rw [stop_good h]; unfold goodS; simpa using he
theorem Gd.stop {e p : Int} (he : e ≠ 0) (s : St) : Gd (stopS e p s) := fun h => by rw [stop_bad he] at h; cases h
theorem Gd.inc {s : St} (h : Gd s) : Gd (incS s) := h
theorem Gd.zero {s : St} (h : Gd s) : Gd (zeroS s) := h
theorem Gd.get {k : Int} {s : St} (h : Gd s) : Gd (getS l en k s) := by
  unfold getS
  split
  · exact .stop (by decide) _
  · exact h
theorem Gd.need {t : List UInt8} {s : St} (h : Gd s) : Gd (needS l en t s) := by
  unfold needS
  split
  · exact h
  · exact .stop (by decide) _
theorem Gd.fault {c : Bool} {e p : Int} (he : e ≠ 0) {s : St} (h : Gd s) : Gd (faultS c e p s) := by
  unfold faultS
  split
  · exact .stop he _
  · exact h
theorem Gd.head {n : Nat} {s : St} (h : Gd s) : Gd (headS l en n s) := by
  unfold headS
  split
  · exact .stop (by decide) _
  · exact h
theorem Gd.eq {s : St} (h : Gd s) (hg : goodS s = true) : s = G s.i s.nd := by
  have h1 := h hg
  obtain ⟨i, nd, e, p⟩ := s
  unfold goodS at hg
  simp only [beq_iff_eq] at hg
  simp only at h1 ⊢
  subst h1 hg
  rfl
theorem expr_gd (hG : ∀ t ∈ l, TokG t) {s : St} (h : Gd s) (hn : s.nd = 0) : goodS (exprS l en (thingS l en 40) s).2 = true → nodesE (exprS l en (thingS l en 40) s).1 ≤ 600 ∧ (exprS l en (thingS l en 40) s).2.po = 0 := by
  intro hq
  have hN : NumOk l := fun i t h => (hG t (List.mem_of_getElem? h)).po
  cases hg : goodS s with
  | false =>
    rw [expr_stuck (thing_stuck 40) s hg, hg] at hq
    cases hq
  | true =>
    have he := h.eq hg
    rw [hn] at he
    rw [he] at hq ⊢
    have hs := expr_sim (en := en) hN (thing_sim (en := en) hN 40) s.i 0
    have hgp := expr_g (en := en) hG (thing_g (en := en) hG 40) s.i 0
    cases hp : exprP l en (thingP l en 40) s.i 0 with
    | bad e q => rw [hp] at hs; rw [hs.bad_of] at hq; cases hq
    | ok x j nj =>
      rw [hp] at hs
      obtain ⟨h1, h2⟩ := hs
      obtain ⟨_, g2, g3⟩ := hgp x j nj (by omega) hp
      rw [h1, h2]
      exact ⟨by omega, rfl⟩
theorem inb_zero {s : St} (h : Inb l s) : Inb l (zeroS s) := ⟨h.i, fun _ => by show 0 ≤ 600; omega⟩
theorem head_on {n : Nat} {s : St} (h : Inb l s) : On l s (headS l en n s) := by
  unfold headS
  split
  · exact stop_onS (by decide) h
  · exact .refl h
end

/-- what holds between the rules -/
structure LoopR (w wr : World) (tv : Value) (l : List Tok) (en : Int) (pb : Nat) (s : St) (v : Value) (out : List Rule) (xs : List (Rule × Option Addr × Nat)) : Prop where
  wk : WkAt wr pb pb tv l en s
  toks : TokL wr (w.heap.size + 1) pb tv l
  lo : w.heap.size + 1 ≤ pb
  row : RowOf wr (pb + 1) v out xs
  fb : Blk wr w.heap.size 25 #[.int .i64 0, .int .i64 0]
  bel : Below w.heap.size w wr
section
variable {w wr w' : World} {tv : Value} {l : List Tok} {en : Int} {pb : Nat} {s s' : St} {v : Value} {out : List Rule} {xs : List (Rule × Option Addr × Nat)}
theorem LoopR.lt (h : LoopR w wr tv l en pb s v out xs) : pb < wr.heap.size := h.wk.lt
theorem LoopR.go (h : LoopR w wr tv l en pb s v out xs) (hg : wr.grownBy w' (some pb)) (hP : WkAt w' pb pb tv l en s') : LoopR w w' tv l en pb s' v out xs := by
  have z := h.lt
  have zl := h.lo
  have zb := h.bel.size
  exact ⟨hP, h.toks.keep fun k _ hk => hg.block k (by omega) (by intro e; injection e with e; omega), zl, h.row.keep (fun k hk hk2 => hg.block k hk2 (by intro e; injection e with e; omega)) hg.size,
    (hg.block _ (by omega) (by intro e; injection e with e; omega)).trans h.fb, below_grown h.bel hg (by omega) zb⟩
theorem LoopR.below (h : LoopR w wr tv l en pb s v out xs) (hb : Below wr.heap.size wr w') : LoopR w w' tv l en pb s v out xs :=
  h.go (grown_of _ hb) (h.wk.below hb (Nat.le_refl _))
theorem LoopR.push {v' : Value} {out' : List Rule} {xs' : List (Rule × Option Addr × Nat)} (h : LoopR w wr tv l en pb s v out xs) (hb : Below (pb + 1) wr w') (hr : RowOf w' (pb + 1) v' out' xs') : LoopR w w' tv l en pb s v' out' xs' := by
  have z := h.lt
  have zl := h.lo
  have zb := h.bel.size
  have zg := hb.size
  have ht : TokL w' (w.heap.size + 1) pb tv l := h.toks.keep fun k h1 h2 => hb.block k (by omega)
  exact ⟨⟨(hb.block pb (by omega)).trans h.wk.blk, ht.toks, Nat.le_refl _, h.wk.i, h.wk.n⟩, ht, zl,
    hr, (hb.block _ (by omega)).trans h.fb, h.bel.trans (hb.mono (by omega))⟩
theorem LoopR.val (h : LoopR w wr tv l en pb s v out xs) : ∃ A cap, v = .slice A out.length cap := h.row.val
theorem WkAt.zero (h : WkAt w pb pb tv l en s) : WkAt (w.setCell ⟨pb, 3, none⟩ (.int .i64 0)) pb pb tv l en (zeroS s) ∧ w.grownBy (w.setCell ⟨pb, 3, none⟩ (.int .i64 0)) (some pb) :=
  ⟨h.go (s' := zeroS s) (grown_set 3 _) (Blk.set h.blk 3 (.int .i64 0)) h.i (by show 0 ≤ 601; omega), grown_set 3 _⟩
end

set_option maxRecDepth 100000 in
set_option maxHeartbeats 8000000 in
theorem RParse_bad (s : List UInt8) (w : World) (hl : s.length ≤ 9223372036854775807) (he : (lexV s).2.1 ≠ 0) : Calls Try.prog 13 #[strV s] w (ParsePost s w) := by
  have hL := Lib.hid (fun W => RLex_any s W hl)
  have hp : parseP s = ([], (lexV s).2) := by unfold parseP; rw [if_pos he]
  replace hp := Lib.hid hp
  obtain ⟨err, herr⟩ : ∃ x, x = (lexV s).2.1 := ⟨_, rfl⟩
  obtain ⟨pos, hpos⟩ : ∃ x, x = (lexV s).2.2 := ⟨_, rfl⟩
  rw [← herr] at he
  have g0 : (err != 0) = true := by simpa using he
  have hbA : Below w.heap.size w (w.alloc (.cells #[.int .i64 0, .int .i64 0] 25)) := (Below.refl _ _).alloc (Nat.le_refl _) _
  have BF := Blk.new w 25 #[.int .i64 0, .int .i64 0]
  go_enter Try.func13, Try.ntmps13
  go_wp2_with fail
  refine (hL.out _).mono ?_
  rintro e1 w1 ⟨v, rfl, hb1, _⟩
  rw [← herr, ← hpos]
  replace herr := Lib.hid herr
  replace hpos := Lib.hid hpos
  have z1 := hb1.size
  simp at z1
  have BF1 := (BF.below hb1 (by simp)).alloc (.cells #[.int .i64 err, .int .i64 pos] 25)
  have hbB := (Below.call hbA hb1 (by simp)).alloc (by omega) (.cells #[.int .i64 err, .int .i64 pos] 25)
  have BG1 := Blk.new w1 25 #[.int .i64 err, .int .i64 pos]
  have b0 : (w1.alloc (.cells #[.int .i64 err, .int .i64 pos] 25)).cell? ⟨w.heap.size, 0, none⟩ = some (.int .i64 0) := BF1.cell 0
  have b1 : (w1.alloc (.cells #[.int .i64 err, .int .i64 pos] 25)).frozen? ⟨w.heap.size, 0, none⟩ = false := BF1.frozen 0
  have b2 : (w1.alloc (.cells #[.int .i64 err, .int .i64 pos] 25)).cell? ⟨w.heap.size, 1, none⟩ = some (.int .i64 0) := BF1.cell 1
  have b3 : (w1.alloc (.cells #[.int .i64 err, .int .i64 pos] 25)).frozen? ⟨w.heap.size, 1, none⟩ = false := BF1.frozen 1
  have d0 : (w1.alloc (.cells #[.int .i64 err, .int .i64 pos] 25)).cell? ⟨w1.heap.size, 0, none⟩ = some (.int .i64 err) := BG1.cell 0
  have d1 : (w1.alloc (.cells #[.int .i64 err, .int .i64 pos] 25)).cell? ⟨w1.heap.size, 1, none⟩ = some (.int .i64 pos) := BG1.cell 1
  have zz : w.heap.size < (w1.alloc (.cells #[.int .i64 err, .int .i64 pos] 25)).heap.size := by simp; omega
  have zz1 : w1.heap.size < (w1.alloc (.cells #[.int .i64 err, .int .i64 pos] 25)).heap.size := by simp
  go_wp2_with fail
  obtain ⟨W, hW⟩ : ∃ W, W = w1.alloc (.cells #[.int .i64 err, .int .i64 pos] 25) := ⟨_, rfl⟩
  rw [← hW] at BF1 hbB BG1 b0 b1 b2 b3 d0 d1 zz zz1 ⊢
  clear hW
  go_region
  go_wp2
  have BF2 := (BF1.set 0 (.int .i64 err)).set 1 (.int .i64 pos)
  have r1 := BF2.cell 0
  have r2 := BF2.cell 1
  simp at r1 r2
  refine bodyPost_ret (v := .tuple #[.slice none 0 0, .agg #[.int .i64 err, .int .i64 pos]]) (by simp [results, Try.results13, go_sem, r1, r2]) rfl ?_
  unfold ParsePost
  rw [hp.out]
  refine ⟨_, by rw [herr.out, hpos.out], ?_, ?_⟩
  · first
      | exact ((hbB.setCell (by show _ ≤ w.heap.size; omega) _).setCell (by show _ ≤ w.heap.size; omega) _).drew
      | exact ((hbB.drew).setCell (by show _ ≤ w.heap.size; omega) _).setCell (by show _ ≤ w.heap.size; omega) _
  · exact ⟨none, 0, rfl, by show 0 ≤ _; omega, fun i x hx => by cases hx⟩

/-- what the document's walk comes to -/
def FinR (s : List UInt8) (RR : List Rule × St) : Prop := (goodS RR.2 = true → parseP s = (RR.1, 0, 0)) ∧ (goodS RR.2 = false → parseP s = ([], RR.2.err, RR.2.po))
theorem fin_r (s : List UInt8) (he : (lexV s).2.1 = 0) : FinR s (rulesS (lexV s).1 s.length ((lexV s).1.length + 1) [] (G 0 0)) := by
  have h := rules_sim (l := (lexV s).1) (en := s.length) (lexV_good s) ((lexV s).1.length + 1) [] 0 0 (by show 0 ≤ 40; omega)
  unfold FinR
  rw [parse_outP he]
  cases hp : rulesP (lexV s).1 s.length ((lexV s).1.length + 1) [] 0 with
  | ok x i n =>
    rw [hp] at h
    obtain ⟨h1, h2⟩ := h
    exact ⟨fun _ => by rw [h1]; rfl, fun hb => by rw [h2] at hb; cases hb⟩
  | bad e q =>
    rw [hp] at h
    obtain ⟨h1, h2, h3⟩ := h
    have hb : goodS (rulesS (lexV s).1 s.length ((lexV s).1.length + 1) [] (G 0 0)).2 = false := by unfold goodS; rw [h1]; simpa using h3
    refine ⟨fun hg => ?_, fun _ => ?_⟩
    · rw [hb] at hg; cases hg
    · rw [h1, h2]; rfl

set_option maxRecDepth 100000 in
set_option maxHeartbeats 64000000 in
theorem RParse_ok (s : List UInt8) (w : World) (hl : s.length ≤ 9223372036854775807) (he : (lexV s).2.1 = 0) : Calls Try.prog 13 #[strV s] w (ParsePost s w) := by
  have hL := Lib.hid (fun W => RLex_any s W hl)
  have hpos0 : (lexV s).2.2 = 0 := by
    unfold lexV at he ⊢
    split
    · rfl
    · rename_i h6
      rw [if_neg h6] at he
      exact (lexR_form _ _ _).1 he
  have hfin := fin_r s he
  obtain ⟨hln, hlx⟩ := lexV_len s
  have hG := lexV_good s
  obtain ⟨l, hll⟩ : ∃ l, l = (lexV s).1 := ⟨_, rfl⟩
  rw [← hll] at hfin hln hlx hG
  obtain ⟨RR, hRR⟩ : ∃ R, R = rulesS l s.length (l.length + 1) [] (G 0 0) := ⟨_, rfl⟩
  rw [← hRR] at hfin
  have hl6 : l.length ≤ 1000000 := by omega
  have hnm : ∀ t ∈ l, t.2.2.2.length ≤ 9223372036854775807 := fun t ht => by have := hlx t ht; omega
  have hN : NumOk l := fun i t h => (hG t (List.mem_of_getElem? h)).po
  have hEX := Lib.hid (Rsum_top l s.length hl6 hN hnm)
  replace hG := Lib.hid hG
  have hnm := Lib.hid hnm
  replace hfin := Lib.hid hfin
  replace hRR := Lib.hid hRR.symm
  replace hlx := Lib.hid hlx
  have hbA : Below w.heap.size w (w.alloc (.cells #[.int .i64 0, .int .i64 0] 25)) := (Below.refl _ _).alloc (Nat.le_refl _) _
  have BF := Blk.new w 25 #[.int .i64 0, .int .i64 0]
  go_enter Try.func13, Try.ntmps13
  go_wp2_with fail
  refine (hL.out _).mono ?_
  rintro e1 w1 ⟨tv, rfl, hb1, ho1⟩
  rw [he, hpos0]
  rw [← hll] at ho1
  replace hll := Lib.hid hll
  have z1 := hb1.size
  simp at z1 ho1
  have hT1 := TokL.of ho1 hl6
  obtain ⟨tA, tc, rfl⟩ : ∃ A cap, tv = .slice A l.length cap := by
    obtain ⟨A, cap, h1, _⟩ := hT1
    exact ⟨A, cap, h1⟩
  have hL0 : LoopR w ((w1.alloc (.cells #[.int .i64 0, .int .i64 0] 25)).alloc (.cells #[.slice tA l.length tc, .int .i64 0, .int .i64 s.length, .int .i64 0, .int .i64 0, .int .i64 0] 86)) (.slice tA l.length tc) l s.length (w1.heap.size + 1) (G 0 0) (.slice none 0 0) [] [] := by
    have hbW := (((Below.call hbA hb1 (by simp)).alloc (by omega) (.cells #[.int .i64 0, .int .i64 0] 25)).alloc (by simp; omega) (.cells #[.slice tA l.length tc, .int .i64 0, .int .i64 s.length, .int .i64 0, .int .i64 0, .int .i64 0] 86))
    have hb12 := ((Below.refl w1.heap.size w1).alloc (Nat.le_refl _) (.cells #[.int .i64 0, .int .i64 0] 25)).alloc (by simp) (.cells #[.slice tA l.length tc, .int .i64 0, .int .i64 s.length, .int .i64 0, .int .i64 0, .int .i64 0] 86)
    have hT2 : TokL ((w1.alloc (.cells #[.int .i64 0, .int .i64 0] 25)).alloc (.cells #[.slice tA l.length tc, .int .i64 0, .int .i64 s.length, .int .i64 0, .int .i64 0, .int .i64 0] 86)) (w.heap.size + 1) (w1.heap.size + 1) (.slice tA l.length tc) l := Reads.mono (TokL.keep hT1 (fun k _ hk => hb12.block k hk)) (by omega) fun _ _ _ _ _ _ h => h
    have BP := Blk.new (w1.alloc (.cells #[.int .i64 0, .int .i64 0] 25)) 86 #[.slice tA l.length tc, .int .i64 0, .int .i64 s.length, .int .i64 0, .int .i64 0, .int .i64 0]
    simp only [World.size_alloc] at BP
    exact ⟨⟨BP, hT2.toks, Nat.le_refl _, Nat.zero_le _, Nat.zero_le _⟩, hT2, by omega, RowOf.nil _ _, ((BF.below hb1 (by simp)).alloc _).alloc _, hbW⟩
  clear hL he hpos0 hbA BF hb1 ho1 hT1 hl
  go_wp2_with fail
  obtain ⟨pb, hpb⟩ : ∃ pb, pb = w1.heap.size + 1 := ⟨_, rfl⟩
  rw [← hpb] at hL0 ⊢
  obtain ⟨W0, hW0⟩ : ∃ W0, W0 = (w1.alloc (.cells #[.int .i64 0, .int .i64 0] 25)).alloc (.cells #[.slice tA l.length tc, .int .i64 0, .int .i64 s.length, .int .i64 0, .int .i64 0, .int .i64 0] 86) := ⟨_, rfl⟩
  rw [← hW0] at hL0 ⊢
  replace hpb := Lib.hid hpb
  replace hW0 := Lib.hid hW0
  go_loopg [7, 8, 9] (l.length - 0) (fun q a _ _ wr => ∃ (s1 : St) (v : Value) (out : List Rule) (xs : List (Rule × Option Addr × Nat)) (f : Nat), q = l.length - s1.i ∧ a = v ∧ LoopR w wr (.slice tA l.length tc) l s.length pb s1 v out xs ∧ Inb l s1 ∧ Gd s1 ∧ Hid (rulesS l s.length f out s1 = RR) ∧ l.length < f + s1.i ∧ (goodS s1 = true → out.length ≤ 40) ∧ out.length ≤ 41)
  case atStart => exact ⟨G 0 0, _, [], [], l.length + 1, rfl, rfl, hL0, ⟨Nat.zero_le _, fun _ => Nat.zero_le _⟩, fun _ => rfl, hRR, by show _ < _ + 0; omega, fun _ => Nat.zero_le _, Nat.zero_le _⟩
  case round =>
    clear hL0 hRR
    obtain ⟨s1, v, out, xs, f, hq, rfl, hP, hin, hgd0, hR, hf, ho, ho41⟩ := hrel
    replace hq := Lib.hid hq
    replace ho := Lib.hid ho
    have hPA := hP.wk
    obtain ⟨vA, vc, rfl⟩ := hP.val
    cases f with
    | zero => have := hin.i; omega
    | succ f =>
    have hsh := hR.out
    rw [rulesS] at hsh
    clear hR
    have hGg := Lib.hid (Rgood_any l s.length s1 wr pb pb (.slice tA l.length tc) hPA)
    have p1 : wr.cell? ⟨pb, 1, none⟩ = some (.int .i64 s1.i) := Blk.cell hPA.blk 1
    have zp := hP.lt
    have zlo := hP.lo
    have zbel := hP.bel.size
    cases hgd : goodS s1 with
    | false =>
      rw [hgd, Bool.false_and, if_neg (by decide)] at hsh
      subst hsh
      rw [hgd] at hGg
      obtain ⟨q0, q1⟩ := (show wr.frozen? ⟨w.heap.size, 0, none⟩ = false ∧ wr.frozen? ⟨w.heap.size, 1, none⟩ = false from ⟨hP.fb.frozen 0, hP.fb.frozen 1⟩)
      obtain ⟨r0, r1⟩ := (show wr.cell? ⟨w.heap.size, 0, none⟩ = some (.int .i64 0) ∧ wr.cell? ⟨w.heap.size, 1, none⟩ = some (.int .i64 0) from ⟨hP.fb.cell 0, hP.fb.cell 1⟩)
      obtain ⟨⟨x0, x1, x2, x3, x4, x5⟩, _⟩ := hP.wk.cells
      have zlt := hP.lt
      go_wp2_with fail
      refine hGg.out.mono ?_
      rintro e8 w8 ⟨rfl, hw8⟩
      subst w8
      go_wp2_with fail
      refine hGg.out.mono ?_
      rintro e9 w9 ⟨rfl, hw9⟩
      subst w9
      go_wp2_with fail
      go_region
      go_wp2
      have BF2 := (hP.fb.set 0 (.int .i64 s1.err)).set 1 (.int .i64 s1.po)
      have b1 := BF2.cell 0
      have b2 := BF2.cell 1
      simp at b1 b2
      have hbel := hP.bel
      refine bodyPost_ret (v := .tuple #[.slice none 0 0, .agg #[.int .i64 s1.err, .int .i64 s1.po]]) (by simp [results, Try.results13, go_sem, b1, b2]) rfl ?_
      unfold ParsePost
      rw [hfin.out.2 hgd]
      refine ⟨_, rfl, ?_, ⟨none, 0, rfl, by show 0 ≤ _; omega, fun i x hx => by cases hx⟩⟩
      first
        | exact ((hbel.setCell (by show _ ≤ w.heap.size; omega) _).setCell (by show _ ≤ w.heap.size; omega) _).drew
        | exact ((hbel.drew).setCell (by show _ ≤ w.heap.size; omega) _).setCell (by show _ ≤ w.heap.size; omega) _
    | true =>
      rw [hgd] at hGg
      by_cases hil : s1.i < l.length
      · have gil : decide ((s1.i : Int) < (l.length : Int)) = true := by simp; omega
        rw [hgd, Bool.true_and, if_pos (decide_eq_true hil)] at hsh
        have ho := ho.out hgd
        have hO := Lib.hid (Ron_any l s.length s1 2 ruleT wr pb pb (.slice tA l.length tc) hPA)
        cases hs : onS l s.length 2 ruleT s1 with
        | false =>
          rw [hs, if_neg (by decide)] at hsh
          rw [hs] at hO
          unfold ruleT at hO
          have hbad := stop_bad (e := 2) (p := (nextS l s.length s1).2.2.1) (by decide) s1
          go_wp2_with fail
          refine hGg.out.mono ?_
          rintro e2 w2 ⟨rfl, hw2⟩
          subst w2
          go_wp2_with fail
          refine hO.out.mono ?_
          rintro e2 w2 ⟨rfl, hb2⟩
          have hP2 := hP.below hb2
          have hNx := Rnext_any l s.length s1 w2 pb pb (.slice tA l.length tc) hP2.wk
          obtain ⟨⟨tk, tn, ta, tt⟩, ht⟩ : ∃ t, nextS l s.length s1 = t := ⟨_, rfl⟩
          rw [ht] at hNx hsh hbad
          unfold tokA at hNx
          go_wp2_with fail
          refine hNx.mono ?_
          rintro e3 w3 ⟨rfl, hb3⟩
          have hP3 := hP2.below hb3
          go_wp2_with fail
          refine (Rstop_any l s.length s1 2 ta w3 pb pb (.slice tA l.length tc) hP3.wk).mono ?_
          rintro e4 w4 ⟨rfl, hg4, h4⟩
          have hP4 := hP3.go hg4 h4
          have hz4 := (hb2.trans (hb3.mono hb2.size)).size
          have zg4 := hg4.size
          subst hsh
          replace hbad : goodS (stopS 2 ta s1) = false := hbad
          have hGg := Lib.hid (Rgood_any l s.length (stopS 2 ta s1) w4 pb pb (.slice tA l.length tc) h4)
          rw [hbad] at hGg
          obtain ⟨q0, q1⟩ := (show w4.frozen? ⟨w.heap.size, 0, none⟩ = false ∧ w4.frozen? ⟨w.heap.size, 1, none⟩ = false from ⟨hP4.fb.frozen 0, hP4.fb.frozen 1⟩)
          obtain ⟨r0, r1⟩ := (show w4.cell? ⟨w.heap.size, 0, none⟩ = some (.int .i64 0) ∧ w4.cell? ⟨w.heap.size, 1, none⟩ = some (.int .i64 0) from ⟨hP4.fb.cell 0, hP4.fb.cell 1⟩)
          obtain ⟨⟨x0, x1, x2, x3, x4, x5⟩, _⟩ := hP4.wk.cells
          have zlt := hP4.lt
          go_wp2_with fail
          refine hGg.out.mono ?_
          rintro e9 w9 ⟨rfl, hw9⟩
          subst w9
          go_wp2_with fail
          go_region
          go_wp2
          have BF2 := (hP4.fb.set 0 (.int .i64 (stopS 2 ta s1).err)).set 1 (.int .i64 (stopS 2 ta s1).po)
          have b1 := BF2.cell 0
          have b2 := BF2.cell 1
          simp at b1 b2
          have hbel := hP4.bel
          refine bodyPost_ret (v := .tuple #[.slice none 0 0, .agg #[.int .i64 (stopS 2 ta s1).err, .int .i64 (stopS 2 ta s1).po]]) (by simp [results, Try.results13, go_sem, b1, b2]) rfl ?_
          unfold ParsePost
          rw [hfin.out.2 hbad]
          refine ⟨_, rfl, ?_, ⟨none, 0, rfl, by show 0 ≤ _; omega, fun i x hx => by cases hx⟩⟩
          first
            | exact ((hbel.setCell (by show _ ≤ w.heap.size; omega) _).setCell (by show _ ≤ w.heap.size; omega) _).drew
            | exact ((hbel.drew).setCell (by show _ ≤ w.heap.size; omega) _).setCell (by show _ ≤ w.heap.size; omega) _
        | true =>
          rw [hs, if_pos rfl] at hsh
          rw [hs] at hO
          unfold ruleT at hO
          have li := hin.i
          have hin2 := (inc_onS hin hil).inb
          go_wp2_with fail
          refine hGg.out.mono ?_
          rintro e2 w2 ⟨rfl, hw2⟩
          subst w2
          go_wp2_with fail
          refine hO.out.mono ?_
          rintro e2 w2 ⟨rfl, hb2⟩
          have hP2 := hP.below hb2
          have c2 : w2.cell? ⟨pb, 1, none⟩ = some (.int .i64 s1.i) := Blk.cell hP2.wk.blk 1
          have f2 : w2.frozen? ⟨pb, 1, none⟩ = false := Blk.frozen hP2.wk.blk 1
          have zp2 := hP2.lt
          have st2 := hP2.wk.step hil
          have hP3 := hP2.go st2.2 st2.1
          have hH : (40 ≤ out.length ∧ headS l s.length out.length (incS s1) = stopS 5 (nextS l s.length (incS s1)).2.2.1 (incS s1)) ∨ (¬ 40 ≤ out.length ∧ headS l s.length out.length (incS s1) = incS s1) := by
            unfold headS
            by_cases h40 : 40 ≤ out.length
            · exact .inl ⟨h40, if_pos h40⟩
            · exact .inr ⟨h40, if_neg h40⟩
          have hon3 := head_on (l := l) (en := s.length) (n := out.length) hin2
          have hgd3 : Gd (headS l s.length out.length (incS s1)) := Gd.head (Gd.inc hgd0)
          have lo3 : s1.i + 1 ≤ _ := hon3.lo
          have hin3 := hon3.inb
          have hob : 40 ≤ out.length → goodS (headS l s.length out.length (incS s1)) = false := fun h => by unfold headS; rw [if_pos h]; exact stop_bad (by decide) _
          cases hH
          case' inl hh =>
            obtain ⟨h40, hh⟩ := hh
            have g40 : decide ((40 : Int) ≤ (out.length : Int)) = true := by simp; omega
            have hNx := Rnext_any l s.length (incS s1) _ pb pb (.slice tA l.length tc) hP3.wk
            obtain ⟨⟨tk, tn, ta, tt⟩, ht⟩ : ∃ t, nextS l s.length (incS s1) = t := ⟨_, rfl⟩
            rw [ht] at hNx hh
            unfold tokA at hNx
            replace hNx := Lib.hid hNx
            go_wp2_with fail
            refine hNx.out.mono ?_
            rintro e4 w4 ⟨rfl, hb4⟩
            have hP4 := hP3.below hb4
            go_wp2_with fail
            refine (Rstop_any l s.length (incS s1) 5 ta w4 pb pb (.slice tA l.length tc) hP4.wk).mono ?_
            rintro e5 w5 ⟨rfl, hg5, h5⟩
            have hP5 := hP4.go hg5 h5
            rw [← hh] at hP5
            go_wp2_with fail
          case' inr hh =>
            obtain ⟨h40, hh⟩ := hh
            have g40 : decide ((40 : Int) ≤ (out.length : Int)) = false := by simp; omega
            rw [← hh] at hP3
            go_wp2_with fail
            obtain ⟨w5, hw5⟩ : ∃ W, W = w2.setCell ⟨pb, 1, none⟩ (.int .i64 ((s1.i : Int) + 1)) := ⟨_, rfl⟩
            rw [← hw5] at hP3 ⊢
            have hP5 := hP3
          all_goals
            clear hh g40 h40
            obtain ⟨s2, hs2⟩ : ∃ s2, headS l s.length out.length (incS s1) = s2 := ⟨_, rfl⟩
            have hbody : bodyS l s.length out.length (incS s1) = exprS l s.length (thingS l s.length 40) (zeroS (needS l s.length [61] (getS l s.length 1 s2))) := by unfold bodyS; rw [hs2]
            rw [hbody, hs2] at hsh
            rw [hs2] at hP5 hin3 hgd3 lo3 hob
            clear hs2 hbody
            have hlen := next_len (en := s.length) hnm.out s2
            have hGt := Rget_any l s.length s2 1 (by decide) w5 pb pb (.slice tA l.length tc) hP5.wk hl6
            obtain ⟨⟨nk, nn, na, nt⟩, hnt⟩ : ∃ t, nextS l s.length s2 = t := ⟨_, rfl⟩
            rw [hnt] at hsh hlen hGt
            unfold tokA at hGt
            replace hlen : nt.length ≤ 9223372036854775807 := hlen
            have on3 := get_onS (en := s.length) (k := 1) (by decide) hin3
            have gd3 := hgd3.get (l := l) (en := s.length) (k := 1)
            have kp3 : goodS s2 = false → getS l s.length 1 s2 = s2 := get_keep
            obtain ⟨s3, hs3⟩ : ∃ s3, getS l s.length 1 s2 = s3 := ⟨_, rfl⟩
            rw [hs3] at hsh hGt on3 gd3 kp3
            have on4 := need_onS (en := s.length) (t := [61]) on3.inb
            have gd4 := gd3.need (l := l) (en := s.length) (t := [61])
            have kp4 : goodS s3 = false → needS l s.length [61] s3 = s3 := need_keep
            have hNd := Lib.hid (fun W (hW : WkAt W pb pb (.slice tA l.length tc) l s.length s3) => Rneed_any l s.length s3 [61] W pb pb (.slice tA l.length tc) hW hl6)
            obtain ⟨s4, hs4⟩ : ∃ s4, needS l s.length [61] s3 = s4 := ⟨_, rfl⟩
            rw [hs4] at hsh hNd on4 gd4 kp4
            have on5 := expr_onS (en := s.length) (thing_onS (en := s.length) 40) (zeroS s4) (inb_zero on4.inb)
            have gd5 := expr_gd (en := s.length) hG.out (s := zeroS s4) gd4.zero rfl
            have kp5 : goodS s4 = false → (exprS l s.length (thingS l s.length 40) (zeroS s4)).2 = zeroS s4 := fun h => expr_stuck (thing_stuck 40) (zeroS s4) h
            have hX := Lib.hid (fun W (hW : WkAt W pb pb (.slice tA l.length tc) l s.length (zeroS s4)) => hEX.out (zeroS s4) W pb pb (.slice tA l.length tc) hW (inb_zero on4.inb))
            obtain ⟨⟨e, s5⟩, hR5⟩ : ∃ r, exprS l s.length (thingS l s.length 40) (zeroS s4) = r := ⟨_, rfl⟩
            rw [hR5] at hsh hX on5 gd5 kp5
            have kb5 : goodS s2 = false → goodS s5 = false := fun h => by
              have h3 : goodS s3 = false := by rw [kp3 h]; exact h
              have h4 : goodS s4 = false := by rw [kp4 h3]; exact h3
              have h5 : s5 = zeroS s4 := kp5 h4
              rw [h5]
              exact h4
            replace on5 : On l (zeroS s4) s5 := on5
            replace gd5 : goodS s5 = true → nodesE e ≤ 600 ∧ s5.po = 0 := gd5
            have lo5 : s1.i + 1 ≤ s5.i := by
              have h1 : s2.i ≤ s3.i := on3.lo
              have h2 : s3.i ≤ s4.i := on4.lo
              have h3 : s4.i ≤ s5.i := on5.lo
              omega
            have hin5 := on5.inb
            clear on3 on4 on5 gd3 gd4 kp3 kp4 kp5 lo3 hin3 hgd3 hs3 hs4 hR5 hnt
            obtain ⟨⟨hk, hn, ha, ht⟩, hht⟩ : ∃ t, nextS l s.length s5 = t := ⟨_, rfl⟩
            have on6 := fault_onS (c := decide (40 < deepE e)) (e := 4) (p := ha) (by decide) hin5
            have gd6 := Gd.fault (c := decide (40 < deepE e)) (e := 4) (p := ha) (by decide) (s := s5) (fun h => (gd5 h).2)
            have kp6 : goodS s5 = false → faultS (decide (40 < deepE e)) 4 ha s5 = s5 := fault_keep
            have gp6 : goodS s5 = true → faultS (decide (40 < deepE e)) 4 ha s5 = if decide (40 < deepE e) = true then stopS 4 ha s5 else s5 := fun h => by rw [fault_good h, stop_good h]
            unfold tailS at hsh
            rw [hht] at hsh
            obtain ⟨s6, hs6⟩ : ∃ s6, faultS (decide (40 < deepE e)) 4 ha s5 = s6 := ⟨_, rfl⟩
            replace hsh : rulesS l s.length f (out ++ [⟨nt, e⟩]) (needS l s.length [59] (faultS (decide (40 < deepE e)) 4 ha s5)) = RR := hsh
            rw [hs6] at hsh on6 gd6 kp6 gp6
            have on7 := need_onS (en := s.length) (t := [59]) on6.inb
            have gd7 := gd6.need (l := l) (en := s.length) (t := [59])
            have hNe := Lib.hid (fun W (hW : WkAt W pb pb (.slice tA l.length tc) l s.length s6) => Rneed_any l s.length s6 [59] W pb pb (.slice tA l.length tc) hW hl6)
            have kp7 : goodS s6 = false → needS l s.length [59] s6 = s6 := need_keep
            obtain ⟨s7, hs7⟩ : ∃ s7, needS l s.length [59] s6 = s7 := ⟨_, rfl⟩
            rw [hs7] at hsh on7 gd7 hNe kp7
            have ho7 : goodS s7 = true → out.length + 1 ≤ 40 := fun h => by
              rcases Nat.lt_or_ge out.length 40 with h1 | h1
              · omega
              · have h5 := kb5 (hob h1)
                have h6 : goodS s6 = false := by rw [kp6 h5]; exact h5
                rw [kp7 h6, h6] at h
                cases h
            have lo7 : s1.i + 1 ≤ s7.i := by
              have h1 : s5.i ≤ s6.i := on6.lo
              have h2 : s6.i ≤ s7.i := on7.lo
              omega
            have hin7 := on7.inb
            have hi7 := hin7.i
            clear hob kb5 kp7 on6 on7 gd6 lo5 hin5 hs6 hs7
            replace hsh := Lib.hid hsh
            refine hGt.mono ?_
            rintro e6 w6 ⟨rfl, hg6, h6⟩
            have hb6 := (Below.refl w6.heap.size w6).alloc (Nat.le_refl _) (.cells #[.int .i64 nk, .int .i64 nn, .int .i64 na, strV nt] 75)
            have hP7 := (hP5.go hg6 h6).below hb6
            have T7 := Blk.new w6 75 (tokB (nk, nn, na, nt))
            have zz6 : pb < w6.heap.size := (hP5.go hg6 h6).lt
            clear hGt
            go_wp2_with fail
            obtain ⟨w7, hw7⟩ : ∃ W, W = w6.alloc (.cells #[.int .i64 nk, .int .i64 nn, .int .i64 na, strV nt] 75) := ⟨_, rfl⟩
            have zz7 : w6.heap.size < w7.heap.size := by rw [hw7]; simp
            rw [← hw7] at hP7 T7 ⊢
            clear hw7 hb6 hg6 h6 hP5
            refine (hNd.out w7 hP7.wk).mono ?_
            rintro e8 w8 ⟨rfl, hg8, h8⟩
            have hP8 := hP7.go hg8 h8
            have zz8 := hg8.size
            have T8 := hg8.blk T7 (by omega)
            have d8 : w8.frozen? ⟨pb, 3, none⟩ = false := Blk.frozen h8.blk 3
            have c8 : w8.cell? ⟨pb, 3, none⟩ = some (.int .i64 s4.nd) := Blk.cell h8.blk 3
            have hze := h8.zero
            have hP9 := hP8.go hze.2 hze.1
            have T9 := hze.2.blk T8 (by omega)
            have zz9 := hP8.lt
            clear hP7 hg8 T7 hNd
            go_wp2_with fail
            obtain ⟨w9, hw9⟩ : ∃ W, W = w8.setCell ⟨pb, 3, none⟩ (.int .i64 0) := ⟨_, rfl⟩
            have zw9 : w8.heap.size ≤ w9.heap.size := by rw [hw9]; simp
            rw [← hw9] at hP9 T9 ⊢
            clear hw9 hze c8 d8 h8 T8 hP8
            refine (hX.out w9 hP9.wk).mono ?_
            rintro e10 w10 ⟨hg10, A, cap, rfl, hE10, h10⟩
            unfold exprA
            replace hE10 : ExprOk w10 (Nw w9.heap.size w10) e A := hE10
            replace h10 : WkAt w10 pb pb (.slice tA l.length tc) l s.length s5 := h10
            have zz10 := hg10.size
            have hb10 := (Below.refl w10.heap.size w10).alloc (Nat.le_refl _) (.cells #[.int .i64 e.kind, .int .i64 e.a, .int .i64 e.b, strV e.name, .slice A e.kids.length cap] 38)
            have hP11 := (hP9.go hg10 h10).below hb10
            have T11 := (hg10.blk T9 (by omega)).below hb10 (by omega)
            have E11 := Blk.new w10 38 #[.int .i64 e.kind, .int .i64 e.a, .int .i64 e.b, strV e.name, .slice A e.kids.length cap]
            have hE11 := hE10.keep (w' := w10.alloc (.cells #[.int .i64 e.kind, .int .i64 e.a, .int .i64 e.b, strV e.name, .slice A e.kids.length cap] 38)) (S' := fun k => pb + 1 ≤ k ∧ k < w10.heap.size) (fun k hk => ⟨hb10.block k hk.2, by have := hk.1; omega, hk.2⟩)
            clear hX
            go_wp2_with fail
            obtain ⟨w11, hw11⟩ : ∃ W, W = w10.alloc (.cells #[.int .i64 e.kind, .int .i64 e.a, .int .i64 e.b, strV e.name, .slice A e.kids.length cap] 38) := ⟨_, rfl⟩
            have zz11 : w10.heap.size < w11.heap.size := by rw [hw11]; simp
            rw [← hw11] at hP11 T11 E11 hE11 ⊢
            clear hw11 hb10 hg10 h10 hE10 hP9 T9
            refine (Rgood_any l s.length s5 w11 pb pb (.slice tA l.length tc) hP11.wk).mono ?_
            rintro e12 wx ⟨rfl, hwx⟩
            subst wx
            obtain ⟨⟨x0, x1, x2, x3, x4⟩, _⟩ := set_cells5' E11
            cases hg5 : goodS s5
            case' false =>
              have hs6 := kp6 hg5
              subst hs6
              go_wp2_with fail
              have hP12 := hP11
              have T12 := T11
              have E12 := E11
              have hE12 := hE11
              obtain ⟨w12, hw12⟩ : ∃ W, W = w11 := ⟨_, rfl⟩
              rw [← hw12] at hP12 T12 E12 hE12 ⊢
              have zz12 : w10.heap.size < w12.heap.size := by rw [hw12]; exact zz11
            case' true =>
              have hDp := Lib.hid (Deep_any 600 e (exprA e A cap) w11 w11.heap.size (by omega) (gd5 hg5).1 (Nat.le_refl _) (hE11.val fun k hk => by have := hk.2; omega))
              unfold exprA at hDp
              have hs6 := gp6 hg5
              generalize deepE e = d at hs6 hDp kp6 gp6
              go_wp2_with fail
              refine hDp.out.mono ?_
              rintro e13 w13 ⟨rfl, hb13⟩
              have hP13 := hP11.below hb13
              have T13 := T11.below hb13 (by omega)
              have E13 := E11.below hb13 (by omega)
              have hE13 := hE11.keep (w' := w13) (S' := fun k => pb + 1 ≤ k ∧ k < w10.heap.size) (fun k hk => ⟨hb13.block k (by have := hk.2; omega), hk⟩)
              have zz13 := hb13.size
              have hd : (decide ((40 : Int) < (d : Int)) = true ∧ s6 = stopS 4 ha s5) ∨ (decide ((40 : Int) < (d : Int)) = false ∧ s6 = s5) := by
                by_cases h41 : 40 < d
                · exact .inl ⟨by simp; omega, by rw [hs6, if_pos (decide_eq_true h41)]⟩
                · exact .inr ⟨by simp; omega, by rw [hs6, if_neg (by simpa using h41)]⟩
              clear hs6 hDp kp6 gp6
              cases hd
              case' inl hs6 =>
                obtain ⟨hd, hs6⟩ := hs6
                have hNx := Rnext_any l s.length s5 w13 pb pb (.slice tA l.length tc) hP13.wk
                rw [hht] at hNx
                unfold tokA at hNx
                replace hNx := Lib.hid hNx
                go_wp2_with fail
                refine hNx.out.mono ?_
                rintro e14 w14 ⟨rfl, hb14⟩
                have hP14 := hP13.below hb14
                go_wp2_with fail
                refine (Rstop_any l s.length s5 4 ha w14 pb pb (.slice tA l.length tc) hP14.wk).mono ?_
                rintro e15 w12 ⟨rfl, hg12, h12⟩
                have hP12 := hP14.go hg12 h12
                rw [← hs6] at hP12
                have hzz := hb14.size
                have hz2 := hg12.size
                have T12 := hg12.blk (T13.below hb14 (by omega)) (by omega)
                have E12 := hg12.blk (E13.below hb14 (by omega)) (by omega)
                have hE12 := (hE13.keep (w' := w14) (S' := fun k => pb + 1 ≤ k ∧ k < w10.heap.size) (fun k hk => ⟨hb14.block k (by have := hk.2; omega), hk⟩)).grown (S' := fun k => pb + 1 ≤ k ∧ k < w10.heap.size) hg12 (fun k hk => ⟨by have := hk.2; omega, by have := hk.1; omega, hk⟩)
                have zz12 : w10.heap.size < w12.heap.size := by omega
                go_wp2_with fail
              case' inr hs6 =>
                obtain ⟨hd, hs6⟩ := hs6
                go_wp2_with fail
                have hP12 := hP13
                rw [← hs6] at hP12
                have T12 := T13
                have E12 := E13
                have hE12 := hE13
                obtain ⟨w12, hw12⟩ : ∃ W, W = w13 := ⟨_, rfl⟩
                rw [← hw12] at hP12 T12 E12 hE12 ⊢
                have zz12 : w10.heap.size < w12.heap.size := by rw [hw12]; omega
            all_goals
              refine (hNe.out w12 hP12.wk).mono ?_
              rintro e16 w16 ⟨rfl, hg16, h16⟩
              have hP16 := hP12.go hg16 h16
              have zz16 := hg16.size
              have T16 := hg16.blk T12 (by omega)
              have E16 := hg16.blk E12 (by omega)
              have hE16 := hE12.grown (S' := fun k => pb + 1 ≤ k ∧ k < w16.heap.size) hg16 (fun k hk => ⟨by have := hk.2; omega, by have := hk.1; omega, hk.1, by have := hk.2; omega⟩)
              obtain ⟨⟨y0, y1, y2, y3, y4⟩, _⟩ := set_cells5' E16
              obtain ⟨⟨t0, t1, t2, t3⟩, _⟩ := tok_cells T16
              have hbase : pb + 1 ≤ w16.heap.size := hP16.lt
              have hR16 := Lib.hid hP16.row
              replace hE16 := Lib.hid hE16
              have hbl : w6.heap.size < w16.heap.size := by omega
              clear hP12 T12 E12 hE12 hg16 h16 T16 E16
              go_wp2_with (at_builtin; refine wp_rule rfl (.tmp 81) (.tmp 86) rfl (pb + 1) (.slice vA out.length vc) out xs hR16.out ho ⟨nt, e⟩ A cap _ rfl rfl ⟨hlen, hE16.out⟩ hbase ?_; intro v' w17 hR17 hb17 hz17; obtain ⟨vA2, vc2, rfl⟩ := hR17.val)
              have hP17 := hP16.push hb17 hR17
              simp only [List.length_append, List.length_cons, List.length_nil, Nat.zero_add] at hP17
              go_roundg (l.length - s7.i)
              case measure => rw [hq.out]; omega
              case rel => exact ⟨s7, _, _, _, f, rfl, rfl, hP17, hin7, gd7, Lib.hid hsh.out, by omega, fun h => by rw [List.length_append]; exact ho7 h, by rw [List.length_append]; show _ + 1 ≤ 41; omega⟩
      · have gil : decide ((s1.i : Int) < (l.length : Int)) = false := by simp; omega
        rw [hgd, Bool.true_and, if_neg (by simpa using hil)] at hsh
        subst hsh
        have hlen : out.length ≤ 1000 := by omega
        obtain ⟨q0, q1⟩ := (show wr.frozen? ⟨w.heap.size, 0, none⟩ = false ∧ wr.frozen? ⟨w.heap.size, 1, none⟩ = false from ⟨hP.fb.frozen 0, hP.fb.frozen 1⟩)
        obtain ⟨r0, r1⟩ := (show wr.cell? ⟨w.heap.size, 0, none⟩ = some (.int .i64 0) ∧ wr.cell? ⟨w.heap.size, 1, none⟩ = some (.int .i64 0) from ⟨hP.fb.cell 0, hP.fb.cell 1⟩)
        go_wp2_with fail
        refine hGg.out.mono ?_
        rintro e2 w2 ⟨rfl, hw2⟩
        subst w2
        go_wp2_with fail
        refine hGg.out.mono ?_
        rintro e2 w2 ⟨rfl, hw2⟩
        subst w2
        go_wp2_with fail
        have BF2 := (hP.fb.set 0 (.int .i64 0)).set 1 (.int .i64 0)
        have b1 := BF2.cell 0
        have b2 := BF2.cell 1
        simp at b1 b2
        refine bodyPost_ret (v := .tuple #[.slice vA out.length vc, .agg #[.int .i64 0, .int .i64 0]]) (by simp [results, Try.results13, go_sem, b1, b2]) rfl ?_
        unfold ParsePost
        rw [hfin.out.1 hgd]
        refine ⟨_, rfl, (hP.bel.setCell (by show _ ≤ w.heap.size; omega) _).setCell (by show _ ≤ w.heap.size; omega) _, ?_⟩
        refine RowOf.rules (hP.row.keep (fun k h1 h2 => ?_) (by simp)) hlen
        have c : ∀ (W : World) (g q : Nat) (u : Value), k ≠ g → (W.setCell ⟨g, q, none⟩ u).heap[k]? = W.heap[k]? := fun W g q u hk => Below.heap_setCell W ⟨g, q, none⟩ u k hk
        exact (c _ _ _ _ (by omega)).trans (c _ _ _ _ (by omega))

theorem RParse_any (s : List UInt8) (w : World) (hl : s.length ≤ 9223372036854775807) : Calls Try.prog 13 #[strV s] w (ParsePost s w) := by
  by_cases he : (lexV s).2.1 = 0
  · exact RParse_ok s w hl he
  · exact RParse_bad s w hl he

set_option maxRecDepth 100000 in
set_option maxHeartbeats 4000000 in
theorem ParseTells_true (s : List UInt8) (w : World) (hl : s.length ≤ 9223372036854775807) :
    Calls Try.prog 3 #[strV s] w fun e w' => e = .returned (.bool true) ∧ Below w.heap.size w w' := by
  have hP := Lib.hid (fun W => Parse_any s W hl)
  have hQ := Lib.hid (fun W => RParse_any s W hl)
  obtain ⟨⟨out, err, po⟩, hp⟩ : ∃ x, x = parseP s := ⟨_, rfl⟩
  go_enter Try.func3, Try.ntmps3
  go_wp2_with fail
  refine (hP.out _).mono ?_
  rintro e1 w1 ⟨v, rfl, hb1, hv1⟩
  rw [← hp] at hv1 ⊢
  replace hv1 : RulesV w1 w1.heap.size v out := hv1
  have hbx := (Below.refl w1.heap.size w1).alloc (Nat.le_refl _) (.cells #[.int .i64 err, .int .i64 po] 25)
  have B1 := Blk.new w1 25 #[.int .i64 err, .int .i64 po]
  have hb2 := hb1.trans (hbx.mono hb1.size)
  have hv2 := hv1.below hbx (Nat.le_refl _) (show w1.heap.size ≤ w1.heap.size + 1 by omega)
  obtain ⟨A, cap, hA⟩ : ∃ A cap, v = .slice A out.length cap := by obtain ⟨A, cap, h, _⟩ := hv1; exact ⟨A, cap, h⟩
  subst hA
  go_wp2_with fail
  obtain ⟨w2, hw2⟩ : ∃ W, W = w1.alloc (.cells #[.int .i64 err, .int .i64 po] 25) := ⟨_, rfl⟩
  have z2 : w1.heap.size + 1 ≤ w2.heap.size ∧ w2.heap.size ≤ w1.heap.size + 1 := by rw [hw2]; simp
  rw [← hw2] at B1 hb2 hv2 ⊢
  clear hw2 hbx hv1 hb1 hP
  refine (hQ.out _).mono ?_
  rintro e3 w3 ⟨u, rfl, hb3, hu3⟩
  rw [← hp] at hu3 ⊢
  replace hu3 : RulesV w3 w3.heap.size u out := hu3
  obtain ⟨A2, cap2, rfl⟩ : ∃ A cap, u = .slice A out.length cap := by obtain ⟨A, cap, h, _⟩ := hu3; exact ⟨A, cap, h⟩
  have z3 := hb3.size
  have hby := (Below.refl w3.heap.size w3).alloc (Nat.le_refl _) (.cells #[.int .i64 err, .int .i64 po] 25)
  have B2 := B1.below hb3 (by omega)
  have hb4 := (hb2.trans (hb3.mono hb2.size)).trans (hby.mono (by have := hb2.size; omega))
  have hv4 : RulesV (w3.alloc (.cells #[.int .i64 err, .int .i64 po] 25)) (w3.heap.size + 1) (.slice A out.length cap) out := (hv2.below hb3 (B'' := w3.heap.size) (by omega) (by omega)).below hby (Nat.le_refl _) (by omega)
  have hu4 : RulesV (w3.alloc (.cells #[.int .i64 err, .int .i64 po] 25)) (w3.heap.size + 1) (.slice A2 out.length cap2) out := hu3.below hby (Nat.le_refl _) (by omega)
  have b0 := B2.cell 0
  have b1 := B2.cell 1
  have b4 := B2.lt
  simp at b0 b1
  go_wp2_with fail
  obtain ⟨w4, hw4⟩ : ∃ W, W = w3.alloc (.cells #[.int .i64 err, .int .i64 po] 25) := ⟨_, rfl⟩
  have z4 : w3.heap.size + 1 ≤ w4.heap.size := by rw [hw4]; simp
  rw [← hw4] at hb4 hv4 hu4 ⊢
  clear hw4 hby B2 b0 b1 b4
  refine (Same_any out _ _ w4 (w3.heap.size + 1) z4 hv4 hu4).mono ?_
  rintro e5 w5 ⟨rfl, hb5⟩
  go_wp2_with fail
  go_ret
  exact ⟨rfl, hb4.trans (hb5.mono hb4.size)⟩

end Ru
end Go.Proofs.Ytfhedopfjgjffaa
