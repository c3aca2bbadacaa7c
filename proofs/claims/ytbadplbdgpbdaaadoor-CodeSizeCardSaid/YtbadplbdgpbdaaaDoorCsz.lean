/- Code is no longer than rules are: slotlaw7.CodeSize; the closed fact of chapter 7. -/
import Derived.Test.YtbadplbdgpbdaaaDoorAlv
import Derived.Test.YtbadplbdgpbdaaaDoorStd
import Derived.Test.YtbadplbdgpbdaaaDoorCcw
namespace Go.Proofs.YtbadplbdgpbdaaaDoor
open Go.RowKit
namespace Ru
open Msk Vm Lx
open Sl (strV Reads)

def litP7 : List UInt8 := [114, 117, 108, 101, 32, 97, 32, 61, 32, 48, 57, 58, 48, 48, 45, 49, 48, 58, 48, 48, 32, 43, 32, 49, 48, 58, 48, 48, 45, 49, 49, 58, 48, 48, 59, 32, 114, 117, 108, 101, 32, 98, 32, 61, 32, 97, 32, 45, 32, 119, 101, 101, 107, 108, 121, 32, 109, 111, 110, 58, 32, 97, 59]
def rulP7 : List Rule := [⟨[97], .mk 6 0 0 [] [.mk 3 540 600 [] [], .mk 3 600 660 [] []]⟩, ⟨[98], .mk 7 0 0 [] [nmE 97, .mk 4 1 0 [] [nmE 97]]⟩]
theorem parse_P7 : parseP litP7 = (rulP7, 0, 0) := by kernel_rfl
theorem wrong_P7 : wrongR rulP7 = (0, 0) := by kernel_rfl
theorem comp_P7 {spf : (Nat → Bool) → List (Int × Int)} {C : Nat → Vm.Code} (hC : CodesR spf rulP7 C) : compF spf rulP7 C = (codesL rulP7 C, 0, 0) ∧ (C 0).ins.length = 1 ∧ (C 1).steps = 6 ∧ (C 1).high = 2 := by
  have e0 : ownC spf rulP7 C 0 = ⟨[⟨1, 0, 0, 0, spf (orS (inSpans [(540, 600)]) (inSpans [(600, 660)]))⟩], 1, 1⟩ := rfl
  have m0 : muchC (ownC spf rulP7 C 0) = false := by rw [e0]; rfl
  have c0 : C 0 = ⟨[⟨1, 0, 0, 0, spf (orS (inSpans [(540, 600)]) (inSpans [(600, 660)]))⟩], 1, 1⟩ := by rw [hC 0 (by decide), (keep_high _).2.2 m0, e0]
  have d0 : codeD rulP7 C [97] = (1, 1) := by
    have : codeD rulP7 C [97] = ((C 0).high, (C 0).steps) := rfl
    rw [this, c0]
  have e1 : ownC spf rulP7 C 1 = partE spf (findI rulP7) (codeD rulP7 C) (.mk 7 0 0 [] [nmE 97, .mk 4 1 0 [] [nmE 97]]) := rfl
  have eh : (ownC spf rulP7 C 1).high = max 2 (max (max (codeD rulP7 C [97]).1 0) (1 + max 1 (max (codeD rulP7 C [97]).1 0))) := rfl
  have es : (ownC spf rulP7 C 1).steps = 1 + ((1 + (codeD rulP7 C [97]).2) + (1 + (1 + (codeD rulP7 C [97]).2))) := rfl
  have el : (ownC spf rulP7 C 1).ins.length = 4 := rfl
  rw [d0] at eh es
  have eh2 : (ownC spf rulP7 C 1).high = 2 := eh
  have es2 : (ownC spf rulP7 C 1).steps = 6 := es
  have m1 : muchC (ownC spf rulP7 C 1) = false := by unfold muchC; rw [eh2, es2, el]; rfl
  have c1 : C 1 = ownC spf rulP7 C 1 := by rw [hC 1 (by decide), (keep_high _).2.2 m1]
  refine ⟨?_, by rw [c0]; rfl, by rw [c1]; exact es2, by rw [c1]; exact eh2⟩
  have hf : Fits spf rulP7 C := fun i hi => by
    have hi2 : i < 2 := hi
    have : i = 0 ∨ i = 1 := by omega
    rcases this with rfl | rfl
    · exact m0
    · exact m1
  unfold compF
  rw [wrong_P7, if_pos rfl]
  exact comp_fits hf

set_option maxRecDepth 100000 in
set_option maxHeartbeats 4000000 in
theorem alive7 (w : World) (hT : Tab w) : Calls Tryd.prog 14 #[] w fun e w' => e = .returned (.bool true) ∧ Below w.heap.size w w' := by
  obtain ⟨spf, C, hsp, hCo⟩ := comp_exists rulP7
  obtain ⟨hF, h1, h2, h3⟩ := comp_P7 (hCo (by rw [wrong_P7]))
  have hP := Lib.hid (fun W => rules7_any litP7 W (by show 63 ≤ _; omega))
  unfold RulesPost at hP
  rw [show rulesT litP7 = rulP7 from by unfold rulesT; rw [parse_P7]; rfl] at hP
  replace hF := Lib.hid hF
  go_enter Tryd.func14, Tryd.ntmps14
  go_wp2_with fail
  refine (hP.out _).mono ?_
  rintro e1 w1 ⟨v1, rfl, hr1, hb1⟩
  have hA := Lib.hid (Compile_any hsp v1 rulP7 w1 hr1 (hT.after hb1) hCo)
  unfold CompPost at hA
  rw [hF.out] at hA
  unfold Ru.faultV at hA
  clear hP hCo
  obtain ⟨A1, cap1, rfl, -⟩ := hr1
  go_wp2_with fail
  refine hA.out.mono ?_
  rintro e2 w2 ⟨v2, rfl, hcv, hb2⟩
  obtain ⟨A2, cap2, rfl, _, hcc⟩ := hcv
  obtain ⟨b, o, rfl, hbl, ⟨u, k0, hu⟩, _, _⟩ := hcc 0 (C 0) rfl
  obtain ⟨b', o', hbe, _, ⟨u', _, _⟩, k4, k5⟩ := hcc 1 (C 1) rfl
  cases hbe
  obtain ⟨A3, cap3, rfl, _, _⟩ := hu
  rw [h1] at k0
  rw [h3] at k4
  rw [h2] at k5
  replace hcc := trivial
  have hcl : (codesL rulP7 C).length = 2 := codesL_len
  rw [hcl]
  have m0 : w2.cell? ⟨b, o, none⟩ = some (.slice A3 1 cap3) := by simpa using k0
  have m4 : w2.cell? ⟨b, o + 3 + 1, none⟩ = some (.int .i64 2) := k4
  have m5 : w2.cell? ⟨b, o + 3 + 2, none⟩ = some (.int .i64 6) := k5
  have m6 : w2.cell? ⟨b, o + 4, none⟩ = some (.int .i64 2) := k4
  have m7 : w2.cell? ⟨b, o + 5, none⟩ = some (.int .i64 6) := k5
  clear k0 k4 k5
  have hbw : Below w.heap.size w w2 := hb1.trans (hb2.mono hb1.size)
  go_wp2
  go_ret
  exact ⟨rfl, hbw.alloc hbw.size _⟩

theorem nodesL_take {l : List Expr} : ∀ {j : Nat} {e : Expr}, l[j]? = some e → nodesL (l.take (j + 1)) = nodesL (l.take j) + nodesE e := by
  induction l with
  | nil => intro j e h; simp at h
  | cons x l ih =>
    intro j e h
    cases j with
    | zero => simp at h; subst h; simp [nodesL]
    | succ j => rw [List.take_succ_cons, List.take_succ_cons, nodesL, nodesL, ih (by simpa using h), Nat.add_assoc]
theorem nodesL_le {l : List Expr} : ∀ {j : Nat}, nodesL (l.take j) ≤ nodesL l := by
  induction l with
  | nil => intro j; simp
  | cons x l ih =>
    intro j
    cases j with
    | zero => simp [nodesL]
    | succ j => rw [List.take_succ_cons, nodesL, nodesL]; have := @ih j; omega
set_option maxRecDepth 100000 in
set_option maxHeartbeats 4000000 in
theorem nodes_any : ∀ (N : Nat) (e : Expr) (v : Value) (w : World) (B : Nat), nodesE e ≤ N → nodesE e ≤ 1000000 → ExprVal w B v e → B ≤ w.heap.size → Calls Tryd.prog 15 #[v] w fun r w' => r = .returned (.int .i64 (nodesE e : Nat)) ∧ Below w.heap.size w w' := by
  intro N
  induction N with
  | zero => intro e v w B hN; have := nodesE_pos e; omega
  | succ N ih =>
    intro e v w B hN hM he hB
    obtain ⟨A, cap, rfl, hnl, hkl, hkw⟩ := he
    have hnod : nodesL e.kids ≤ N := by cases e; rw [nodesE] at hN; simp only [Expr.kids]; omega
    obtain ⟨k, x, y, enm, kids⟩ := e
    have hne : nodesE (.mk k x y enm kids) = 1 + nodesL kids := by rw [nodesE]
    simp only [Expr.kind, Expr.a, Expr.b, Expr.name, Expr.kids] at hnl hkl hkw hnod ⊢
    rw [hne] at hM hN ⊢
    replace ih := Lib.hid ih
    replace hkw := Lib.hid hkw
    have hbA : Below w.heap.size w (w.alloc (.cells #[.int .i64 k, .int .i64 x, .int .i64 y, strV enm, .slice A kids.length cap] 48)) := (Below.refl _ _).alloc (Nat.le_refl _) _
    have BX := Blk.new w 48 #[.int .i64 k, .int .i64 x, .int .i64 y, strV enm, .slice A kids.length cap]
    obtain ⟨w0, hw0⟩ : ∃ w0, w0 = w.alloc (.cells #[.int .i64 k, .int .i64 x, .int .i64 y, strV enm, .slice A kids.length cap] 48) := ⟨_, rfl⟩
    replace hne := trivial
    go_enter Tryd.func15, Tryd.ntmps15
    go_upto_region 1 with fail
    rw [← hw0]
    rw [← hw0] at hbA BX
    have hz0 : w0.heap.size = w.heap.size + 1 := by rw [hw0, World.size_alloc]
    clear hw0
    have x4 : w0.cell? ⟨w.heap.size, 4, none⟩ = some (.slice A kids.length cap) := BX.cell 4
    replace hz0 := Lib.hid hz0
    replace hnod := Lib.hid hnod
    go_wp2_with fail
    go_loopg [3, 5, 9] kids.length (fun m v3 _ v9 wr => ∃ j : Nat, j ≤ kids.length ∧ m = kids.length - j ∧ v9 = .int .i64 j ∧ v3 = .int .i64 ((1 + nodesL (kids.take j) : Nat)) ∧ Below w0.heap.size w0 wr)
    case atStart => exact ⟨0, by omega, rfl, rfl, by simp [nodesL], Below.refl _ _⟩
    case round =>
      obtain ⟨j, hj, hm, rfl, rfl, hbq⟩ := hrel
      replace hm := Lib.hid hm
      have zq := hbq.size
      have zz := hz0.out
      have hbw : Below w.heap.size w wr := hbA.trans (hbq.mono (by omega))
      by_cases hlt : j < kids.length
      · obtain ⟨e1, hx⟩ : ∃ d, kids[j]? = some d := ⟨_, List.getElem?_eq_getElem hlt⟩
        obtain ⟨kb, ko, rfl, hkb, hke⟩ := hkw.out.at' hx
        have hkr := hke.below hbw hB (Nat.le_refl _) (by omega)
        obtain ⟨v0, v1, v2, v3, hnl1, A1, cap1, v4, hkl1, hkv1⟩ := hkr.out
        have hzz : kb < wr.heap.size := by omega
        have hbe : Below wr.heap.size wr (wr.alloc (.cells #[.int .i64 e1.kind, .int .i64 e1.a, .int .i64 e1.b, strV e1.name, .slice A1 e1.kids.length cap1] 48)) := (Below.refl _ _).alloc (Nat.le_refl _) _
        have hkid := nodesE_kid hx
        have hcall := Lib.hid (ih.out e1 (.agg #[.int .i64 e1.kind, .int .i64 e1.a, .int .i64 e1.b, strV e1.name, .slice A1 e1.kids.length cap1]) (wr.alloc (.cells #[.int .i64 e1.kind, .int .i64 e1.a, .int .i64 e1.b, strV e1.name, .slice A1 e1.kids.length cap1] 48)) B (by have := hnod.out; omega) (by omega)
          ⟨A1, cap1, rfl, hnl1, hkl1, hkv1.below (hbe.mono (by omega)) (Nat.le_refl _) (Nat.le_refl _)⟩ (by simp; omega))
        have htk := nodesL_take hx
        have hle := nodesL_le (l := kids) (j := j + 1)
        rw [htk] at hle
        obtain ⟨P, hP⟩ : ∃ P, P = nodesL (kids.take j) := ⟨_, rfl⟩
        obtain ⟨Q, hQ⟩ : ∃ Q, Q = nodesE e1 := ⟨_, rfl⟩
        rw [← hP, ← hQ] at htk hle
        rw [← hQ] at hcall
        rw [← hP]
        replace htk := Lib.hid htk
        replace hP := trivial
        replace hQ := trivial
        clear hx hke hkv1 hkr hkl1 hnl1 x4
        have q1 : IntKind.i64.wrap (((1 + P : Nat) : Int) + (Q : Nat)) = ((1 + P : Nat) : Int) + (Q : Nat) := IntWalk.i64_in _ ⟨by omega, by omega⟩
        go_wp2_with fail
        refine hcall.out.mono ?_
        rintro e5 w5 ⟨rfl, hb5⟩
        go_wp2_with fail
        go_roundg (kids.length - (j + 1))
        case measure => rw [hm.out]; omega
        case rel => exact ⟨j + 1, by omega, rfl, by go_num, by rw [htk.out]; congr 1; omega, hbq.trans ((hbe.trans (hb5.mono (by simp))).mono (by omega))⟩
      · obtain rfl : j = kids.length := by omega
        rw [List.take_length]
        go_wp2
        go_ret
        exact ⟨rfl, hbw⟩

set_option maxRecDepth 100000 in
set_option maxHeartbeats 4000000 in
theorem CodeSize_bad (v : Value) (l : List Rule) (w : World) (hr : RulesV w w.heap.size v l) (hT : Tab w) {spf : (Nat → Bool) → List (Int × Int)} {C : Nat → Vm.Code} (hsp : ∀ p, IsSpans (has (setW p)) (spf p)) (hCo : (wrongR l).1 = 0 → CodesR spf l C) (h2 : (compF spf l C).2.1 ≠ 0) :
    Calls Tryd.prog 6 #[v] w fun e w' => e = .returned (.bool true) ∧ Below w.heap.size w w' := by
  have hComp := Lib.hid (fun (W : World) (hb : Below w.heap.size w W) => Compile_any hsp v l W (hr.below hb (Nat.le_refl _) hb.size) (hT.after hb) hCo)
  unfold CompPost at hComp
  obtain ⟨q, hq⟩ : ∃ q, q = (compF spf l C).2 := ⟨_, rfl⟩
  rw [← hq] at hComp h2
  obtain ⟨q2, q3⟩ := q
  simp only at h2
  have g1 : (q2 != 0) = true := by simpa using h2
  clear hq h2 hr
  unfold Ru.faultV at hComp
  simp only at hComp
  go_enter Tryd.func6, Tryd.ntmps6
  go_wp2_with fail
  refine (alive7 _ hT).mono ?_
  rintro e w1 ⟨rfl, hb1⟩
  go_wp2_with fail
  refine (hComp.out _ hb1).mono ?_
  rintro e w2 ⟨cv, rfl, _, hb2⟩
  have hbw : Below w.heap.size w w2 := hb1.trans (hb2.mono hb1.size)
  go_wp2
  go_ret
  exact ⟨rfl, hbw.alloc hbw.size _⟩

set_option maxRecDepth 100000 in
set_option maxHeartbeats 8000000 in
theorem CodeSize_good (v : Value) (l : List Rule) (w : World) (hr : RulesV w w.heap.size v l) (hT : Tab w) {spf : (Nat → Bool) → List (Int × Int)} {C : Nat → Vm.Code} (hsp : ∀ p, IsSpans (has (setW p)) (spf p)) (h : (wrongR l).1 = 0) (hCo : CodesR spf l C) (hf : Fits spf l C) (hc : compF spf l C = (codesL l C, 0, 0)) :
    Calls Tryd.prog 6 #[v] w fun e w' => e = .returned (.bool true) ∧ Below w.heap.size w w' := by
  have hComp := Lib.hid (fun (W : World) (hb : Below w.heap.size w W) => Compile_any hsp v l W (hr.below hb (Nat.le_refl _) hb.size) (hT.after hb) (fun _ => hCo))
  unfold CompPost at hComp
  rw [hc] at hComp
  unfold Ru.faultV at hComp
  simp only at hComp
  have hR := right_of h
  have hN := Lib.hid (form_right (wrong_form h)).2
  have hform := Lib.hid (wrong_form h)
  have h40 := (form_right (wrong_form h)).1
  have hcl := Lib.hid (codesL_len (l := l) (C := C))
  have hown := Lib.hid (fun (i : Nat) (r : Rule) (hx : l[i]? = some r) => show (C i).ins.length ≤ nodesE r.expr ∧ ((C i).ins.length : Int) ≤ (C i).steps ∧ (∀ p, constE r.expr = some p → (C i).ins = [⟨1, 0, 0, 0, spf p⟩]) by
    obtain ⟨f1, _⟩ := fits_own hCo hf hx
    obtain ⟨p1, p2, p3, _⟩ := part_size (spf := spf) (fi := findI l) (D := codeD l C) r.expr (codes_D hR hCo hx)
    rw [← f1] at p1 p2 p3
    refine ⟨p2, p3, fun p hp => ?_⟩
    rw [f1]
    obtain ⟨e1, e2⟩ := r
    cases e2 with
    | mk k a b nm kids =>
      simp only at hp ⊢
      rw [partE, hp])
  have hrr := Lib.hid hr
  obtain ⟨A, cap, rfl, hlen, hcr⟩ := hr
  replace hcr := Lib.hid hcr
  clear hc hCo hf hR h hsp
  go_enter Tryd.func6, Tryd.ntmps6
  go_wp2_with fail
  refine (alive7 _ hT).mono ?_
  rintro e w1 ⟨rfl, hb1⟩
  go_wp2_with fail
  refine (hComp.out _ hb1).mono ?_
  rintro e w2 ⟨cv, rfl, hcv, hb2⟩
  have hbw : Below w.heap.size w w2 := hb1.trans (hb2.mono hb1.size)
  have hb3 := hbw.alloc hbw.size (.cells #[.int .i64 0, .int .i64 0] 26)
  have hbA := (Below.refl w2.heap.size w2).alloc (Nat.le_refl _) (.cells #[.int .i64 0, .int .i64 0] 26)
  have hcw := Lib.hid (hcv.below hbA (Nat.le_refl _) hbA.size)
  obtain ⟨cA, cc, rfl, hlc, hcc⟩ := hcv
  rw [hcl.out] at hcw ⊢
  replace hcc := trivial
  replace hComp := trivial
  go_upto_region 6 with fail
  obtain ⟨w3, hw3⟩ : ∃ W, W = w2.alloc (.cells #[.int .i64 0, .int .i64 0] 26) := ⟨_, rfl⟩
  rw [← hw3] at hb3 hcw ⊢
  clear hbA hw3 hbw hb1 hb2
  go_wp2_with fail
  go_loopg [5, 6, 7, 20] l.length (fun q _ _ _ v20 wr => ∃ j : Nat, j ≤ l.length ∧ q = l.length - j ∧ v20 = .int .i64 j ∧ Below w3.heap.size w3 wr)
  case atStart => exact ⟨0, by omega, rfl, rfl, Below.refl _ _⟩
  case round =>
    obtain ⟨j, hj, hq, rfl, hbq⟩ := hrel
    replace hq := Lib.hid hq
    have hbr := hb3.trans (hbq.mono hb3.size)
    have zr := hbr.size
    by_cases hlt : j < l.length
    · obtain ⟨r, hx⟩ : ∃ r, l[j]? = some r := ⟨_, List.getElem?_eq_getElem hlt⟩
      obtain ⟨b, of, rfl, hbl, _, _, hE⟩ := hcr.out j r hx
      have hkr := hE.below hbr (Nat.le_refl _) (Nat.le_refl _) hbl
      obtain ⟨v0, v1, v2, v3, hnl1, A1, cap1, v4, hkl1, hkv1⟩ := hkr.out
      obtain ⟨A9, c9, he9, hlc9, hcc⟩ := hcw.out.below hbq (Nat.le_refl _) (Nat.le_refl _)
      obtain ⟨cb, co, rfl, hcb, ⟨u, k0, hu⟩, _, k5⟩ := hcc j (C j) (codesL_at hlt)
      have hA9 : cA = some ⟨cb, co, none⟩ := by injection he9
      subst hA9
      obtain ⟨o1, o2, o3⟩ := hown.out j r hx
      obtain ⟨A3, cap3, rfl, hl3, hu3⟩ := hu
      have hn6 := (hN.out r (List.mem_of_getElem? hx)).2
      have hgood := Lib.hid (show GoodE r.expr from ⟨1, 0, form_each hform.out hx⟩)
      have hval := Lib.hid (fun (W : World) (hW : Below wr.heap.size wr W) => show ExprVal W w.heap.size (.agg #[.int .i64 r.expr.kind, .int .i64 r.expr.a, .int .i64 r.expr.b, strV r.expr.name, .slice A1 r.expr.kids.length cap1]) r.expr from ⟨A1, cap1, rfl, hnl1, hkl1, hkv1.below (hW.mono zr) (Nat.le_refl _) (Nat.le_refl _)⟩)
      have hNod := Lib.hid (fun (W : World) (hW : Below wr.heap.size wr W) => nodes_any (nodesE r.expr) r.expr _ W w.heap.size (Nat.le_refl _) (by omega) (hval.out W hW) (by have := hW.size; omega))
      have hStd := Lib.hid (fun (W : World) (hW : Below wr.heap.size wr W) => Steady_any (nodesE r.expr) r.expr _ W w.heap.size (Nat.le_refl _) hgood.out (hval.out W hW) (by have := hW.size; omega))
      unfold ConstPost at hStd
      obtain ⟨L, hL⟩ : ∃ L, L = (C j).ins.length := ⟨_, rfl⟩
      rw [← hL] at k0 o1 o2
      have g1 : decide ((nodesE r.expr : Int) < (L : Int)) = false := by simp; omega
      have g2 : decide (nodesE r.expr < L) = false := by simp; omega
      have g3 : decide ((C j).steps < (L : Int)) = false := by simp; omega
      have zb : b < wr.heap.size := by omega
      have zq := hbq.size
      have zcb : cb < wr.heap.size := by omega
      replace hL := Lib.hid hL
      replace hcc := trivial
      replace hval := trivial
      clear hE hkr hkv1 hkl1 hnl1 he9
      go_wp2_with fail
      refine wp_region_below (wr.heap.size) _ (Below.refl _ _) (by kernel_rfl) (by kernel_rfl) ?_
      repeat (go_big_quiet_step (((go_at_call 15; exact quiet_below (Nat.le_refl _) (hNod.out _ (After.below _))))))
      refine wpQuiet_nil ?_
      rintro _ ⟨n9, rfl⟩
      have s9 := n9.size
      have hb9 := n9.below
      go_wp2_with fail
      refine (hStd.out _ hb9).mono ?_
      rintro e4 w4 ⟨rfl, hb4⟩
      have z4 := hb4.size
      have hbm := Below.setRow ((Below.refl w4.heap.size w4).alloc (Nat.le_refl _) (.cells (maskA fun _ => 0) 38)) (Nat.le_refl _) (maskA (setW (constV r.expr)))
      have hb5 := (hb9.trans (hb4.mono s9)).trans (hbm.mono (by omega))
      obtain ⟨w6, hw6⟩ : ∃ W, W = (w4.alloc (.cells (maskA fun _ => 0) 38)).setRow w4.heap.size (maskA (setW (constV r.expr))) := ⟨_, rfl⟩
      have hbz := hbq.trans (hb5.mono hbq.size)
      clear g1 g2 g3 v0 v1 v2 v3 v4 k5
      cases hc1 : constE r.expr with
      | none =>
        go_upto_region 12 with fail
        rw [← hw6] at hb5 hbz ⊢
        clear hw6 hbm
        go_wp2_with fail
        go_roundg (l.length - (j + 1))
        case measure => rw [hq.out]; omega
        case rel => exact ⟨j + 1, by omega, rfl, by go_num, hbz⟩
      | some p =>
        have hins := o3 p hc1
        have hL1 : L = 1 := by rw [hL.out, hins]; rfl
        subst hL1
        obtain ⟨ib, io, rfl, hib, i0, _⟩ := hu3 0 ⟨1, 0, 0, 0, spf p⟩ (by rw [hins]; rfl)
        simp only [Nat.zero_mul, Nat.add_zero] at i0
        go_upto_region 12 with fail
        rw [← hw6] at hb5 hbz ⊢
        clear hw6 hbm
        have m0 : w6.cell? ⟨cb, co + j * 3, none⟩ = some (.slice (some ⟨ib, io, none⟩) 1 cap3) := (hb5.cell (p := ⟨cb, _, none⟩) zcb).trans k0
        have m1 : w6.cell? ⟨ib, io, none⟩ = some (.int .i64 1) := (hb5.cell (p := ⟨ib, _, none⟩) (by show ib < wr.heap.size; omega)).trans i0
        clear k0 i0 hu3 hins o3
        go_wp2_with fail
        go_roundg (l.length - (j + 1))
        case measure => rw [hq.out]; omega
        case rel => exact ⟨j + 1, by omega, rfl, by go_num, hbz⟩
    · obtain rfl : j = l.length := by omega
      go_wp2
      go_ret
      exact ⟨rfl, hbr⟩

theorem CodeSize_true (v : Value) (l : List Rule) (w : World) (hr : RulesV w w.heap.size v l) (hT : Tab w) :
    Calls Tryd.prog 6 #[v] w fun e w' => e = .returned (.bool true) ∧ Below w.heap.size w w' := by
  obtain ⟨spf, C, hsp, hCo⟩ := comp_exists l
  rcases comp_two (spf := spf) (l := l) (C := C) with ⟨h1, h2, _⟩ | ⟨h1, hf, hc⟩
  · exact CodeSize_bad v l w hr hT hsp hCo h2
  · exact CodeSize_good v l w hr hT hsp h1 (hCo h1) hf hc

end Ru
end Go.Proofs.YtbadplbdgpbdaaaDoor
