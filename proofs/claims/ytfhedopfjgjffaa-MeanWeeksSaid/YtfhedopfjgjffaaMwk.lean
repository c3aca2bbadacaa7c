/- The law of chapter 6 that rules without dates mean the same a week later: slotlaw6.MeanWeeks. -/
import Derived.Test.YtfhedopfjgjffaaWth
import Derived.Test.YtfhedopfjgjffaaAlx
namespace Go.Proofs.Ytfhedopfjgjffaa
open Go.RowKit
namespace Ru
open Lx Msk Vm
open Sl (strV Reads IntsV MasksV)

mutual
/-- does an expression speak of dates? -/
def datedE : Expr → Bool
  | .mk k _ _ _ kids => if k = 5 then true else datedL kids
def datedL : List Expr → Bool
  | [] => false
  | e :: l => datedE e || datedL l
end
theorem datedL_take {l : List Expr} {i : Nat} {e : Expr} (h : l[i]? = some e) : datedL (l.drop i) = (datedE e || datedL (l.drop (i + 1))) := by
  obtain ⟨hi, rfl⟩ := List.getElem?_eq_some_iff.1 h
  rw [List.drop_eq_getElem_cons hi, datedL]
mutual
theorem mean_undated {wd : Nat} {day day' : Int} {env : List UInt8 → Nat → Bool} : ∀ (e : Expr), datedE e = false → meanE wd day env e = meanE wd day' env e
  | .mk k a b nm kids, h => by
    rw [datedE] at h
    by_cases hk : k = 5
    · rw [if_pos hk] at h; cases h
    · rw [if_neg hk] at h
      rw [meanE, meanE, mean_undatedL (day' := day') kids h]
      unfold meanK
      simp only [if_neg hk]
theorem mean_undatedL {wd : Nat} {day day' : Int} {env : List UInt8 → Nat → Bool} : ∀ (l : List Expr), datedL l = false → meanL wd day env l = meanL wd day' env l
  | [], _ => by rw [meanL, meanL]
  | e :: l, h => by
    rw [datedL, Bool.or_eq_false_iff] at h
    rw [meanL, meanL, mean_undated (day' := day') e h.1, mean_undatedL (day' := day') l h.2]
end

set_option maxRecDepth 100000 in
set_option maxHeartbeats 4000000 in
theorem Dated_any : ∀ (N : Nat) (e : Expr) (v : Value) (w : World) (B : Nat), nodesE e ≤ N → ExprVal w B v e → B ≤ w.heap.size →
    Calls Try.prog 28 #[v] w fun r w' => r = .returned (.bool (datedE e)) ∧ Below w.heap.size w w' := by
  intro N
  induction N with
  | zero => intro e v w B hN; have := nodesE_pos e; omega
  | succ N ih =>
    intro e v w B hN he hB
    obtain ⟨A, cap, rfl, hnl, hkl, hkw⟩ := he
    have hnod : nodesL e.kids ≤ N := by cases e; rw [nodesE] at hN; simp only [Expr.kids]; omega
    obtain ⟨k, x, y, enm, kids⟩ := e
    simp only [Expr.kind, Expr.a, Expr.b, Expr.name, Expr.kids] at hnl hkl hkw hnod ⊢
    have hsp : datedE (.mk k x y enm kids) = if k = 5 then true else datedL kids := by rw [datedE]
    replace ih := Lib.hid ih
    replace hkw := Lib.hid hkw
    replace hnod := Lib.hid hnod
    clear hN
    by_cases hk : k = 5
    · subst hk
      rw [if_pos rfl] at hsp
      replace hsp := Lib.hid hsp
      go_enter Try.func28, Try.ntmps28
      go_wp2
      go_ret
      exact ⟨by rw [hsp.out]; rfl, (by repeat (first | exact Below.refl _ _ | assumption | refine Below.n _ ?_ (by first | omega | (simp; done) | (simp; omega)) | refine Below.alloc ?_ (by first | omega | (simp; done) | (simp; omega)) _ | refine Below.setCell ?_ (by first | omega | (simp; done) | (simp; omega)) _ | refine Below.drew ?_ | refine Below.setRow ?_ (by first | omega | (simp; done) | (simp; omega)) _ | refine Below.drewN ?_ _))⟩
    · rw [if_neg hk] at hsp
      have gk : (k == 5) = false := by simpa using hk
      clear hk
      replace hsp := Lib.hid hsp
      go_enter Try.func28, Try.ntmps28
      go_wp2
      clear gk
      go_loopg [11] kids.length (fun m kv wr => ∃ j : Nat, j ≤ kids.length ∧ m = kids.length - j ∧ kv = .int .i64 j ∧ Hid (datedL (kids.drop j) = datedL kids) ∧ Below w.heap.size w wr)
      case atStart => exact ⟨0, by omega, rfl, rfl, Lib.hid rfl, (by repeat (first | exact Below.refl _ _ | assumption | refine Below.n _ ?_ (by first | omega | (simp; done) | (simp; omega)) | refine Below.alloc ?_ (by first | omega | (simp; done) | (simp; omega)) _ | refine Below.setCell ?_ (by first | omega | (simp; done) | (simp; omega)) _ | refine Below.drew ?_ | refine Below.setRow ?_ (by first | omega | (simp; done) | (simp; omega)) _ | refine Below.drewN ?_ _))⟩
      case round =>
        obtain ⟨j, hj, hm, rfl, hf, hb⟩ := hrel
        replace hm := Lib.hid hm
        have z := hb.size
        by_cases hlt : j < kids.length
        · obtain ⟨e1, hx⟩ : ∃ d, kids[j]? = some d := ⟨_, List.getElem?_eq_getElem hlt⟩
          obtain ⟨kb, ko, rfl, hkb, hke⟩ := hkw.out.at' hx
          have hst := datedL_take hx
          have hkr := hke.below hb hB (Nat.le_refl _) (by omega)
          obtain ⟨v0, v1, v2, v3, hnl1, A1, cap1, v4, hkl1, hkv1⟩ := hkr.out
          have hzz : kb < wr.heap.size := by omega
          have hbz : Below w.heap.size w (wr.alloc (.cells #[.int .i64 e1.kind, .int .i64 e1.a, .int .i64 e1.b, strV e1.name, .slice A1 e1.kids.length cap1] 38)) := hb.alloc z _
          have hcall := Lib.hid (ih.out e1 (.agg #[.int .i64 e1.kind, .int .i64 e1.a, .int .i64 e1.b, strV e1.name, .slice A1 e1.kids.length cap1]) (wr.alloc (.cells #[.int .i64 e1.kind, .int .i64 e1.a, .int .i64 e1.b, strV e1.name, .slice A1 e1.kids.length cap1] 38)) B (by have := nodesE_kid hx; have := hnod.out; omega) ⟨A1, cap1, rfl, hnl1, hkl1, hkv1.below ((Below.refl B wr).alloc (by omega) _) (Nat.le_refl _) (Nat.le_refl _)⟩ (by simp; omega))
          clear hx hke hkv1 hkr hkl1 hnl1
          cases h0 : datedE e1 with
          | false =>
            rw [h0, Bool.false_or, hf.out] at hst
            rw [h0] at hcall
            replace hst := Lib.hid hst
            clear h0
            go_wp2_with (go_at_call 28; refine hcall.out.mono ?_; rintro e w5 ⟨rfl, hb5⟩)
            go_roundg (kids.length - (j + 1))
            case measure => rw [hm.out]; omega
            case rel => exact ⟨j + 1, by omega, rfl, by go_num, Lib.hid hst.out.symm, hbz.trans (hb5.mono (by simp; omega))⟩
          | true =>
            rw [h0, Bool.true_or, hf.out] at hst
            rw [h0] at hcall
            have hsp2 := Lib.hid (hsp.out.trans hst)
            clear h0 hst
            go_wp2_with (go_at_call 28; refine hcall.out.mono ?_; rintro e w5 ⟨rfl, hb5⟩)
            go_ret
            exact ⟨by rw [hsp2.out]; rfl, hbz.trans (hb5.mono (by simp; omega))⟩
        · obtain rfl : j = kids.length := by omega
          have hsp2 := Lib.hid (show datedE (.mk k x y enm kids) = false by rw [hsp.out, ← hf.out, List.drop_length, datedL])
          go_wp2
          go_ret
          exact ⟨by rw [hsp2.out]; rfl, hb⟩


set_option maxRecDepth 100000 in
set_option maxHeartbeats 8000000 in
theorem MeanWeeks_true (v : Value) (l : List Rule) (day weeks : Int) (w : World) (hr : RulesV w w.heap.size v l) : Calls Try.prog 8 #[v, .int .i64 day, .int .i64 weeks] w fun e w' => e = .returned (.bool true) ∧ Below w.heap.size w w' := by
  have hAl := Lib.hid alive6
  obtain ⟨wd, env, hme, hwd⟩ := env_exists l day
  have hrr := Lib.hid hr
  obtain ⟨A, cap, rfl, hlen, hc⟩ := hr
  replace hc := Lib.hid hc
  go_enter Try.func8, Try.ntmps8
  go_wp2_with fail
  refine (hAl.out _).mono ?_
  rintro e1 w1 ⟨rfl, hb1⟩
  by_cases h1 : day < 0
  · go_wp2
    go_ret
    exact ⟨rfl, hb1⟩
  by_cases h2 : weeks < 0
  · go_wp2
    go_ret
    exact ⟨rfl, hb1⟩
  by_cases h3 : 20000 < weeks
  · go_wp2
    go_ret
    exact ⟨rfl, hb1⟩
  by_cases h4 : 146097 < day
  · go_wp2
    go_ret
    exact ⟨rfl, hb1⟩
  have w7 : IntKind.i64.wrap (7 * weeks) = 7 * weeks := IntWalk.i64_in _ ⟨by omega, by omega⟩
  have w8 : IntKind.i64.wrap (day + 7 * weeks) = day + 7 * weeks := IntWalk.i64_in _ ⟨by omega, by omega⟩
  by_cases h5 : 146097 ≤ day + 7 * weeks
  · go_wp2
    go_ret
    exact ⟨rfl, hb1⟩
  have z1 := hb1.size
  go_wp2_with fail
  go_loopg [38] l.length (fun q kv wr => ∃ i : Nat, i ≤ l.length ∧ q = l.length - i ∧ kv = .int .i64 i ∧ Hid (∀ (j : Nat) (r : Rule), j < i → l[j]? = some r → datedE r.expr = false) ∧ Below w.heap.size w wr)
  case atStart => exact ⟨0, by omega, rfl, rfl, Lib.hid (fun j r h => by omega), hb1⟩
  case round =>
    obtain ⟨i, hi, hq, rfl, hseen, hbr⟩ := hrel
    replace hq := Lib.hid hq
    have zr := hbr.size
    by_cases hlt : i < l.length
    · obtain ⟨r, hx⟩ : ∃ r, l[i]? = some r := ⟨_, List.getElem?_eq_getElem hlt⟩
      obtain ⟨b, o, rfl, hbb, hR0⟩ := hc.out i r hx
      have hR := hR0.below hbr hbb (Nat.le_refl _) zr
      obtain ⟨k0, hrn, hE⟩ := id hR
      obtain ⟨A1, cap1, k1, k2, k3, k4, k5, he1, he2, he3⟩ := exprAt_val hE
      have hlti : (i : Int) < l.length := by omega
      have hbr2 : b < wr.heap.size := by omega
      have k1' : wr.cell? ⟨b, o + i * 6 + 1, none⟩ = some (.int .i64 r.expr.kind) := k1
      have k2' : wr.cell? ⟨b, o + i * 6 + 2, none⟩ = some (.int .i64 r.expr.a) := k2
      have k3' : wr.cell? ⟨b, o + i * 6 + 3, none⟩ = some (.int .i64 r.expr.b) := k3
      have k4' : wr.cell? ⟨b, o + i * 6 + 4, none⟩ = some (strV r.expr.name) := k4
      have k5' : wr.cell? ⟨b, o + i * 6 + 5, none⟩ = some (.slice A1 r.expr.kids.length cap1) := k5
      clear k1 k2 k3 k4 k5
      have hSp := Lib.hid (Dated_any (nodesE r.expr) r.expr (.agg #[.int .i64 r.expr.kind, .int .i64 r.expr.a, .int .i64 r.expr.b, strV r.expr.name, .slice A1 r.expr.kids.length cap1]) (wr.alloc (.cells #[strV r.name, .int .i64 r.expr.kind, .int .i64 r.expr.a, .int .i64 r.expr.b, strV r.expr.name, .slice A1 r.expr.kids.length cap1] 40)) wr.heap.size (Nat.le_refl _) ⟨A1, cap1, rfl, he1, he2, he3.below ((Below.refl wr.heap.size wr).alloc (Nat.le_refl _) _) (Nat.le_refl _) (Nat.le_refl _)⟩ (by simp))
      go_wp2_with fail
      refine hSp.out.mono ?_
      rintro e5 w5 ⟨rfl, hb5⟩
      have hb5' : Below w.heap.size w w5 := Below.call (hbr.alloc zr _) hb5 (by simp; omega)
      cases hsp : datedE r.expr with
      | true =>
        go_wp2
        go_ret
        exact ⟨rfl, hb5'⟩
      | false =>
        go_wp2_with fail
        go_roundg (l.length - (i + 1))
        case measure => rw [hq.out]; omega
        case rel => exact ⟨i + 1, by omega, rfl, by go_num, Lib.hid (fun j r' hj hr' => by
          by_cases hji : j = i
          · subst hji
            rw [hx] at hr'
            cases hr'
            exact hsp
          · exact hseen.out j r' (by omega) hr'), hb5'⟩
    · obtain rfl : i = l.length := by omega
      have hF : allF l (day + 7 * weeks) = allF l day := by
        unfold allF
        rw [if_neg (show ¬ (day < 0 ∨ 146097 ≤ day) by omega), if_neg (show ¬ (day + 7 * weeks < 0 ∨ 146097 ≤ day + 7 * weeks) by omega)]
      have hM : allM l env (day + 7 * weeks) = allM l env day := by unfold allM; rw [hF]
      have hwk := hwd (by omega) (by omega)
      have a1 := Lib.hid (fun (W : World) (h : Below w.heap.size w W) => MAll_any _ l env wd day hme hwd W (hrr.out.below h (Nat.le_refl _) h.size))
      have a2 := Lib.hid (fun (W : World) (h : Below w.heap.size w W) => MAll_any _ l env wd (day + 7 * weeks) (fun hw h6 h7 j r hj => by
        rw [hme hw (by omega) (by omega) j r hj]
        exact mean_undated r.expr (hseen.out j r (List.getElem?_eq_some_iff.1 hj).1 hj)) (fun h6 h7 => by
        have e1 : Civ.weekI day = (day + 5) % 7 := rfl
        have e2 : Civ.weekI (day + 7 * weeks) = (day + 7 * weeks + 5) % 7 := rfl
        omega) W (hrr.out.below h (Nat.le_refl _) h.size))
      unfold AllPost at a1 a2
      rw [hF, hM] at a2
      clear hF hM hme hwd hwk hseen hc
      generalize allF l day = q at *
      generalize allM l env day = S at *
      obtain ⟨q1, q2⟩ := q
      unfold faultV at a1 a2
      simp only at a1 a2
      have hself := eqF_self q1 q2
      have c1 := Lib.hid (a1.out wr hbr)
      go_wp2_with fail
      refine c1.out.mono ?_
      rintro e5 w5 ⟨v5, rfl, hS5, hb5⟩
      obtain ⟨A5, c5, rfl⟩ := own_slice hS5
      have hb5' : Below w.heap.size w w5 := Below.call hbr hb5 zr
      have hbA : Below w5.heap.size w5 (w5.alloc (.cells #[.int .i64 q1, .int .i64 q2] 25)) := (Below.refl _ _).alloc (Nat.le_refl _) _
      have BF := Blk.new w5 25 #[.int .i64 q1, .int .i64 q2]
      have hR5 := row_reads (own_keep hS5 hbA (Nat.le_refl _))
      have hb6' := Below.call hb5' hbA hb5'.size
      have c2 := Lib.hid (a2.out _ hb6')
      go_wp2_with fail
      refine c2.out.mono ?_
      rintro e7 w7 ⟨v7, rfl, hS7, hb7⟩
      obtain ⟨A7, c7, rfl⟩ := own_slice hS7
      have hz7 := hb7.size
      simp at hz7
      have BF7 := BF.below hb7 (by simp)
      have x0 : w7.cell? ⟨w5.heap.size, 0, none⟩ = some (.int .i64 q1) := BF7.cell 0
      have x1 : w7.cell? ⟨w5.heap.size, 1, none⟩ = some (.int .i64 q2) := BF7.cell 1
      have hbB : Below w7.heap.size w7 (w7.alloc (.cells #[.int .i64 q1, .int .i64 q2] 25)) := (Below.refl _ _).alloc (Nat.le_refl _) _
      have hR7 := row_reads (own_keep hS7 hbB (Nat.le_refl _))
      have hb8' := Below.call (Below.call hb6' hb7 (by simp; have := hb5'.size; omega)) hbB (by have := hb5'.size; omega)
      have hSm := Lib.hid (Same_same _ _ (S.map setW) _ ((hR5.below hb7 (Nat.le_refl _) hb7.size).below hbB (by simp) (by simp)) hR7)
      clear hS5 hS7 hR5 hR7 c1 c2 a1 a2
      go_wp2_with fail
      refine hSm.out.mono ?_
      rintro e9 w9 ⟨rfl, hb9⟩
      go_wp2
      go_ret
      exact ⟨rfl, Below.call hb8' hb9 hb8'.size⟩

end Ru
end Go.Proofs.Ytfhedopfjgjffaa
