/- slotref5.At, Speaks, Unknown. -/
import Derived.Test.YtbncbkaonkcgeaaShp
import Derived.Test.YtbncbkaonkcgeaaDir
namespace Go.Proofs.Ytbncbkaonkcgeaa
open Go.RowKit
namespace Ru
open Sl (strV Reads)
attribute [local go_sem] bytes_list

set_option maxRecDepth 100000 in
set_option maxHeartbeats 2000000 in
theorem At_any (v : Value) (l : List Rule) (nm : List UInt8) (w : World) (hr : RulesV w w.heap.size v l) :
    Calls Try.prog 76 #[v, strV nm] w fun e w' => e = .returned (.int .i64 (findI l nm)) ∧ Below w.heap.size w w' := by
  obtain ⟨A, cap, rfl, hlen, hc⟩ := hr
  replace hc := Lib.hid hc
  go_enter Try.func76, Try.ntmps76
  go_wp2
  go_loopg [9] l.length (fun n i wr => ∃ j : Nat, j ≤ l.length ∧ n = l.length - j ∧ i = .int .i64 j ∧ Below w.heap.size w wr ∧ j ≤ placeR l nm)
  case atStart => exact ⟨0, by omega, rfl, rfl, Below.refl _ _, Nat.zero_le _⟩
  case round =>
    obtain ⟨j, hj, hn, rfl, hb, hpj⟩ := hrel
    replace hn := Lib.hid hn
    have z := hb.size
    by_cases hlt : j < l.length
    · obtain ⟨x, hx⟩ : ∃ x, l[j]? = some x := ⟨_, List.getElem?_eq_getElem hlt⟩
      obtain ⟨b, o, rfl, hbl, k0, hnl, hE⟩ := hc.out j x hx
      obtain ⟨v0, v1, v2, v3, hnl1, A1, cap1, v4, hkl1, hkv1⟩ := (hE.below hb (Nat.le_refl _) (Nat.le_refl _) hbl).out
      have d0 : wr.cell? ⟨b, o + j * 6, none⟩ = some (strV x.name) := (hb.cell (p := ⟨b, _, none⟩) hbl).trans k0
      have d1 : wr.cell? ⟨b, o + j * 6 + 1, none⟩ = some (.int .i64 x.expr.kind) := v0
      have d2 : wr.cell? ⟨b, o + j * 6 + 2, none⟩ = some (.int .i64 x.expr.a) := v1
      have d3 : wr.cell? ⟨b, o + j * 6 + 3, none⟩ = some (.int .i64 x.expr.b) := v2
      have d4 : wr.cell? ⟨b, o + j * 6 + 4, none⟩ = some (strV x.expr.name) := v3
      have d5 : wr.cell? ⟨b, o + j * 6 + 5, none⟩ = some (.slice A1 x.expr.kids.length cap1) := v4
      have hpa := placeR_at (nm := nm) hx hpj
      clear v0 v1 v2 v3 v4 hx hE k0 hkv1
      cases ht2 : (x.name == nm) with
      | true =>
        have hp1 := hpa.1 ht2
        have hres := Lib.hid (show findI l nm = (j : Int) by unfold findI; rw [hp1, if_pos hlt])
        clear hpa hp1
        go_wp2
        go_ret
        exact ⟨by rw [hres.out]; rfl, (by repeat (first | exact Below.refl _ _ | assumption | refine Below.n _ ?_ (by first | omega | (simp; done) | (simp; omega)) | refine Below.alloc ?_ (by first | omega | (simp; done) | (simp; omega)) _ | refine Below.setCell ?_ (by first | omega | (simp; done) | (simp; omega)) _ | refine Below.drew ?_ | refine Below.setRow ?_ (by first | omega | (simp; done) | (simp; omega)) _ | refine Below.drewN ?_ _))⟩
      | false =>
        have hp1 : j + 1 ≤ placeR l nm := by
          rcases Nat.lt_or_ge j (placeR l nm) with h | h
          · exact h
          · have := hpa.2 (by omega); rw [ht2] at this; cases this
        clear hpa
        go_wp2
        go_roundg (l.length - (j + 1))
        case measure => rw [hn.out]; omega
        case rel => exact ⟨j + 1, by omega, rfl, by go_num, (by repeat (first | exact Below.refl _ _ | assumption | refine Below.n _ ?_ (by first | omega | (simp; done) | (simp; omega)) | refine Below.alloc ?_ (by first | omega | (simp; done) | (simp; omega)) _ | refine Below.setCell ?_ (by first | omega | (simp; done) | (simp; omega)) _ | refine Below.drew ?_ | refine Below.setRow ?_ (by first | omega | (simp; done) | (simp; omega)) _ | refine Below.drewN ?_ _)), hp1⟩
    · have hp1 := placeR_len l nm
      have hres := Lib.hid (show findI l nm = -1 by unfold findI; rw [if_neg (by omega)])
      obtain rfl : j = l.length := by omega
      go_wp2
      go_ret
      exact ⟨by rw [hres.out]; rfl, hb⟩

theorem speaksL_take {l : List Expr} {i : Nat} {e : Expr} (h : l[i]? = some e) (nm : List UInt8) : speaksL (l.drop i) nm = (speaksE e nm || speaksL (l.drop (i + 1)) nm) := by
  obtain ⟨hi, rfl⟩ := List.getElem?_eq_some_iff.1 h
  rw [List.drop_eq_getElem_cons hi, speaksL]
theorem unknownL_take (rs : List Rule) {l : List Expr} {i : Nat} {e : Expr} (h : l[i]? = some e) : unknownL rs (l.drop i) = (unknownE rs e || unknownL rs (l.drop (i + 1))) := by
  obtain ⟨hi, rfl⟩ := List.getElem?_eq_some_iff.1 h
  rw [List.drop_eq_getElem_cons hi, unknownL]

set_option maxRecDepth 100000 in
set_option maxHeartbeats 4000000 in
theorem Speaks_any : ∀ (N : Nat) (e : Expr) (v : Value) (nm : List UInt8) (w : World) (B : Nat), nodesE e ≤ N → ExprVal w B v e → B ≤ w.heap.size →
    Calls Try.prog 22 #[v, strV nm] w fun r w' => r = .returned (.bool (speaksE e nm)) ∧ Below w.heap.size w w' := by
  intro N
  induction N with
  | zero => intro e v nm w B hN; have := nodesE_pos e; omega
  | succ N ih =>
    intro e v nm w B hN he hB
    obtain ⟨A, cap, rfl, hnl, hkl, hkw⟩ := he
    have hnod : nodesL e.kids ≤ N := by cases e; rw [nodesE] at hN; simp only [Expr.kids]; omega
    obtain ⟨k, x, y, enm, kids⟩ := e
    simp only [Expr.kind, Expr.a, Expr.b, Expr.name, Expr.kids] at hnl hkl hkw hnod ⊢
    have hsp : speaksE (.mk k x y enm kids) nm = if k = 10 then enm == nm else speaksL kids nm := by rw [speaksE]
    replace ih := Lib.hid ih
    replace hkw := Lib.hid hkw
    replace hnod := Lib.hid hnod
    clear hN
    by_cases hk : k = 10
    · subst hk
      rw [if_pos rfl] at hsp
      replace hsp := Lib.hid hsp
      go_enter Try.func22, Try.ntmps22
      go_wp2
      go_ret
      exact ⟨by rw [hsp.out]; rfl, (by repeat (first | exact Below.refl _ _ | assumption | refine Below.n _ ?_ (by first | omega | (simp; done) | (simp; omega)) | refine Below.alloc ?_ (by first | omega | (simp; done) | (simp; omega)) _ | refine Below.setCell ?_ (by first | omega | (simp; done) | (simp; omega)) _ | refine Below.drew ?_ | refine Below.setRow ?_ (by first | omega | (simp; done) | (simp; omega)) _ | refine Below.drewN ?_ _))⟩
    · rw [if_neg hk] at hsp
      have gk : (k == 10) = false := by simpa using hk
      clear hk
      replace hsp := Lib.hid hsp
      go_enter Try.func22, Try.ntmps22
      go_wp2
      clear gk
      go_loopg [17] kids.length (fun m kv wr => ∃ j : Nat, j ≤ kids.length ∧ m = kids.length - j ∧ kv = .int .i64 j ∧ Hid (speaksL (kids.drop j) nm = speaksL kids nm) ∧ Below w.heap.size w wr)
      case atStart => exact ⟨0, by omega, rfl, rfl, Lib.hid rfl, (by repeat (first | exact Below.refl _ _ | assumption | refine Below.n _ ?_ (by first | omega | (simp; done) | (simp; omega)) | refine Below.alloc ?_ (by first | omega | (simp; done) | (simp; omega)) _ | refine Below.setCell ?_ (by first | omega | (simp; done) | (simp; omega)) _ | refine Below.drew ?_ | refine Below.setRow ?_ (by first | omega | (simp; done) | (simp; omega)) _ | refine Below.drewN ?_ _))⟩
      case round =>
        obtain ⟨j, hj, hm, rfl, hf, hb⟩ := hrel
        replace hm := Lib.hid hm
        have z := hb.size
        by_cases hlt : j < kids.length
        · obtain ⟨e1, hx⟩ : ∃ d, kids[j]? = some d := ⟨_, List.getElem?_eq_getElem hlt⟩
          obtain ⟨kb, ko, rfl, hkb, hke⟩ := hkw.out.at' hx
          have hst := speaksL_take hx nm
          have hkr := hke.below hb hB (Nat.le_refl _) (by omega)
          obtain ⟨v0, v1, v2, v3, hnl1, A1, cap1, v4, hkl1, hkv1⟩ := hkr.out
          have hzz : kb < wr.heap.size := by omega
          have hbz : Below w.heap.size w (wr.alloc (.cells #[.int .i64 e1.kind, .int .i64 e1.a, .int .i64 e1.b, strV e1.name, .slice A1 e1.kids.length cap1] 43)) := hb.alloc z _
          have hcall := Lib.hid (ih.out e1 (.agg #[.int .i64 e1.kind, .int .i64 e1.a, .int .i64 e1.b, strV e1.name, .slice A1 e1.kids.length cap1]) nm (wr.alloc (.cells #[.int .i64 e1.kind, .int .i64 e1.a, .int .i64 e1.b, strV e1.name, .slice A1 e1.kids.length cap1] 43)) B (by have := nodesE_kid hx; have := hnod.out; omega) ⟨A1, cap1, rfl, hnl1, hkl1, hkv1.below ((Below.refl B wr).alloc (by omega) _) (Nat.le_refl _) (Nat.le_refl _)⟩ (by simp; omega))
          clear hx hke hkv1 hkr hkl1 hnl1
          cases h0 : speaksE e1 nm with
          | false =>
            rw [h0, Bool.false_or, hf.out] at hst
            rw [h0] at hcall
            replace hst := Lib.hid hst
            clear h0
            go_wp2_with (go_at_call 22; refine hcall.out.mono ?_; rintro e w5 ⟨rfl, hb5⟩)
            go_roundg (kids.length - (j + 1))
            case measure => rw [hm.out]; omega
            case rel => exact ⟨j + 1, by omega, rfl, by go_num, Lib.hid hst.out.symm, hbz.trans (hb5.mono (by simp; omega))⟩
          | true =>
            rw [h0, Bool.true_or, hf.out] at hst
            rw [h0] at hcall
            have hsp2 := Lib.hid (hsp.out.trans hst)
            clear h0 hst
            go_wp2_with (go_at_call 22; refine hcall.out.mono ?_; rintro e w5 ⟨rfl, hb5⟩)
            go_ret
            exact ⟨by rw [hsp2.out]; rfl, hbz.trans (hb5.mono (by simp; omega))⟩
        · obtain rfl : j = kids.length := by omega
          have hsp2 := Lib.hid (show speaksE (.mk k x y enm kids) nm = false by rw [hsp.out, ← hf.out, List.drop_length, speaksL])
          go_wp2
          go_ret
          exact ⟨by rw [hsp2.out]; rfl, hb⟩

set_option maxRecDepth 100000 in
set_option maxHeartbeats 4000000 in
theorem Unknown_any (rs : List Rule) : ∀ (N : Nat) (e : Expr) (v rv : Value) (w : World) (B : Nat), nodesE e ≤ N → ExprVal w B v e → B ≤ w.heap.size → RulesV w B rv rs →
    Calls Try.prog 77 #[v, rv] w fun r w' => r = .returned (.bool (unknownE rs e)) ∧ Below w.heap.size w w' := by
  intro N
  induction N with
  | zero => intro e v rv w B hN; have := nodesE_pos e; omega
  | succ N ih =>
    intro e v rv w B hN he hB hrs
    obtain ⟨A, cap, rfl, hnl, hkl, hkw⟩ := he
    have hnod : nodesL e.kids ≤ N := by cases e; rw [nodesE] at hN; simp only [Expr.kids]; omega
    obtain ⟨k, x, y, enm, kids⟩ := e
    simp only [Expr.kind, Expr.a, Expr.b, Expr.name, Expr.kids] at hnl hkl hkw hnod ⊢
    have hsp : unknownE rs (.mk k x y enm kids) = if k = 10 then decide (findI rs enm < 0) else unknownL rs kids := by rw [unknownE]
    replace ih := Lib.hid ih
    have hrh := Lib.hid hrs
    obtain ⟨A9, cap9, rfl, hlen9, hc9⟩ := hrs
    replace hc9 := Lib.hid hc9
    replace hkw := Lib.hid hkw
    replace hnod := Lib.hid hnod
    clear hN
    by_cases hk : k = 10
    · subst hk
      rw [if_pos rfl] at hsp
      replace hsp := Lib.hid hsp
      have hbA : Below w.heap.size w (w.alloc (.cells #[.int .i64 10, .int .i64 x, .int .i64 y, strV enm, .slice A kids.length cap] 43)) := (Below.refl _ _).alloc (Nat.le_refl _) _
      have hA := Lib.hid (At_any _ rs enm (w.alloc (.cells #[.int .i64 10, .int .i64 x, .int .i64 y, strV enm, .slice A kids.length cap] 43)) (hrh.out.below hbA hB (by simp; omega)))
      go_enter Try.func77, Try.ntmps77
      go_wp2_with (go_at_call 76; refine hA.out.mono ?_; rintro e w5 ⟨rfl, hb5⟩)
      go_ret
      exact ⟨by rw [hsp.out]; rfl, hbA.trans (hb5.mono (by simp))⟩
    · rw [if_neg hk] at hsp
      have gk : (k == 10) = false := by simpa using hk
      clear hk
      replace hsp := Lib.hid hsp
      go_enter Try.func77, Try.ntmps77
      go_wp2
      clear gk
      go_loopg [18] kids.length (fun m kv wr => ∃ j : Nat, j ≤ kids.length ∧ m = kids.length - j ∧ kv = .int .i64 j ∧ Hid (unknownL rs (kids.drop j) = unknownL rs kids) ∧ Below w.heap.size w wr)
      case atStart => exact ⟨0, by omega, rfl, rfl, Lib.hid rfl, (by repeat (first | exact Below.refl _ _ | assumption | refine Below.n _ ?_ (by first | omega | (simp; done) | (simp; omega)) | refine Below.alloc ?_ (by first | omega | (simp; done) | (simp; omega)) _ | refine Below.setCell ?_ (by first | omega | (simp; done) | (simp; omega)) _ | refine Below.drew ?_ | refine Below.setRow ?_ (by first | omega | (simp; done) | (simp; omega)) _ | refine Below.drewN ?_ _))⟩
      case round =>
        obtain ⟨j, hj, hm, rfl, hf, hb⟩ := hrel
        replace hm := Lib.hid hm
        have z := hb.size
        by_cases hlt : j < kids.length
        · obtain ⟨e1, hx⟩ : ∃ d, kids[j]? = some d := ⟨_, List.getElem?_eq_getElem hlt⟩
          obtain ⟨kb, ko, rfl, hkb, hke⟩ := hkw.out.at' hx
          have hst := unknownL_take rs hx
          have hkr := hke.below hb hB (Nat.le_refl _) (by omega)
          obtain ⟨v0, v1, v2, v3, hnl1, A1, cap1, v4, hkl1, hkv1⟩ := hkr.out
          have hzz : kb < wr.heap.size := by omega
          have hbz : Below w.heap.size w (wr.alloc (.cells #[.int .i64 e1.kind, .int .i64 e1.a, .int .i64 e1.b, strV e1.name, .slice A1 e1.kids.length cap1] 43)) := hb.alloc z _
          have hcall := Lib.hid (ih.out e1 (.agg #[.int .i64 e1.kind, .int .i64 e1.a, .int .i64 e1.b, strV e1.name, .slice A1 e1.kids.length cap1]) (.slice A9 rs.length cap9) (wr.alloc (.cells #[.int .i64 e1.kind, .int .i64 e1.a, .int .i64 e1.b, strV e1.name, .slice A1 e1.kids.length cap1] 43)) B (by have := nodesE_kid hx; have := hnod.out; omega) ⟨A1, cap1, rfl, hnl1, hkl1, hkv1.below ((Below.refl B wr).alloc (by omega) _) (Nat.le_refl _) (Nat.le_refl _)⟩ (by simp; omega) (hrh.out.below hbz hB (Nat.le_refl _)))
          clear hx hke hkv1 hkr hkl1 hnl1
          cases h0 : unknownE rs e1 with
          | false =>
            rw [h0, Bool.false_or, hf.out] at hst
            rw [h0] at hcall
            replace hst := Lib.hid hst
            clear h0
            go_wp2_with (go_at_call 77; refine hcall.out.mono ?_; rintro e w5 ⟨rfl, hb5⟩)
            go_roundg (kids.length - (j + 1))
            case measure => rw [hm.out]; omega
            case rel => exact ⟨j + 1, by omega, rfl, by go_num, Lib.hid hst.out.symm, hbz.trans (hb5.mono (by simp; omega))⟩
          | true =>
            rw [h0, Bool.true_or, hf.out] at hst
            rw [h0] at hcall
            have hsp2 := Lib.hid (hsp.out.trans hst)
            clear h0 hst
            go_wp2_with (go_at_call 77; refine hcall.out.mono ?_; rintro e w5 ⟨rfl, hb5⟩)
            go_ret
            exact ⟨by rw [hsp2.out]; rfl, hbz.trans (hb5.mono (by simp; omega))⟩
        · obtain rfl : j = kids.length := by omega
          have hsp2 := Lib.hid (show unknownE rs (.mk k x y enm kids) = false by rw [hsp.out, ← hf.out, List.drop_length, unknownL])
          go_wp2
          go_ret
          exact ⟨by rw [hsp2.out]; rfl, hb⟩

end Ru
end Go.Proofs.Ytbncbkaonkcgeaa
