/- Which rules a rule speaks of: check.direct. -/
import Derived.Test.YtijhaiificflhaaNms
import Derived.Test.YtijhaiificflhaaIdx
import Derived.Test.YtijhaiificflhaaRowI
namespace Go.Proofs.Ytijhaiificflhaa
open Go.RowKit
namespace Ru
open Sl (strV Reads)

theorem directR_at {l : List Rule} {i : Nat} {r : Rule} (h : l[i]? = some r) : directR l i = (namesE r.expr).map (findI l) := by
  unfold directR
  rw [h]
  rfl
theorem own_elem {w : World} {base e n : Nat} {v : Value} {xs : List Value} (h : w.ownsRow base e 1 v n xs) {i : Nat} {x : Value} (hx : xs[i]? = some x) : ∃ g cap, v = .slice (some ⟨g, 0, none⟩) n cap ∧ g < w.heap.size ∧ w.cell? ⟨g, i, none⟩ = some x := by
  have hl : xs.length = n := by have := h.1; simpa using this
  have hi := (List.getElem?_eq_some_iff.1 hx).1
  rcases h.2 with ⟨_, h0⟩ | ⟨g, cap, cur, rfl, _, hh, _⟩
  · omega
  · refine ⟨g, cap, rfl, (Array.getElem?_eq_some_iff.1 hh).1, ?_⟩
    have := h.cells (g := g) rfl i _ hx
    rw [Addr.add_lit, Nat.zero_add] at this
    exact this

set_option maxRecDepth 100000 in
set_option maxHeartbeats 8000000 in
theorem direct_any (v : Value) (l : List Rule) (w : World) (hr : RulesV w w.heap.size v l) (h40 : l.length ≤ 40) (hN : ∀ r ∈ l, nodesE r.expr ≤ 600) :
    Calls Try.prog 18 #[v] w fun e w' => ∃ ov, e = .returned ov ∧ NextV w' w.heap.size ov ((List.range l.length).map (directR l)) ∧ Below w.heap.size w w' := by
  have hrr := Lib.hid hr
  obtain ⟨A, cap, rfl, hlen, hc⟩ := hr
  replace hc := Lib.hid hc
  replace hN := Lib.hid hN
  go_enter Try.func18, Try.ntmps18
  go_wp2
  go_loopg [3, 10] l.length (fun n ov k wr => ∃ j : Nat, j ≤ l.length ∧ n = l.length - j ∧ k = .int .i64 j ∧ Hid (NextV wr w.heap.size ov ((List.range j).map (directR l))) ∧ Below w.heap.size w wr)
  case atStart => exact ⟨0, by omega, rfl, rfl, Lib.hid (NextV.nil _ _), Below.refl _ _⟩
  case round =>
    obtain ⟨j, hj, hn, rfl, hO, hb⟩ := hrel
    replace hn := Lib.hid hn
    have zb := hb.size
    by_cases hlt : j < l.length
    · obtain ⟨r, hx⟩ : ∃ r, l[j]? = some r := ⟨_, List.getElem?_eq_getElem hlt⟩
      obtain ⟨b, o, rfl, hbl, k0, hnl, hE⟩ := hc.out j r hx
      have hn6 := hN.out r (List.mem_of_getElem? hx)
      have hnl6 := names_len r.expr
      have hda := Lib.hid (directR_at hx)
      have hnm := Lib.hid (names_any (nodesE r.expr) r.expr wr w.heap.size wr.heap.size b (o + j * 6 + 1) (.slice none 0 0) [] (Nat.le_refl _) (hE.below hb (Nat.le_refl _) (Nat.le_refl _) hbl) hbl zb (Nat.le_refl _) (by simp; omega) (World.ownsRow_nil _ _ _ _))
      clear k0 hnl hE hx
      generalize hns : namesE r.expr = ns at *
      clear hns
      obtain ⟨wo, hwo⟩ : ∃ wo, wo = wr := ⟨_, rfl⟩
      subst hwo
      go_wp2_with (go_at_call 46; refine hnm.out.mono ?_; rintro e w1 ⟨v5, rfl, ho5, hb5⟩; rw [List.nil_append] at ho5; obtain ⟨A5, cap5, rfl⟩ := own_slice ho5; replace ho5 := Lib.hid ho5)
      have z1 := hb5.size
      go_loopg [5, 19] ns.length (fun m mv k wq => ∃ i : Nat, i ≤ ns.length ∧ m = ns.length - i ∧ k = .int .i64 i ∧ Hid (wq.ownsRow w1.heap.size 3 1 mv i (((ns.take i).map (findI l)).map (Value.int .i64))) ∧ Below w1.heap.size w1 wq)
      case atStart => exact ⟨0, by omega, rfl, rfl, Lib.hid (World.ownsRow_nil _ _ _ _), Below.refl _ _⟩
      case round =>
        obtain ⟨i, hi, hm, rfl, hM, hbq⟩ := hrel
        replace hm := Lib.hid hm
        obtain ⟨wp, hwp⟩ : ∃ wp, wp = wr := ⟨_, rfl⟩
        subst hwp
        have zq := hbq.size
        by_cases hlt2 : i < ns.length
        · obtain ⟨s, hs⟩ : ∃ s, ns[i]? = some s := ⟨_, List.getElem?_eq_getElem hlt2⟩
          obtain ⟨g5, cap6, he5, hg5, hc5⟩ := own_elem (own_keep ho5.out hbq (Nat.le_refl _)) (i := i) (x := strV s) (by rw [List.getElem?_map, hs]; rfl)
          cases he5
          have hbw : Below w.heap.size w wp := (hb.trans (hb5.mono zb)).trans (hbq.mono (by omega))
          have hF := Lib.hid (Find_any _ l s wp (hrr.out.below hbw (Nat.le_refl _) (by omega)))
          have hsnoc : ((ns.take (i + 1)).map (findI l)).map (Value.int .i64) = ((ns.take i).map (findI l)).map (Value.int .i64) ++ [Value.int .i64 (findI l s)] := by
            rw [List.take_add_one, hs]
            simp
          replace hsnoc := Lib.hid hsnoc
          clear hs
          go_wp2_with (first
            | (go_at_call 17; refine hF.out.mono ?_; rintro e w2 ⟨rfl, hb2⟩)
            | (at_builtin; refine wpList_append_one elInts rfl (.tmp 23) (.tmp 27) rfl w1.heap.size _ i (((ns.take i).map (findI l)).map (Value.int .i64)) (own_keep hM.out hb2 (Nat.le_refl _)) _ _ rfl rfl rfl (by simp only [maxLen]; omega) (by omega) (by have := hb2.size; omega) ?_; intro v3 w3 ho3 hb3 hg3))
          go_roundg (ns.length - (i + 1))
          case measure => rw [hm.out]; omega
          case rel => exact ⟨i + 1, by omega, rfl, by go_num, by rw [hsnoc.out]; exact ho3, hbq.trans ((hb2.mono zq).trans hb3)⟩
        · obtain rfl : i = ns.length := by omega
          rw [List.take_length, ← hda.out] at hM
          have hbw : Below wo.heap.size wo wp := hb5.trans (hbq.mono z1)
          obtain ⟨vs, hv1, hv2⟩ := hO.out.below hbw (Nat.le_refl _)
          have hdl : (directR l j).length = ns.length := by rw [hda.out, List.length_map]
          have hol : ((List.range j).map (directR l)).length = j := by simp
          rw [hol] at hv1
          replace hv1 := Lib.hid hv1
          replace hv2 := Lib.hid hv2
          obtain ⟨A8, cap8, rfl⟩ := own_slice hM.out
          go_wp2_with (at_builtin; refine wpList_append_one elInts2 rfl (.tmp 30) (.tmp 32) rfl w.heap.size _ j vs hv1.out _ _ rfl rfl rfl (by simp only [maxLen]; omega) (by omega) (by omega) ?_; intro v3 w3 ho3 hb3 hg3)
          go_roundg (l.length - (j + 1))
          case measure => rw [hn.out]; omega
          case rel =>
            refine ⟨j + 1, by omega, rfl, by go_num, Lib.hid ?_, (hb.trans (hbw.mono zb)).trans hb3⟩
            rw [List.range_succ, List.map_append]
            have hal : Below wp.heap.size wp (wp.alloc (.cells #[.slice A8 ns.length cap8] 33)) := (Below.refl _ _).alloc (Nat.le_refl _) _
            refine NextV.snoc (W := wp.alloc (.cells #[.slice A8 ns.length cap8] 33)) (by rw [hol]; exact own_keep hv1.out hal (Nat.le_refl _)) (fun i u hu x hx => own_keep (hv2.out i u hu x hx) hal (Nat.le_refl _)) ?_ (by rw [hol]; exact ho3) hg3
            rw [hdl]
            exact own_keep (own_mono hM.out (by omega)) hal (Nat.le_refl _)
    · obtain rfl : j = l.length := by omega
      go_wp2
      go_ret
      exact ⟨_, rfl, hO.out, hb⟩

end Ru
end Go.Proofs.Ytijhaiificflhaa
