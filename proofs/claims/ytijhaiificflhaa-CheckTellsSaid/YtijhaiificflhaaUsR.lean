/- What a rule refers to: slotref5.Uses; slotref5.Ints. -/
import Derived.Test.YtijhaiificflhaaCwr
namespace Go.Proofs.Ytijhaiificflhaa
open Go.RowKit
namespace Ru
open Vm (TabB)
open Sl (strV Reads IntsV)

/-- all those that a rule refers to, by way of others, too -/
def reachL (l : List Rule) (j : Nat) (n : Nat) : List Int := ((List.range n).filter fun k => Wal.wal (stepB (directR l)) l.length j k).map fun k => ((k : Nat) : Int)
def usesR (l : List Rule) (rule : Int) : List Int := if rule < 0 ∨ (l.length : Int) ≤ rule ∨ (wrongR l).1 ≠ 0 then [] else reachL l rule.toNat l.length
theorem reachL_succ (l : List Rule) (j n : Nat) : reachL l j (n + 1) = if Wal.wal (stepB (directR l)) l.length j n = true then reachL l j n ++ [(n : Int)] else reachL l j n := by
  unfold reachL
  rw [List.range_succ, List.filter_append, List.map_append]
  by_cases h : Wal.wal (stepB (directR l)) l.length j n = true
  · rw [if_pos h, List.filter_cons, if_pos h]
    rfl
  · rw [if_neg h, List.filter_cons, if_neg h]
    simp
theorem reachL_len (l : List Rule) (j n : Nat) : (reachL l j n).length ≤ n := by
  unfold reachL
  rw [List.length_map]
  have := List.length_filter_le (fun k => Wal.wal (stepB (directR l)) l.length j k) (List.range n)
  rwa [List.length_range] at this
theorem wrong_form {l : List Rule} (h : (wrongR l).1 = 0) : (wrongF l).1 = 0 := by
  unfold wrongR at h
  split at h
  · assumption
  · rename_i h2; exact absurd h h2

@[go_sem] theorem run_faultField (a b : Int) (w : World) : (Instr.field 26 (.agg #[.int .i64 a, .int .i64 b]) 0).run Try.prog w = .ok (.int .i64 a) w := by kernel_rfl

def UsesPost (l : List Rule) (rule : Int) (w : World) (e : Ending) (w' : World) : Prop := ∃ v, e = .returned v ∧ w'.ownsRow w.heap.size 3 1 v (usesR l rule).length ((usesR l rule).map (Value.int .i64)) ∧ Below w.heap.size w w'
theorem uses_none {l : List Rule} {rule : Int} (h : rule < 0 ∨ (l.length : Int) ≤ rule ∨ (wrongR l).1 ≠ 0) : usesR l rule = [] := if_pos h

set_option maxRecDepth 100000 in
set_option maxHeartbeats 4000000 in
theorem RUses_any (v : Value) (l : List Rule) (rule : Int) (w : World) (hr : RulesV w w.heap.size v l) : Calls Try.prog 12 #[v, .int .i64 rule] w (UsesPost l rule w) := by
  have hrr := Lib.hid hr
  obtain ⟨A, cap, rfl, hlen, hc⟩ := hr
  clear hc
  by_cases h1 : rule < 0
  · have hu := Lib.hid (uses_none (l := l) (.inl h1))
    have g1 : decide (rule < 0) = true := by simpa using h1
    clear h1
    go_enter Try.func12, Try.ntmps12
    go_wp2
    go_ret
    exact ⟨_, rfl, by rw [hu.out]; exact World.ownsRow_nil _ _ _ _, Below.refl _ _⟩
  have g1 : decide (rule < 0) = false := by simpa using h1
  by_cases h2 : (l.length : Int) ≤ rule
  · have hu := Lib.hid (uses_none (l := l) (.inr (.inl h2)))
    have g2 : decide ((l.length : Int) ≤ rule) = true := by simpa using h2
    clear h1 h2
    go_enter Try.func12, Try.ntmps12
    go_wp2
    go_ret
    exact ⟨_, rfl, by rw [hu.out]; exact World.ownsRow_nil _ _ _ _, Below.refl _ _⟩
  have g2 : decide ((l.length : Int) ≤ rule) = false := by simpa using h2
  have hW := Lib.hid (RWrong_any _ l w hrr.out)
  by_cases h3 : (wrongR l).1 = 0
  · have hu : usesR l rule = reachL l rule.toNat l.length := by
      unfold usesR
      rw [if_neg (by rintro (h | h | h) <;> first | omega | exact h h3)]
    obtain ⟨j, rfl⟩ := Int.eq_ofNat_of_zero_le (show 0 ≤ rule by omega)
    have hj : j < l.length := by omega
    obtain ⟨h40, _⟩ := form_right (wrong_form h3)
    rw [Int.toNat_natCast] at hu
    replace hu := Lib.hid hu
    generalize wrongR l = q at *
    obtain ⟨q1, q2⟩ := q
    simp only at h3
    subst h3
    unfold faultV at hW
    simp only at hW
    clear h1 h2
    go_enter Try.func12, Try.ntmps12
    go_wp2_with (first
      | (go_at_call 9; refine hW.out.mono ?_; rintro e w1 ⟨rfl, hb1⟩; have hR := Lib.hid (Reach_any _ l w1 (hrr.out.below hb1 (Nat.le_refl _) hb1.size) h40); have hz1 := hb1.size)
      | (go_at_call 24; refine hR.out.mono ?_; rintro e w2 ⟨g, G, rfl, hg, hT, hb2⟩; have hr0 := (hT.row hj).1; replace hT := Lib.hid hT))
    have hb3 : Below w.heap.size w w2 := hb1.trans (hb2.mono hz1)
    have hz3 := hb3.size
    go_loopg [5, 28] l.length (fun n ov k wr => ∃ i : Nat, i ≤ l.length ∧ n = l.length - i ∧ k = .int .i64 i ∧ Hid (wr.ownsRow w2.heap.size 3 1 ov (reachL l j i).length ((reachL l j i).map (Value.int .i64))) ∧ Below w2.heap.size w2 wr)
    case atStart => exact ⟨0, by omega, rfl, rfl, Lib.hid (World.ownsRow_nil _ _ _ _), Below.refl _ _⟩
    case round =>
      obtain ⟨i, hi, hn, rfl, hO, hb4⟩ := hrel
      replace hn := Lib.hid hn
      have z4 := hb4.size
      by_cases hlt : i < l.length
      · obtain ⟨t1, _⟩ := hT.out.at hj hlt
        have hgl := (hT.out.lt.2 j hj).2
        have t2 : wr.cell? ⟨G j, i, none⟩ = some (.bool (Wal.wal (stepB (directR l)) l.length j i)) := (hb4.cell (p := ⟨G j, _, none⟩) hgl).trans t1
        have hst := reachL_succ l j i
        have hlen2 := reachL_len l j i
        clear t1
        generalize G j = gj at *
        cases hu2 : Wal.wal (stepB (directR l)) l.length j i with
        | false =>
          rw [hu2] at t2 hst
          rw [if_neg (by decide)] at hst
          replace hst := Lib.hid hst
          obtain ⟨A8, cap8, rfl⟩ := own_slice hO.out
          clear hu2
          go_wp2
          go_roundg (l.length - (i + 1))
          case measure => rw [hn.out]; omega
          case rel => exact ⟨i + 1, by omega, rfl, by go_num, by rw [hst.out]; exact hO, hb4⟩
        | true =>
          rw [hu2] at t2 hst
          rw [if_pos rfl] at hst
          replace hst := Lib.hid hst
          clear hu2
          generalize reachL l j i = r0 at *
          go_wp2_with (at_builtin; refine wpList_append_one elInts rfl (.tmp 34) (.tmp 36) rfl w2.heap.size _ r0.length (r0.map (Value.int .i64)) hO.out _ _ rfl rfl rfl (by simp only [maxLen]; omega) (by omega) z4 ?_; intro v3 w3 ho3 hb5 hg3)
          go_roundg (l.length - (i + 1))
          case measure => rw [hn.out]; omega
          case rel => exact ⟨i + 1, by omega, rfl, by go_num, Lib.hid (by rw [hst.out]; simpa using ho3), hb4.trans hb5⟩
      · obtain rfl : i = l.length := by omega
        obtain ⟨A8, cap8, rfl⟩ := own_slice hO.out
        go_wp2
        go_ret
        exact ⟨_, rfl, by rw [hu.out]; exact own_mono hO.out hz3, hb3.trans (hb4.mono hz3)⟩
  · have hu := Lib.hid (uses_none (l := l) (rule := rule) (.inr (.inr h3)))
    generalize wrongR l = q at *
    obtain ⟨q1, q2⟩ := q
    have g3 : (q1 != 0) = true := by simpa using h3
    unfold faultV at hW
    simp only at hW
    clear h1 h2 h3
    go_enter Try.func12, Try.ntmps12
    go_wp2_with (go_at_call 9; refine hW.out.mono ?_; rintro e w1 ⟨rfl, hb1⟩)
    go_ret
    exact ⟨_, rfl, by rw [hu.out]; exact World.ownsRow_nil _ _ _ _, hb1⟩

set_option maxRecDepth 100000 in
set_option maxHeartbeats 2000000 in
/-- slotref5.Ints at lists that are the same -/
theorem Ints_same (va vb : Value) (a : List Int) (w : World) (ha : IntsV w w.heap.size va a) (hb : IntsV w w.heap.size vb a) : Calls Try.prog 10 #[va, vb] w fun e w' => e = .returned (.bool true) ∧ Below w.heap.size w w' := by
  obtain ⟨A1, c1, rfl, hl, hc1⟩ := ha
  obtain ⟨A2, c2, rfl, _, hc2⟩ := hb
  replace hc1 := Lib.hid hc1
  replace hc2 := Lib.hid hc2
  go_enter Try.func10, Try.ntmps10
  go_wp2
  go_loopg [13] a.length (fun n k wr => ∃ i : Nat, i ≤ a.length ∧ n = a.length - i ∧ k = .int .i64 i ∧ Below w.heap.size w wr)
  case atStart => exact ⟨0, by omega, rfl, rfl, Below.refl _ _⟩
  case round =>
    obtain ⟨i, hi, hn, rfl, hbw⟩ := hrel
    replace hn := Lib.hid hn
    have z := hbw.size
    by_cases hlt : i < a.length
    · obtain ⟨x, hx⟩ : ∃ x, a[i]? = some x := ⟨_, List.getElem?_eq_getElem hlt⟩
      obtain ⟨b1, o1, rfl, hb1, k1⟩ := hc1.out i x hx
      obtain ⟨b2, o2, rfl, hb2, k2⟩ := hc2.out i x hx
      have d1 : wr.cell? ⟨b1, o1 + i, none⟩ = some (.int .i64 x) := (hbw.cell (p := ⟨b1, _, none⟩) hb1).trans k1
      have d2 : wr.cell? ⟨b2, o2 + i, none⟩ = some (.int .i64 x) := (hbw.cell (p := ⟨b2, _, none⟩) hb2).trans k2
      clear hx k1 k2
      go_wp2_with fail
      go_region
      all_goals
        go_wp2_with fail
        go_roundg (a.length - (i + 1))
        case measure => rw [hn.out]; omega
        case rel => exact ⟨i + 1, by omega, rfl, by go_num, (by repeat (first | exact Below.refl _ _ | assumption | refine Below.n _ ?_ (by first | omega | (simp; done) | (simp; omega)) | refine Below.alloc ?_ (by first | omega | (simp; done) | (simp; omega)) _ | refine Below.setCell ?_ (by first | omega | (simp; done) | (simp; omega)) _ | refine Below.drew ?_ | refine Below.setRow ?_ (by first | omega | (simp; done) | (simp; omega)) _ | refine Below.drewN ?_ _))⟩
    · obtain rfl : i = a.length := by omega
      go_wp2
      go_ret
      exact ⟨rfl, hbw⟩

end Ru
end Go.Proofs.Ytijhaiificflhaa
