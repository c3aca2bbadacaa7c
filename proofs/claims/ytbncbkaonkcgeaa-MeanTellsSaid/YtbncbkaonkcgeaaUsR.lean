/- What a rule refers to: slotref5.Uses; slotref5.Ints. -/
import Derived.Test.YtbncbkaonkcgeaaCwr
namespace Go.Proofs.Ytbncbkaonkcgeaa
open Go.RowKit
namespace Ru
open Vm (TabB)
open Sl (strV Reads IntsV)

/-- all those that a rule refers to, by way of others, too -/
def reachL (l : List Rule) (j : Nat) (n : Nat) : List Int := ((List.range n).filter fun k => Wal.wal (stepB (directR l)) l.length j k).map fun k => ((k : Nat) : Int)
def usesR (l : List Rule) (rule : Int) : List Int := if rule < 0 ∨ (l.length : Int) ≤ rule ∨ (wrongR l).1 ≠ 0 then [] else reachL l rule.toNat l.length
theorem reachL_succ (l : List Rule) (j n : Nat) : reachL l j (n + 1) = if Wal.wal (stepB (directR l)) l.length j n = true then reachL l j n ++ [(n : Int)] else reachL l j n := by
  unfold reachL
  rw [List.range_succ, List.filter_append, List.map_append]
  by_cases h : Wal.wal (stepB (directR l)) l.length j n = true
  · rw [if_pos h, List.filter_cons, if_pos h]
    rfl
  · rw [if_neg h, List.filter_cons, if_neg h]
    simp
theorem reachL_len (l : List Rule) (j n : Nat) : (reachL l j n).length ≤ n := by
  unfold reachL
  rw [List.length_map]
  have := List.length_filter_le (fun k => Wal.wal (stepB (directR l)) l.length j k) (List.range n)
  rwa [List.length_range] at this
theorem wrong_form {l : List Rule} (h : (wrongR l).1 = 0) : (wrongF l).1 = 0 := by
  unfold wrongR at h
  split at h
  · assumption
  · rename_i h2; exact absurd h h2

@[go_sem] theorem run_faultField (a b : Int) (w : World) : (Instr.field 26 (.agg #[.int .i64 a, .int .i64 b]) 0).run Try.prog w = .ok (.int .i64 a) w := by kernel_rfl

def UsesPost (l : List Rule) (rule : Int) (w : World) (e : Ending) (w' : World) : Prop := ∃ v, e = .returned v ∧ w'.ownsRow w.heap.size 3 1 v (usesR l rule).length ((usesR l rule).map (Value.int .i64)) ∧ Below w.heap.size w w'
theorem uses_none {l : List Rule} {rule : Int} (h : rule < 0 ∨ (l.length : Int) ≤ rule ∨ (wrongR l).1 ≠ 0) : usesR l rule = [] := if_pos h






































































































set_option maxRecDepth 100000 in
set_option maxHeartbeats 2000000 in
/-- slotref5.Ints at lists that are the same -/
theorem Ints_same (va vb : Value) (a : List Int) (w : World) (ha : IntsV w w.heap.size va a) (hb : IntsV w w.heap.size vb a) : Calls Try.prog 24 #[va, vb] w fun e w' => e = .returned (.bool true) ∧ Below w.heap.size w w' := by
  obtain ⟨A1, c1, rfl, hl, hc1⟩ := ha
  obtain ⟨A2, c2, rfl, _, hc2⟩ := hb
  replace hc1 := Lib.hid hc1
  replace hc2 := Lib.hid hc2
  go_enter Try.func24, Try.ntmps24
  go_wp2
  go_loopg [13] a.length (fun n k wr => ∃ i : Nat, i ≤ a.length ∧ n = a.length - i ∧ k = .int .i64 i ∧ Below w.heap.size w wr)
  case atStart => exact ⟨0, by omega, rfl, rfl, Below.refl _ _⟩
  case round =>
    obtain ⟨i, hi, hn, rfl, hbw⟩ := hrel
    replace hn := Lib.hid hn
    have z := hbw.size
    by_cases hlt : i < a.length
    · obtain ⟨x, hx⟩ : ∃ x, a[i]? = some x := ⟨_, List.getElem?_eq_getElem hlt⟩
      obtain ⟨b1, o1, rfl, hb1, k1⟩ := hc1.out i x hx
      obtain ⟨b2, o2, rfl, hb2, k2⟩ := hc2.out i x hx
      have d1 : wr.cell? ⟨b1, o1 + i, none⟩ = some (.int .i64 x) := (hbw.cell (p := ⟨b1, _, none⟩) hb1).trans k1
      have d2 : wr.cell? ⟨b2, o2 + i, none⟩ = some (.int .i64 x) := (hbw.cell (p := ⟨b2, _, none⟩) hb2).trans k2
      clear hx k1 k2
      go_wp2_with fail
      go_region
      all_goals
        go_wp2_with fail
        go_roundg (a.length - (i + 1))
        case measure => rw [hn.out]; omega
        case rel => exact ⟨i + 1, by omega, rfl, by go_num, (by repeat (first | exact Below.refl _ _ | assumption | refine Below.n _ ?_ (by first | omega | (simp; done) | (simp; omega)) | refine Below.alloc ?_ (by first | omega | (simp; done) | (simp; omega)) _ | refine Below.setCell ?_ (by first | omega | (simp; done) | (simp; omega)) _ | refine Below.drew ?_ | refine Below.setRow ?_ (by first | omega | (simp; done) | (simp; omega)) _ | refine Below.drewN ?_ _))⟩
    · obtain rfl : i = a.length := by omega
      go_wp2
      go_ret
      exact ⟨rfl, hbw⟩

end Ru
end Go.Proofs.Ytbncbkaonkcgeaa
