/- The walk of lex.one. -/
import Derived.Test.YtbcgcpcjepigeaaLexV
import Derived.Test.YtbcgcpcjepigeaaCivN
import Derived.Test.YtbcgcpcjepigeaaShelf
import Derived.Lib.IndexLaws
namespace Go.Proofs.Ytbcgcpcjepigeaa
open Go.RowKit
namespace Lx
open Sl (strV)

theorem Number_day (y m d : Int) (w : World) :
    Calls Try.prog 63 #[.agg #[.int .i64 y, .int .i64 m, .int .i64 d]] w fun e w' => e = .returned (.tuple #[.int .i64 (dayOf y m d).1, .int .i64 (dayOf y m d).2]) ∧ Below w.heap.size w w' := by
  by_cases h : 1 ≤ d ∧ d ≤ Civ.lenI y m
  · unfold dayOf; rw [if_pos h]; exact Civ.Number_yes y m d w h
  · unfold dayOf; rw [if_neg h]; exact Civ.Number_no y m d w h
theorem okAt_d {c : UInt8} : okAt c 100 = digit c.toNat := rfl
/-- digits of a text that begins as a shape does -/
theorem shape_digits {s sh : List UInt8} (h : shapeGo s sh = true) (a b : Nat) (hb : b ≤ sh.length) (hsh : ∀ i, a ≤ i → i < b → sh[i]? = some 100) : ∀ c ∈ (s.take b).drop a, digit c.toNat = true := fun c hc => by
  obtain ⟨h1, h2⟩ := shapeGo_iff.1 h
  obtain ⟨i, hi, rfl⟩ := List.getElem_of_mem hc
  rw [List.length_drop, List.length_take] at hi
  rw [List.getElem_drop, List.getElem_take]
  rw [← okAt_d]
  exact h2 (a + i) _ 100 (List.getElem?_eq_getElem (by omega)) (hsh _ (by omega) (by omega))
theorem bytes_lit {a b : Nat} {sh : List UInt8} (h : (List.range b).all (fun i => decide (i < a) || sh[i]? == some 100) = true) : ∀ i, a ≤ i → i < b → sh[i]? = some 100 := fun i h1 h2 => by
  have := List.all_eq_true.1 h i (by simpa using h2)
  simpa [show ¬ i < a by omega] using this
/-- what one answers -/
def retOne (x : Tok × Int × Int) : Value := .tuple #[.agg #[.int .i64 x.1.1, .int .i64 x.1.2.1, .int .i64 x.1.2.2.1, strV x.1.2.2.2], .int .i64 x.2.1, .int .i64 x.2.2]
def OnePost (s : List UInt8) (w : World) (e : Ending) (w' : World) : Prop := e = .returned (retOne (one s)) ∧ Below w.heap.size w w'

set_option maxHeartbeats 2000000 in
set_option maxRecDepth 100000 in
theorem one_date (s : List UInt8) (w : World) (hl : s.length ≤ 6000) (h : shapeGo s dateS = true) : Calls Try.prog 29 #[strV s] w (OnePost s w) := by
  have hlen := shapeGo_len h
  have hlen' : 10 ≤ (s.length : Int) := by have : dateS.length = 10 := rfl; omega
  have h10 : 10 ≤ s.length := by omega
  have c1 := fun W => shape_any s dateS W (by omega) (by decide)
  rw [h] at c1
  have n1 := fun W => num_any (s.take 4) W (by rw [List.length_take]; omega) (shape_digits h 0 4 (by decide) (bytes_lit (by decide)))
  have n2 := fun W => num_any ((s.take 7).drop 5) W (by rw [List.length_drop, List.length_take]; omega) (shape_digits h 5 7 (by decide) (bytes_lit (by decide)))
  have n3 := fun W => num_any ((s.take 10).drop 8) W (by rw [List.length_drop, List.length_take]; omega) (shape_digits h 8 10 (by decide) (bytes_lit (by decide)))
  have nd := fun W => Number_day (num (s.take 4)) (num ((s.take 7).drop 5)) (num ((s.take 10).drop 8)) W
  have e : one s = ((5, (dayOf (num (s.take 4)) (num ((s.take 7).drop 5)) (num ((s.take 10).drop 8))).1, 0, []), 10, (dayOf (num (s.take 4)) (num ((s.take 7).drop 5)) (num ((s.take 10).drop 8))).2) := by unfold one; rw [if_pos h]
  generalize dayOf (num (s.take 4)) (num ((s.take 7).drop 5)) (num ((s.take 10).drop 8)) = r at *
  replace c1 := Lib.hid c1
  replace n1 := Lib.hid n1
  replace n2 := Lib.hid n2
  replace n3 := Lib.hid n3
  replace nd := Lib.hid nd
  replace e := Lib.hid e
  clear h hlen
  go_enter Try.func29, Try.ntmps29
  go_wp2_with fail
  refine (c1.out _).mono ?_
  rintro e1 w1 ⟨rfl, hb1⟩
  obtain ⟨m1, rfl⟩ := After.of hb1
  have z1 := m1.size
  simp at z1
  have B0 := (Blk.new w 34 #[.int .i64 0, .int .i64 0, .int .i64 0, strV []]).after m1 (by simp)
  go_wp2_with fail
  refine wp_region_below (m1.w.heap.size) _ (Below.refl _ _) (by kernel_rfl) (by kernel_rfl) ?_
  repeat (go_big_quiet_step ((first | (go_at_call 64; first | with_reducible exact quiet_same (n1.out _) | with_reducible exact quiet_same (n2.out _) | with_reducible exact quiet_same (n3.out _)) | (go_at_call 63; with_reducible exact quiet_below (Nat.le_refl _) (nd.out _)))))
  refine wpQuiet_nil ?_
  rintro _ ⟨m2, rfl⟩
  have z2 := m2.size
  have B1 := B0.after m2 (by omega)
  have f0 : ∀ j, m2.w.frozen? ⟨w.heap.size, j, none⟩ = false := fun j => B1.frozen j
  have k0 : m2.w.cell? ⟨w.heap.size, 0, none⟩ = some (.int .i64 0) := B1.cell 0
  have k1 : m2.w.cell? ⟨w.heap.size, 1, none⟩ = some (.int .i64 0) := B1.cell 1
  have k2 : m2.w.cell? ⟨w.heap.size, 2, none⟩ = some (.int .i64 0) := B1.cell 2
  have k3 : m2.w.cell? ⟨w.heap.size, 3, none⟩ = some (strV []) := B1.cell 3
  go_wp2
  refine bodyPost_ret (v := retOne (one s)) ?_ rfl ⟨rfl, (by repeat (first | exact Below.refl _ _ | assumption | refine Below.n _ ?_ (by first | omega | (simp; done) | (simp; omega)) | refine Below.alloc ?_ (by first | omega | (simp; done) | (simp; omega)) _ | refine Below.setCell ?_ (by first | omega | (simp; done) | (simp; omega)) _ | refine Below.drew ?_ | refine Below.setRow ?_ (by first | omega | (simp; done) | (simp; omega)) _ | refine Below.drewN ?_ _))⟩
  rw [e.out]
  simp [results, Try.results29, go_sem, retOne, k0, k1, k2, k3]

end Lx
end Go.Proofs.Ytbcgcpcjepigeaa
