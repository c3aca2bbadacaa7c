/- The walk of lex.one: signs, and what is none; all of it. -/
import Derived.Test.YtbcgcpcjepigeaaLexQ
namespace Go.Proofs.Ytbcgcpcjepigeaa
open Go.RowKit
namespace Lx
open Sl (strV)

theorem indexByte_mem : ∀ (l : List UInt8) (c : UInt8), decide (0 ≤ Lib.indexByte l c) = l.contains c
  | [], c => by simp [Lib.indexByte]
  | b :: l, c => by
    have ih := indexByte_mem l c
    have hg := Lib.indexByte_ge l c
    unfold Lib.indexByte
    by_cases h : b = c
    · subst h; simp
    · have hb : (b == c) = false := by simpa using h
      have hc : (c == b) = false := by simpa using fun e => h e.symm
      rw [hb, List.contains_cons, hc, Bool.false_or, ← ih]
      simp only [Bool.false_eq_true, if_false]
      by_cases h1 : Lib.indexByte l c = -1
      · simp [h1]
      · rw [if_neg (by simpa using h1)]
        rw [decide_eq_decide]; omega
set_option maxHeartbeats 2000000 in
set_option maxRecDepth 100000 in
theorem one_sign (s : List UInt8) (c : UInt8) (w : World) (hl : s.length ≤ 6000) (h0 : shapeGo s dateS = false) (h1 : shapeGo s timeS = false) (hc : s[0]? = some c) (hd : digit c.toNat = false) (hsm : small c.toNat = false) : Calls Try.prog 29 #[strV s] w (OnePost s w) := by
  have hlen : 1 ≤ s.length := (List.getElem?_eq_some_iff.1 hc).1
  have hlen' : 1 ≤ (s.length : Int) := by omega
  have c1 := fun W => shape_any s dateS W (by omega) (by decide)
  rw [h0] at c1
  have c2 := fun W => shape_any s timeS W (by omega) (by decide)
  rw [h1] at c2
  have cd := fun W => wdigit c.toNat W
  rw [hd] at cd
  have cs := fun W => wsmall c.toNat W
  rw [hsm] at cs
  have hb0 := bAt_of hc
  have cp := fun W => HasPrefix_any s [46, 46] W (by omega) (by decide)
  have ci := fun W => (Go.Proofs.Try.strings_IndexByte ⟨signs.toArray⟩ (c.toNat : Int) W)
  have hct : ((c.toNat : Int)).toNat.toUInt8 = c := by rw [Int.toNat_natCast]; exact UInt8.ofNat_toNat
  rw [hct] at ci
  have e : one s = if s.take 2 = [46, 46] then ((3, 0, 0, [46, 46]), 2, 0) else if signs.contains c = true then ((3, 0, 0, [c]), 1, 0) else ((0, 0, 0, []), 0, 2) := by
    unfold one
    rw [if_neg (by rw [h0]; simp), if_neg (by rw [h1]; simp)]
    cases s with
    | nil => simp at hc
    | cons x xs => simp at hc; subst hc; simp only; rw [if_neg (by rw [hd]; simp), if_neg (by rw [hsm]; simp)]
  have et : s.take 1 = [c] := by
    cases s with
    | nil => simp at hc
    | cons x xs => simp at hc; subst hc; rfl
  have hcase : (isPre [46, 46] s = true ∧ one s = ((3, 0, 0, [46, 46]), 2, 0)) ∨ (isPre [46, 46] s = false ∧ decide (0 ≤ Lib.indexByte signs c) = true ∧ one s = ((3, 0, 0, s.take 1), 1, 0)) ∨ (isPre [46, 46] s = false ∧ decide (0 ≤ Lib.indexByte signs c) = false ∧ one s = ((0, 0, 0, []), 0, 2)) := by
    rw [indexByte_mem]
    by_cases h : s.take 2 = [46, 46]
    · rw [if_pos h] at e; exact .inl ⟨by simpa [isPre] using h, e⟩
    · rw [if_neg h] at e
      cases hs : signs.contains c with
      | true => rw [hs, if_pos rfl] at e; exact .inr (.inl ⟨by simpa [isPre] using h, rfl, by rw [et]; exact e⟩)
      | false => rw [hs, if_neg (by simp)] at e; exact .inr (.inr ⟨by simpa [isPre] using h, rfl, e⟩)
  replace c1 := Lib.hid c1
  replace c2 := Lib.hid c2
  replace cd := Lib.hid cd
  replace cs := Lib.hid cs
  clear e et hct hc hd h0 h1 hsm
  rcases hcase with ⟨g1, e⟩ | ⟨g1, g2, e⟩ | ⟨g1, g2, e⟩
  all_goals
    rw [g1] at cp
    replace cp := Lib.hid cp
    clear g1
    generalize Lib.indexByte signs c = ix at *
    replace ci := Lib.hid ci
    replace e := Lib.hid e
    go_enter Try.func29, Try.ntmps29
    go_wp2_with fail
    refine (c1.out _).mono ?_
    rintro e1 w1 ⟨rfl, hb1⟩
    obtain ⟨m1, rfl⟩ := After.of hb1
    have z1 := m1.size
    simp at z1
    have B0 := (Blk.new w 34 #[.int .i64 0, .int .i64 0, .int .i64 0, strV []]).after m1 (by simp)
    go_wp2_with fail
    refine (c2.out _).mono ?_
    rintro e1 w2 ⟨rfl, hb2⟩
    obtain ⟨m2, rfl⟩ := After.of hb2
    have z2 := m2.size
    have B1 := B0.after m2 (by omega)
    have f0 : ∀ j, m2.w.frozen? ⟨w.heap.size, j, none⟩ = false := fun j => B1.frozen j
    have k0 : m2.w.cell? ⟨w.heap.size, 0, none⟩ = some (.int .i64 0) := B1.cell 0
    have k1 : m2.w.cell? ⟨w.heap.size, 1, none⟩ = some (.int .i64 0) := B1.cell 1
    have k2 : m2.w.cell? ⟨w.heap.size, 2, none⟩ = some (.int .i64 0) := B1.cell 2
    have k3 : m2.w.cell? ⟨w.heap.size, 3, none⟩ = some (strV []) := B1.cell 3
    go_wp2_with fail
    refine (cd.out _).mono ?_
    rintro e1 w2 ⟨rfl, rfl⟩
    go_wp2_with fail
    refine (cs.out _).mono ?_
    rintro e1 w2 ⟨rfl, rfl⟩
    go_wp2_with fail
    refine (cp.out _).mono ?_
    rintro e1 w2 ⟨rfl, rfl⟩
    go_wp2_with (go_at_call 66; refine (ci.out _).mono ?_; rintro e1 w2 ⟨rfl, rfl⟩)
    refine bodyPost_ret (v := retOne (one s)) ?_ rfl ⟨rfl, (by repeat (first | exact Below.refl _ _ | assumption | refine Below.n _ ?_ (by first | omega | (simp; done) | (simp; omega)) | refine Below.alloc ?_ (by first | omega | (simp; done) | (simp; omega)) _ | refine Below.setCell ?_ (by first | omega | (simp; done) | (simp; omega)) _ | refine Below.drew ?_ | refine Below.setRow ?_ (by first | omega | (simp; done) | (simp; omega)) _ | refine Below.drewN ?_ _))⟩
    rw [e.out]
    simp [results, Try.results29, go_sem, retOne, k0, k1, k2, k3]

theorem one_any (s : List UInt8) (w : World) (h0 : 1 ≤ s.length) (hl : s.length ≤ 6000) : Calls Try.prog 29 #[strV s] w (OnePost s w) := by
  obtain ⟨c, hc⟩ : ∃ c, s[0]? = some c := ⟨_, List.getElem?_eq_getElem (by omega)⟩
  cases h1 : shapeGo s dateS with
  | true => exact one_date s w hl h1
  | false =>
    cases h2 : shapeGo s timeS with
    | true => exact one_time s w hl h1 h2
    | false =>
      cases h3 : digit c.toNat with
      | true => exact one_number s c w hl h1 h2 hc h3
      | false =>
        cases h4 : small c.toNat with
        | true => exact one_name s c w hl h1 h2 hc h4
        | false => exact one_sign s c w hl h1 h2 hc h3 h4

end Lx
end Go.Proofs.Ytbcgcpcjepigeaa
