/- The walks of ref5.Ints, ref10.SameSlot and slices.Clone at []int. -/
import Derived.Test.YtbaomgdkoglebaaMatW
namespace Go.Proofs.Ytbaomgdkoglebaa
open Go.RowKit
namespace Sl

set_option maxHeartbeats 2000000 in
theorem Ints_any (u v : Value) (a b : List Int) (w : World) (ha : IntsV w w.heap.size u a) (hb : IntsV w w.heap.size v b) :
    Calls Try.prog 37 #[u, v] w fun e w' => e = .returned (.bool (a == b)) ∧ Below w.heap.size w w' := by
  obtain ⟨A, cap, rfl, hlen, hc⟩ := ha
  obtain ⟨A2, cap2, rfl, hlen2, hc2⟩ := hb
  replace hc := Lib.hid hc
  replace hc2 := Lib.hid hc2
  by_cases hl : a.length = b.length
  · have g : ((a.length : Int) != (b.length : Int)) = false := by simp [hl]
    replace hl := Lib.hid hl
    go_enter Try.func37, Try.ntmps37
    go_wp2
    clear g
    go_loopg [13] a.length (fun n k wr => ∃ j : Nat, j ≤ a.length ∧ n = a.length - j ∧ k = .int .i64 j ∧ Below w.heap.size w wr ∧ (∀ i, i < j → a[i]? = b[i]?))
    case atStart => exact ⟨0, by omega, rfl, rfl, (by repeat (first | exact Below.refl _ _ | assumption | refine Below.n _ ?_ (by first | omega | (simp; done) | (simp; omega)) | refine Below.alloc ?_ (by first | omega | (simp; done) | (simp; omega)) _ | refine Below.setCell ?_ (by first | omega | (simp; done) | (simp; omega)) _ | refine Below.drew ?_ | refine Below.setRow ?_ (by first | omega | (simp; done) | (simp; omega)) _ | refine Below.drewN ?_ _)), fun i hi => by omega⟩
    case round =>
      obtain ⟨j, hj, hn, rfl, hbw, hal⟩ := hrel
      replace hn := Lib.hid hn
      replace hal := Lib.hid hal
      by_cases hlt : j < a.length
      · have hlt2 : j < b.length := by have := hl.out; omega
        obtain ⟨x, hx⟩ : ∃ x, a[j]? = some x := ⟨_, List.getElem?_eq_getElem hlt⟩
        obtain ⟨y, hy⟩ : ∃ y, b[j]? = some y := ⟨_, List.getElem?_eq_getElem hlt2⟩
        obtain ⟨b1, o1, rfl, hl1, c1⟩ := hc.out j x hx
        obtain ⟨b2, o2, rfl, hl2, c2⟩ := hc2.out j y hy
        have d1 : wr.cell? ⟨b1, o1 + j, none⟩ = some (.int .i64 x) := (hbw.cell (p := ⟨b1, _, none⟩) hl1).trans c1
        have d2 : wr.cell? ⟨b2, o2 + j, none⟩ = some (.int .i64 y) := (hbw.cell (p := ⟨b2, _, none⟩) hl2).trans c2
        have z := hbw.size
        by_cases hxy : x = y
        · have hal2 := Lib.hid (show ∀ i, i < j + 1 → a[i]? = b[i]? from fun i hi => by
            by_cases h : i = j
            · subst h; rw [hx, hy, hxy]
            · exact hal.out i (by omega))
          have g : (x != y) = false := by simp [hxy]
          clear hx hy hxy
          go_wp2
          refine wp_region_below (wr.heap.size) _ (Below.refl _ _) (by kernel_rfl) (by kernel_rfl) ?_
          repeat (go_big_quiet_step ((fail)))
          refine wpQuiet_nil ?_
          rintro _ ⟨n1, rfl⟩
          go_wp2
          go_roundg (a.length - (j + 1))
          case measure => rw [hn.out]; omega
          case rel => exact ⟨j + 1, by omega, rfl, by go_num, (by repeat (first | exact Below.refl _ _ | assumption | refine Below.n _ ?_ (by first | omega | (simp; done) | (simp; omega)) | refine Below.alloc ?_ (by first | omega | (simp; done) | (simp; omega)) _ | refine Below.setCell ?_ (by first | omega | (simp; done) | (simp; omega)) _ | refine Below.drew ?_ | refine Below.setRow ?_ (by first | omega | (simp; done) | (simp; omega)) _ | refine Below.drewN ?_ _)), hal2.out⟩
        · have e := Lib.hid (show (a == b) = false by
            rw [beq_eq_false_iff_ne]
            rintro rfl
            rw [hx] at hy
            exact hxy (Option.some.inj hy))
          have g : (x != y) = true := by simpa using hxy
          clear hx hy hxy
          go_wp2
          refine wp_region_below (wr.heap.size) _ (Below.refl _ _) (by kernel_rfl) (by kernel_rfl) ?_
          repeat (go_big_quiet_step ((fail)))
          refine wpQuiet_nil ?_
          rintro _ ⟨n1, rfl⟩
          go_wp2
          go_ret
          exact ⟨ret_bool e.out.symm, (by repeat (first | exact Below.refl _ _ | assumption | refine Below.n _ ?_ (by first | omega | (simp; done) | (simp; omega)) | refine Below.alloc ?_ (by first | omega | (simp; done) | (simp; omega)) _ | refine Below.setCell ?_ (by first | omega | (simp; done) | (simp; omega)) _ | refine Below.drew ?_ | refine Below.setRow ?_ (by first | omega | (simp; done) | (simp; omega)) _ | refine Below.drewN ?_ _))⟩
      · have e := Lib.hid (show (a == b) = true by
          rw [beq_iff_eq]
          apply List.ext_getElem?
          intro i
          by_cases h : i < j
          · exact hal.out i h
          · rw [List.getElem?_eq_none (by omega), List.getElem?_eq_none (by have := hl.out; omega)])
        obtain rfl : j = a.length := by omega
        go_wp2
        go_ret
        exact ⟨ret_bool e.out.symm, (by repeat (first | exact Below.refl _ _ | assumption | refine Below.n _ ?_ (by first | omega | (simp; done) | (simp; omega)) | refine Below.alloc ?_ (by first | omega | (simp; done) | (simp; omega)) _ | refine Below.setCell ?_ (by first | omega | (simp; done) | (simp; omega)) _ | refine Below.drew ?_ | refine Below.setRow ?_ (by first | omega | (simp; done) | (simp; omega)) _ | refine Below.drewN ?_ _))⟩
  · have e := Lib.hid (show (a == b) = false by
      rw [beq_eq_false_iff_ne]
      rintro rfl
      exact hl rfl)
    have g : ((a.length : Int) != (b.length : Int)) = true := by simp; omega
    clear hl
    go_enter Try.func37, Try.ntmps37
    go_wp2
    go_ret
    exact ⟨ret_bool e.out.symm, (by repeat (first | exact Below.refl _ _ | assumption | refine Below.n _ ?_ (by first | omega | (simp; done) | (simp; omega)) | refine Below.alloc ?_ (by first | omega | (simp; done) | (simp; omega)) _ | refine Below.setCell ?_ (by first | omega | (simp; done) | (simp; omega)) _ | refine Below.drew ?_ | refine Below.setRow ?_ (by first | omega | (simp; done) | (simp; omega)) _ | refine Below.drewN ?_ _))⟩

theorem info_int : (Try.prog.info? 3).map (fun i => (i.zero, i.size, i.bytes)) = some (some (.int .i64 0), 1, 8) := by kernel_rfl

theorem IntsV.of_own {w : World} {base e c : Nat} {v : Value} {l : List Int} (h : w.ownsRow base e 1 v l.length (l.map (Value.int .i64))) (hc : l.length ≤ 9223372036854775807) (hB : w.heap.size ≤ c) : IntsV w c v l := by
  rcases h.2 with ⟨rfl, h0⟩ | ⟨g, cap, cur, rfl, _, hh, hcap, _, _, ht⟩
  · exact ⟨none, 0, by rw [h0], hc, fun i x hx => by have := (List.getElem?_eq_some_iff.1 hx).1; omega⟩
  · refine ⟨_, cap, rfl, hc, fun i x hx => ⟨g, 0, rfl, ?_, ?_⟩⟩
    · have := (Array.getElem?_eq_some_iff.1 hh).1; omega
    · have hi : i < l.length := (List.getElem?_eq_some_iff.1 hx).1
      have := h.cells (g := g) rfl i (.int .i64 x) (by rw [List.getElem?_map, hx]; rfl)
      rw [Addr.add_lit] at this
      exact this

set_option maxHeartbeats 1000000 in
theorem Clone_nil (c : Nat) (w : World) : Calls Try.prog 42 #[.slice none 0 c] w fun e w' => e = .returned (.slice none 0 0) ∧ w = w' := by
  have hnil := fun w => Lib.run_eql_slice_nil (P := Try.prog) w 38 3 none 0 c 0 0 Try.underlying38
  go_enter Try.func42, Try.ntmps42
  go_wp2
  go_ret
  exact ⟨rfl, rfl⟩

set_option maxHeartbeats 2000000 in
theorem Clone_some (ad : Addr) (c : Nat) (l : List Int) (w : World) (hlen : l.length * 8 ≤ 140737488355328) (hc : ∀ (i : Nat) (x : Int), l[i]? = some x → ad.block < w.heap.size ∧ w.cell? (ad.add i) = some (.int .i64 x)) :
    Calls Try.prog 42 #[.slice (some ad) l.length c] w fun e w' => ∃ v, e = .returned v ∧ Below w.heap.size w w' ∧ w'.ownsRow w.heap.size 3 1 v l.length (l.map (Value.int .i64)) := by
  have hnil := fun w => Lib.run_eql_slice_nil (P := Try.prog) w 38 3 (some ad) l.length c 0 0 Try.underlying38
  obtain ⟨i0, hi, hz0, hz1, hz2⟩ := info_parts info_int
  have hn1 := Lib.hid (show ∀ (j : Nat) (u : Value), (l.map (Value.int .i64))[j]? = some u → (w.alloc (.cells #[] 3)).cell? (ad.add j) = some u from fun j u hu => by
    rw [List.getElem?_map] at hu
    obtain ⟨x, hx, rfl⟩ := Option.map_eq_some_iff.1 hu
    obtain ⟨h1, h2⟩ := hc j x hx
    have hb : (ad.add j).block = ad.block := by unfold Addr.add; split <;> rfl
    rw [cell_alloc_ite, if_pos (by rw [hb]; exact h1)]
    exact h2)
  have hn2 := Lib.hid (show ∀ u ∈ l.map (Value.int .i64), u.oneCell' = true from fun u hu => by
    obtain ⟨x, _, rfl⟩ := List.mem_map.1 hu
    rfl)
  clear hc
  go_enter Try.func42, Try.ntmps42
  go_wp2_with (at_builtin; refine wpList_append_own _ rfl (.tmp 5) (.tmp 6) _ rfl w.heap.size 3 i0 _ 1 8 Try.underlying38 hi hz0 hz1 hz2 rfl (by omega) (.slice (some ⟨w.heap.size, 0, none⟩) 0 0) 0 [] rfl (World.ownsRow_lit w #[] 0 (Nat.le_refl _) (by simp [maxLen]) (by simp)) ad l.length c (l.map (Value.int .i64)) rfl (by simp) hn1.out hn2.out (by simp only [maxLen]; omega) (by omega) (by simp) ?_; intro v1 w1 hown hg _)
  go_ret
  simp only [Nat.zero_add, List.nil_append] at hown
  exact ⟨v1, rfl, ((Below.refl _ _).alloc (Nat.le_refl _) _).grown hg (by simp) (by simp [Value.ownBlock]), hown⟩

/-- a copy of an owned row: a row of its own -/
theorem Clone_row (base : Nat) (v : Value) (l : List Int) (w : World) (hlen : l.length * 8 ≤ 140737488355328) (h : w.ownsRow base 3 1 v l.length (l.map (Value.int .i64))) :
    Calls Try.prog 42 #[v] w fun e w' => ∃ v', e = .returned v' ∧ Below w.heap.size w w' ∧ w'.ownsRow w.heap.size 3 1 v' l.length (l.map (Value.int .i64)) := by
  rcases h.2 with ⟨rfl, h0⟩ | ⟨g, cap, cur, rfl, _, hh, hcap, _, _, ht⟩
  · refine (Clone_nil 0 w).mono ?_
    rintro e w' ⟨rfl, rfl⟩
    have e0 : l = [] := List.eq_nil_of_length_eq_zero h0
    subst e0
    exact ⟨_, rfl, Below.refl _ _, World.ownsRow_nil _ _ _ _⟩
  · exact Clone_some ⟨g, 0, none⟩ cap l w hlen fun i x hx => ⟨(Array.getElem?_eq_some_iff.1 hh).1, h.cells (g := g) rfl i (.int .i64 x) (by rw [List.getElem?_map, hx]; rfl)⟩

/-- a copy of an owned row -/
theorem Clone_own (base : Nat) (v : Value) (l : List Int) (w : World) (hlen : l.length * 8 ≤ 140737488355328) (h : w.ownsRow base 3 1 v l.length (l.map (Value.int .i64))) :
    Calls Try.prog 42 #[v] w fun e w' => ∃ v', e = .returned v' ∧ Below w.heap.size w w' ∧ IntsV w' w'.heap.size v' l := by
  rcases h.2 with ⟨rfl, h0⟩ | ⟨g, cap, cur, rfl, _, hh, hcap, _, _, ht⟩
  · refine (Clone_nil 0 w).mono ?_
    rintro e w' ⟨rfl, rfl⟩
    exact ⟨_, rfl, Below.refl _ _, none, 0, by rw [h0], by omega, fun i x hx => by have := (List.getElem?_eq_some_iff.1 hx).1; omega⟩
  · refine (Clone_some ⟨g, 0, none⟩ cap l w hlen fun i x hx => ⟨(Array.getElem?_eq_some_iff.1 hh).1, h.cells (g := g) rfl i (.int .i64 x) (by rw [List.getElem?_map, hx]; rfl)⟩).mono ?_
    rintro e w' ⟨v', rfl, hb, ho⟩
    exact ⟨v', rfl, hb, IntsV.of_own ho (by omega) (Nat.le_refl _)⟩

set_option maxHeartbeats 1000000 in
theorem SameSlot_any (d1 m1 d2 m2 : Int) (u v : Value) (a b : List Int) (w : World) (ha : IntsV w w.heap.size u a) (hb : IntsV w w.heap.size v b) :
    Calls Try.prog 28 #[.agg #[.int .i64 d1, .int .i64 m1, u], .agg #[.int .i64 d2, .int .i64 m2, v]] w fun e w' => e = .returned (.bool (d1 == d2 && (m1 == m2 && a == b))) ∧ Below w.heap.size w w' := by
  have hc : Calls Try.prog 37 #[u, v] ((w.alloc (.cells #[.int .i64 d1, .int .i64 m1, u] 40)).alloc (.cells #[.int .i64 d2, .int .i64 m2, v] 40)) fun e w' => e = .returned (.bool (a == b)) ∧ Below w.heap.size w w' := by
    have hbw : Below w.heap.size w ((w.alloc (.cells #[.int .i64 d1, .int .i64 m1, u] 40)).alloc (.cells #[.int .i64 d2, .int .i64 m2, v] 40)) := (by repeat (first | exact Below.refl _ _ | assumption | refine Below.n _ ?_ (by first | omega | (simp; done) | (simp; omega)) | refine Below.alloc ?_ (by first | omega | (simp; done) | (simp; omega)) _ | refine Below.setCell ?_ (by first | omega | (simp; done) | (simp; omega)) _ | refine Below.drew ?_ | refine Below.setRow ?_ (by first | omega | (simp; done) | (simp; omega)) _ | refine Below.drewN ?_ _))
    refine (Ints_any u v a b _ (ha.below hbw (Nat.le_refl _) hbw.size) (hb.below hbw (Nat.le_refl _) hbw.size)).mono ?_
    rintro e w' ⟨rfl, hb'⟩
    exact ⟨rfl, hbw.trans (hb'.mono hbw.size)⟩
  obtain ⟨A, cap, rfl, _, _⟩ := ha
  obtain ⟨A2, cap2, rfl, _, _⟩ := hb
  replace hc := Lib.hid hc
  have hx : (d1 == d2) = true ∨ (d1 == d2) = false := by cases (d1 == d2) <;> simp
  have hy : (m1 == m2) = true ∨ (m1 == m2) = false := by cases (m1 == m2) <;> simp
  rcases hx with g1 | g1
  · rcases hy with g2 | g2
    · have e := Lib.hid (show (d1 == d2 && (m1 == m2 && a == b)) = (a == b) by rw [g1, g2]; simp)
      go_enter Try.func28, Try.ntmps28
      go_wp2_with fail
      refine hc.out.mono ?_
      rintro e w' ⟨rfl, hb'⟩
      go_wp2
      go_ret
      exact ⟨ret_bool e.out.symm, hb'⟩
    · have e := Lib.hid (show (d1 == d2 && (m1 == m2 && a == b)) = false by rw [g1, g2]; simp)
      go_enter Try.func28, Try.ntmps28
      go_wp2
      go_ret
      exact ⟨ret_bool (by simp), (by repeat (first | exact Below.refl _ _ | assumption | refine Below.n _ ?_ (by first | omega | (simp; done) | (simp; omega)) | refine Below.alloc ?_ (by first | omega | (simp; done) | (simp; omega)) _ | refine Below.setCell ?_ (by first | omega | (simp; done) | (simp; omega)) _ | refine Below.drew ?_ | refine Below.setRow ?_ (by first | omega | (simp; done) | (simp; omega)) _ | refine Below.drewN ?_ _))⟩
  · have e := Lib.hid (show (d1 == d2 && (m1 == m2 && a == b)) = false by rw [g1]; simp)
    go_enter Try.func28, Try.ntmps28
    go_wp2
    go_ret
    exact ⟨ret_bool (by simp), (by repeat (first | exact Below.refl _ _ | assumption | refine Below.n _ ?_ (by first | omega | (simp; done) | (simp; omega)) | refine Below.alloc ?_ (by first | omega | (simp; done) | (simp; omega)) _ | refine Below.setCell ?_ (by first | omega | (simp; done) | (simp; omega)) _ | refine Below.drew ?_ | refine Below.setRow ?_ (by first | omega | (simp; done) | (simp; omega)) _ | refine Below.drewN ?_ _))⟩

end Sl
end Go.Proofs.Ytbaomgdkoglebaa
