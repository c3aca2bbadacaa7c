/- An order in which each rule stands behind those that it speaks of: check.Order. -/
import Derived.Test.YtbncbkaonkcgeaaUsC
import Derived.Test.YtbncbkaonkcgeaaRowI
namespace Go.Proofs.Ytbncbkaonkcgeaa
open Go.RowKit
namespace Ru
open Sl (strV Reads IntsV)

/-- places so far: no one twice, each one's behind it -/
structure Ord (d : Nat → List Int) (n : Nat) (o : List Int) : Prop where
  nodup : o.Nodup
  inn : ∀ x ∈ o, ∃ k : Nat, x = k ∧ k < n
  deps : ∀ (p k : Nat), o[p]? = some (k : Int) → ∀ y ∈ d k, y ∈ o.take p
theorem Ord.nil (d : Nat → List Int) (n : Nat) : Ord d n [] := ⟨List.nodup_nil, fun x h => (by cases h), fun p k h => by simp at h⟩
theorem Ord.snoc {d : Nat → List Int} {n : Nat} {o : List Int} (h : Ord d n o) {i : Nat} (hi : i < n) (hn : o.contains (i : Int) = false) (hd : ((d i).any fun y => !o.contains y) = false) : Ord d n (o ++ [(i : Int)]) := by
  refine ⟨?_, fun x hx => ?_, fun p k hp y hy => ?_⟩
  · rw [List.nodup_append]
    refine ⟨h.nodup, by simp, fun a ha b hb e => ?_⟩
    simp at hb
    subst hb
    subst e
    have := List.contains_iff_mem.2 ha
    rw [hn] at this
    cases this
  · rcases List.mem_append.1 hx with hx | hx
    · exact h.inn x hx
    · simp at hx
      exact ⟨i, hx, hi⟩
  · by_cases hlt : p < o.length
    · rw [List.getElem?_append_left hlt] at hp
      have := h.deps p k hp y hy
      rw [List.take_append_of_le_length (by omega)]
      exact this
    · rw [List.getElem?_append_right (by omega)] at hp
      have hp0 : p - o.length = 0 := by
        have := (List.getElem?_eq_some_iff.1 hp).1
        simp at this
        omega
      rw [hp0] at hp
      simp at hp
      obtain rfl : i = k := by omega
      have hyo : o.contains y = true := by
        have h1 := List.any_eq_false.1 hd y hy
        simpa using h1
      rw [List.take_append_of_le_length (by omega), List.take_of_length_le (by omega)]
      exact List.contains_iff_mem.1 hyo
theorem Ord.len {d : Nat → List Int} {n : Nat} {o : List Int} (h : Ord d n o) : o.length ≤ n :=
  met_len (S := fun x => o.contains x) (left := fun _ => false) ⟨h.nodup, fun x => by simp⟩ (fun x hx => h.inn x (by simpa using hx))
/-- where some are missing, some one of them lacks none of its own -/
theorem Ord.next {d : Nat → List Int} {n : Nat} {o : List Int} (h : Ord d n o) (hin : ∀ i, i < n → ∀ y ∈ d i, 0 ≤ y ∧ y < n) (hno : ∀ i, i < n → ¬ Wal.Way (stepB d) n i i) (hd : ∀ i, n ≤ i → d i = []) (hl : o.length < n) :
    ∃ k : Nat, k < n ∧ o.contains (k : Int) = false ∧ ∀ y ∈ d k, o.contains y = true := by
  have hex : ∃ i, i < n ∧ o.contains ((i : Nat) : Int) = false := by
    rcases Classical.em (∃ i, i < n ∧ o.contains ((i : Nat) : Int) = false) with h1 | h1
    · exact h1
    · exfalso
      have hall : ∀ i, i < n → o.contains ((i : Nat) : Int) = true := fun i hi => by
        cases e : o.contains ((i : Nat) : Int) with
        | true => rfl
        | false => exact absurd ⟨i, hi, e⟩ h1
      have hp : o.Perm ((List.range n).map fun k => ((k : Nat) : Int)) := by
        refine (List.perm_ext_iff_of_nodup h.nodup ?_).2 fun x => ?_
        · exact List.pairwise_map.2 (List.nodup_range.imp fun {a b} hab e => hab (by omega))
        · rw [List.mem_map]
          constructor
          · intro hx
            obtain ⟨k, rfl, hk⟩ := h.inn x hx
            exact ⟨k, by simpa using hk, rfl⟩
          · rintro ⟨k, hk, rfl⟩
            exact List.contains_iff_mem.1 (hall k (by simpa using hk))
      have := hp.length_eq
      simp at this
      omega
  obtain ⟨i, hi, hi2⟩ := hex
  have hr : ∀ i k, stepB d i k = true → k < n := fun i k hs => by
    unfold stepB at hs
    rw [List.contains_iff_mem] at hs
    rcases Nat.lt_or_ge i n with hlt | hge
    · have := hin i hlt _ hs; omega
    · rw [hd i hge] at hs; cases hs
  obtain ⟨k, hk, hU, hdep⟩ := last_one hr hno (fun j => !o.contains ((j : Nat) : Int)) hi (by simp only [hi2, Bool.not_false])
  refine ⟨k, hk, by simpa using hU, fun y hy => ?_⟩
  have h0 := hin k hk y hy
  obtain ⟨q, rfl⟩ := Int.eq_ofNat_of_zero_le h0.1
  have := hdep q (by unfold stepB; simpa using hy)
  simpa using this
theorem noring_of {l : List Rule} (h : (wrongR l).1 = 0) : ∀ i, i < l.length → ¬ Wal.Way (stepB (directR l)) l.length i i := by
  intro i hi hw
  have h3 : (firstErr (fun i _ => ringErr l i) 0 l).1 = 0 := by
    have h2 := h
    unfold wrongR at h2
    rw [if_pos (wrong_form h)] at h2
    split at h2
    · rw [if_pos (wrong_none h)] at h2
      exact h2
    · rename_i h4; exact absurd h2 h4
  have h1 := firstErr_zero _ l 0 h3 i _ (List.getElem?_eq_getElem hi)
  rw [Nat.zero_add] at h1
  have h2 : ringErr l i = 0 := h1
  unfold ringErr at h2
  rw [if_pos ((Wal.wal_way _ _ _ _).2 hw)] at h2
  cases h2
theorem directR_none {l : List Rule} {i : Nat} (h : l.length ≤ i) : directR l i = [] := by
  unfold directR
  rw [List.getElem?_eq_none h]
  rfl

/-- where the first one is that is missing -/
def missI (o l : List Int) : Int := if l.findIdx (fun y => !o.contains y) < l.length then (l.findIdx (fun y => !o.contains y) : Nat) else -1
theorem missI_any (o l : List Int) : decide (0 ≤ missI o l) = l.any fun y => !o.contains y := by
  rw [Bool.eq_iff_iff, decide_eq_true_eq, List.any_eq_true]
  unfold missI
  constructor
  · intro h
    split at h
    · rename_i hi
      exact ⟨_, List.getElem_mem hi, List.findIdx_getElem (xs := l) (p := fun y => !o.contains y) (w := hi)⟩
    · omega
  · rintro ⟨x, h1, h2⟩
    rw [if_pos (List.findIdx_lt_length_of_exists ⟨x, h1, h2⟩)]
    omega

set_option maxHeartbeats 1000000 in
theorem Order1_any (o : List Int) (ov : Value) (y : Int) (p : Nat) (w : World) (hp : w.cell? ⟨p, 0, none⟩ = some ov) (ho : IntsV w w.heap.size ov o) :
    Calls Try.prog 72 #[.int .i64 y, .pointer (some ⟨p, 0, none⟩)] w fun e w' => e = .returned (.bool (!o.contains y)) ∧ w = w' := by
  have hi := Lib.hid (Contains_ints ov o y w ho)
  obtain ⟨A, cap, rfl, _⟩ := ho
  go_enter Try.func72, Try.ntmps72
  go_wp2_with (go_at_call 60; refine hi.out.mono ?_; rintro e w2 ⟨rfl, rfl⟩)
  go_ret
  exact ⟨ret_bool (a := !decide (y ∈ o)) (by simp), rfl⟩

set_option maxRecDepth 100000 in
set_option maxHeartbeats 2000000 in
theorem IndexFunc_any (v : Value) (l o : List Int) (ov : Value) (p : Nat) (w : World) (hr : IntsV w w.heap.size v l) (hp : w.cell? ⟨p, 0, none⟩ = some ov) (ho : IntsV w w.heap.size ov o) :
    Calls Try.prog 109 #[v, .func (.func 72) #[] #[.pointer (some ⟨p, 0, none⟩)]] w fun e w' => e = .returned (.int .i64 (missI o l)) ∧ w = w' := by
  have ht := Lib.hid (fun y => Order1_any o ov y p w hp ho)
  clear hp ho
  obtain ⟨A, cap, rfl, hlen, hc⟩ := hr
  replace hc := Lib.hid hc
  go_enter Try.func109, Try.ntmps109
  go_wp2
  go_loopg [8] l.length (fun n i wr => ∃ j : Nat, j ≤ l.length ∧ n = l.length - j ∧ i = .int .i64 j ∧ wr = w ∧ j ≤ l.findIdx (fun y => !o.contains y))
  case atStart => exact ⟨0, by omega, rfl, rfl, rfl, Nat.zero_le _⟩
  case round =>
    obtain ⟨j, hj, hn, rfl, rfl, hpj⟩ := hrel
    replace hn := Lib.hid hn
    by_cases hlt : j < l.length
    · obtain ⟨y, hx⟩ : ∃ x, l[j]? = some x := ⟨_, List.getElem?_eq_getElem hlt⟩
      obtain ⟨b, q, rfl, hbl, k0⟩ := hc.out j y hx
      have hy : l[j] = y := by rw [List.getElem?_eq_getElem hlt] at hx; exact Option.some.inj hx
      have hty := Lib.hid (ht.out y)
      cases ht2 : o.contains y with
      | false =>
        have hp1 : l.findIdx (fun y => !o.contains y) = j := by
          rcases Nat.lt_or_ge j (l.findIdx (fun y => !o.contains y)) with h | h
          · have := List.not_of_lt_findIdx (xs := l) (p := fun y => !o.contains y) h
            simp [hy] at this
            rw [← List.contains_iff_mem, ht2] at this
            cases this
          · omega
        rw [ht2] at hty
        have hres := Lib.hid (show missI o l = (j : Int) by unfold missI; rw [hp1, if_pos hlt])
        clear ht2 hp1 hx hy
        go_wp2_with (go_at_call 72; refine hty.out.mono ?_; rintro e w2 ⟨rfl, rfl⟩)
        go_ret
        exact ⟨by rw [hres.out]; rfl, rfl⟩
      | true =>
        have hp1 : j + 1 ≤ l.findIdx (fun y => !o.contains y) := by
          rcases Nat.lt_or_ge j (l.findIdx (fun y => !o.contains y)) with h | h
          · exact h
          · have e : l.findIdx (fun y => !o.contains y) = j := by omega
            have := List.findIdx_getElem (xs := l) (p := fun y => !o.contains y) (w := by omega)
            simp only [e, hy, ht2] at this
            cases this
        rw [ht2] at hty
        clear ht2 hx hy
        go_wp2_with (go_at_call 72; refine hty.out.mono ?_; rintro e w2 ⟨rfl, rfl⟩)
        go_roundg (l.length - (j + 1))
        case measure => rw [hn.out]; omega
        case rel => exact ⟨j + 1, by omega, rfl, by go_num, rfl, hp1⟩
    · have hres := Lib.hid (show missI o l = -1 by unfold missI; rw [if_neg (by omega)])
      obtain rfl : j = l.length := by omega
      go_wp2
      go_ret
      exact ⟨by rw [hres.out]; rfl, rfl⟩

set_option maxHeartbeats 1000000 in
theorem ContainsFunc_any (v : Value) (l o : List Int) (ov : Value) (p : Nat) (w : World) (hr : IntsV w w.heap.size v l) (hp : w.cell? ⟨p, 0, none⟩ = some ov) (ho : IntsV w w.heap.size ov o) :
    Calls Try.prog 71 #[v, .func (.func 72) #[] #[.pointer (some ⟨p, 0, none⟩)]] w fun e w' => e = .returned (.bool (l.any fun y => !o.contains y)) ∧ w = w' := by
  have hi := Lib.hid (IndexFunc_any v l o ov p w hr hp ho)
  rw [← missI_any]
  clear hp ho
  obtain ⟨A, cap, rfl, _⟩ := hr
  go_enter Try.func71, Try.ntmps71
  go_wp2_with (go_at_call 109; refine hi.out.mono ?_; rintro e w2 ⟨rfl, rfl⟩)
  go_ret
  exact ⟨rfl, rfl⟩

/-- one pass over all: what has become of those before i whose own were there at its start -/
def Pass (d : Nat → List Int) (o0 o : List Int) (i : Nat) : Prop := (∃ t, o = o0 ++ t) ∧ ∀ k, k < i → (∀ y ∈ d k, o0.contains y = true) → o.contains ((k : Nat) : Int) = true
theorem Pass.start (d : Nat → List Int) (o : List Int) : Pass d o o 0 := ⟨⟨[], by simp⟩, fun k hk => by omega⟩
theorem Pass.has {d : Nat → List Int} {o0 o : List Int} {i : Nat} (h : Pass d o0 o i) (hc : o.contains (i : Int) = true) : Pass d o0 o (i + 1) := ⟨h.1, fun k hk hy => by
  by_cases e : k = i
  · rw [e]; exact hc
  · exact h.2 k (by omega) hy⟩
theorem Pass.wait {d : Nat → List Int} {o0 o : List Int} {i : Nat} (h : Pass d o0 o i) (hc : ((d i).any fun y => !o.contains y) = true) : Pass d o0 o (i + 1) := ⟨h.1, fun k hk hy => by
  by_cases e : k = i
  · subst e
    exfalso
    obtain ⟨t, rfl⟩ := h.1
    obtain ⟨y, h1, h2⟩ := List.any_eq_true.1 hc
    have h3 := hy y h1
    rw [List.contains_iff_mem] at h3
    have h4 : (o0 ++ t).contains y = true := List.contains_iff_mem.2 (List.mem_append_left _ h3)
    rw [h4] at h2
    cases h2
  · exact h.2 k (by omega) hy⟩
theorem Pass.put {d : Nat → List Int} {o0 o : List Int} {i : Nat} (h : Pass d o0 o i) : Pass d o0 (o ++ [(i : Int)]) (i + 1) := by
  obtain ⟨⟨t, ht⟩, h2⟩ := h
  refine ⟨⟨t ++ [(i : Int)], by rw [ht, List.append_assoc]⟩, fun k hk hy => ?_⟩
  by_cases e : k = i
  · subst e
    simp
  · have := h2 k (by omega) hy
    rw [List.contains_iff_mem] at this ⊢
    exact List.mem_append_left _ this
theorem Pass.done {d : Nat → List Int} {o0 o : List Int} {n : Nat} (h : Pass d o0 o n) {k : Nat} (hk : k < n) (h1 : o0.contains (k : Int) = false) (h2 : ∀ y ∈ d k, o0.contains y = true) : o0.length < o.length := by
  obtain ⟨⟨t, rfl⟩, h3⟩ := h
  have h4 := h3 k hk h2
  cases t with
  | nil => rw [List.append_nil, h1] at h4; cases h4
  | cons x t => simp

set_option maxRecDepth 100000 in
set_option maxHeartbeats 8000000 in
theorem Order_any (v : Value) (l : List Rule) (w : World) (hr : RulesV w w.heap.size v l) (hok : (wrongR l).1 = 0) : Calls Try.prog 35 #[v] w fun e w' => ∃ (ov : Value) (o : List Int), e = .returned ov ∧ w'.ownsRow w.heap.size 3 1 ov o.length (o.map (Value.int .i64)) ∧ Ord (directR l) l.length o ∧ o.length = l.length ∧ Below w.heap.size w w' := by
  obtain ⟨h40, hrx⟩ := form_right (wrong_form hok)
  have hno := Lib.hid (noring_of hok)
  have hin := Lib.hid (noneErr_all (wrong_none hok))
  have hD := Lib.hid (direct_any _ l w hr h40 (fun r hr => (hrx r hr).2))
  obtain ⟨A, cap, rfl, hlen, hc⟩ := hr
  have hlr : ((List.range l.length).map (directR l)).length = l.length := by simp
  clear hc hok hrx
  go_enter Try.func35, Try.ntmps35
  go_wp2_with (go_at_call 59; refine hD.out.mono ?_; rintro e w1 ⟨dv, rfl, hO, hb1⟩; have hI := Lib.hid hO.reads; obtain ⟨vs1, hv1, hv2⟩ := hO; obtain ⟨A1, cap1, rfl⟩ := own_slice hv1; rw [hlr] at hI; clear hv1 hv2)
  have z1 := hb1.size
  clear hlr hD
  have hbA : Below w.heap.size w (w1.alloc (.cells #[.slice none 0 0] 37)) := hb1.alloc z1 _
  have hBA := Blk.new w1 37 #[.slice none 0 0]
  have hdw : ∀ wr : World, Below w1.heap.size w1 wr → True := fun _ _ => trivial
  go_loopg [5] l.length (fun n _ wr => ∃ (o : List Int) (ov : Value), n = l.length - o.length ∧ Hid (Ord (directR l) l.length o) ∧ Hid (wr.ownsRow (w1.heap.size + 1) 3 1 ov o.length (o.map (Value.int .i64))) ∧ Blk wr w1.heap.size 37 #[ov] ∧ Below w1.heap.size w1 wr ∧ w1.heap.size + 1 ≤ wr.heap.size)
  case atStart => exact ⟨[], .slice none 0 0, rfl, Lib.hid (Ord.nil _ _), Lib.hid (World.ownsRow_nil _ _ _ _), hBA, (Below.refl _ _).alloc (Nat.le_refl _) _, by simp⟩
  case round =>
    clear hbA hBA hdw
    obtain ⟨o, ov, hn, hO, hown, hB, hbw, hzw⟩ := hrel
    replace hn := Lib.hid hn
    obtain ⟨wo, rfl⟩ : ∃ wo : World, wo = wr := ⟨_, rfl⟩
    have hol := hO.out.len
    obtain ⟨A8, cap8, rfl⟩ := own_slice hown.out
    have c0 : wo.cell? ⟨w1.heap.size, 0, none⟩ = some (.slice A8 o.length cap8) := hB.cell 0
    by_cases hlt : o.length < l.length
    · have hnx := Lib.hid (hO.out.next hin.out hno.out (fun i hi => directR_none hi) hlt)
      go_wp2
      go_loopg [15] l.length (fun n k wr => ∃ (i : Nat) (o2 : List Int) (ov2 : Value), i ≤ l.length ∧ n = l.length - i ∧ k = .int .i64 i ∧ Hid (Ord (directR l) l.length o2) ∧ Hid (Pass (directR l) o o2 i) ∧ Hid (wr.ownsRow (w1.heap.size + 1) 3 1 ov2 o2.length (o2.map (Value.int .i64))) ∧ Blk wr w1.heap.size 37 #[ov2] ∧ Below w1.heap.size w1 wr ∧ w1.heap.size + 1 ≤ wr.heap.size)
      case atStart => exact ⟨0, o, _, by omega, rfl, rfl, hO, Lib.hid (Pass.start _ _), hown, hB, hbw, hzw⟩
      case round =>
        clear hO hown hB hbw hzw c0 hol
        obtain ⟨i, o2, ov2, hi, hm, rfl, hO, hP, hown, hB, hbw, hzw⟩ := hrel
        replace hm := Lib.hid hm
        obtain ⟨A8, cap8, rfl⟩ := own_slice hown.out
        have hol := hO.out.len
        have c0 : wr.cell? ⟨w1.heap.size, 0, none⟩ = some (.slice A8 o2.length cap8) := hB.cell 0
        have f0 : wr.frozen? ⟨w1.heap.size, 0, none⟩ = false := hB.frozen 0
        by_cases hli : i < l.length
        · obtain ⟨A9, cap9, he9, _, hrd⟩ := hI.out
          obtain ⟨b, q, hee, hbl, u, k0, hu⟩ := hrd i (directR l i) (by simp [hli])
          have hA1 : A1 = some ⟨b, q, none⟩ := by rw [← hee]; injection he9
          subst hA1
          clear he9 hee hrd
          obtain ⟨A3, cap3, rfl⟩ := own_slice hu
          have k1 : wr.cell? ⟨b, q + i, none⟩ = some (.slice A3 (directR l i).length cap3) := (hbw.cell (p := ⟨b, _, none⟩) hbl).trans k0
          have hcon := Lib.hid (Contains_ints _ o2 i wr (own_reads hown.out (Nat.le_refl _)))
          have hcf := Lib.hid (ContainsFunc_any _ (directR l i) o2 _ w1.heap.size wr (own_reads (own_keep hu hbw (Nat.le_refl _)) (Nat.le_refl _)) c0 (own_reads hown.out (Nat.le_refl _)))
          clear hu k0
          cases hc1 : o2.contains (i : Int) with
          | true =>
            have hP2 := Lib.hid (hP.out.has hc1)
            rw [hc1] at hcon
            clear hc1
            go_wp2_with (go_at_call 60; refine hcon.out.mono ?_; rintro e w5 ⟨rfl, rfl⟩)
            go_roundg (l.length - (i + 1))
            case measure => rw [hm.out]; omega
            case rel => exact ⟨i + 1, o2, _, by omega, rfl, by go_num, hO, hP2, hown, hB, hbw, hzw⟩
          | false =>
            cases hc2 : (directR l i).any (fun y => !o2.contains y) with
            | true =>
              have hP2 := Lib.hid (hP.out.wait hc2)
              rw [hc1] at hcon
              rw [hc2] at hcf
              clear hc1 hc2
              go_wp2_with (first | (go_at_call 60; refine hcon.out.mono ?_; rintro e w5 ⟨rfl, rfl⟩) | (go_at_call 71; refine hcf.out.mono ?_; rintro e w6 ⟨rfl, rfl⟩))
              go_roundg (l.length - (i + 1))
              case measure => rw [hm.out]; omega
              case rel => exact ⟨i + 1, o2, _, by omega, rfl, by go_num, hO, hP2, hown, hB, hbw, hzw⟩
            | false =>
              have hP2 := Lib.hid hP.out.put
              have hO2 := Lib.hid (hO.out.snoc hli hc1 hc2)
              rw [hc1] at hcon
              rw [hc2] at hcf
              clear hc1 hc2
              go_wp2_with (first
                | (go_at_call 60; refine hcon.out.mono ?_; rintro e w5 ⟨rfl, rfl⟩)
                | (go_at_call 71; refine hcf.out.mono ?_; rintro e w6 ⟨rfl, rfl⟩)
                | (at_builtin; refine wpList_append_one elInts rfl (.tmp 31) (.tmp 33) rfl (w1.heap.size + 1) _ o2.length (o2.map (Value.int .i64)) hown.out _ _ rfl rfl rfl (by simp only [maxLen]; omega) (by omega) hzw ?_; intro v3 w3 ho3 hb3 hg3; obtain ⟨A6, cap6, rfl⟩ := own_slice ho3; replace ho3 := Lib.hid ho3; have hB3 := hB.below hb3 (by omega); have c3 : w3.cell? ⟨w1.heap.size, 0, none⟩ = some (.slice A8 o2.length cap8) := hB3.cell 0; have f3 : w3.frozen? ⟨w1.heap.size, 0, none⟩ = false := hB3.frozen 0; have z3 := hb3.size))
              go_roundg (l.length - (i + 1))
              case measure => rw [hm.out]; omega
              case rel => exact ⟨i + 1, o2 ++ [(i : Int)], .slice A6 (o2.length + 1) cap6, by omega, rfl, by go_num, hO2, hP2, Lib.hid (by simpa using own_far ho3.out (p := ⟨w1.heap.size, 0, none⟩) (by simp) _), hB3.set 0 _, (hbw.trans (hb3.mono (by omega))).setCell (by simp) _, by simp; omega⟩
        · obtain rfl : i = l.length := by omega
          obtain ⟨k, hk, hk1, hk2⟩ := hnx.out
          have hlt2 := hP.out.done hk hk1 hk2
          clear hk hk1 hk2
          go_wp2
          go_roundg (l.length - o2.length)
          case measure => rw [hn.out]; omega
          case rel => exact ⟨o2, _, rfl, hO, hown, hB, hbw, hzw⟩
    · go_wp2
      go_ret
      refine ⟨_, o, rfl, own_mono hown.out (by omega), hO.out, by omega, hb1.trans (hbw.mono z1)⟩

end Ru
end Go.Proofs.Ytbncbkaonkcgeaa
