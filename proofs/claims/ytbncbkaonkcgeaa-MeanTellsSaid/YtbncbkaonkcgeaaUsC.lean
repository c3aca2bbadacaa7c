/- What a rule refers to: check.Uses. -/
import Derived.Test.YtbncbkaonkcgeaaUsR
import Derived.Test.YtbncbkaonkcgeaaSrt
import Derived.Maps.RangeWalk


namespace Go.Proofs.Ytbncbkaonkcgeaa
open Go.RowKit Go.Maps Go.ChangeShapes
namespace Ru
open Sl (strV Reads IntsV)

/-- what has been met so far of a set that is ranged over -/
def Met (S : Int → Bool) (left : Lit → Bool) (ks : List Int) : Prop := ks.Nodup ∧ ∀ x, x ∈ ks ↔ (S x = true ∧ left (.int .i64 x) = false)
theorem Met.start {S : Int → Bool} {left : Lit → Bool} (h : ∀ x, S x = true → left (.int .i64 x) = true) : Met S left [] := ⟨List.nodup_nil, fun x => by
  constructor
  · intro hx; cases hx
  · rintro ⟨h1, h2⟩; rw [h x h1] at h2; cases h2⟩
theorem Met.step {S : Int → Bool} {left : Lit → Bool} {ks : List Int} (h : Met S left ks) {x : Int} (hx : left (.int .i64 x) = true) (hS : S x = true) : Met S (fun z => left z && !z.sameKey (.int .i64 x)) (ks ++ [x]) := by
  have hs : ∀ y, (Lit.int .i64 y).sameKey (.int .i64 x) = decide (y = x) := fun y => by
    by_cases e : y = x
    · subst e
      rw [WideAt.sameKey_self (show WideAt.IsKeyLit (.int .i64 y) from trivial)]
      simp
    · cases e2 : (Lit.int .i64 y).sameKey (.int .i64 x) with
      | false => simp [e]
      | true =>
        have := WideAt.sameKey_eq e2
        injection this with _ h3
        exact absurd h3 e
  refine ⟨?_, fun y => ?_⟩
  · rw [List.nodup_append]
    refine ⟨h.1, by simp, fun a ha b hb e => ?_⟩
    simp at hb
    subst hb
    subst e
    have := ((h.2 a).1 ha).2
    rw [hx] at this
    cases this
  · show y ∈ ks ++ [x] ↔ S y = true ∧ (left (.int .i64 y) && !(Lit.int .i64 y).sameKey (.int .i64 x)) = false
    rw [List.mem_append, List.mem_singleton, h.2 y, hs y]
    by_cases e : y = x
    · subst e
      simp [hS]
    · simp [e]
theorem Met.done {S : Int → Bool} {left : Lit → Bool} {ks : List Int} (h : Met S left ks) (hl : ∀ kl, left kl = false) {n : Nat} (hS : ∀ x, S x = true → ∃ k : Nat, x = k ∧ k < n) : ks.Perm (((List.range n).filter fun k => S (k : Nat)).map fun k => ((k : Nat) : Int)) := by
  refine (List.perm_ext_iff_of_nodup h.1 ?_).2 fun x => ?_
  · refine List.pairwise_map.2 ((List.nodup_range.filter _).imp fun {a b} hab e => hab (by omega))
  · rw [h.2 x, List.mem_map]
    constructor
    · rintro ⟨h1, _⟩
      obtain ⟨k, rfl, hk⟩ := hS x h1
      exact ⟨k, by simp [hk, h1], rfl⟩
    · rintro ⟨k, hk, rfl⟩
      simp at hk
      exact ⟨hk.2, hl _⟩
theorem met_len {S : Int → Bool} {left : Lit → Bool} {ks : List Int} (h : Met S left ks) {n : Nat} (hS : ∀ x, S x = true → ∃ k : Nat, x = k ∧ k < n) : ks.length ≤ n := by
  have hp : ks.Perm (((List.range n).filter fun k => ks.contains ((k : Nat) : Int)).map fun k => ((k : Nat) : Int)) := by
    refine (List.perm_ext_iff_of_nodup h.1 ?_).2 fun x => ?_
    · refine List.pairwise_map.2 ((List.nodup_range.filter _).imp fun {a b} hab e => hab (by omega))
    · rw [List.mem_map]
      constructor
      · intro hx
        obtain ⟨k, rfl, hk⟩ := hS x ((h.2 x).1 hx).1
        exact ⟨k, by simp [hk, hx], rfl⟩
      · rintro ⟨k, hk, rfl⟩
        simp at hk
        exact hk.2
  rw [hp.length_eq, List.length_map]
  have := List.length_filter_le (fun k => ks.contains ((k : Nat) : Int)) (List.range n)
  rwa [List.length_range] at this
/-- what rises is what sorting makes of it -/
theorem sorted_same {ks r : List Int} (h : ks.Perm r) (hr : r.Pairwise (fun a b => a ≤ b)) : (ks.mergeSort fun x y => decide (x ≤ y)) = r := by
  have tr : ∀ a b c : Int, decide (a ≤ b) = true → decide (b ≤ c) = true → decide (a ≤ c) = true := fun a b c h1 h2 => by simp only [decide_eq_true_eq] at *; omega
  have tt : ∀ a b : Int, (decide (a ≤ b) || decide (b ≤ a)) = true := fun a b => by simp only [Bool.or_eq_true, decide_eq_true_eq]; omega
  refine List.Perm.eq_of_pairwise (le := fun a b => decide (a ≤ b) = true) (fun a b _ _ h1 h2 => ?_) (List.pairwise_mergeSort tr tt ks) (hr.imp fun h => by simpa using h) ((List.mergeSort_perm ks _).trans h)
  simp only [decide_eq_true_eq] at h1 h2
  omega
theorem reachL_up (l : List Rule) (j n : Nat) : (reachL l j n).Pairwise (fun a b => a ≤ b) := by
  unfold reachL
  refine List.pairwise_map.2 ((List.pairwise_lt_range.filter _).imp fun {a b} h => by omega)
theorem reachL_set {l : List Rule} {j : Nat} {S : Int → Bool} (h : Clo (directR l) l.length j S []) : reachL l j l.length = ((List.range l.length).filter fun k => S (k : Nat)).map fun k => ((k : Nat) : Int) := by
  unfold reachL
  congr 1
  refine List.filter_congr fun k _ => ?_
  exact table_set h
theorem wrong_none {l : List Rule} (h : (wrongR l).1 = 0) : (firstErr (fun i _ => noneErr l i) 0 l).1 = 0 := by
  unfold wrongR at h
  rw [if_pos (wrong_form (by unfold wrongR; exact h))] at h
  split at h
  · split at h
    · assumption
    · rename_i h2; exact absurd h h2
  · rename_i h2; exact absurd h h2
theorem ranges_below {H : Type} {P : Program} {k : TypeId} {R : Value → Option (DataW H × List MemPlace)} {w w' : World} {b r n : Nat} {D : DataW H} {left : Lit → Bool} {cnt B : Nat} (h : w.ranges P k R b r n D left cnt) (hb : Below B w w') (h1 : b < B) (h2 : r < B) : w'.ranges P k R b r n D left cnt := by
  obtain ⟨es, clock, since, seen, c0, hb', F, hs, hD, hr, rest⟩ := h
  exact ⟨es, clock, since, seen, c0, (hb.block b h1).trans hb', F, hs, hD, (hb.block r h2).trans hr, rest⟩

set_option maxRecDepth 100000 in
set_option maxHeartbeats 8000000 in
theorem CUses_right (v : Value) (l : List Rule) (rule : Int) (w : World) (hr : RulesV w w.heap.size v l) (h1 : ¬ rule < 0) (h2 : ¬ (l.length : Int) ≤ rule) (h3 : (wrongR l).1 = 0) : Calls Try.prog 21 #[v, .int .i64 rule] w (UsesPost l rule w) := by
  have hrr := Lib.hid hr
  obtain ⟨A, cap, rfl, hlen, hc⟩ := hr
  clear hc
  have g1 : decide (rule < 0) = false := by simpa using h1
  have g2 : decide ((l.length : Int) ≤ rule) = false := by simpa using h2
  have hW := Lib.hid (CWrong_any _ l w hrr.out)
  have hu : usesR l rule = reachL l rule.toNat l.length := by
    unfold usesR
    rw [if_neg (by rintro (h | h | h) <;> first | omega | exact h h3)]
  obtain ⟨j, rfl⟩ := Int.eq_ofNat_of_zero_le (show 0 ≤ rule by omega)
  have hj : j < l.length := by omega
  obtain ⟨h40, hrx⟩ := form_right (wrong_form h3)
  have hno := Lib.hid (wrong_none h3)
  rw [Int.toNat_natCast] at hu
  replace hu := Lib.hid hu
  generalize wrongR l = q at *
  obtain ⟨q1, q2⟩ := q
  simp only at h3
  subst h3
  unfold faultV at hW
  simp only at hW
  replace hrx := Lib.hid hrx
  clear h1 h2
  have hlr : ((List.range l.length).map (directR l)).length = l.length := by simp
  go_enter Try.func21, Try.ntmps21
  go_wp2_with (first
    | (go_at_call 20; refine hW.out.mono ?_; rintro e w1 ⟨rfl, hb1⟩; have hD := Lib.hid (direct_any _ l w1 (hrr.out.below hb1 (Nat.le_refl _) hb1.size) h40 (fun r hr => (hrx.out r hr).2)); have hz1 := hb1.size)
    | (go_at_call 59; refine hD.out.mono ?_; rintro e w2 ⟨ov, rfl, hO, hb2⟩; have hI := hO.reads; obtain ⟨vs1, hv1, hv2⟩ := hO; clear hv2; obtain ⟨A1, cap1, rfl⟩ := own_slice hv1; rw [hlr] at hI; have hR := Lib.hid (closed_any (.slice A1 l.length cap1) (directR l) l.length w2 (hI.low (Nat.zero_le _)) h40 (fun i hi => directR_len (fun r hr => (hrx.out r hr).2) hi) (noneErr_all hno.out)); have hz2 := hb2.size; clear hI hv1)
    | (go_at_call 61; refine hR.out.mono ?_; rintro e w5 ⟨g, G, K, S, rfl, hg, hT, hCl, hb5⟩; have hz5 := hb5.size; have hr0 := (hT.row hj).1; obtain ⟨cc, D, hown, hsize, hkeys⟩ := hT.look hj; replace hkeys := Lib.hid hkeys; replace hCl := Lib.hid (hCl j hj); generalize S j = Sj at *; generalize G j = mb at *; generalize K j = kj at *; clear hT)
    | (at_range; refine wpList_range_own _ rfl _ 39 rfl 3 4 (int_keyed Try.underlying3) Try.underlying39 Mp.selfR mb kj D rfl hown ?_; intro w0 hrg0 hg0 hs0))
  go_frame
  have hz0 : w5.heap.size + 1 ≤ w0.heap.size := by omega
  have hb0 : Below w.heap.size w w0 := by
    have hb3 : Below w.heap.size w w5 := (hb1.trans (hb2.mono hz1)).trans (hb5.mono (by omega))
    exact hb3.trans ⟨hg0.os, hg0.tape, hg0.output, hg0.size, fun k hk => hg0.block k (by omega) (by simp)⟩
  have hS := Lib.hid hCl.out.inS
  have hS2 := Lib.hid (fun x (hx : Sj x = true) => show ∃ k : Nat, x = k ∧ k < l.length by obtain ⟨k, h1, h2, _⟩ := hS.out x hx; exact ⟨k, h1, h2⟩)
  have hres := Lib.hid (reachL_set hCl.out)
  replace hrg0 := Lib.hid hrg0
  have hmet0 := Lib.hid (Met.start (S := Sj) (left := Maps.has D) (fun x hx => by
    rw [(hkeys.out (.int .i64 x) trivial).2]
    show (if Sj x = true then some (Value.bool true) else none).isSome = true
    rw [if_pos hx]; rfl))
  have zz : w.heap.size ≤ w5.heap.size := by omega
  have hmb := hown.lt
  clear hS hg0 hs0 hr0 hown hsize hb1 hb2 hb5 hW hD hR hrx hno
  go_loopg [5] (Maps.size D) (fun m ov wr => ∃ (left : Lit → Bool) (cnt : Nat) (ks : List Int), m = cnt ∧ Hid (wr.ranges Try.prog 3 Mp.selfR mb w5.heap.size kj D left cnt) ∧ Hid (Met Sj left ks) ∧ Hid (wr.ownsRow w0.heap.size 3 1 ov ks.length (ks.map (Value.int .i64))) ∧ Below w.heap.size w wr ∧ w0.heap.size ≤ wr.heap.size)
  case atStart => exact ⟨_, _, [], rfl, hrg0, hmet0, Lib.hid (World.ownsRow_nil _ _ _ _), hb0, Nat.le_refl _⟩
  case round =>
    obtain ⟨left, cnt, ks, hm, hrg, hmet, hO, hbw, hzw⟩ := hrel
    clear hb0 hmet0 hrg0
    replace hm := Lib.hid hm
    obtain ⟨A8, cap8, rfl⟩ := own_slice hO.out
    go_wp2_with (first
      | (at_next; refine wpList_next_ranges _ rfl _ rfl 3 (int_keyed Try.underlying3) Mp.selfR (Value.int .i64) (fun v : Value => v) (fun key kl hk => by obtain ⟨x, rfl, _⟩ := Maps.keyOf_int_inv Try.underlying3 hk; exact ⟨x, rfl⟩) (fun v y _ => ⟨v, rfl⟩) mb w5.heap.size kj D left cnt rfl hrg.out ?_ ?_)
      | go_in)
    · intro _ hl0
      have hperm := hmet.out.done hl0 hS2.out
      rw [← hres.out] at hperm
      have hsort := Lib.hid (sorted_same hperm (reachL_up l j l.length))
      have hlk := Lib.hid hperm.length_eq
      clear hperm
      clear hl0 hlr
      have hml := met_len hmet.out hS2.out
      have hSo := Lib.hid (Sort_own _ ks w0.heap.size wr hO.out hzw (by omega))
      clear hml
      go_wp2_with (go_at_call 62; refine hSo.out.mono ?_; rintro e w6 ⟨rfl, ho6, hb6⟩)
      go_ret
      refine ⟨_, rfl, ?_, hbw.trans (hb6.mono (by omega))⟩
      rw [hu.out, ← hlk.out, ← hsort.out]
      exact own_mono ho6 (by omega)
    · intro x c kl yd yp w1 cnt1 hkey hlx hR hat hrg1 hlt hg1 hs1 hen
      obtain ⟨x', ex, rfl, hwx⟩ := Maps.keyOf_int_inv Try.underlying3 hkey
      cases ex
      have hSx : Sj x = true := by
        have h1 := Maps.has_true_of_atKey hat
        rw [(hkeys.out (.int .i64 x) trivial).2] at h1
        have h2 : (if Sj x = true then some (Value.bool true) else none).isSome = true := h1
        cases e : Sj x with
        | true => rfl
        | false => rw [e] at h2; cases h2
      have hmet1 := hmet.out.step hlx hSx
      have hml := met_len hmet1 hS2.out
      rw [List.length_append] at hml
      simp at hml
      replace hmet1 := Lib.hid hmet1
      have hz8 := hg1.size
      have hbw1 : Below w.heap.size w w1 := hbw.trans ⟨hg1.os, hg1.tape, hg1.output, hg1.size, fun k hk => hg1.block k (by omega) (fun e => by cases e; omega)⟩
      have hO1 := Lib.hid (hO.out.kept hg1 (by rcases hO.out.2 with ⟨h, _⟩ | ⟨g', cap', cur', h, h5, _⟩ <;> rw [h] <;> simp [Value.ownBlock]; omega))
      replace hrg1 := Lib.hid hrg1
      clear hat hlx hR hkey hwx hSx hg1 hs1
      go_wp2_with (at_builtin; refine wpList_append_one elInts rfl (.tmp 32) (.tmp 34) rfl w0.heap.size _ ks.length (ks.map (Value.int .i64)) hO1.out _ _ rfl rfl rfl (by simp only [maxLen]; omega) (by omega) (by omega) ?_; intro v3 w3 ho3 hb3 hg3)
      go_roundg cnt1
      case measure => rw [hm.out]; omega
      case rel => exact ⟨_, cnt1, ks ++ [x], rfl, Lib.hid (ranges_below hrg1.out hb3 (by omega) (by omega)), hmet1, Lib.hid (by simpa using ho3), hbw1.trans (hb3.mono (by omega)), by have := hb3.size; omega⟩

set_option maxRecDepth 100000 in
set_option maxHeartbeats 4000000 in
theorem CUses_any (v : Value) (l : List Rule) (rule : Int) (w : World) (hr : RulesV w w.heap.size v l) : Calls Try.prog 21 #[v, .int .i64 rule] w (UsesPost l rule w) := by
  have hrr := Lib.hid hr
  obtain ⟨A, cap, rfl, hlen, hc⟩ := hr
  clear hc
  by_cases h1 : rule < 0
  · have hu := Lib.hid (uses_none (l := l) (.inl h1))
    have g1 : decide (rule < 0) = true := by simpa using h1
    clear h1
    go_enter Try.func21, Try.ntmps21
    go_wp2
    go_ret
    exact ⟨_, rfl, by rw [hu.out]; exact World.ownsRow_nil _ _ _ _, Below.refl _ _⟩
  have g1 : decide (rule < 0) = false := by simpa using h1
  by_cases h2 : (l.length : Int) ≤ rule
  · have hu := Lib.hid (uses_none (l := l) (.inr (.inl h2)))
    have g2 : decide ((l.length : Int) ≤ rule) = true := by simpa using h2
    clear h1 h2
    go_enter Try.func21, Try.ntmps21
    go_wp2
    go_ret
    exact ⟨_, rfl, by rw [hu.out]; exact World.ownsRow_nil _ _ _ _, Below.refl _ _⟩
  have g2 : decide ((l.length : Int) ≤ rule) = false := by simpa using h2
  have hW := Lib.hid (CWrong_any _ l w hrr.out)
  by_cases h3 : (wrongR l).1 = 0
  · exact CUses_right _ l rule w hrr.out h1 (by omega) h3
  · have hu := Lib.hid (uses_none (l := l) (rule := rule) (.inr (.inr h3)))
    generalize wrongR l = q at *
    obtain ⟨q1, q2⟩ := q
    have g3 : (q1 != 0) = true := by simpa using h3
    unfold faultV at hW
    simp only at hW
    clear h1 h2 h3
    go_enter Try.func21, Try.ntmps21
    go_wp2_with (go_at_call 20; refine hW.out.mono ?_; rintro e w1 ⟨rfl, hb1⟩)
    go_ret
    exact ⟨_, rfl, by rw [hu.out]; exact World.ownsRow_nil _ _ _ _, hb1⟩

end Ru
end Go.Proofs.Ytbncbkaonkcgeaa
