/- The law of chapter 5 on who refers to whom: slotlaw5.CheckUses. -/
import Derived.Test.YtfhedopfjgjffaaWth
import Derived.Test.YtfhedopfjgjffaaAlw
namespace Go.Proofs.Ytfhedopfjgjffaa
open Go.RowKit
namespace Ru
open Lx
open Sl (strV Reads IntsV)

theorem right_few {l : List Rule} (h : (wrongR l).1 = 0) : l.length ≤ 40 := by
  apply Decidable.byContradiction
  intro h40
  have hF : wrongF l = (5, 0) := if_pos (by omega)
  unfold wrongR at h
  rw [hF, if_neg (by decide)] at h
  cases h
theorem uses_right {l : List Rule} (h : (wrongR l).1 = 0) {i : Nat} (hi : i < l.length) : usesR l i = reachL l i l.length := by
  unfold usesR
  rw [if_neg (by omega)]
  rfl
theorem mem_uses {l : List Rule} (h : (wrongR l).1 = 0) {i : Nat} (hi : i < l.length) (x : Int) : x ∈ usesR l i ↔ ∃ k : Nat, x = k ∧ k < l.length ∧ Wal.Way (stepB (directR l)) l.length i k := by
  rw [uses_right h hi]
  unfold reachL
  rw [List.mem_map]
  constructor
  · rintro ⟨k, hk, rfl⟩
    rw [List.mem_filter, List.mem_range] at hk
    exact ⟨k, rfl, hk.1, (Wal.wal_way _ _ _ _).1 hk.2⟩
  · rintro ⟨k, rfl, hk, hw⟩
    exact ⟨k, List.mem_filter.2 ⟨List.mem_range.2 hk, (Wal.wal_way _ _ _ _).2 hw⟩, rfl⟩
theorem uses_few {l : List Rule} (h : (wrongR l).1 = 0) {i : Nat} (hi : i < l.length) : (usesR l i).length ≤ l.length := by
  rw [uses_right h hi]
  unfold reachL
  rw [List.length_map]
  exact Nat.le_trans (List.length_filter_le _ _) (by rw [List.length_range]; exact Nat.le_refl _)
theorem speaks_step {l : List Rule} (hR : RightR l) {i k : Nat} {r q : Rule} (hi : l[i]? = some r) (hk : l[k]? = some q) : speaksE r.expr q.name = stepB (directR l) i k := by
  have h1 := hR.once k q hk
  have hk2 := (List.getElem?_eq_some_iff.1 hk).1
  rw [speaks_names]
  unfold stepB
  rw [directR_at2 hi]
  cases h : (List.map (findI l) (namesE r.expr)).contains (k : Int) with
  | true =>
    rw [List.contains_iff_mem] at h ⊢
    obtain ⟨nm, hn, e⟩ := List.mem_map.1 h
    unfold findI at e
    split at e
    · have : placeR l nm = k := by omega
      have hnm : q.name = nm := placeR_name (by rw [this]; exact hk)
      rw [hnm]; exact hn
    · omega
  | false =>
    cases h2 : (namesE r.expr).contains q.name with
    | false => rfl
    | true =>
      rw [List.contains_iff_mem] at h2
      have : (List.map (findI l) (namesE r.expr)).contains (k : Int) = true := by
        rw [List.contains_iff_mem]
        exact List.mem_map.2 ⟨q.name, h2, by rw [findI_nat (by omega), h1]⟩
      rw [this] at h
      cases h
theorem way_split {r : Nat → Nat → Bool} {n i k : Nat} (hr : ∀ i k, r i k = true → k < n) : Wal.Way r n i k ↔ ∃ j, j < n ∧ r i j = true ∧ (k = j ∨ Wal.Way r n j k) := by
  constructor
  · intro h
    cases h with
    | one h => exact ⟨k, hr _ _ h, h, .inl rfl⟩
    | cons h hj t => exact ⟨_, hj, h, .inr t⟩
  · rintro ⟨j, hj, h, rfl | t⟩
    · exact .one h
    · exact .cons h hj t
/-- what is wanted, up to a rule -/
def Want (l : List Rule) (i k : Nat) (S : Int → Bool) : Prop := ∀ x, S x = true ↔ ∃ j, j < k ∧ stepB (directR l) i j = true ∧ (x = (j : Int) ∨ x ∈ usesR l j)
theorem want_all {l : List Rule} (h : (wrongR l).1 = 0) {i : Nat} (hi : i < l.length) {S : Int → Bool} (hS : Want l i l.length S) (k : Nat) (hk : k < l.length) : S k = (usesR l i).contains (k : Int) := by
  have key : S k = true ↔ (usesR l i).contains (k : Int) = true := by
    rw [List.contains_iff_mem, mem_uses h hi, hS]
    constructor
    · rintro ⟨j, hj, h1, h2⟩
      refine ⟨k, rfl, hk, (way_split fun _ _ h => stepB_lt h).2 ⟨j, hj, h1, ?_⟩⟩
      rcases h2 with h2 | h2
      · exact .inl (by omega)
      · obtain ⟨k', e, _, hw⟩ := (mem_uses h hj _).1 h2
        have : k' = k := by omega
        exact .inr (this ▸ hw)
    · rintro ⟨k', e, _, hw⟩
      obtain rfl : k' = k := by omega
      obtain ⟨j, hj, h1, h2⟩ := (way_split fun _ _ h => stepB_lt h).1 hw
      refine ⟨j, hj, h1, ?_⟩
      rcases h2 with h2 | h2
      · exact .inl (by omega)
      · exact .inr ((mem_uses h hj _).2 ⟨k', rfl, hk, h2⟩)
  cases h1 : S k with
  | true => exact (key.1 h1).symm
  | false =>
    cases h2 : (usesR l i).contains (k : Int) with
    | false => rfl
    | true => rw [key.2 h2] at h1; cases h1
theorem want_skip {l : List Rule} {i k : Nat} {S : Int → Bool} (hS : Want l i k S) (hs : stepB (directR l) i k = false) : Want l i (k + 1) S := fun x => (hS x).trans ⟨fun ⟨j, h1, h2⟩ => ⟨j, by omega, h2⟩, fun ⟨j, h1, h2, h3⟩ => by
  by_cases hj : j = k
  · subst hj; rw [hs] at h2; cases h2
  · exact ⟨j, by omega, h2, h3⟩⟩
/-- .. within one -/
def WantIn (l : List Rule) (i k m : Nat) (S : Int → Bool) : Prop := ∀ x, S x = true ↔ (∃ j, j < k ∧ stepB (directR l) i j = true ∧ (x = (j : Int) ∨ x ∈ usesR l j)) ∨ x = (k : Int) ∨ x ∈ (usesR l k).take m
theorem want_in {l : List Rule} {i k : Nat} {S : Int → Bool} (hS : Want l i k S) : WantIn l i k 0 (putS S k) := fun x => by
  unfold putS
  by_cases h : x = (k : Int)
  · simp [h]
  · simp only [if_neg h, List.take_zero]
    rw [hS x]
    simp [h]
theorem want_put {l : List Rule} {i k m : Nat} {S : Int → Bool} {y : Int} (hS : WantIn l i k m S) (hy : (usesR l k)[m]? = some y) : WantIn l i k (m + 1) (putS S y) := fun x => by
  have ht : x ∈ (usesR l k).take (m + 1) ↔ x ∈ (usesR l k).take m ∨ x = y := by
    rw [List.take_add_one, hy]
    simp
  rw [ht]
  unfold putS
  by_cases h : x = y
  · simp [h]
  · simp only [if_neg h]
    rw [hS x]
    simp [h]
theorem want_out {l : List Rule} {i k : Nat} {S : Int → Bool} (hS : WantIn l i k (usesR l k).length S) (hs : stepB (directR l) i k = true) : Want l i (k + 1) S := fun x => by
  rw [hS x, List.take_length]
  constructor
  · rintro (⟨j, h1, h2⟩ | h | h)
    · exact ⟨j, by omega, h2⟩
    · exact ⟨k, by omega, hs, .inl h⟩
    · exact ⟨k, by omega, hs, .inr h⟩
  · rintro ⟨j, h1, h2, h3⟩
    by_cases hj : j = k
    · subst hj; exact .inr h3
    · exact .inl ⟨j, by omega, h2, h3⟩
theorem have_put {L : List Int} {m : Nat} {S : Int → Bool} {y : Int} (hS : ∀ x, S x = (L.take m).contains x) (hy : L[m]? = some y) : ∀ x, putS S y x = (L.take (m + 1)).contains x := fun x => by
  rw [List.take_add_one, hy]
  unfold putS
  by_cases h : x = y
  · simp [h]
  · simp only [if_neg h]
    rw [hS x]
    simp [h]

theorem own_map {w w' : World} {base e k n mb : Nat} {v : Value} {xs : List Value} (h : w.ownsRow base e k v n xs) (hg : w.grownBy w' (some mb)) (hlt : mb < base) : w'.ownsRow base e k v n xs :=
  h.kept hg (by
    cases hv : v.ownBlock with
    | none => exact .inl rfl
    | some b => right; intro e; injection e with e; have := (h.lt b hv).1; omega)

set_option maxRecDepth 100000 in
set_option maxHeartbeats 32000000 in
theorem CheckUses_true (v : Value) (l : List Rule) (w : World) (hr : RulesV w w.heap.size v l) : Calls Try.prog 4 #[v] w fun e w' => e = .returned (.bool true) ∧ Below w.heap.size w w' := by
  have hAl := Lib.hid alive5
  have hv := Lib.hid (fun (W : World) (h : Below w.heap.size w W) => hr.below h (Nat.le_refl _) h.size)
  have hmm := @run_makeMap Try.prog
  obtain ⟨A0, cap0, rfl, hlen, -⟩ := hr
  go_enter Try.func4, Try.ntmps4
  go_wp2_with fail
  refine (hAl.out _).mono ?_
  rintro e1 w1 ⟨rfl, hb1⟩
  go_wp2_with fail
  refine (CWrong_any _ l w1 (hv.out w1 hb1)).mono ?_
  rintro e2 w2 ⟨rfl, hb2⟩
  unfold faultV
  have hb2' : Below w.heap.size w w2 := Below.call hb1 hb2 hb1.size
  by_cases hw : (wrongR l).1 = 0
  case neg =>
    have gw : ((wrongR l).1 != 0) = true := by simpa using hw
    have hU := Lib.hid (CUses_any _ l 0 w2 (hv.out w2 hb2'))
    unfold UsesPost at hU
    rw [uses_none (.inr (.inr hw))] at hU
    clear hw
    go_wp2_with fail
    refine hU.out.mono ?_
    rintro e3 w3 ⟨v3, rfl, ho3, hb3⟩
    obtain ⟨A3, c3, rfl⟩ := own_slice ho3
    go_wp2
    go_ret
    exact ⟨rfl, Below.call hb2' hb3 hb2'.size⟩
  have gw : ((wrongR l).1 != 0) = false := by simpa using hw
  have hR := right_of hw
  have hn40 := right_few hw
  have hwh := Lib.hid hw
  clear hw
  have z2 := hb2'.size
  go_wp2_with fail
  go_loopg [24, 3, 4, 6, 7, 8, 10, 11] l.length (fun q kv _ _ _ _ _ _ _ wr => ∃ i : Nat, i ≤ l.length ∧ q = l.length - i ∧ kv = .int .i64 i ∧ Below w.heap.size w wr)
  case atStart => exact ⟨0, by omega, rfl, rfl, hb2'⟩
  case round =>
    obtain ⟨i, hi, hq, rfl, hbr⟩ := hrel
    replace hq := Lib.hid hq
    obtain ⟨wo, rfl⟩ : ∃ wo : World, wo = wr := ⟨_, rfl⟩
    have zr := hbr.size
    by_cases hlt : i < l.length
    case neg =>
      obtain rfl : i = l.length := by omega
      go_wp2
      go_ret
      exact ⟨rfl, hbr⟩
    have hlti : (i : Int) < l.length := by omega
    obtain ⟨r, hri⟩ : ∃ r, l[i]? = some r := ⟨_, List.getElem?_eq_getElem hlt⟩
    have hbm : Below w.heap.size w (wo.alloc (.map #[] 0)) := hbr.alloc zr _
    have hM0 := Mp.Is.made wo Try.prog 3
    rw [none_setF] at hM0
    have hU := Lib.hid (CUses_any _ l i (wo.alloc (.map #[] 0)) (hv.out _ hbm))
    unfold UsesPost at hU
    go_wp2_with fail
    refine hU.out.mono ?_
    rintro e3 w3 ⟨v3, rfl, ho3, hb3⟩
    obtain ⟨A3, c3, rfl⟩ := own_slice ho3
    have hb3' : Below w.heap.size w w3 := Below.call hbm hb3 hbm.size
    have hM3 := hM0.below hb3 (by simp)
    have z3 := hb3.size
    simp at z3
    rw [World.size_alloc] at ho3
    obtain ⟨L, hL⟩ : ∃ L, L = usesR l i := ⟨_, rfl⟩
    rw [← hL] at ho3 ⊢
    have hLx : ∀ (m : Nat) (x : Int), L[m]? = some x → 0 ≤ x ∧ x < l.length ∧ x ≠ i := fun m x hx => by
      have hm := List.mem_of_getElem? hx
      rw [hL] at hm
      obtain ⟨k, rfl, hk, hway⟩ := (mem_uses hwh.out hlt x).1 hm
      refine ⟨by omega, by omega, fun e => ?_⟩
      have : k = i := by omega
      subst this
      exact hR.noring k hlt hway
    have hLf : L.length ≤ 40 := by rw [hL]; have := uses_few hwh.out hlt; omega
    replace hL := Lib.hid hL
    replace hLx := Lib.hid hLx
    obtain ⟨mb, hmb⟩ : ∃ mb, mb = wo.heap.size := ⟨_, rfl⟩
    rw [← hmb] at hM3 ho3 z3 ⊢
    have hmbw : w.heap.size ≤ mb := by omega
    replace hmb := Lib.hid hmb
    clear hU hM0 hb3
    go_wp2_with fail
    go_loopg [32, 6] L.length (fun q kv _ wx => ∃ (j : Nat) (S : Int → Bool) (c : Nat), j ≤ L.length ∧ q = L.length - j ∧ kv = .int .i64 j ∧ Hid (Mp.Is wx Try.prog 3 mb j c (setF S)) ∧ Hid (∀ x, S x = (L.take j).contains x) ∧ Hid (wx.ownsRow (mb + 1) 3 1 (.slice A3 L.length c3) L.length (L.map (Value.int .i64))) ∧ Below w.heap.size w wx ∧ mb < wx.heap.size)
    case atStart => exact ⟨0, fun _ => false, 0, by omega, rfl, rfl, Lib.hid hM3, Lib.hid (fun x => by simp), Lib.hid ho3, hb3', by omega⟩
    case round =>
      clear hM3 ho3 hb3' hbm
      obtain ⟨j, S, c, hj, hq2, rfl, hM, hS, ho, hbx, hmx⟩ := hrel
      replace hq2 := Lib.hid hq2
      obtain ⟨wp, rfl⟩ : ∃ wp : World, wp = wr := ⟨_, rfl⟩
      by_cases hjl : j < L.length
      · have hjli : (j : Int) < L.length := by omega
        obtain ⟨x, hx⟩ : ∃ x, L[j]? = some x := ⟨_, List.getElem?_eq_getElem hjl⟩
        obtain ⟨x0, x1, x2⟩ := hLx.out j x hx
        obtain ⟨A', cap', e, _, hc⟩ := own_reads ho.out (Nat.le_refl _)
        injection e with e1 e2 e3
        subst e1 e3
        obtain ⟨b, o, rfl, hbl, k0⟩ := hc j x hx
        have gx1 : (x == (i : Int)) = false := by simpa using x2
        obtain ⟨ws, c', hrun, hI2, hgr⟩ := store_set hM.out (i := x) (by omega) (by omega) (by omega)
        have hws : Below w.heap.size w ws := below_row hbx hgr hmbw hbx.size
        have hor := own_map ho.out hgr (by omega)
        have hzs := hgr.size
        clear hc
        go_wp2
        go_roundg (L.length - (j + 1))
        case measure => rw [hq2.out]; omega
        case rel => exact ⟨j + 1, putS S x, c', by omega, rfl, by go_num, Lib.hid hI2, Lib.hid (have_put hS.out hx), Lib.hid hor, hws, by omega⟩
      · obtain rfl : j = L.length := by omega
        have hS1 : ∀ x, S x = L.contains x := fun x => by have := hS.out x; rwa [List.take_length] at this
        replace hS1 := Lib.hid hS1
        clear ho hS hjl hj
        have hbm2 : Below w.heap.size w (wp.alloc (.map #[] 0)) := hbx.alloc hbx.size _
        have hN0 := Mp.Is.made wp Try.prog 3
        rw [none_setF] at hN0
        have hM2 := hM.out.alloc (.map #[] 0)
        obtain ⟨nb, hnb⟩ : ∃ nb, nb = wp.heap.size := ⟨_, rfl⟩
        rw [← hnb] at hN0
        go_wp2_with fail
        rw [← hnb]
        have hmn : mb < nb := by omega
        have hnz : (wp.alloc (.map #[] 0)).heap.size = nb + 1 := by rw [hnb]; simp
        replace hnb := Lib.hid hnb
        go_loopg [55, 8, 10] l.length (fun q kv _ _ wx => ∃ (k : Nat) (S2 : Int → Bool) (c2 cnt : Nat), k ≤ l.length ∧ q = l.length - k ∧ kv = .int .i64 k ∧ Hid (Mp.Is wx Try.prog 3 mb L.length c (setF S)) ∧ Hid (Mp.Is wx Try.prog 3 nb cnt c2 (setF S2)) ∧ cnt ≤ k * 41 ∧ Hid (Want l i k S2) ∧ Below w.heap.size w wx ∧ nb < wx.heap.size)
        case atStart => exact ⟨0, fun _ => false, 0, 0, by omega, rfl, rfl, Lib.hid hM2, Lib.hid hN0, by omega, Lib.hid (fun x => by simp), hbm2, by omega⟩
        case round =>
          clear hM hM2 hN0 hbm2 hbx hnz
          obtain ⟨k, S2, c2, cnt, hk, hq3, rfl, hM, hN, hcnt, hW, hby, hny⟩ := hrel
          replace hq3 := Lib.hid hq3
          obtain ⟨wq, rfl⟩ : ∃ wq : World, wq = wr := ⟨_, rfl⟩
          have zq := hby.size
          by_cases hkl : k < l.length
          · have hkli : (k : Int) < l.length := by omega
            obtain ⟨qk, hqk⟩ : ∃ qk, l[k]? = some qk := ⟨_, List.getElem?_eq_getElem hkl⟩
            have hRq := hv.out wq hby
            obtain ⟨A', cap', e, hl', hc'⟩ := hRq
            injection e with e1 e2 e3
            subst e1 e3
            obtain ⟨b, o, rfl, hbb, hRi⟩ := hc' i r hri
            obtain ⟨b', o', e, _, hRk⟩ := hc' k qk hqk
            injection e with e
            injection e with e1 e2 e3
            subst e1 e2
            obtain ⟨_, _, hE⟩ := id hRi
            obtain ⟨q0, hqn, _⟩ := id hRk
            obtain ⟨A1, cap1, k1, k2, k3, k4, k5, he1, he2, he3⟩ := exprAt_val hE
            have k1' : wq.cell? ⟨b, o + i * 6 + 1, none⟩ = some (.int .i64 r.expr.kind) := k1
            have k2' : wq.cell? ⟨b, o + i * 6 + 2, none⟩ = some (.int .i64 r.expr.a) := k2
            have k3' : wq.cell? ⟨b, o + i * 6 + 3, none⟩ = some (.int .i64 r.expr.b) := k3
            have k4' : wq.cell? ⟨b, o + i * 6 + 4, none⟩ = some (strV r.expr.name) := k4
            have k5' : wq.cell? ⟨b, o + i * 6 + 5, none⟩ = some (.slice A1 r.expr.kids.length cap1) := k5
            have hSp := Lib.hid (fun (W : World) (h : Below wq.heap.size wq W) => Speaks_any (nodesE r.expr) r.expr (.agg #[.int .i64 r.expr.kind, .int .i64 r.expr.a, .int .i64 r.expr.b, strV r.expr.name, .slice A1 r.expr.kids.length cap1]) qk.name W wq.heap.size (Nat.le_refl _) ⟨A1, cap1, rfl, he1, he2, he3.below h (Nat.le_refl _) (Nat.le_refl _)⟩ h.size)
            have hspk := speaks_step hR hri hqk
            have hgi : decide (l.length ≤ i) = false := by simp; omega
            have hgk : decide (l.length ≤ k) = false := by simp; omega
            clear k1 k2 k3 k4 k5 hc' hRi hRk hE he3
            go_wp2_with fail
            refine wp_region_below (wq.heap.size) _ (Below.refl _ _) (by kernel_rfl) (by kernel_rfl) ?_
            repeat (go_big_quiet_step (((go_at_call 18; exact quiet_below (Nat.le_refl _) (hSp.out _ (After.below _))))))
            refine wpQuiet_nil ?_
            rintro _ ⟨n8, rfl⟩
            have hn8 := n8.below
            have zn8 := n8.size
            have hmq : mb < wq.heap.size := by omega
            have hM8 := hM.out.below hn8 hmq
            have hN8 := hN.out.below hn8 hny
            have hb8 : Below w.heap.size w n8.w := hby.trans (hn8.mono zq)
            clear hM hN hSp k1' k2' k3' k4' k5' q0
            generalize n8.w = w8 at *
            rw [hspk]
            cases hst : stepB (directR l) i k with
            | false =>
              have hW2 := want_skip hW.out hst
              clear hst hspk
              go_wp2_with fail
              go_roundg (l.length - (k + 1))
              case measure => rw [hq3.out]; omega
              case rel => exact ⟨k + 1, S2, c2, cnt, by omega, rfl, by go_num, Lib.hid hM8, Lib.hid hN8, by omega, Lib.hid hW2, hb8, by omega⟩
            | true =>
              obtain ⟨ws, c4, hrun, hI4, hgr⟩ := store_set hN8 (i := (k : Int)) (by omega) (by omega) (by omega)
              have hws : Below w.heap.size w ws := below_row hb8 hgr (by omega) hb8.size
              have hzs := hgr.size
              have hMs := hM8.kept hgr (by intro e; injection e with e; omega)
              have hU := Lib.hid (CUses_any _ l k ws (hv.out ws hws))
              unfold UsesPost at hU
              clear hspk
              go_wp2_with fail
              refine hU.out.mono ?_
              rintro e9 w9 ⟨v9, rfl, ho9, hb9⟩
              obtain ⟨A9, c9, rfl⟩ := own_slice ho9
              have hb9' : Below w.heap.size w w9 := Below.call hws hb9 hws.size
              have hz9 := hb9.size
              have hM9 := hMs.below hb9 (by omega)
              have hN9 := hI4.below hb9 (by omega)
              have hW0 := want_in hW.out
              obtain ⟨L2, hL2⟩ : ∃ L2, L2 = usesR l k := ⟨_, rfl⟩
              have hL2x : ∀ (m : Nat) (x : Int), L2[m]? = some x → 0 ≤ x ∧ x < l.length := fun m x hx => by
                have hm := List.mem_of_getElem? hx
                rw [hL2] at hm
                obtain ⟨k', rfl, hk', _⟩ := (mem_uses hwh.out hkl x).1 hm
                exact ⟨by omega, by omega⟩
              have hL2f : L2.length ≤ 40 := by rw [hL2]; have := uses_few hwh.out hkl; omega
              rw [← hL2] at ho9 ⊢
              replace hL2 := Lib.hid hL2
              replace hL2x := Lib.hid hL2x
              obtain ⟨B9, hB9⟩ : ∃ B9, B9 = ws.heap.size := ⟨_, rfl⟩
              rw [← hB9] at ho9
              have hnB : nb < B9 := by omega
              clear hU hb9 hM8 hN8 hMs hI4 hrun hgr
              go_wp2_with fail
              go_loopg [75, 10] L2.length (fun q kv _ wx => ∃ (m : Nat) (S3 : Int → Bool) (c5 : Nat), m ≤ L2.length ∧ q = L2.length - m ∧ kv = .int .i64 m ∧ Hid (Mp.Is wx Try.prog 3 mb L.length c (setF S)) ∧ Hid (Mp.Is wx Try.prog 3 nb (cnt + 1 + m) c5 (setF S3)) ∧ Hid (WantIn l i k m S3) ∧ Hid (wx.ownsRow B9 3 1 (.slice A9 L2.length c9) L2.length (L2.map (Value.int .i64))) ∧ Below w.heap.size w wx ∧ nb < wx.heap.size)
              case atStart => exact ⟨0, _, c4, by omega, rfl, rfl, Lib.hid hM9, Lib.hid hN9, Lib.hid hW0, Lib.hid ho9, hb9', by omega⟩
              case round =>
                clear hM9 hN9 hW0 ho9 hb9'
                obtain ⟨m, S3, c5, hm, hq5, rfl, hM, hN, hWi, ho, hbx, hnx⟩ := hrel
                replace hq5 := Lib.hid hq5
                obtain ⟨wt, rfl⟩ : ∃ wt : World, wt = wr := ⟨_, rfl⟩
                by_cases hml : m < L2.length
                · have hmli : (m : Int) < L2.length := by omega
                  obtain ⟨y, hy⟩ : ∃ y, L2[m]? = some y := ⟨_, List.getElem?_eq_getElem hml⟩
                  obtain ⟨y0, y1⟩ := hL2x.out m y hy
                  obtain ⟨A', cap', e, _, hc⟩ := own_reads ho.out (Nat.le_refl _)
                  injection e with e1 e2 e3
                  subst e1 e3
                  obtain ⟨b5, o5, rfl, hbl5, kk0⟩ := hc m y hy
                  obtain ⟨wv, c6, hrun, hI6, hgr⟩ := store_set hN.out (i := y) (by omega) (by omega) (by omega)
                  have hwv : Below w.heap.size w wv := below_row hbx hgr (by omega) hbx.size
                  have hor := own_map ho.out hgr hnB
                  have hMv := hM.out.kept hgr (by intro e; injection e with e; omega)
                  have hzv := hgr.size
                  have hW6 := want_put hWi.out (hL2.out ▸ hy)
                  clear hc
                  go_wp2
                  go_roundg (L2.length - (m + 1))
                  case measure => rw [hq5.out]; omega
                  case rel => exact ⟨m + 1, putS S3 y, c6, by omega, rfl, by go_num, Lib.hid hMv, Lib.hid hI6, Lib.hid hW6, Lib.hid hor, hwv, by omega⟩
                · obtain rfl : m = L2.length := by omega
                  have hWo := want_out (by have := hWi.out; rw [hL2.out] at this; exact this) hst
                  clear hst
                  go_wp2_with fail
                  go_roundg (l.length - (k + 1))
                  case measure => rw [hq3.out]; omega
                  case rel => exact ⟨k + 1, S3, c5, cnt + 1 + L2.length, by omega, rfl, by go_num, hM, hN, by omega, Lib.hid hWo, hbx, hnx⟩
          · obtain rfl : k = l.length := by omega
            have hall := Lib.hid (fun (m : Nat) (h : m < l.length) => want_all hwh.out hlt hW.out m h)
            clear hW hkl hk
            go_wp2_with fail
            go_loopg [85, 11] l.length (fun q kv _ wx => ∃ m : Nat, m ≤ l.length ∧ q = l.length - m ∧ kv = .int .i64 m ∧ wx = wq)
            case atStart => exact ⟨0, by omega, rfl, rfl, rfl⟩
            case round =>
              obtain ⟨m, hm, hq4, rfl, rfl⟩ := hrel
              replace hq4 := Lib.hid hq4
              by_cases hml : m < l.length
              · have hmli : (m : Int) < l.length := by omega
                have k1 := look_set hM.out (i := (m : Int)) (by omega) (by omega)
                have k2 := look_set hN.out (i := (m : Int)) (by omega) (by omega)
                rw [hS1.out] at k1
                rw [hall.out m hml, ← hL.out] at k2
                generalize L.contains (m : Int) = bb at *
                go_wp2
                go_roundg (l.length - (m + 1))
                case measure => rw [hq4.out]; omega
                case rel => exact ⟨m + 1, by omega, rfl, by go_num, rfl⟩
              · obtain rfl : m = l.length := by omega
                go_wp2
                go_roundg (l.length - (i + 1))
                case measure => rw [hq.out]; omega
                case rel => exact ⟨i + 1, by omega, rfl, by go_num, hby⟩

end Ru
end Go.Proofs.Ytfhedopfjgjffaa
