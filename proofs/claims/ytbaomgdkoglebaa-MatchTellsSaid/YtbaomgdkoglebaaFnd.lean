/- The walk of slotref10.Find. -/
import Derived.Test.YtbaomgdkoglebaaTup
import Derived.Test.YtbaomgdkoglebaaMatR
import Derived.Test.YtbaomgdkoglebaaRef2
import Derived.Test.YtbaomgdkoglebaaQt
import Derived.OwnWalk
namespace Go.Proofs.Ytbaomgdkoglebaa
open Go.RowKit
namespace Mat
open Sl

set_option maxHeartbeats 4000000 in
theorem RFind_many (len bef aft : Int) (rolesV daysV : Value) (roles : List (List Int)) (days : List (List (Nat → Nat))) (w : World) (hd : Sl.Masks2V w w.heap.size daysV days) (h30 : 30 < days.length) :
    Calls Try.prog 25 #[.agg #[.int .i64 len, .int .i64 bef, .int .i64 aft, rolesV], daysV] w (FindPost len bef aft roles days w) := by
  obtain ⟨A, cap, rfl, hl, hc⟩ := hd
  replace hc := Lib.hid hc
  have g : decide ((30 : Int) < (days.length : Int)) = true := by simp; omega
  replace h30 := Lib.hid h30
  go_enter Try.func25, Try.ntmps25
  go_wp2
  exact bodyPost_ret (v := .tuple #[slotV 0 0 (.slice none 0 0), .int .i64 5]) (by simp [results, Try.results25, go_sem, slotV]) rfl ⟨(by repeat (first | exact Below.refl _ _ | assumption | refine Below.n _ ?_ (by first | omega | (simp; done) | (simp; omega)) | refine Below.alloc ?_ (by first | omega | (simp; done) | (simp; omega)) _ | refine Below.setCell ?_ (by first | omega | (simp; done) | (simp; omega)) _ | refine Below.drew ?_ | refine Below.setRow ?_ (by first | omega | (simp; done) | (simp; omega)) _ | refine Below.drewN ?_ _)), .inl ⟨h30.out, rfl⟩⟩

/-- an own row behind a change of blocks behind it -/
theorem own_low {w w' : World} {base e s n B : Nat} {v : Value} {xs : List Value} (h : w.ownsRow base e s v n xs) (hb : Below B w w') (hv : ∀ g, v.ownBlock = some g → g < B) : w'.ownsRow base e s v n xs := by
  refine ⟨h.1, ?_⟩
  rcases h.2 with h0 | ⟨g, cap, cur, h1, h2, h3, h4⟩
  · exact .inl h0
  · refine .inr ⟨g, cap, cur, h1, h2, ?_, h4⟩
    rw [hb.block g (hv g (by rw [h1]; rfl))]
    exact h3

/-- the minutes from lo on that block G tells of a resource -/
def RunV (w : World) (G : Nat) (f : Nat → Nat) (all : Int) : Prop := ∀ i, i < 1440 → w.cell? ⟨G, i, none⟩ = some (.bool (couldB f all i))
theorem RunV.below {w w' : World} {G B : Nat} {f : Nat → Nat} {all : Int} (h : RunV w G f all) (hb : Below B w w') (hG : G < B) : RunV w' G f all := fun i hi => (hb.cell (p := ⟨G, _, none⟩) hG).trans (h i hi)
/-- block gc tells of the first r resources -/
def CouldV (w : World) (B gc r : Nat) (d : List (Nat → Nat)) (all : Int) : Prop :=
  ∀ i f, i < r → d[i]? = some f → ∃ G, gc < G ∧ G < B ∧ w.cell? ⟨gc, i, none⟩ = some (.slice (some ⟨G, 0, none⟩) 1441 1441) ∧ RunV w G f all
theorem CouldV.below {w w' : World} {B B' gc r : Nat} {d : List (Nat → Nat)} {all : Int} (h : CouldV w B gc r d all) (hb : Below B' w w') (hB : B ≤ B') (hgc : gc < B') : CouldV w' B gc r d all := fun i f hi hf => by
  obtain ⟨G, h0, h1, h2, h3⟩ := h i f hi hf
  exact ⟨G, h0, h1, (hb.cell (p := ⟨gc, _, none⟩) hgc).trans h2, h3.below hb (by omega)⟩
theorem CouldV.next {w wq : World} {base e n G gc r : Nat} {d : List (Nat → Nat)} {f : Nat → Nat} {all : Int} {cs : List Value} (h : CouldV w G gc r d all) (ho : w.ownsRow base e 1 (.slice (some ⟨gc, 0, none⟩) n n) n cs) (hr : r < n) (hf : d[r]? = some f) (hG : gc < G)
    (hb : Below G (w.setCell ⟨gc, r, none⟩ (.slice (some ⟨G, 0, none⟩) 1441 1441)) wq) (hlt : G < wq.heap.size) (hrun : RunV wq G f all) : CouldV wq wq.heap.size gc (r + 1) d all := fun i f' hi hf' => by
  have hc : wq.cell? ⟨gc, i, none⟩ = (w.setCell ⟨gc, r, none⟩ (.slice (some ⟨G, 0, none⟩) 1441 1441)).cell? ⟨gc, i, none⟩ := hb.cell (p := ⟨gc, _, none⟩) hG
  rw [cell_setCell_ite] at hc
  by_cases e : i = r
  · subst e
    rw [hf] at hf'
    cases hf'
    refine ⟨G, hG, hlt, ?_, hrun⟩
    have hl : cs.length = n := by have := ho.1; simpa using this
    have h2 := ho.cellAt i (by omega)
    rw [List.getElem?_eq_getElem (by omega : i < cs.length)] at h2
    rw [hc, if_pos ⟨rfl, rfl⟩, h2]
    rfl
  · obtain ⟨G', h0, h1, h2, h3⟩ := h i f' (by omega) hf'
    refine ⟨G', h0, by omega, ?_, fun j hj => ?_⟩
    · rw [hc, if_neg (by omega)]; exact h2
    · rw [hb.cell (p := ⟨G', _, none⟩) h1, cell_setCell_ite, if_neg (by omega)]
      exact h3 j hj
theorem CouldV.wide {w : World} {B B' gc r : Nat} {d : List (Nat → Nat)} {all : Int} (h : CouldV w B gc r d all) (hB : B ≤ B') : CouldV w B' gc r d all := fun i f hi hf => by
  obtain ⟨G, h0, h1, h2⟩ := h i f hi hf
  exact ⟨G, h0, by omega, h2⟩

theorem info_bools : (Try.prog.info? 63).map (fun i => (i.zero, i.size, i.bytes)) = some (some (.slice none 0 0), 1, 24) := by kernel_rfl
theorem info_bool : (Try.prog.info? 4).map (fun i => (i.zero, i.size, i.bytes)) = some (some (.bool false), 1, 1) := by kernel_rfl

theorem runF_step (f : Nat → Nat) {c : Nat} (hc : c < 1440) : runF f (c + 1) (1440 - (c + 1)) = if Msk.has f (1439 - c) = true then runF f c (1440 - c) + 1 else 0 := by
  rw [runF, show 1440 - (c + 1) = 1439 - c by omega, show 1439 - c + 1 = 1440 - c by omega]

theorem rolesErr_len {res : Int} : ∀ (l : List (List Int)), rolesErr res l = 0 → ∀ p ∈ l, p.length ≤ 8
  | [], _, p, hp => by simp at hp
  | q :: l, h, p, hp => by
    rw [rolesErr] at h
    by_cases h1 : q.length < 1 ∨ 8 < q.length
    · rw [if_pos h1] at h; cases h
    · rw [if_neg h1] at h
      rcases List.mem_cons.1 hp with rfl | hp
      · omega
      · by_cases h2 : poolErr res none q = 0
        · rw [if_pos h2] at h; exact rolesErr_len l h p hp
        · rw [if_neg h2] at h; exact absurd h h2
theorem wrongI_len {len bef aft res : Int} {roles : List (List Int)} (h : wrongI len bef aft roles res = 0) : ∀ p ∈ roles, p.length ≤ 8 := by
  unfold wrongI at h
  split at h
  · cases h
  · split at h
    · cases h
    · exact rolesErr_len _ h

section
variable {len bef aft : Int} {roles : List (List Int)}
theorem atMin_mi {d : List (Nat → Nat)} {mi : Nat} (h : 1 ≤ bef + len + aft) (hmi : mi < 1440) : atMin len bef aft roles d (bef + mi) = (tuplesL (freeR d (bef + len + aft) mi) roles [[]]).head? := by
  have := atMin_tuples (len := len) (bef := bef) (aft := aft) (roles := roles) (d := d) (m := bef + mi) h (by omega) (by omega)
  rwa [show (bef + (mi : Int) - bef).toNat = mi by omega] at this
theorem free_none {d : List (Nat → Nat)} {all : Int} {mi : Nat} (h : ((List.range d.length).any fun x => freeR d all mi (x : Nat)) = false) (r : Int) : freeR d all mi r = false := by
  rw [List.any_eq_false] at h
  by_cases hr : r.toNat < d.length
  · have := h r.toNat (List.mem_range.2 hr)
    unfold freeR at this ⊢
    rw [Int.toNat_natCast] at this
    exact Bool.eq_false_iff.2 this
  · unfold freeR
    rw [List.getElem?_eq_none (by omega)]
theorem atMin_free {d : List (Nat → Nat)} {mi : Nat} (h : 1 ≤ bef + len + aft) (hmi : mi < 1440) (hr : roles ≠ []) (hn : ((List.range d.length).any fun x => freeR d (bef + len + aft) mi (x : Nat)) = false) : atMin len bef aft roles d (bef + mi) = none := by
  rw [atMin_mi h hmi, tuples_head, List.findSome?_cons, fill_none_free (free_none hn) hr]
  rfl
end
theorem free_list {d : List (Nat → Nat)} {all : Int} {mi : Nat} : (fun r : Int => ((List.range d.length).map fun x => freeR d all mi (x : Nat)).getD r.toNat false) = freeR d all mi := by
  funext r
  rw [List.getD_eq_getElem?_getD, List.getElem?_map]
  by_cases hr : r.toNat < d.length
  · rw [List.getElem?_range hr]
    unfold freeR
    simp only [Option.map_some, Option.getD_some, Int.toNat_natCast]
  · rw [List.getElem?_eq_none (by simpa using hr)]
    unfold freeR
    rw [List.getElem?_eq_none (by omega)]
    rfl
theorem bools_of {w : World} {base e n : Nat} {g : Nat} {bs : List Value} {fr : Nat → Bool} (ho : w.ownsRow base e 1 (.slice (some ⟨g, 0, none⟩) n n) n bs) (hb : ∀ x, x < n → bs[x]? = some (.bool (fr x))) : BoolsV w w.heap.size (.slice (some ⟨g, 0, none⟩) n n) ((List.range n).map fr) := by
  refine ⟨some ⟨g, 0, none⟩, n, by simp, by simpa using own_max ho, fun i x hx => ⟨g, 0, rfl, (ho.lt g rfl).2, ?_⟩⟩
  rw [List.getElem?_map, Option.map_eq_some_iff] at hx
  obtain ⟨y, hy, rfl⟩ := hx
  have hi : i < n := by have := (List.getElem?_eq_some_iff.1 hy).1; simpa using this
  rw [List.getElem?_range hi] at hy
  cases hy
  rw [Nat.zero_add, ho.cellAt i (by omega)]
  exact hb i hi
theorem range_any (fr : Nat → Bool) (r : Nat) : (List.range (r + 1)).any fr = ((List.range r).any fr || fr r) := by
  rw [List.range_succ, List.any_append]
  simp

set_option maxRecDepth 100000 in
set_option maxHeartbeats 40000000 in
theorem RFind_few (len bef aft : Int) (rolesV daysV : Value) (roles : List (List Int)) (days : List (List (Nat → Nat))) (w : World) (hd : Sl.Masks2V w w.heap.size daysV days) (hr : Sl.Ints2V w w.heap.size rolesV roles) (h30 : days.length ≤ 30) (hlen1 : -9223372036854775808 ≤ len) (hlen2 : len ≤ 9223372036854775807) (hby : ∀ d ∈ days, d.length * 184 ≤ 140737488351232) :
    Calls Try.prog 25 #[.agg #[.int .i64 len, .int .i64 bef, .int .i64 aft, rolesV], daysV] w (FindPost len bef aft roles days w) := by
  obtain ⟨A, cap, rfl, hl, hc⟩ := hd
  replace hc := Lib.hid hc
  replace hr := Lib.hid hr
  replace hby := Lib.hid hby
  have g : decide ((30 : Int) < (days.length : Int)) = false := by simp; omega
  replace h30 := Lib.hid h30
  go_enter Try.func25, Try.ntmps25
  go_wp2
  clear g
  go_loopg [27] days.length (fun n k wr => ∃ j : Nat, j ≤ days.length ∧ n = days.length - j ∧ k = .int .i64 j ∧ wrongDays len bef aft roles (days.drop j) = wrongDays len bef aft roles days ∧ Below w.heap.size w wr ∧ w.heap.size + 1 < wr.heap.size ∧
    Blk wr w.heap.size 36 #[.int .i64 len, .int .i64 bef, .int .i64 aft, rolesV] ∧ Blk wr (w.heap.size + 1) 40 #[.int .i64 0, .int .i64 0, .slice none 0 0])
  case atStart => exact ⟨0, by omega, rfl, rfl, rfl, (by repeat (first | exact Below.refl _ _ | assumption | refine Below.n _ ?_ (by first | omega | (simp; done) | (simp; omega)) | refine Below.alloc ?_ (by first | omega | (simp; done) | (simp; omega)) _ | refine Below.setCell ?_ (by first | omega | (simp; done) | (simp; omega)) _ | refine Below.drew ?_ | refine Below.setRow ?_ (by first | omega | (simp; done) | (simp; omega)) _ | refine Below.drewN ?_ _)), by simp, (Blk.new _ _ _).alloc _, by simpa using Blk.new (w.alloc (.cells #[.int .i64 len, .int .i64 bef, .int .i64 aft, rolesV] 36)) 40 #[.int .i64 0, .int .i64 0, .slice none 0 0]⟩
  case round =>
    obtain ⟨j, hj, hn, rfl, hwd, hb, hsz, B0, B1⟩ := hrel
    replace hn := Lib.hid hn
    replace hwd := Lib.hid hwd
    have k0 : wr.cell? ⟨w.heap.size, 0, none⟩ = some (.int .i64 len) := B0.cell 0
    have k1 : wr.cell? ⟨w.heap.size, 1, none⟩ = some (.int .i64 bef) := B0.cell 1
    have k2 : wr.cell? ⟨w.heap.size, 2, none⟩ = some (.int .i64 aft) := B0.cell 2
    have k3 : wr.cell? ⟨w.heap.size, 3, none⟩ = some rolesV := B0.cell 3
    by_cases hlt : j < days.length
    · obtain ⟨d, hx⟩ : ∃ d, days[j]? = some d := ⟨_, List.getElem?_eq_getElem hlt⟩
      obtain ⟨b3, o3, rfl, hb3, u, c3, A4, cap4, rfl, hl4, hc4⟩ := hc.out j d hx
      have d3 : wr.cell? ⟨b3, o3 + j, none⟩ = some (.slice A4 d.length cap4) := (hb.cell (p := ⟨b3, _, none⟩) hb3).trans c3
      have hst := Lib.hid (wrongDays_at len bef aft roles hx)
      have z := hb.size
      have hcw := Lib.hid (RWrong_any len bef aft d.length rolesV roles wr hlen1 hlen2 (hr.out.below hb (Nat.le_refl _) z))
      clear c3 hx
      replace hc4 := Lib.hid hc4
      have s0 : wr.cell? ⟨w.heap.size + 1, 0, none⟩ = some (.int .i64 0) := B1.cell 0
      have s1 : wr.cell? ⟨w.heap.size + 1, 1, none⟩ = some (.int .i64 0) := B1.cell 1
      have s2 : wr.cell? ⟨w.heap.size + 1, 2, none⟩ = some (.slice none 0 0) := B1.cell 2
      have t0 : wr.frozen? ⟨w.heap.size + 1, 0, none⟩ = false := B1.frozen 0
      have t1 : wr.frozen? ⟨w.heap.size + 1, 1, none⟩ = false := B1.frozen 1
      have t2 : wr.frozen? ⟨w.heap.size + 1, 2, none⟩ = false := B1.frozen 2
      by_cases he : wrongI len bef aft roles d.length = 0
      · have hwd2 := Lib.hid (show wrongDays len bef aft roles (days.drop (j + 1)) = wrongDays len bef aft roles days by rw [← hwd.out, hst.out, if_pos he])
        rw [he] at hcw
        clear he hst
        go_wp2_with (go_at_call 27; refine hcw.out.mono ?_; rintro e w1 ⟨rfl, hb1⟩; obtain ⟨n1, rfl⟩ := After.of hb1)
        go_roundg (days.length - (j + 1))
        case measure => rw [hn.out]; omega
        case rel => exact ⟨j + 1, by omega, rfl, by go_num, hwd2.out, (by repeat (first | exact Below.refl _ _ | assumption | refine Below.n _ ?_ (by first | omega | (simp; done) | (simp; omega)) | refine Below.alloc ?_ (by first | omega | (simp; done) | (simp; omega)) _ | refine Below.setCell ?_ (by first | omega | (simp; done) | (simp; omega)) _ | refine Below.drew ?_ | refine Below.setRow ?_ (by first | omega | (simp; done) | (simp; omega)) _ | refine Below.drewN ?_ _)), by have := n1.size; omega, B0.below n1.below (by omega), B1.below n1.below hsz⟩
      · have hwd2 := Lib.hid (show wrongDays len bef aft roles days = wrongI len bef aft roles d.length by rw [← hwd.out, hst.out, if_neg he])
        have g : (wrongI len bef aft roles d.length != 0) = true := by simpa using he
        replace he := Lib.hid he
        clear hst
        go_wp2_with (go_at_call 27; refine hcw.out.mono ?_; rintro e w1 ⟨rfl, hb1⟩; obtain ⟨n1, rfl⟩ := After.of hb1; have z1 := n1.size)
        have E := (((B1.below n1.below hsz).set 0 (.int .i64 0)).set 1 (.int .i64 0)).set 2 (.slice none 0 0)
        have e0 := (E.cell 0).trans (show _ = some (Value.int .i64 0) from rfl)
        have e1 := (E.cell 1).trans (show _ = some (Value.int .i64 0) from rfl)
        have e2 := (E.cell 2).trans (show _ = some (Value.slice none 0 0) from rfl)
        exact bodyPost_ret (v := .tuple #[slotV 0 0 (.slice none 0 0), .int .i64 (wrongI len bef aft roles d.length)]) (by simp [results, Try.results25, e0, e1, e2, go_sem, slotV]) rfl ⟨(by repeat (first | exact Below.refl _ _ | assumption | refine Below.n _ ?_ (by first | omega | (simp; done) | (simp; omega)) | refine Below.alloc ?_ (by first | omega | (simp; done) | (simp; omega)) _ | refine Below.setCell ?_ (by first | omega | (simp; done) | (simp; omega)) _ | refine Below.drew ?_ | refine Below.setRow ?_ (by first | omega | (simp; done) | (simp; omega)) _ | refine Below.drewN ?_ _)), .inr (.inl ⟨h30.out, by rw [hwd2.out]; exact he.out, by rw [hwd2.out]⟩)⟩
    · obtain rfl : j = days.length := by omega
      have hw0 : wrongDays len bef aft roles days = 0 := by rw [← hwd.out, List.drop_length]; rfl
      have hok := wrongDays_ok len bef aft roles days hw0
      replace hw0 := Lib.hid hw0
      have s0 : wr.cell? ⟨w.heap.size + 1, 0, none⟩ = some (.int .i64 0) := B1.cell 0
      have s1 : wr.cell? ⟨w.heap.size + 1, 1, none⟩ = some (.int .i64 0) := B1.cell 1
      have s2 : wr.cell? ⟨w.heap.size + 1, 2, none⟩ = some (.slice none 0 0) := B1.cell 2
      have t0 : wr.frozen? ⟨w.heap.size + 1, 0, none⟩ = false := B1.frozen 0
      have t1 : wr.frozen? ⟨w.heap.size + 1, 1, none⟩ = false := B1.frozen 1
      have t2 : wr.frozen? ⟨w.heap.size + 1, 2, none⟩ = false := B1.frozen 2
      clear hwd hn hj hlt
      by_cases h0 : days.length = 0
      · have hod0 := Lib.hid (show overDays len bef aft roles 0 days = none by rw [List.eq_nil_of_length_eq_zero h0]; rfl)
        rw [h0]
        go_wp2
        go_loopg [42] 0 (fun n k wr2 => n = 0 ∧ k = .int .i64 0 ∧ wr2 = wr)
        case atStart => exact ⟨rfl, rfl, rfl⟩
        case round =>
          obtain ⟨_, rfl, rfl⟩ := hrel
          go_wp2
          have E := ((B1.set 0 (.int .i64 0)).set 1 (.int .i64 0)).set 2 (.slice none 0 0)
          have e0 := (E.cell 0).trans (show _ = some (Value.int .i64 0) from rfl)
          have e1 := (E.cell 1).trans (show _ = some (Value.int .i64 0) from rfl)
          have e2 := (E.cell 2).trans (show _ = some (Value.slice none 0 0) from rfl)
          exact bodyPost_ret (v := .tuple #[slotV 0 0 (.slice none 0 0), .int .i64 11]) (by simp [results, Try.results25, e0, e1, e2, go_sem, slotV]) rfl ⟨(by repeat (first | exact Below.refl _ _ | assumption | refine Below.n _ ?_ (by first | omega | (simp; done) | (simp; omega)) | refine Below.alloc ?_ (by first | omega | (simp; done) | (simp; omega)) _ | refine Below.setCell ?_ (by first | omega | (simp; done) | (simp; omega)) _ | refine Below.drew ?_ | refine Below.setRow ?_ (by first | omega | (simp; done) | (simp; omega)) _ | refine Below.drewN ?_ _)), .inr (.inr (.inl ⟨h30.out, hw0.out, hod0.out, rfl⟩))⟩
      · obtain ⟨dd, hdd⟩ : ∃ d, days[0]? = some d := ⟨_, List.getElem?_eq_getElem (by omega)⟩
        obtain ⟨hm, hr1, hr4, hrx⟩ := wrongI_ok (hok dd (List.mem_of_getElem? hdd))
        have hr8 := Lib.hid (wrongI_len (hok dd (List.mem_of_getElem? hdd)))
        clear hrx hdd dd
        unfold badM at hm
        have q1 : 1 ≤ len ∧ 0 ≤ bef ∧ 0 ≤ aft ∧ bef + len + aft ≤ 1440 := by omega
        obtain ⟨q1, q2, q3, q4⟩ := q1
        clear hm
        replace hok := Lib.hid hok
        obtain ⟨i5, hi5, hz5, hs5, hy5⟩ := info_parts info_bools
        obtain ⟨i6, hi6, hz6, hs6, hy6⟩ := info_parts info_bool
        replace hi5 := Lib.hid hi5
        replace hz5 := Lib.hid hz5
        replace hs5 := Lib.hid hs5
        replace hi6 := Lib.hid hi6
        replace hz6 := Lib.hid hz6
        replace hs6 := Lib.hid hs6
        go_wp2
        obtain ⟨wo, rfl⟩ : ∃ wo : World, wo = wr := ⟨_, rfl⟩
        clear k0 k1 k2 k3 s0 s1 s2 t0 t1 t2
        go_loopg [42] days.length (fun n k wr => ∃ j : Nat, j ≤ days.length ∧ n = days.length - j ∧ k = .int .i64 j ∧ overDays len bef aft roles j (days.drop j) = overDays len bef aft roles 0 days ∧ Below w.heap.size w wr ∧ w.heap.size + 1 < wr.heap.size ∧
          Blk wr w.heap.size 36 #[.int .i64 len, .int .i64 bef, .int .i64 aft, rolesV] ∧ Blk wr (w.heap.size + 1) 40 #[.int .i64 0, .int .i64 0, .slice none 0 0])
        case atStart => exact ⟨0, by omega, rfl, rfl, rfl, hb, hsz, B0, B1⟩
        case round =>
          clear hb hsz B0 B1
          obtain ⟨j, hj, hn, rfl, hod, hb, hsz, B0, B1⟩ := hrel
          replace hn := Lib.hid hn
          replace hod := Lib.hid hod
          by_cases hlt : j < days.length
          · obtain ⟨d, hx⟩ : ∃ d, days[j]? = some d := ⟨_, List.getElem?_eq_getElem hlt⟩
            obtain ⟨b3, o3, rfl, hb3, u, c3, A4, cap4, rfl, hl4, hc4⟩ := hc.out j d hx
            have d3 : wr.cell? ⟨b3, o3 + j, none⟩ = some (.slice A4 d.length cap4) := (hb.cell (p := ⟨b3, _, none⟩) hb3).trans c3
            have hst := Lib.hid (overDays_at len bef aft roles hx)
            have hwi := wrongI_ok (hok.out d (List.mem_of_getElem? hx))
            have hpb := Lib.hid hwi.2.2.2
            have hdl := hby.out d (List.mem_of_getElem? hx)
            clear hwi c3 hx
            replace hc4 := Lib.hid hc4
            obtain ⟨wa, hwa⟩ : ∃ wa : World, wa = wr := ⟨_, rfl⟩
            subst hwa
            go_wp2_with (at_make; refine wpList_make_full _ rfl _ _ 62 rfl wa.heap.size 63 i5 _ 1 Try.underlying62 hi5.out hz5.out hs5.out .i64 .i64 _ _ d.length rfl rfl rfl rfl (by rw [hy5]; omega) (by simp only [maxLen]; omega) (Nat.le_refl _) ?_; intro w1 ho1 hg1)
            have bw1 : Below wa.heap.size wa w1 := (Below.refl _ _).grown hg1 (Nat.le_refl _) (by simp)
            have hs1 : wa.heap.size < w1.heap.size := (ho1.lt _ rfl).2
            have hcs1 : ((madeCells (Value.slice none 0 0).cells (d.length * 1)).toList).length = d.length := by have := ho1.1; omega
            replace ho1 := Lib.hid ho1
            generalize (madeCells (Value.slice none 0 0).cells (d.length * 1)).toList = cs1 at *
            clear hg1
            go_loopg [52] d.length (fun q k wq => ∃ (r : Nat) (cs : List Value), r ≤ d.length ∧ q = d.length - r ∧ k = .int .i64 r ∧ Hid (wq.ownsRow wa.heap.size 63 1 (.slice (some ⟨wa.heap.size, 0, none⟩) d.length d.length) d.length cs) ∧ wa.heap.size < wq.heap.size ∧ Below wa.heap.size wa wq ∧ Hid (CouldV wq wq.heap.size wa.heap.size r d (bef + len + aft)))
            case atStart => exact ⟨0, cs1, by omega, rfl, rfl, ho1, hs1, bw1, Lib.hid fun i f hi => by omega⟩
            case round =>
              clear bw1 hs1 ho1 hcs1
              obtain ⟨r, cs, hr0, hq, rfl, hoC, hzC, hbC, hCV⟩ := hrel
              replace hq := Lib.hid hq
              obtain ⟨wb, hwb⟩ : ∃ wb : World, wb = wr := ⟨_, rfl⟩
              subst hwb
              by_cases hrl : r < d.length
              · obtain ⟨f, hf⟩ : ∃ f, d[r]? = some f := ⟨_, List.getElem?_eq_getElem hrl⟩
                obtain ⟨b5, o5, rfl, hb5, c5, hok5⟩ := hc4.out r f hf
                have hbw : Below w.heap.size w wb := hb.trans (hbC.mono (by omega))
                replace c5 : cellsAt wb b5 (o5 + r * 23) 23 = some (Msk.maskA f) := (cellsAt_congr fun j _ => hbw.cell (p := ⟨b5, _, none⟩) hb5).trans c5
                replace hf := Lib.hid hf
                replace hok5 := Lib.hid hok5
                obtain ⟨v0, hv0⟩ : ∃ v0, cs[r]? = some v0 := ⟨_, List.getElem?_eq_getElem (by have := hoC.out.1; omega)⟩
                replace hv0 := Lib.hid hv0
                go_wp2_with (at_make; refine wpList_make_full _ rfl _ _ 63 rfl (wb.heap.size + 1) 4 i6 _ 1 Try.underlying63 hi6.out hz6.out hs6.out .i64 .i64 _ _ 1441 rfl rfl rfl rfl (by rw [hy6]; omega) (by simp only [maxLen]; omega) (by simp) ?_; intro w3 ho3 hg3; have b3' : Below wb.heap.size wb w3 := Below.grown (a := wb) (w := (wb.alloc (.cells (Msk.maskA fun _ => 0) 52)).setRow wb.heap.size (Msk.maskA f)) (by repeat (first | exact Below.refl _ _ | assumption | refine Below.n _ ?_ (by first | omega | (simp; done) | (simp; omega)) | refine Below.alloc ?_ (by first | omega | (simp; done) | (simp; omega)) _ | refine Below.setCell ?_ (by first | omega | (simp; done) | (simp; omega)) _ | refine Below.drew ?_ | refine Below.setRow ?_ (by first | omega | (simp; done) | (simp; omega)) _ | refine Below.drewN ?_ _)) hg3 (by simp) (by simp); have hoD := own_below hoC.out b3' (Nat.le_refl _); have y1 := hoD.cellAt r (by omega); rw [hv0.out] at y1; have y2 := hoD.frozenAt r)
                have hW0 : ((wb.alloc (.cells (Msk.maskA fun _ => 0) 52)).setRow wb.heap.size (Msk.maskA f)).heap.size = wb.heap.size + 1 := by simp
                rw [hW0] at ho3
                have hz3 := (ho3.lt _ rfl).2
                have hM := (((Blk.new wb 52 (Msk.maskA fun _ => 0)).setRow (Msk.maskA f)).below ((Below.refl _ _).grown hg3 (Nat.le_refl _) (by simp)) (by simp)).far (p := ⟨wa.heap.size, r, none⟩) (by simp; omega) (.slice (some ⟨wb.heap.size + 1, 0, none⟩) 1441 1441)
                have hCV3 := Lib.hid ((hCV.out.below b3' (Nat.le_refl _) hzC).wide (show wb.heap.size ≤ wb.heap.size + 1 by omega))
                have hb4 : Below wa.heap.size wa (w3.setCell ⟨wa.heap.size, r, none⟩ (.slice (some ⟨wb.heap.size + 1, 0, none⟩) 1441 1441)) := Below.setCell (hbC.trans (b3'.mono (by omega))) (Nat.le_refl _) _
                have hG := own_set (p := ⟨wa.heap.size, r, none⟩) (u := .slice (some ⟨wb.heap.size + 1, 0, none⟩) 1441 1441) ho3 (by simp; omega)
                have hoC4 := (hoD.stored r (.slice (some ⟨wb.heap.size + 1, 0, none⟩) 1441 1441)).1
                have y3 := hoC4.cellAt r (by omega)
                rw [List.getElem?_set_self (by have := hoC.out.1; omega)] at y3
                have hS := B0.below hb4 (by omega)
                have hz4 : wb.heap.size + 1 < (w3.setCell ⟨wa.heap.size, r, none⟩ (.slice (some ⟨wb.heap.size + 1, 0, none⟩) 1441 1441)).heap.size := by simpa using hz3
                have hnx := Lib.hid (fun wq (h1 : Below (wb.heap.size + 1) (w3.setCell ⟨wa.heap.size, r, none⟩ (.slice (some ⟨wb.heap.size + 1, 0, none⟩) 1441 1441)) wq) h2 h3 => CouldV.next (wq := wq) hCV3.out hoD hrl hf.out (by omega) h1 h2 h3)
                replace hoC4 := Lib.hid hoC4
                replace hG := Lib.hid hG
                generalize (madeCells (Value.bool false).cells (1441 * 1)).toList = bs0 at *
                clear hoD y1 y2 ho3 hg3 hW0 hCV3 hz3 b3' c5
                generalize w3.setCell ⟨wa.heap.size, r, none⟩ (.slice (some ⟨wb.heap.size + 1, 0, none⟩) 1441 1441) = w4 at *
                go_loopg [14, 15] 1440 (fun q rn ii wq => ∃ (c : Nat) (bs : List Value), c ≤ 1440 ∧ q = 1440 - c ∧ ii = .int .i64 (1439 - c) ∧ rn = .int .i64 (runF f c (1440 - c) : Nat) ∧ Hid (wq.ownsRow (wb.heap.size + 1) 4 1 (.slice (some ⟨wb.heap.size + 1, 0, none⟩) 1441 1441) 1441 bs) ∧ Below (wb.heap.size + 1) w4 wq ∧ wb.heap.size + 1 < wq.heap.size ∧
                  Hid (∀ i, 1440 - c ≤ i → i < 1440 → bs[i]? = some (.bool (couldB f (bef + len + aft) i))))
                case atStart => exact ⟨0, bs0, by omega, rfl, rfl, by simp [runF], hG, Below.refl _ _, hz4, Lib.hid fun i h1 h2 => by omega⟩
                case round =>
                  obtain ⟨c, bs, hc0, hq5, rfl, rfl, hoG, hb5, hz5, hbs⟩ := hrel
                  replace hq5 := Lib.hid hq5
                  by_cases hcl : c < 1440
                  · obtain ⟨ix, hix, hii⟩ : ∃ ix : Nat, ix + c = 1439 ∧ (1439 - (c : Int)) = ix := ⟨1439 - c, by omega, by omega⟩
                    have hx1 : 1440 - (c + 1) = ix := by omega
                    have hS5 := hS.below hb5 (by omega)
                    have k0 : wr.cell? ⟨w.heap.size, 0, none⟩ = some (.int .i64 len) := hS5.cell 0
                    have k1 : wr.cell? ⟨w.heap.size, 1, none⟩ = some (.int .i64 bef) := hS5.cell 1
                    have k2 : wr.cell? ⟨w.heap.size, 2, none⟩ = some (.int .i64 aft) := hS5.cell 2
                    have k4 : wr.cell? ⟨wa.heap.size, r, none⟩ = some (.slice (some ⟨wb.heap.size + 1, 0, none⟩) 1441 1441) := (hb5.cell (p := ⟨wa.heap.size, r, none⟩) (by simp; omega)).trans y3
                    have k5 := Msk.blk_cells (hM.below hb5 (by omega))
                    have hbl : bs.length = 1441 := by have := hoG.out.1; omega
                    obtain ⟨v7, hv7⟩ : ∃ v7, bs[ix]? = some v7 := ⟨_, List.getElem?_eq_getElem (by omega)⟩
                    have k6 := hoG.out.cellAt ix (by omega)
                    rw [hv7] at k6
                    have k7 := hoG.out.frozenAt ix
                    have hrle := runF_le f c (1440 - c)
                    have hbw5 : w.heap.size + 1 < wr.heap.size ∧ wb.heap.size < wr.heap.size ∧ wa.heap.size < wr.heap.size := by omega
                    obtain ⟨z8, z9, z10⟩ := hbw5
                    rw [hii]
                    cases hh : Msk.has f ix with
                    | true =>
                      have ch := Lib.hid (fun W => show Calls Try.prog 35 #[.agg (Msk.maskA f), .int .i64 (ix : Nat)] W (fun e w' => e = .returned (.bool true) ∧ Below W.heap.size W w') from by have := Msk.Has_any f ix W hok5.out; rwa [Msk.hasI_nat, hh] at this)
                      have hrun := Lib.hid (show runF f (c + 1) (1440 - (c + 1)) = runF f c (1440 - c) + 1 by rw [runF_step f hcl, show 1439 - c = ix by omega, hh]; rfl)
                      have hcb := Lib.hid (show decide (bef + len + aft ≤ (runF f c (1440 - c) : Nat) + 1) = couldB f (bef + len + aft) ix from by unfold couldB; rw [show 1440 - ix = c + 1 by omega, ← hx1, hrun.out]; simp)
                      clear hh
                      go_wp2_with (go_at_call 35; refine (ch.out _).mono ?_; rintro e w6 ⟨rfl, hb6⟩; obtain ⟨n6, rfl⟩ := After.of hb6; have z6 := n6.size)
                      refine wp_region_below_tail 16 (n6.w.heap.size) _ (Below.refl _ _) (by kernel_rfl) (by kernel_rfl) ?_
                      simp only [List.take_succ_cons, List.take_zero, List.drop_succ_cons, List.drop_zero]
                      iterate 16 (go_big_quiet_step ((fail)))
                      refine wpQuiet_nil ?_
                      rintro _ ⟨n7, rfl⟩
                      change wpList _ _ _ _ _ _
                      have z7 := n7.size
                      go_wp2
                      go_roundg (1440 - (c + 1))
                      case measure => rw [hq5.out]; omega
                      case rel =>
                        refine ⟨c + 1, bs.set ix (.bool (couldB f (bef + len + aft) ix)), by omega, rfl, by go_num, by rw [hrun.out]; simp, Lib.hid ?_, Below.setCell (hb5.trans ((n6.below.mono (by omega)).trans (n7.below.mono (by omega)))) (Nat.le_refl _) _, by simp; omega, Lib.hid fun i h1 h2 => ?_⟩
                        · rw [← hcb.out]
                          have := ((own_below (own_below hoG.out n6.below (Nat.le_refl _)) n7.below (Nat.le_refl _)).stored ix (.bool (decide (bef + len + aft ≤ (runF f c (1440 - c) : Nat) + 1)))).1
                          exact this
                        · rw [List.getElem?_set]
                          by_cases e : ix = i
                          · subst e; rw [if_pos rfl, if_pos (by omega)]
                          · rw [if_neg e]; exact hbs.out i (by omega) h2
                    | false =>
                      have ch := Lib.hid (fun W => show Calls Try.prog 35 #[.agg (Msk.maskA f), .int .i64 (ix : Nat)] W (fun e w' => e = .returned (.bool false) ∧ Below W.heap.size W w') from by have := Msk.Has_any f ix W hok5.out; rwa [Msk.hasI_nat, hh] at this)
                      have hrun := Lib.hid (show runF f (c + 1) (1440 - (c + 1)) = 0 by rw [runF_step f hcl, show 1439 - c = ix by omega, hh]; rfl)
                      have hcb := Lib.hid (show decide (bef + len + aft ≤ 0) = couldB f (bef + len + aft) ix from by unfold couldB; rw [show 1440 - ix = c + 1 by omega, ← hx1, hrun.out]; simp)
                      clear hh
                      go_wp2_with (go_at_call 35; refine (ch.out _).mono ?_; rintro e w6 ⟨rfl, hb6⟩; obtain ⟨n6, rfl⟩ := After.of hb6; have z6 := n6.size)
                      refine wp_region_below_tail 16 (n6.w.heap.size) _ (Below.refl _ _) (by kernel_rfl) (by kernel_rfl) ?_
                      simp only [List.take_succ_cons, List.take_zero, List.drop_succ_cons, List.drop_zero]
                      iterate 16 (go_big_quiet_step ((fail)))
                      refine wpQuiet_nil ?_
                      rintro _ ⟨n7, rfl⟩
                      change wpList _ _ _ _ _ _
                      have z7 := n7.size
                      go_wp2
                      go_roundg (1440 - (c + 1))
                      case measure => rw [hq5.out]; omega
                      case rel =>
                        refine ⟨c + 1, bs.set ix (.bool (couldB f (bef + len + aft) ix)), by omega, rfl, by go_num, by rw [hrun.out]; simp, Lib.hid ?_, Below.setCell (hb5.trans ((n6.below.mono (by omega)).trans (n7.below.mono (by omega)))) (Nat.le_refl _) _, by simp; omega, Lib.hid fun i h1 h2 => ?_⟩
                        · rw [← hcb.out]
                          have := ((own_below (own_below hoG.out n6.below (Nat.le_refl _)) n7.below (Nat.le_refl _)).stored ix (.bool (decide (bef + len + aft ≤ 0)))).1
                          exact this
                        · rw [List.getElem?_set]
                          by_cases e : ix = i
                          · subst e; rw [if_pos rfl, if_pos (by omega)]
                          · rw [if_neg e]; exact hbs.out i (by omega) h2
                  · obtain rfl : c = 1440 := by omega
                    go_wp2
                    go_roundg (d.length - (r + 1))
                    case measure => rw [hq.out]; omega
                    case rel =>
                      refine ⟨r + 1, _, by omega, rfl, by go_num, Lib.hid (own_low hoC4.out hb5 (fun g hg => by simp [Value.ownBlock] at hg; omega)), by omega, hb4.trans (hb5.mono (by omega)), Lib.hid (hnx.out wr hb5 hz5 fun i hi => ?_)⟩
                      rw [hoG.out.cellAt i (by omega)]
                      exact hbs.out i (by omega) hi
              · obtain rfl : r = d.length := by omega
                have hS := B0.below hbC (by omega)
                have hL := B1.below hbC hsz
                have hbw : Below w.heap.size w wb := hb.trans (hbC.mono (by omega))
                have k1 : wb.cell? ⟨w.heap.size, 1, none⟩ = some (.int .i64 bef) := hS.cell 1
                go_wp2
                clear k1 hoC hq d3
                go_loopg [16] (1440 - bef).toNat (fun q k wq => ∃ mi : Nat, bef + mi ≤ 1440 ∧ q = (1440 - (bef + mi)).toNat ∧ k = .int .i64 (bef + mi) ∧ Hid (dayFrom len bef aft roles d (1441 - (bef + mi)).toNat (bef + mi) = dayFrom len bef aft roles d (1441 - bef).toNat bef) ∧ Below wb.heap.size wb wq)
                case atStart => exact ⟨0, by omega, by simp, by simp, Lib.hid (by simp), Below.refl _ _⟩
                case round =>
                  obtain ⟨mi, hm0, hq, rfl, hdf, hbE⟩ := hrel
                  replace hq := Lib.hid hq
                  obtain ⟨we, hwe⟩ : ∃ we : World, we = wr := ⟨_, rfl⟩
                  subst hwe
                  have hze := hbE.size
                  have hSe := hS.below hbE (by omega)
                  have hLe := hL.below hbE (by omega)
                  by_cases hml : bef + mi < 1440
                  · have g1 : decide (bef + (mi : Int) < 1440) = true := by simpa using hml
                    go_wp2_with (at_make; refine wpList_make_full _ rfl _ _ 63 rfl we.heap.size 4 i6 _ 1 Try.underlying63 hi6.out hz6.out hs6.out .i64 .i64 _ _ d.length rfl rfl rfl rfl (by rw [hy6]; omega) (by simp only [maxLen]; omega) (Nat.le_refl _) ?_; intro w5 ho5 hg5)
                    have b5 : Below we.heap.size we w5 := (Below.refl _ _).grown hg5 (Nat.le_refl _) (by simp)
                    have hz5 := (ho5.lt _ rfl).2
                    have hCe := Lib.hid (hCV.out.below (hbE.trans (b5.mono hze)) (Nat.le_refl _) hzC)
                    have hS5 := hSe.below b5 (by omega)
                    have hL5 := hLe.below b5 (by omega)
                    obtain ⟨fr, hfr⟩ : ∃ fr : Nat → Bool, fr = fun x => freeR d (bef + len + aft) mi (x : Nat) := ⟨_, rfl⟩
                    have hfr2 := Lib.hid (show ∀ x f, d[x]? = some f → fr x = couldB f (bef + len + aft) mi from fun x f hf => by rw [hfr]; unfold freeR; simp [hf])
                    replace hfr := Lib.hid hfr
                    replace ho5 := Lib.hid ho5
                    generalize (madeCells (Value.bool false).cells (d.length * 1)).toList = bs0 at *
                    clear hg5 g1
                    go_loopg [18, 99] d.length (fun q sm k wq => ∃ (r : Nat) (bs : List Value) (sb : Bool), r ≤ d.length ∧ q = d.length - r ∧ k = .int .i64 r ∧ sm = .bool sb ∧ Hid (sb = (List.range r).any fr) ∧ Hid (wq.ownsRow we.heap.size 4 1 (.slice (some ⟨we.heap.size, 0, none⟩) d.length d.length) d.length bs) ∧ Below we.heap.size w5 wq ∧ we.heap.size < wq.heap.size ∧ Hid (∀ x, x < r → bs[x]? = some (.bool (fr x))))
                    case atStart => exact ⟨0, bs0, false, by omega, rfl, rfl, rfl, Lib.hid (by simp), ho5, Below.refl _ _, hz5, Lib.hid fun x hx => by omega⟩
                    case round =>
                      obtain ⟨r, bs, sb, hr0, hq6, rfl, rfl, hsb, hoF, hb6, hz6', hbs⟩ := hrel
                      replace hq6 := Lib.hid hq6
                      have hS6 := hS5.below hb6 (by omega)
                      by_cases hrl2 : r < d.length
                      · obtain ⟨f, hf⟩ : ∃ f, d[r]? = some f := ⟨_, List.getElem?_eq_getElem hrl2⟩
                        obtain ⟨G, gG, hGB, cG, hRun⟩ := hCe.out r f hrl2 hf
                        have hfb0 := hfr2.out r f hf
                        obtain ⟨fb, hfb⟩ : ∃ fb, fb = fr r := ⟨_, rfl⟩
                        rw [← hfb] at hfb0
                        have k1 : wr.cell? ⟨w.heap.size, 1, none⟩ = some (.int .i64 bef) := hS6.cell 1
                        have kg : wr.cell? ⟨wa.heap.size, r, none⟩ = some (.slice (some ⟨G, 0, none⟩) 1441 1441) := (hb6.cell (p := ⟨wa.heap.size, r, none⟩) (by simp; omega)).trans cG
                        have km : wr.cell? ⟨G, (bef + (mi : Int) - bef).toNat, none⟩ = some (.bool fb) := by
                          rw [show (bef + (mi : Int) - bef).toNat = mi by omega]
                          exact (hb6.cell (p := ⟨G, mi, none⟩) (by simp; omega)).trans (by rw [hRun mi (by omega), hfb0])
                        have hbl : bs.length = d.length := by have := hoF.out.1; omega
                        obtain ⟨v7, hv7⟩ : ∃ v7, bs[r]? = some v7 := ⟨_, List.getElem?_eq_getElem (by omega)⟩
                        have k6 := hoF.out.cellAt r (by omega)
                        rw [hv7] at k6
                        have k7 := hoF.out.frozenAt r
                        have z8 : wa.heap.size < wr.heap.size := by omega
                        have z9 : G < wr.heap.size := by omega
                        have z10 : w.heap.size < wr.heap.size := by omega
                        have z11 : G ≠ we.heap.size ∧ mi < 1441 := by omega
                        obtain ⟨z11, z12⟩ := z11
                        replace hfb := Lib.hid hfb
                        clear hRun cG hfb0 hf hv7 B0 B1 hS hL hSe hLe hS5
                        cases fb <;> cases sb
                        · go_wp2
                          refine wp_region_below_tail 13 (wr.heap.size) _ (Below.refl _ _) (by kernel_rfl) (by kernel_rfl) ?_
                          simp only [List.take_succ_cons, List.take_zero, List.drop_succ_cons, List.drop_zero]
                          iterate 13 (go_big_quiet_step ((fail)))
                          refine wpQuiet_nil ?_
                          rintro _ ⟨n7, rfl⟩
                          change wpList _ _ _ _ _ _
                          have z7 := n7.size
                          go_wp2
                          go_roundg (d.length - (r + 1))
                          case measure => rw [hq6.out]; omega
                          case rel =>
                            refine ⟨r + 1, bs.set r (.bool false), _, by omega, rfl, by go_num, rfl, Lib.hid (by rw [range_any, ← hsb.out, ← hfb.out]; first | rfl | simp), Lib.hid ((own_below hoF.out n7.below (Nat.le_refl _)).stored r _).1, Below.setCell (hb6.trans (n7.below.mono (by omega))) (Nat.le_refl _) _, by simp; omega, Lib.hid fun x hx => ?_⟩
                            rw [List.getElem?_set]
                            by_cases e : r = x
                            · subst e; rw [if_pos rfl, if_pos (by omega), hfb.out]
                            · rw [if_neg e]; exact hbs.out x (by omega)
                        · go_wp2
                          refine wp_region_below_tail 13 (wr.heap.size) _ (Below.refl _ _) (by kernel_rfl) (by kernel_rfl) ?_
                          simp only [List.take_succ_cons, List.take_zero, List.drop_succ_cons, List.drop_zero]
                          iterate 13 (go_big_quiet_step ((fail)))
                          refine wpQuiet_nil ?_
                          rintro _ ⟨n7, rfl⟩
                          change wpList _ _ _ _ _ _
                          have z7 := n7.size
                          go_wp2
                          go_roundg (d.length - (r + 1))
                          case measure => rw [hq6.out]; omega
                          case rel =>
                            refine ⟨r + 1, bs.set r (.bool false), _, by omega, rfl, by go_num, rfl, Lib.hid (by rw [range_any, ← hsb.out, ← hfb.out]; first | rfl | simp), Lib.hid ((own_below hoF.out n7.below (Nat.le_refl _)).stored r _).1, Below.setCell (hb6.trans (n7.below.mono (by omega))) (Nat.le_refl _) _, by simp; omega, Lib.hid fun x hx => ?_⟩
                            rw [List.getElem?_set]
                            by_cases e : r = x
                            · subst e; rw [if_pos rfl, if_pos (by omega), hfb.out]
                            · rw [if_neg e]; exact hbs.out x (by omega)
                        · go_wp2
                          refine wp_region_below_tail 13 (wr.heap.size) _ (Below.refl _ _) (by kernel_rfl) (by kernel_rfl) ?_
                          simp only [List.take_succ_cons, List.take_zero, List.drop_succ_cons, List.drop_zero]
                          iterate 13 (go_big_quiet_step ((fail)))
                          refine wpQuiet_nil ?_
                          rintro _ ⟨n7, rfl⟩
                          change wpList _ _ _ _ _ _
                          have z7 := n7.size
                          go_wp2
                          go_roundg (d.length - (r + 1))
                          case measure => rw [hq6.out]; omega
                          case rel =>
                            refine ⟨r + 1, bs.set r (.bool true), _, by omega, rfl, by go_num, rfl, Lib.hid (by rw [range_any, ← hsb.out, ← hfb.out]; first | rfl | simp), Lib.hid ((own_below hoF.out n7.below (Nat.le_refl _)).stored r _).1, Below.setCell (hb6.trans (n7.below.mono (by omega))) (Nat.le_refl _) _, by simp; omega, Lib.hid fun x hx => ?_⟩
                            rw [List.getElem?_set]
                            by_cases e : r = x
                            · subst e; rw [if_pos rfl, if_pos (by omega), hfb.out]
                            · rw [if_neg e]; exact hbs.out x (by omega)
                        · go_wp2
                          refine wp_region_below_tail 13 (wr.heap.size) _ (Below.refl _ _) (by kernel_rfl) (by kernel_rfl) ?_
                          simp only [List.take_succ_cons, List.take_zero, List.drop_succ_cons, List.drop_zero]
                          iterate 13 (go_big_quiet_step ((fail)))
                          refine wpQuiet_nil ?_
                          rintro _ ⟨n7, rfl⟩
                          change wpList _ _ _ _ _ _
                          have z7 := n7.size
                          go_wp2
                          go_roundg (d.length - (r + 1))
                          case measure => rw [hq6.out]; omega
                          case rel =>
                            refine ⟨r + 1, bs.set r (.bool true), _, by omega, rfl, by go_num, rfl, Lib.hid (by rw [range_any, ← hsb.out, ← hfb.out]; first | rfl | simp), Lib.hid ((own_below hoF.out n7.below (Nat.le_refl _)).stored r _).1, Below.setCell (hb6.trans (n7.below.mono (by omega))) (Nat.le_refl _) _, by simp; omega, Lib.hid fun x hx => ?_⟩
                            rw [List.getElem?_set]
                            by_cases e : r = x
                            · subst e; rw [if_pos rfl, if_pos (by omega), hfb.out]
                            · rw [if_neg e]; exact hbs.out x (by omega)
                      · obtain rfl : r = d.length := by omega
                        have hwr : w.heap.size ≤ wr.heap.size := by omega
                        have hbR : Below w.heap.size w wr := hbw.trans ((hbE.trans ((b5.mono hze).trans (hb6.mono hze))).mono hbw.size)
                        have hL6 := hL5.below hb6 (by omega)
                        have hbER : Below wb.heap.size wb wr := hbE.trans ((b5.mono hze).trans (hb6.mono hze))
                        clear B0 B1 hS hL hSe hLe hS5 hL5
                        cases sb with
                        | false =>
                          have hat : atMin len bef aft roles d (bef + mi) = none := atMin_free (by omega) (by omega) (by intro e; rw [e] at hr1; simp at hr1) (by rw [← hfr.out]; exact hsb.out.symm)
                          have hdf2 := Lib.hid (show dayFrom len bef aft roles d (1441 - (bef + ((mi + 1 : Nat) : Int))).toNat (bef + ((mi + 1 : Nat) : Int)) = dayFrom len bef aft roles d (1441 - bef).toNat bef by
                            have h8 := day_empty (len := len) (bef := bef) (aft := aft) (roles := roles) (d := d) (m := bef + mi) (by omega) hat
                            rw [show bef + ((mi + 1 : Nat) : Int) = bef + (mi : Int) + 1 by omega, ← h8]; exact hdf.out)
                          clear hat
                          go_wp2
                          go_roundg (1440 - (bef + ((mi + 1 : Nat) : Int))).toNat
                          case measure => rw [hq.out]; omega
                          case rel => exact ⟨mi + 1, by omega, rfl, by first | go_num | (congr 1; omega), hdf2, hbER⟩
                        | true =>
                          have k3 : wr.cell? ⟨w.heap.size, 3, none⟩ = some rolesV := hS6.cell 3
                          have k1 : wr.cell? ⟨w.heap.size, 1, none⟩ = some (.int .i64 bef) := hS6.cell 1
                          have hT := Tuples_any rolesV (.slice (some ⟨we.heap.size, 0, none⟩) d.length d.length) roles ((List.range d.length).map fr) wr (hr.out.below hbR (Nat.le_refl _) hwr) (bools_of hoF.out hbs.out) hr4 hr8.out (fun p hp r hr => by rw [List.length_map, List.length_range]; exact hpb.out p hp r hr)
                          rw [hfr.out, free_list] at hT
                          have hmi := Lib.hid (atMin_mi (len := len) (bef := bef) (aft := aft) (roles := roles) (d := d) (mi := mi) (by omega) (by omega))
                          rcases hT0 : tuplesL (freeR d (bef + len + aft) mi) roles [[]] with _ | ⟨who, ts⟩
                          · rw [hT0] at hT hmi
                            have hT2 := Lib.hid (hT.mono (R' := fun e w2 => ∃ A c, e = .returned (.slice A 0 c) ∧ Below wr.heap.size wr w2) fun e w2 ⟨v, h1, h2, h3⟩ => by
                              obtain ⟨A, c, rfl, _⟩ := h3
                              exact ⟨A, c, h1, h2⟩)
                            have hat : atMin len bef aft roles d (bef + mi) = none := hmi.out
                            have hdf2 := Lib.hid (show dayFrom len bef aft roles d (1441 - (bef + ((mi + 1 : Nat) : Int))).toNat (bef + ((mi + 1 : Nat) : Int)) = dayFrom len bef aft roles d (1441 - bef).toNat bef by
                              have h8 := day_empty (len := len) (bef := bef) (aft := aft) (roles := roles) (d := d) (m := bef + mi) (by omega) hat
                              rw [show bef + ((mi + 1 : Nat) : Int) = bef + (mi : Int) + 1 by omega, ← h8]; exact hdf.out)
                            clear hat hT hmi hT0
                            go_wp2_with (go_at_call 36; refine hT2.out.mono ?_; rintro e w8 ⟨A8, c8, rfl, hb8⟩; obtain ⟨n8, rfl⟩ := After.of hb8; have z8 := n8.size)
                            go_roundg (1440 - (bef + ((mi + 1 : Nat) : Int))).toNat
                            case measure => rw [hq.out]; omega
                            case rel => exact ⟨mi + 1, by omega, rfl, by first | go_num | (congr 1; omega), hdf2, hbER.trans (n8.below.mono hbER.size)⟩
                          · rw [hT0] at hT hmi
                            have hT2 := Lib.hid (hT.mono (R' := fun e w2 => ∃ n b o c A9 c9, 0 < n ∧ e = .returned (.slice (some ⟨b, o, none⟩) n c) ∧ b < w2.heap.size ∧ w2.cell? ⟨b, o, none⟩ = some (.slice A9 who.length c9) ∧ w2.ownsRow wr.heap.size 3 1 (.slice A9 who.length c9) who.length (who.map (Value.int .i64)) ∧ Below wr.heap.size wr w2) fun e w2 ⟨v, h1, h2, h3⟩ => by
                              obtain ⟨A, c, rfl, _, h4⟩ := h3
                              obtain ⟨b, o, rfl, h5, u, h6, h7⟩ := h4 0 who rfl
                              obtain ⟨A9, c9, rfl⟩ := own_slice h7
                              exact ⟨_, b, o, c, A9, c9, by simp, h1, h5, h6, h7, h2⟩)
                            have hod2 := Lib.hid (show overDays len bef aft roles 0 days = some (j, bef + mi, who) by
                              rw [← hod.out, hst.out, ← hdf.out, day_found (by omega) (by intro e; rw [e] at hr1; simp at hr1) hmi.out])
                            clear hT hmi hT0
                            have s0 : wr.cell? ⟨w.heap.size + 1, 0, none⟩ = some (.int .i64 0) := hL6.cell 0
                            have s1 : wr.cell? ⟨w.heap.size + 1, 1, none⟩ = some (.int .i64 0) := hL6.cell 1
                            have s2 : wr.cell? ⟨w.heap.size + 1, 2, none⟩ = some (.slice none 0 0) := hL6.cell 2
                            have t0 : wr.frozen? ⟨w.heap.size + 1, 0, none⟩ = false := hL6.frozen 0
                            have t1 : wr.frozen? ⟨w.heap.size + 1, 1, none⟩ = false := hL6.frozen 1
                            have t2 : wr.frozen? ⟨w.heap.size + 1, 2, none⟩ = false := hL6.frozen 2
                            have hsz6 : w.heap.size + 1 < wr.heap.size := by omega
                            go_wp2_with (go_at_call 36; refine hT2.out.mono ?_; rintro e w8 ⟨n, b8, o8, c8, A9, c9, hn8, rfl, hlt8, u8, ho8, hb8⟩; replace ho8 := Lib.hid ho8; obtain ⟨n8, rfl⟩ := After.of hb8; have z8 := n8.size)
                            have E := (((hL6.below n8.below hsz6).set 0 (.int .i64 j)).set 1 (.int .i64 (bef + mi))).set 2 (.slice A9 who.length c9)
                            have e0 := (E.cell 0).trans (show _ = some (Value.int .i64 j) from rfl)
                            have e1 := (E.cell 1).trans (show _ = some (Value.int .i64 (bef + mi)) from rfl)
                            have e2 := (E.cell 2).trans (show _ = some (Value.slice A9 who.length c9) from rfl)
                            have hR := Lib.hid (own_set (p := ⟨w.heap.size + 1, 2, none⟩) (u := .slice A9 who.length c9) (own_set (p := ⟨w.heap.size + 1, 1, none⟩) (u := .int .i64 (bef + mi)) (own_set (p := ⟨w.heap.size + 1, 0, none⟩) (u := .int .i64 j) ho8.out hsz6) hsz6) hsz6)
                            exact bodyPost_ret (v := .tuple #[slotV j (bef + mi) (.slice A9 who.length c9), .int .i64 0]) (by simp [results, Try.results25, e0, e1, e2, go_sem, slotV]) rfl ⟨(by repeat (first | exact Below.refl _ _ | assumption | refine Below.n _ ?_ (by first | omega | (simp; done) | (simp; omega)) | refine Below.alloc ?_ (by first | omega | (simp; done) | (simp; omega)) _ | refine Below.setCell ?_ (by first | omega | (simp; done) | (simp; omega)) _ | refine Below.drew ?_ | refine Below.setRow ?_ (by first | omega | (simp; done) | (simp; omega)) _ | refine Below.drewN ?_ _)), .inr (.inr (.inr ⟨h30.out, hw0.out, j, bef + mi, who, _, hod2.out, rfl, hR.out.mono hwr⟩))⟩
                  · have g1 : decide (bef + (mi : Int) < 1440) = false := by simpa using hml
                    have hdn : dayFrom len bef aft roles d (1441 - bef).toNat bef = none := by
                      rw [← hdf.out, show bef + (mi : Int) = 1440 by omega]
                      exact day_end (by omega)
                    have hod2 := Lib.hid (show overDays len bef aft roles (j + 1) (days.drop (j + 1)) = overDays len bef aft roles 0 days by rw [← hod.out, hst.out, hdn])
                    go_wp2
                    go_roundg (days.length - (j + 1))
                    case measure => rw [hn.out]; omega
                    case rel => exact ⟨j + 1, by omega, rfl, by go_num, hod2.out, hbw.trans (hbE.mono hbw.size), by omega, hSe, hLe⟩
          · obtain rfl : j = days.length := by omega
            have hod0 := Lib.hid (show overDays len bef aft roles 0 days = none by rw [← hod.out, List.drop_length]; rfl)
            have s0 : wr.cell? ⟨w.heap.size + 1, 0, none⟩ = some (.int .i64 0) := B1.cell 0
            have s1 : wr.cell? ⟨w.heap.size + 1, 1, none⟩ = some (.int .i64 0) := B1.cell 1
            have s2 : wr.cell? ⟨w.heap.size + 1, 2, none⟩ = some (.slice none 0 0) := B1.cell 2
            have t0 : wr.frozen? ⟨w.heap.size + 1, 0, none⟩ = false := B1.frozen 0
            have t1 : wr.frozen? ⟨w.heap.size + 1, 1, none⟩ = false := B1.frozen 1
            have t2 : wr.frozen? ⟨w.heap.size + 1, 2, none⟩ = false := B1.frozen 2
            go_wp2
            have E := ((B1.set 0 (.int .i64 0)).set 1 (.int .i64 0)).set 2 (.slice none 0 0)
            have e0 := (E.cell 0).trans (show _ = some (Value.int .i64 0) from rfl)
            have e1 := (E.cell 1).trans (show _ = some (Value.int .i64 0) from rfl)
            have e2 := (E.cell 2).trans (show _ = some (Value.slice none 0 0) from rfl)
            exact bodyPost_ret (v := .tuple #[slotV 0 0 (.slice none 0 0), .int .i64 11]) (by simp [results, Try.results25, e0, e1, e2, go_sem, slotV]) rfl ⟨(by repeat (first | exact Below.refl _ _ | assumption | refine Below.n _ ?_ (by first | omega | (simp; done) | (simp; omega)) | refine Below.alloc ?_ (by first | omega | (simp; done) | (simp; omega)) _ | refine Below.setCell ?_ (by first | omega | (simp; done) | (simp; omega)) _ | refine Below.drew ?_ | refine Below.setRow ?_ (by first | omega | (simp; done) | (simp; omega)) _ | refine Below.drewN ?_ _)), .inr (.inr (.inl ⟨h30.out, hw0.out, hod0.out, rfl⟩))⟩

end Mat
end Go.Proofs.Ytbaomgdkoglebaa
