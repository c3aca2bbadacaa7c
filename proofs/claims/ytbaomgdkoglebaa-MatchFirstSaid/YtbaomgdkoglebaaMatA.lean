/- The walk of slotlaw10.alive: true. -/
import Derived.Test.YtbaomgdkoglebaaMatP
import Derived.Outline
namespace Go.Proofs.Ytbaomgdkoglebaa
open Go.RowKit
namespace Mat

/-- cells laid into a row one by one -/
theorem put_list : ∀ (xs : List Value) (o s : Nat) (cs : Array Value) (j : Nat), ((xs.zipIdx s).foldl (fun (cs : Array Value) (x : Value × Nat) => cs.setIfInBounds (o + x.snd) x.fst) cs)[j]? =
    if o + s ≤ j ∧ j < o + s + xs.length ∧ j < cs.size then xs[j - (o + s)]? else cs[j]?
  | [], o, s, cs, j => by simp; intro h1 h2; omega
  | x :: xs, o, s, cs, j => by
    rw [List.zipIdx_cons, List.foldl_cons, put_list xs o (s + 1)]
    simp only [Array.size_setIfInBounds, Array.getElem?_setIfInBounds, List.length_cons]
    by_cases h1 : o + s = j
    · subst h1
      rw [if_neg (by omega), if_pos rfl]
      by_cases h2 : o + s < cs.size
      · rw [if_pos h2, if_pos ⟨by omega, by omega, h2⟩]; simp
      · rw [if_neg h2, if_neg (by omega), Array.getElem?_eq_none (by omega)]
    · rw [if_neg h1]
      by_cases h2 : o + (s + 1) ≤ j ∧ j < o + (s + 1) + xs.length ∧ j < cs.size
      · rw [if_pos h2, if_pos ⟨by omega, by omega, h2.2.2⟩, show j - (o + s) = (j - (o + (s + 1))) + 1 by omega]; simp
      · rw [if_neg h2, if_neg (by omega)]
theorem put_cells (xs : Array Value) (o n : Nat) (hn : n = xs.size) (cs : Array Value) (j : Nat) : (Array.foldl (fun (cs : Array Value) (x : Value × Nat) => cs.setIfInBounds (o + x.snd) x.fst) cs xs.zipIdx 0 n)[j]? =
    if o ≤ j ∧ j < o + xs.size ∧ j < cs.size then xs[j - o]? else cs[j]? := by
  subst hn
  have h := put_list xs.toList o 0 cs j
  have e : Array.foldl (fun (cs : Array Value) (x : Value × Nat) => cs.setIfInBounds (o + x.snd) x.fst) cs xs.zipIdx 0 xs.size = (xs.toList.zipIdx 0).foldl (fun (cs : Array Value) (x : Value × Nat) => cs.setIfInBounds (o + x.snd) x.fst) cs := by
    have := Array.foldl_toList (f := fun (cs : Array Value) (x : Value × Nat) => cs.setIfInBounds (o + x.snd) x.fst) (init := cs) (xs := xs.zipIdx)
    rw [Array.toList_zipIdx, Array.size_zipIdx] at this
    exact this.symm
  rw [e, h]
  simp
@[go_sem] theorem put_size (xs : Array Value) (o n : Nat) (hn : n = xs.size) (cs : Array Value) : (Array.foldl (fun (cs : Array Value) (x : Value × Nat) => cs.setIfInBounds (o + x.snd) x.fst) cs xs.zipIdx 0 n).size = cs.size := by
  rw [show n = xs.zipIdx.size by simpa using hn]
  apply Array.foldl_induction (motive := fun _ (a : Array Value) => a.size = cs.size) rfl
  intro i b hb
  simpa using hb
@[go_sem] theorem put_size0 (xs : Array Value) (n : Nat) (hn : n = xs.size) (cs : Array Value) : (Array.foldl (fun (cs : Array Value) (x : Value × Nat) => cs.setIfInBounds x.snd x.fst) cs xs.zipIdx 0 n).size = cs.size := by
  have := put_size xs 0 n hn cs
  simpa using this

/-- two masks laid into a row -/
theorem two_masks (f : Nat → Nat) (z : Array Value) (hz : z.size = 46) (j : Nat) :
    (Array.foldl (fun cs x => cs.setIfInBounds (23 + x.snd) x.fst) (Array.foldl (fun cs x => cs.setIfInBounds x.snd x.fst) z (Msk.maskA f).zipIdx 0 23) (Msk.maskA f).zipIdx 0 23)[j]? = if j < 46 then some (.int .u64 (f (j % 23))) else none := by
  have h0 := put_cells (Msk.maskA f) 0 23 (by rw [Msk.maskA_size]) z
  have h1 := put_size (Msk.maskA f) 0 23 (by rw [Msk.maskA_size]) z
  simp only [Nat.zero_add] at h0 h1
  rw [put_cells _ _ _ (by rw [Msk.maskA_size]), h0, h1, hz, Msk.maskA_size, Msk.maskA_get, Msk.maskA_get]
  by_cases hj : j < 46
  · by_cases h2 : 23 ≤ j
    · rw [if_pos (by omega), if_pos (by omega), if_pos hj, show j % 23 = j - 23 by omega]
    · rw [if_neg (by omega), if_pos (by omega), if_pos (by omega), if_pos hj, show j % 23 = j - 0 by omega]
  · rw [if_neg (by omega), if_neg (by omega), if_neg hj, Array.getElem?_eq_none (by omega)]

theorem masks2_lit (W : World) (cs : Array Value) (f : Nat → Nat) (hok : Sl.okW f) (hcs : ∀ j, cs[j]? = if j < 46 then some (.int .u64 (f (j % 23))) else none) (g t : Nat) (hg : g = W.heap.size) :
    Sl.Masks2V ((W.alloc (.cells cs 52)).alloc (.cells #[.slice (some ⟨g, 0, none⟩) 2 2] t)) (W.heap.size + 2) (.slice (some ⟨g + 1, 0, none⟩) 1 1) [[f, f]] := by
  subst hg
  refine ⟨_, 1, rfl, by simp, fun i x hx => ⟨W.heap.size + 1, 0, rfl, by omega, ?_⟩⟩
  match i, hx with
  | 0, hx =>
    simp at hx
    subst hx
    refine ⟨.slice (some ⟨W.heap.size, 0, none⟩) 2 2, by simp [cell_alloc_ite], _, 2, rfl, by simp, fun i x hx => ⟨W.heap.size, 0, rfl, by omega, ?_⟩⟩
    have hx' : x = f ∧ i < 2 := by
      match i, hx with
      | 0, hx => exact ⟨by simpa using hx.symm, by omega⟩
      | 1, hx => exact ⟨by simpa using hx.symm, by omega⟩
    obtain ⟨rfl, hi⟩ := hx'
    refine ⟨cellsAt_some.2 ⟨Msk.maskA_size _, fun j hj => ?_⟩, hok⟩
    rw [cell_alloc_ite, if_pos (by simp), cell_alloc_ite, if_neg (by simp), if_pos rfl, Msk.maskA_get, if_pos hj]
    simp only [Option.isSome_none, Bool.false_eq_true, if_false]
    rw [hcs, if_pos (by omega), show (0 + i * 23 + j) % 23 = j by omega]

theorem ints2_lit (W : World) (t1 t2 t3 g0 g1 g2 : Nat) (h0 : g0 = W.heap.size) (h1 : g1 = W.heap.size + 1) (h2 : g2 = W.heap.size + 2) :
    Sl.Ints2V (((W.alloc (.cells #[.int .i64 0, .int .i64 1] t1)).alloc (.cells #[.int .i64 0] t2)).alloc (.cells #[.slice (some ⟨g0, 0, none⟩) 2 2, .slice (some ⟨g1, 0, none⟩) 1 1] t3))
    (W.heap.size + 3) (.slice (some ⟨g2, 0, none⟩) 2 2) [[0, 1], [0]] := by
  subst h0 h1 h2
  refine ⟨_, 2, rfl, by simp, fun i x hx => ⟨W.heap.size + 2, 0, rfl, by omega, ?_⟩⟩
  match i, hx with
  | 0, hx =>
    simp at hx
    subst hx
    refine ⟨.slice (some ⟨W.heap.size, 0, none⟩) 2 2, by simp [cell_alloc_ite], _, 2, rfl, by simp, fun i x hx => ⟨W.heap.size, 0, rfl, by omega, ?_⟩⟩
    match i, hx with
    | 0, hx => simp at hx; subst hx; simp [cell_alloc_ite]; omega
    | 1, hx => simp at hx; subst hx; simp [cell_alloc_ite]; omega
  | 1, hx =>
    simp at hx
    subst hx
    refine ⟨.slice (some ⟨W.heap.size + 1, 0, none⟩) 1 1, by simp [cell_alloc_ite], _, 1, rfl, by simp, fun i x hx => ⟨W.heap.size + 1, 0, rfl, by omega, ?_⟩⟩
    match i, hx with
    | 0, hx => simp at hx; subst hx; simp [cell_alloc_ite]

theorem dayFrom_of {len bef aft : Int} {roles : List (List Int)} {d : List (Nat → Nat)} {m1 : Int} {who : List Int} (h1 : m1 + len + aft ≤ 1440) (hl : 0 ≤ len + aft) (ha : atMin len bef aft roles d m1 = some who) :
    ∀ (n : Nat) (m : Int), m ≤ m1 → m1 < m + n → (∀ m', m ≤ m' → m' < m1 → atMin len bef aft roles d m' = none) → dayFrom len bef aft roles d n m = some (m1, who)
  | 0, m, h2, h3, _ => by omega
  | n + 1, m, h2, h3, h4 => by
    rw [dayFrom, if_neg (by omega)]
    by_cases e : m = m1
    · subst e; rw [ha]
    · rw [h4 m (Int.le_refl _) (by omega)]
      exact dayFrom_of h1 hl ha n (m + 1) (by omega) (by omega) fun m' h5 h6 => h4 m' (by omega) h6

theorem holds_span (a b : Int) : Msk.holdsB (Msk.setW (Msk.inSpans [(100, 200)])) a b = true ↔ 0 ≤ a ∧ b ≤ 1440 ∧ a ≤ b ∧ (a < b → 100 ≤ a ∧ b ≤ 200) := by
  rw [Msk.holdsB_iff]
  have key : ∀ i : Nat, Msk.has (Msk.setW (Msk.inSpans [(100, 200)])) i = true ↔ 100 ≤ i ∧ i < 200 := fun i => by
    rw [Msk.has_setW]
    simp [Msk.inSpans]
    omega
  constructor
  · rintro ⟨h1, h2, h3, h4⟩
    refine ⟨h1, h2, h3, fun h => ?_⟩
    obtain ⟨p, rfl⟩ := Int.eq_ofNat_of_zero_le h1
    obtain ⟨q, rfl⟩ := Int.eq_ofNat_of_zero_le (show 0 ≤ b by omega)
    have e1 := (key p).1 (h4 p (by omega) (by omega))
    have e2 := (key (q - 1)).1 (h4 (q - 1) (by omega) (by omega))
    omega
  · rintro ⟨h1, h2, h3, h4⟩
    exact ⟨h1, h2, h3, fun i h5 h6 => (key i).2 (by omega)⟩

/-- what alive's call answers -/
theorem alive_find : findR 30 10 0 [[0, 1], [0]] [[Msk.setW (Msk.inSpans [(100, 200)]), Msk.setW (Msk.inSpans [(100, 200)])]] = ((0, 110, [1, 0]), 0) := by
  generalize hF : Msk.setW (Msk.inSpans [(100, 200)]) = F
  have hh : ∀ a b, Msk.holdsB F a b = true ↔ 0 ≤ a ∧ b ≤ 1440 ∧ a ≤ b ∧ (a < b → 100 ≤ a ∧ b ≤ 200) := fun a b => by rw [← hF]; exact holds_span a b
  have hw : wrongDays 30 10 0 [[0, 1], [0]] [[F, F]] = 0 := by
    apply wrongDays_zero
    intro d hd
    simp at hd
    subst hd
    unfold wrongI badM
    rw [if_neg (by omega), if_neg (by simp)]
    simp [rolesErr, poolErr, lastBad]
  have hf : ∀ m, 10 ≤ m → m < 110 → atMin 30 10 0 [[0, 1], [0]] [F, F] m = none := fun m h1 h2 => by
    cases h : atMin 30 10 0 [[0, 1], [0]] [F, F] m with
    | none => rfl
    | some who =>
      rw [atMin_eq] at h
      obtain ⟨t, _, ht⟩ := fillL_some _ _ _ h
      cases t with
      | nil => exact ht.elim
      | cons r rs =>
        have h3 := ht.2.2.1
        unfold freeAt at h3
        have h4 := ht.1
        simp at h4
        rcases h4 with rfl | rfl
        all_goals
          simp at h3
          have := (hh _ _).1 h3
          omega
  have h110 : atMin 30 10 0 [[0, 1], [0]] [F, F] 110 = some [1, 0] := by
    rw [atMin_eq]
    have h0 : freeAt [F, F] (110 - 10) (110 + 30 + 0) 0 = true := by
      unfold freeAt; simp; rw [hh]; omega
    have h1 : freeAt [F, F] (110 - 10) (110 + 30 + 0) 1 = true := by
      unfold freeAt; simp; rw [hh]; omega
    simp only [fillL, List.findSome?_cons, List.findSome?_nil, h0, h1]
    simp
  have hd : day1 30 10 0 [[0, 1], [0]] [F, F] = some (110, [1, 0]) := dayFrom_of (by omega) (by omega) h110 _ _ (by omega) (by omega) hf
  have ho := overDays_of (len := 30) (bef := 10) (aft := 0) (roles := [[0, 1], [0]]) 0 [[F, F]] 0 [F, F] 110 [1, 0] rfl hd (fun n' d' h1 => by omega)
  unfold findR
  rw [if_neg (by simp), if_pos hw, ho]
  rfl

set_option maxHeartbeats 1000000 in
set_option maxRecDepth 100000 in
theorem alive_true (w : World) : Calls Try.prog 29 #[] w fun e w' => e = .returned (.bool true) ∧ Below w.heap.size w w' := by
  have hfind := Lib.hid alive_find
  go_enter Try.func29, Try.ntmps29
  go_wp2_with fail
  refine (Msk.Of_any _ [(100, 200)] _ (Msk.SpansV.one (by simp) (by simp))).mono ?_
  rintro e w1 ⟨rfl, hb1⟩
  obtain ⟨n1, rfl⟩ := After.of hb1
  have z1 := n1.size
  simp at z1
  go_wp2_with fail
  refine (Find_any 30 10 0 _ _ [[0, 1], [0]] [[Msk.setW (Msk.inSpans [(100, 200)]), Msk.setW (Msk.inSpans [(100, 200)])]] _ ?m1 ?r1).mono ?_
  case m1 =>
    refine Sl.Masks2V.below (masks2_lit _ _ _ (fun k _ => Msk.setW_lt _ k) (fun j => two_masks _ _ (by simp) j) _ _ (by simp)) (Below.refl _ _) (Nat.le_refl _) (by simp)
  case r1 =>
    refine Sl.Ints2V.below (ints2_lit ((n1.w.alloc (.cells (Msk.maskA fun _ => 0) 52)).setRow n1.w.heap.size (Msk.maskA (Msk.setW (Msk.inSpans [(100, 200)])))) 3 3 38 (n1.w.heap.size + 1) (n1.w.heap.size + 1 + 1) (n1.w.heap.size + 1 + 1 + 1) (by simp) (by simp) (by simp)) (B' := n1.w.heap.size + 4) ?_ (by simp) (by simp)
    exact (by repeat (first | exact Below.refl _ _ | assumption | refine Below.n _ ?_ (by first | omega | (simp; done) | (simp; omega)) | refine Below.alloc ?_ (by first | omega | (simp; done) | (simp; omega)) _ | refine Below.setCell ?_ (by first | omega | (simp; done) | (simp; omega)) _ | refine Below.drew ?_ | refine Below.setRow ?_ (by first | omega | (simp; done) | (simp; omega)) _ | refine Below.drewN ?_ _))
  rintro e w2 ⟨out, rfl, hb2, hi2⟩
  rw [hfind.out] at hi2 ⊢
  have z2 := hb2.size
  simp at z2
  obtain ⟨A, cap, rfl, _, hc⟩ := Sl.IntsV.of_own hi2 (by simp) (Nat.le_refl _)
  clear hi2
  obtain ⟨b, o, rfl, hlt, c0⟩ := hc 0 1 rfl
  obtain ⟨b', o', e, _, c1⟩ := hc 1 0 rfl
  cases e
  clear hc
  simp only [Nat.add_zero, List.length_cons, List.length_nil, Nat.zero_add, Nat.reduceAdd] at c0 c1 ⊢
  replace hb2 := Lib.hid hb2
  go_wp2
  go_ret
  exact ⟨rfl, Below.alloc (Below.trans (by repeat (first | exact Below.refl _ _ | assumption | refine Below.n _ ?_ (by first | omega | (simp; done) | (simp; omega)) | refine Below.alloc ?_ (by first | omega | (simp; done) | (simp; omega)) _ | refine Below.setCell ?_ (by first | omega | (simp; done) | (simp; omega)) _ | refine Below.drew ?_ | refine Below.setRow ?_ (by first | omega | (simp; done) | (simp; omega)) _ | refine Below.drewN ?_ _)) (hb2.out.mono (by simp; omega))) (by omega) _⟩

end Mat
end Go.Proofs.Ytbaomgdkoglebaa
