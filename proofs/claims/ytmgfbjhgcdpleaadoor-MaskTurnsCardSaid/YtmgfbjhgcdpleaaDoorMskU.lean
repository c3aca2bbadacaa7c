/- The walk of slotlaw2.MaskTurns. -/
import Derived.Test.YtmgfbjhgcdpleaaDoorMskC
namespace Go.Proofs.YtmgfbjhgcdpleaaDoor
open Go.RowKit
namespace Msk

/-- where the span ahead of one ends; -1: there is none -/
def endTo (l : List (Int × Int)) (j : Nat) : Int := if j = 0 then -1 else (l.getD (j - 1) (0, 0)).2
theorem endTo_succ {l : List (Int × Int)} {j : Nat} {s : Int × Int} (h : l[j]? = some s) : endTo l (j + 1) = s.2 := by
  unfold endTo
  rw [if_neg (by omega)]
  simp [h]
theorem chain_at : ∀ {lo : Int} {l : List (Int × Int)} {j : Nat} {s : Int × Int}, chain lo l → l[j]? = some s → (if j = 0 then lo else (l.getD (j - 1) (0, 0)).2) < s.1 ∧ s.1 < s.2 ∧ s.2 ≤ 1440
  | _, [], j, s, _, h => by simp at h
  | lo, x :: l, 0, s, hc, h => by simp at h; subst h; exact ⟨by simpa using hc.1, hc.2.1, hc.2.2.1⟩
  | lo, x :: l, j + 1, s, hc, h => by
    have := chain_at (j := j) hc.2.2.2 (by simpa using h)
    refine ⟨?_, this.2⟩
    have h1 := this.1
    rw [if_neg (by omega)]
    by_cases hj : j = 0
    · subst hj; simpa using h1
    · rw [if_neg hj] at h1
      obtain ⟨j, rfl⟩ := Nat.exists_eq_succ_of_ne_zero hj
      simpa using h1
theorem lens_snoc (l : List (Int × Int)) (j : Nat) (s : Int × Int) (h : l[j]? = some s) : lens (l.take (j + 1)) = lens (l.take j) + s.2 - s.1 := by
  induction l generalizing j with
  | nil => simp at h
  | cons x xs ih =>
    cases j with
    | zero => simp at h; subst h; simp [lens]
    | succ j =>
      have := ih j (by simpa using h)
      simp only [List.take_succ_cons, lens]
      rw [this]; omega
theorem lens_bd {lo : Int} {l : List (Int × Int)} (hc : chain lo l) (hlo : -1 ≤ lo) : ∀ j : Nat, j ≤ l.length → 0 ≤ lens (l.take j) ∧ lens (l.take j) ≤ 1440 * j
  | 0, _ => by simp [lens]
  | j + 1, hj => by
    obtain ⟨h1, h2⟩ := lens_bd hc hlo j (by omega)
    obtain ⟨s, hs⟩ : ∃ s, l[j]? = some s := ⟨_, List.getElem?_eq_getElem (by omega)⟩
    rw [lens_snoc l j s hs]
    obtain ⟨m1, m2, m3⟩ := chain_mem hlo hc s (List.mem_of_getElem? hs)
    omega

/-- each set has spans -/
theorem spansTo_ex (p : Nat → Bool) : ∀ i, i ≤ 1440 → ∃ l, SpansTo p i l
  | 0, _ => ⟨[], SpansTo.zero p⟩
  | i + 1, hi => by
    obtain ⟨l, hl⟩ := spansTo_ex p i (by omega)
    cases hp : p i with
    | false => exact ⟨l, hl.skip (by omega) hi fun j h1 h2 => by rw [show j = i by omega]; exact hp⟩
    | true =>
      by_cases h : 0 < i ∧ p (i - 1) = true
      · obtain ⟨k, s, rfl, hs⟩ := hl.last h.1 h.2
        exact ⟨_, hl.grow (by omega) hs hp⟩
      · refine ⟨_, hl.push (a := i) (b := i + 1) (Nat.le_refl _) (by omega) hi (fun j h1 h2 => by omega) (fun j h1 h2 => by rw [show j = i by omega]; exact hp) ?_⟩
        by_cases h0 : i = 0
        · exact .inl h0
        · right
          cases hq : p (i - 1)
          · rfl
          · exact absurd ⟨by omega, hq⟩ h

set_option maxHeartbeats 2000000 in
set_option maxRecDepth 100000 in
theorem MaskTurns_true (v0 : Value) (l0 : List (Int × Int)) (f : Nat → Nat) (w : World) (hl0 : SpansV w w.heap.size v0 l0) (hf : ∀ k, k < 23 → f k < 18446744073709551616) (hT : Tab w) :
    Calls Tryd.prog 4 #[v0, .agg (maskA f)] w fun e w' => e = .returned (.bool true) ∧ Below w.heap.size w w' := by
  have hT' : Tab (w.alloc (.cells (maskA f) 24)) := hT.after (by repeat (first | exact Below.refl _ _ | assumption | refine Below.n _ ?_ (by first | omega | (simp; done) | (simp; omega)) | refine Below.alloc ?_ (by first | omega | (simp; done) | (simp; omega)) _ | refine Below.setCell ?_ (by first | omega | (simp; done) | (simp; omega)) _ | refine Below.drew ?_ | refine Below.setRow ?_ (by first | omega | (simp; done) | (simp; omega)) _ | refine Below.drewN ?_ _))
  have of : Sl.okW f := hf
  clear hf
  go_enter Tryd.func4, Tryd.ntmps4
  go_wp2_with fail
  refine (alive_true _ hT').mono ?_
  rintro e w1 ⟨rfl, hb1⟩
  have s1 := hb1.size
  simp at s1
  have B0 := (Blk.new w 24 (maskA f)).below hb1 (by simp)
  have hb : Below w.heap.size w w1 := Below.trans (by repeat (first | exact Below.refl _ _ | assumption | refine Below.n _ ?_ (by first | omega | (simp; done) | (simp; omega)) | refine Below.alloc ?_ (by first | omega | (simp; done) | (simp; omega)) _ | refine Below.setCell ?_ (by first | omega | (simp; done) | (simp; omega)) _ | refine Below.drew ?_ | refine Below.setRow ?_ (by first | omega | (simp; done) | (simp; omega)) _ | refine Below.drewN ?_ _)) (hb1.mono (by simp))
  have k0 := blk_cells B0
  clear hb1 hT'
  go_wp2_with fail
  refine (Spans_any f _ of (hT.below hb hT.1)).mono ?_
  rintro e w2 ⟨v, l, rfl, hb2, hl, ho⟩
  obtain ⟨A, cap, rfl⟩ := own_slice ho
  have s2 := hb2.size
  have B1 := B0.below hb2 B0.lt
  have hbb := hb.trans (hb2.mono (by omega))
  have k1 := blk_cells B1
  have z := B1.lt
  have sv := SpansV.of_own ho (Nat.le_refl _)
  have hlm := own_max ho
  have e1 : sameW (setW (inSpans l)) (setW (fun i => has f i && inSpans [(0, 1440)] i)) = true := same_of fun i hi => by
    rw [hl.mem]; simp [hi, inSpans]; omega
  have cB : ∀ W, Calls Tryd.prog 14 #[.agg (maskA f), .agg (setA (inSpans [(0, 1440)]))] W fun e w' => e = .returned (.agg (setA (fun i => has f i && inSpans [(0, 1440)] i))) ∧ Below W.heap.size W w' := fun W => by
    have := Both_ok f _ W of (okS (inSpans [(0, 1440)]))
    have e : setA (fun i => has f i && has (setW (inSpans [(0, 1440)])) i) = setA (fun i => has f i && inSpans [(0, 1440)] i) := by
      unfold setA
      rw [setW_congr (fun i hi => ?_)]
      rw [has_setW]; simp [hi]
    rw [e] at this
    exact this
  replace cB := Lib.hid cB
  replace sv := Lib.hid sv
  replace hl := Lib.hid hl
  clear hb2 ho hb B0 k0 s1
  go_wp2_with fail
  refine wp_region_below (w2.heap.size) _ (Below.refl _ _) (by kernel_rfl) (by kernel_rfl) ?_
  repeat (go_big_quiet_step ((first | (go_at_call 15; with_reducible exact quiet_below (Nat.le_refl _) (all_any _)) | (go_at_call 14; with_reducible exact quiet_below (Nat.le_refl _) (cB.out _)) | (go_at_call 13; with_reducible exact quiet_below (Nat.le_refl _) (Of_any _ l _ (by exact (sv.out.below (After.below _) (Nat.le_refl _)).more (After.size _)))))))
  refine wpQuiet_nil ?_
  rintro _ ⟨n1, rfl⟩
  go_wp2_with fail
  have hbn := hbb.trans (n1.below.mono (by omega))
  have Bn := B1.after n1 z
  have svn := sv.out.below n1.below (Nat.le_refl _)
  have zz := n1.size
  clear k1 hbb B1 sv e1
  generalize n1.w = wn at *
  clear cB n1
  obtain ⟨A', cap', e, _, hc⟩ := svn
  cases e
  have hlat := Lib.hid (fun j s (h : l[j]? = some s) => chain_at hl.out.ch h)
  have hmem := Lib.hid (chain_mem (Int.le_refl _) hl.out.ch)
  have hlen := Lib.hid (lens_bd hl.out.ch (Int.le_refl _))
  replace hc := Lib.hid hc
  have hlm2 : l.length ≤ 1500 := by rcases chain_len hl.out.ch with h | h <;> first | omega | simp [h]
  go_loopg [6, 7, 23] l.length (fun q a b k wr => ∃ (j : Nat) (x y : Int), j ≤ l.length ∧ q = l.length - j ∧ k = .int .i64 j ∧ a = .int .i64 x ∧ b = .int .i64 y ∧ Hid (x = endTo l j) ∧ Hid (y = lens (l.take j)) ∧ Below wn.heap.size wn wr)
  case atStart => exact ⟨0, -1, 0, by omega, rfl, rfl, rfl, rfl, Lib.hid rfl, Lib.hid (by simp [lens]), Below.refl _ _⟩
  case round =>
    obtain ⟨j, x, y, hj, hq, rfl, rfl, rfl, hx, hy, hbr⟩ := hrel
    replace hq := Lib.hid hq
    by_cases hlt : j < l.length
    · obtain ⟨s, hs⟩ : ∃ s, l[j]? = some s := ⟨_, List.getElem?_eq_getElem hlt⟩
      obtain ⟨b, o, rfl, hbl, c0, c1⟩ := hc.out j s hs
      obtain ⟨m1, m2, m3⟩ := hlat.out j s hs
      have hb2 : b < wn.heap.size := by omega
      obtain ⟨nr, rfl⟩ := After.of hbr
      have zr := nr.size
      have g1 : decide (s.1 ≤ x) = false := by rw [hx.out]; simp; exact m1
      have g2 : decide (s.2 ≤ s.1) = false := by simp; omega
      have g3 : decide (1440 < s.2) = false := by simp; omega
      have hx2 := Lib.hid (endTo_succ hs).symm
      obtain ⟨q1, q2⟩ := hlen.out j hj
      rw [← hy.out] at q1 q2
      have hy2 := Lib.hid (show y + s.2 - s.1 = lens (l.take (j + 1)) by rw [lens_snoc l j s hs, hy.out])
      have hs0 : 0 ≤ s.1 := (hmem.out s (List.mem_of_getElem? hs)).1
      clear hs m1
      go_wp2
      go_roundg (l.length - (j + 1))
      case measure => rw [hq.out]; omega
      case rel => exact ⟨j + 1, s.2, y + s.2 - s.1, by omega, rfl, by go_num, rfl, rfl, hx2, hy2, (by repeat (first | exact Below.refl _ _ | assumption | refine Below.n _ ?_ (by first | omega | (simp; done) | (simp; omega)) | refine Below.alloc ?_ (by first | omega | (simp; done) | (simp; omega)) _ | refine Below.setCell ?_ (by first | omega | (simp; done) | (simp; omega)) _ | refine Below.drew ?_ | refine Below.setRow ?_ (by first | omega | (simp; done) | (simp; omega)) _ | refine Below.drewN ?_ _))⟩
    · obtain rfl : j = l.length := by omega
      have hbw := hbn.trans (hbr.mono (by omega))
      have Bw := Bn.below hbr (by omega)
      have hcnt := hl.out.lens
      have hye := hy.out
      rw [List.take_length, hcnt] at hye
      subst hye
      have zr := hbr.size
      have sv0 := Lib.hid ((hl0.below hbw (Nat.le_refl _)).more (B' := wr.heap.size) (by omega))
      clear hc hlat hmem hlen hy hx hcnt hbr Bn hbn
      go_wp2_with fail
      refine (Of_any _ l0 _ sv0.out).mono ?_
      rintro e w3 ⟨rfl, hb3⟩
      obtain ⟨n3, rfl⟩ := After.of hb3
      have z3 := n3.size
      go_wp2_with fail
      obtain ⟨k, hk⟩ := spansTo_ex (inSpans l0) 1440 (Nat.le_refl _)
      have hk1 : ∀ j, j < 1440 → inSpans l0 j = inSpans k j := fun j hj => by have := IsSpans.mem hk j; rw [this]; simp [hj]
      have hch := hk.ch
      have cS1 := Lib.hid (fun W hW => Spans_set (inSpans l0) k W hW hch hk1)
      have cS2 := Lib.hid (fun W hW => Spans_set (inSpans k) k W hW hch (fun _ _ => rfl))
      have cC := Lib.hid (fun W => Count_ok f W of)
      clear hk hk1 hch
      have Bx : Blk ((n3.w.alloc (.cells (maskA fun _ => 0) 24)).setRow n3.w.heap.size (maskA (setW (inSpans l0)))) w.heap.size 24 (maskA f) := ((Bw.after n3 (by omega)).alloc _).farRow (by omega) _
      have By : Blk ((n3.w.alloc (.cells (maskA fun _ => 0) 24)).setRow n3.w.heap.size (maskA (setW (inSpans l0)))) n3.w.heap.size 24 (maskA (setW (inSpans l0))) := (Blk.new n3.w 24 (maskA fun _ => 0)).setRow _
      have hbx : Below w.heap.size w ((n3.w.alloc (.cells (maskA fun _ => 0) 24)).setRow n3.w.heap.size (maskA (setW (inSpans l0)))) := (by repeat (first | exact Below.refl _ _ | assumption | refine Below.n _ ?_ (by first | omega | (simp; done) | (simp; omega)) | refine Below.alloc ?_ (by first | omega | (simp; done) | (simp; omega)) _ | refine Below.setCell ?_ (by first | omega | (simp; done) | (simp; omega)) _ | refine Below.drew ?_ | refine Below.setRow ?_ (by first | omega | (simp; done) | (simp; omega)) _ | refine Below.drewN ?_ _))
      clear Bw hbw sv0 hb3 zr zz z s2
      generalize ((n3.w.alloc (.cells (maskA fun _ => 0) 24)).setRow n3.w.heap.size (maskA (setW (inSpans l0)))) = W at *
      generalize n3.w.heap.size = G at *
      have kx := blk_cells Bx
      have ky := blk_cells By
      have zx := Bx.lt
      have zy := By.lt
      go_region_with (first
        | (go_at_call 16; (with_reducible refine (cC.out _).mono ?_); rintro e w' ⟨rfl, hb'⟩; obtain ⟨n, rfl⟩ := After.of hb'; have s := n.size; try simp at s)
        | (go_at_call 12; have hTT : Tab n.w := hT.below (B := w.heap.size) ((by repeat (first | exact Below.refl _ _ | assumption | refine Below.n _ ?_ (by first | omega | (simp; done) | (simp; omega)) | refine Below.alloc ?_ (by first | omega | (simp; done) | (simp; omega)) _ | refine Below.setCell ?_ (by first | omega | (simp; done) | (simp; omega)) _ | refine Below.drew ?_ | refine Below.setRow ?_ (by first | omega | (simp; done) | (simp; omega)) _ | refine Below.drewN ?_ _))) hT.1; first | ((with_reducible refine (cS1.out _ hTT).mono ?_); rintro e w' ⟨v, rfl, hb', ho⟩; obtain ⟨A, cap, rfl⟩ := own_slice ho; obtain ⟨n, rfl⟩ := After.of hb'; have ho1 := Lib.hid (SpansV.of_own ho (Nat.le_refl _)); clear ho; have s := n.size; try simp at s) | ((with_reducible refine (cS2.out _ hTT).mono ?_); rintro e w' ⟨v, rfl, hb', ho⟩; obtain ⟨A, cap, rfl⟩ := own_slice ho; obtain ⟨n, rfl⟩ := After.of hb'; have ho2 := Lib.hid (SpansV.of_own ho (Nat.le_refl _)); clear ho; have s := n.size; try simp at s))
        | (go_at_call 13; (with_reducible refine (Of_any _ k _ ho1.out).mono ?_); rintro e w' ⟨rfl, hb'⟩; obtain ⟨n, rfl⟩ := After.of hb'; have s := n.size; try simp at s)
        | (go_at_call 17; (with_reducible refine (Same_any _ _ k k _ ((ho2.out.below hb' (Nat.le_refl _)).more s) ho1.out).mono ?_); rintro e w' ⟨rfl, hb'⟩; obtain ⟨n, rfl⟩ := After.of hb'; have s := n.size; try simp at s))
      all_goals
        go_wp2
        go_ret
        exact ⟨rfl, (by repeat (first | exact Below.refl _ _ | assumption | refine Below.n _ ?_ (by first | omega | (simp; done) | (simp; omega)) | refine Below.alloc ?_ (by first | omega | (simp; done) | (simp; omega)) _ | refine Below.setCell ?_ (by first | omega | (simp; done) | (simp; omega)) _ | refine Below.drew ?_ | refine Below.setRow ?_ (by first | omega | (simp; done) | (simp; omega)) _ | refine Below.drewN ?_ _))⟩

end Msk
end Go.Proofs.YtmgfbjhgcdpleaaDoor
