/- The law slotlaw3.LexJoined: its walk. -/
import Derived.Test.YtbcgcpcjepigeaaLexF
namespace Go.Proofs.Ytbcgcpcjepigeaa
open Go.RowKit
namespace Lx
open Sl (strV)

@[go_sem ↓] theorem app_str (s t : List UInt8) : (⟨s.toArray⟩ : ByteArray) ++ ⟨t.toArray⟩ = ⟨(s ++ t).toArray⟩ := by
  apply ByteArray.ext
  rw [ByteArray.data_append]
  simp
@[go_sem ↓] theorem lit_nl : (⟨#[10]⟩ : ByteArray) = ⟨([10] : List UInt8).toArray⟩ := rfl

def LawPost (w : World) (e : Ending) (w' : World) : Prop := e = .returned (.bool true) ∧ Below w.heap.size w w'

set_option maxHeartbeats 2000000 in
set_option maxRecDepth 100000 in
/-- one of the two is wrong, or both are too much -/
theorem LexJoined_no (s t : List UInt8) (w : World) (hl : s.length ≤ 140737488351232) (hl2 : t.length ≤ 140737488351232) (h : (lexV s).2.1 ≠ 0 ∨ (lexV s).2.1 = 0 ∧ (lexV t).2.1 ≠ 0 ∨ (lexV s).2.1 = 0 ∧ (lexV t).2.1 = 0 ∧ 6000 < s.length + t.length + 1) :
    Calls Try.prog 5 #[strV s, strV t] w (LawPost w) := by
  have cA := Lib.hid (fun W => alive3_any W)
  have cL := fun W => Lex_any s W (by omega)
  have cM := fun W => Lex_any t W (by omega)
  unfold LexPost at cL cM
  unfold LawPost
  obtain ⟨⟨l1, e1, b1⟩, hx1⟩ : ∃ x, lexV s = x := ⟨_, rfl⟩
  obtain ⟨⟨l2, e2, b2⟩, hx2⟩ : ∃ x, lexV t = x := ⟨_, rfl⟩
  rw [hx1] at cL h
  rw [hx2] at cM h
  dsimp only at cL cM h
  clear hx1 hx2
  replace cL := Lib.hid cL
  replace cM := Lib.hid cM
  have hg : (e1 != 0) = true ∨ (e1 != 0) = false ∧ (e2 != 0) = true ∨ (e1 != 0) = false ∧ (e2 != 0) = false ∧ decide (6000 < (s.length : Int) + (t.length : Int) + 1) = true := by
    rcases h with h | ⟨h, h'⟩ | ⟨h, h', h''⟩
    · left; simpa using h
    · right; left; exact ⟨by simp [h], by simpa using h'⟩
    · right; right; exact ⟨by simp [h], by simp [h'], by simp; omega⟩
  clear h
  rcases hg with g1 | ⟨g1, g2⟩ | ⟨g1, g2, g3⟩
  all_goals
    go_enter Try.func5, Try.ntmps5
    go_wp2_with fail
    refine (cA.out _).mono ?_
    rintro e0 w1 ⟨rfl, hb1⟩
    have z1 := hb1.size
    go_wp2_with fail
    refine (cL.out _).mono ?_
    rintro e0 w2 ⟨v1, rfl, hb2, ho1⟩
    have z2 := hb2.size
    have y2 := Below.call hb1 hb2 z1
    go_wp2_with fail
    refine (cM.out _).mono ?_
    rintro e0 w3 ⟨v2, rfl, hb3, ho2⟩
    have z3 := hb3.size
    simp only [World.size_alloc] at z3
    have y3 := Below.call (y2.alloc (by omega) _) hb3 (by rw [World.size_alloc]; omega)
    have Bf := (Blk.new w2 25 #[.int .i64 e1, .int .i64 b1]).below hb3 (by rw [World.size_alloc]; omega)
    have k0 : w3.cell? ⟨w2.heap.size, 0, none⟩ = some (.int .i64 e1) := Bf.cell 0
    clear Bf ho1 ho2 hb1 hb2 hb3
    go_wp2
    go_ret
    exact ⟨rfl, y3.alloc (by omega) _⟩

theorem stand_len {s : List UInt8} : ∀ {l : List Tok} {e : Nat}, stand s e l → l.length = 0 ∨ e + l.length ≤ s.length + 1
  | [], _, _ => .inl rfl
  | x :: l, e, h => by
    obtain ⟨a, h1, h2, h3, h4, h5⟩ := h
    right
    rcases stand_len h5 with h6 | h6
    · simp only [List.length_cons, h6]; omega
    · simp only [List.length_cons]; omega
theorem mixT_len {d i : Nat} {l : List Tok} (h : i ≤ l.length) : (mixT d i l).length = l.length := by
  simp [mixT, shiftT]; omega
theorem mixT_get {d i : Nat} {l : List Tok} {t : Tok} (h : l[i]? = some t) : (mixT d i l)[i]? = some t := by
  obtain ⟨e1, _, e3⟩ := mixT_at (d := d) h
  rw [e1, List.getElem?_append_right (by omega), e3]
  simp
theorem mixT_end {d : Nat} {l : List Tok} : mixT d l.length l = shiftT d l := by simp [mixT]
theorem mixT_zero {d : Nat} {l : List Tok} : mixT d 0 l = l := by simp [mixT, shiftT]
theorem own_set {w : World} {base g cap d i : Nat} {l : List Tok} {t : Tok} (ht : l[i]? = some t) (h : w.ownsRow base 34 4 (.slice (some ⟨g, 0, none⟩) l.length cap) l.length (toksC (mixT d i l))) :
    (w.setCell ⟨g, i * 4 + 2, none⟩ (.int .i64 (t.2.2.1 + d))).ownsRow base 34 4 (.slice (some ⟨g, 0, none⟩) l.length cap) l.length (toksC (mixT d (i + 1) l)) := by
  have := (h.stored (i * 4 + 2) (.int .i64 (t.2.2.1 + d))).1
  obtain ⟨e1, e2, e3⟩ := mixT_at (d := d) ht
  rw [e1] at this
  have e4 := toksC_set (shiftT d (l.take i)) t (l.drop (i + 1)) (t.2.2.1 + d)
  rw [e3] at e4
  rw [e4, ← e2] at this
  exact this

theorem own_lt {w : World} {base e k n cap g : Nat} {xs : List Value} (h : w.ownsRow base e k (.slice (some ⟨g, 0, none⟩) n cap) n xs) : base ≤ g ∧ g < w.heap.size := by
  rcases h.2 with ⟨h', _⟩ | ⟨g', cap', cur, h', hb, hg, _⟩
  · cases h'
  · cases h'
    exact ⟨hb, (Array.getElem?_eq_some_iff.1 hg).1⟩

set_option maxHeartbeats 4000000 in
set_option maxRecDepth 100000 in
theorem LexJoined_yes (s t : List UInt8) (w : World) (hl : s.length + t.length + 1 ≤ 6000) (h1 : (lexV s).2.1 = 0) (h2 : (lexV t).2.1 = 0) : Calls Try.prog 5 #[strV s, strV t] w (LawPost w) := by
  have cA := Lib.hid (fun W => alive3_any W)
  have cL := fun W => Lex_any s W (by omega)
  have cM := fun W => Lex_any t W (by omega)
  have cN := fun W => Lex_any (s ++ [10] ++ t) W (by simp; omega)
  have hj := lexV_join h1 h2 hl
  have st1 := (lexV_stand s).1 h1
  have st2 := (lexV_stand t).1 h2
  rw [show s ++ [10] ++ t = s ++ 10 :: t by simp] at cN
  unfold LexPost at cL cM cN
  rw [hj] at cN
  unfold LawPost
  obtain ⟨⟨l1, e1, b1⟩, hx1⟩ : ∃ x, lexV s = x := ⟨_, rfl⟩
  obtain ⟨⟨l2, e2, b2⟩, hx2⟩ : ∃ x, lexV t = x := ⟨_, rfl⟩
  rw [hx1] at cL h1 st1 cN
  rw [hx2] at cM h2 st2 cN
  dsimp only at cL cM cN h1 h2 st1 st2
  subst h1 h2
  have n1 := stand_len st1
  have n2 := stand_len st2
  have hat := Lib.hid (stand_all st2)
  clear hx1 hx2 hj st1 st2
  obtain ⟨d, hd⟩ : ∃ d, s.length + 1 = d := ⟨_, rfl⟩
  rw [hd] at cN
  have hlc : (l1 ++ shiftT d l2).length = l1.length + l2.length := by simp [shiftT]
  rw [hlc] at cN
  replace cL := Lib.hid cL
  replace cM := Lib.hid cM
  replace cN := Lib.hid cN
  replace hlc := Lib.hid hlc
  replace hd := Lib.hid hd
  have hlen : (s.length : Int) + (t.length : Int) + 1 ≤ 6000 := by omega
  have g3 : decide (6000 < (s.length : Int) + (t.length : Int) + 1) = false := by simp; omega
  go_enter Try.func5, Try.ntmps5
  go_wp2_with fail
  refine (cA.out _).mono ?_
  rintro e0 w1 ⟨rfl, hb1⟩
  have z1 := hb1.size
  go_wp2_with fail
  refine (cL.out _).mono ?_
  rintro e0 w2 ⟨v1, rfl, hb2, ho1⟩
  have z2 := hb2.size
  have y2 := Below.call hb1 hb2 z1
  go_wp2_with fail
  refine (cM.out _).mono ?_
  rintro e0 w3 ⟨v2, rfl, hb3, ho2⟩
  have z3 := hb3.size
  simp only [World.size_alloc] at z3
  have y3 := Below.call (y2.alloc (by omega) _) hb3 (by rw [World.size_alloc]; omega)
  have x3 : Below w2.heap.size w2 w3 := Below.call ((Below.refl _ _).alloc (Nat.le_refl _) _) hb3 (by rw [World.size_alloc]; omega)
  have Bf := (Blk.new w2 25 #[.int .i64 0, .int .i64 b1]).below hb3 (by rw [World.size_alloc]; omega)
  have k0 : w3.cell? ⟨w2.heap.size, 0, none⟩ = some (.int .i64 0) := Bf.cell 0
  rw [World.size_alloc] at ho2
  replace ho1 := Lib.hid ho1
  clear Bf hb1 hb2 hb3
  go_wp2_with fail
  refine (cN.out _).mono ?_
  rintro e0 w4 ⟨v3, rfl, hb4, ho3⟩
  have z4 := hb4.size
  simp only [World.size_alloc] at z4
  have y4 := Below.call (y3.alloc (by omega) _) hb4 (by rw [World.size_alloc]; omega)
  have x4 : Below w3.heap.size w3 w4 := Below.call ((Below.refl _ _).alloc (Nat.le_refl _) _) hb4 (by rw [World.size_alloc]; omega)
  rw [World.size_alloc] at ho3
  have x5 : Below w2.heap.size w2 w4 := Below.call (x3.alloc (by omega) _) hb4 (by rw [World.size_alloc]; omega)
  obtain ⟨A1, cap1, rfl⟩ := own_slice ho1.out
  obtain ⟨A2, cap2, rfl⟩ := own_slice ho2
  obtain ⟨A3, cap3, rfl⟩ := own_slice ho3
  have hA2 := Lib.hid (show ∀ g, A2 = some ⟨g, 0, none⟩ → w2.heap.size + 1 ≤ g ∧ g < w3.heap.size from fun g e => by subst e; exact own_lt ho2)
  replace ho2 := own_keep ho2 x4 (Nat.le_refl _)
  replace ho3 := Lib.hid (ho3.alloc (.cells #[.int .i64 0, .int .i64 0] 25))
  replace ho2 := Lib.hid (ho2.alloc (.cells #[.int .i64 0, .int .i64 0] 25))
  have y5 := y4.alloc (show w.heap.size ≤ w4.heap.size by omega) (.cells #[.int .i64 0, .int .i64 0] 25)
  have x6 := x5.alloc (show w2.heap.size ≤ w4.heap.size by omega) (.cells #[.int .i64 0, .int .i64 0] 25)
  have g4 : (((l1.length + l2.length : Nat) : Int) != (l1.length : Int) + (l2.length : Int)) = false := by simp
  clear hb4 x4 x3 y3 k0 cA cL cM cN y2 x5 y4
  go_wp2_with fail
  go_loopg [64] l2.length (fun q k wr => ∃ i : Nat, i ≤ l2.length ∧ q = l2.length - i ∧ k = .int .i64 i ∧ wr.ownsRow (w2.heap.size + 1) 34 4 (.slice A2 l2.length cap2) l2.length (toksC (mixT d i l2)) ∧
    wr.ownsRow (w3.heap.size + 1) 34 4 (.slice A3 (l1.length + l2.length) cap3) (l1.length + l2.length) (toksC (l1 ++ shiftT d l2)) ∧ Below w2.heap.size w2 wr ∧ Below w.heap.size w wr ∧ w3.heap.size + 1 ≤ wr.heap.size)
  case atStart => exact ⟨0, by omega, rfl, rfl, by rw [mixT_zero]; exact ho2.out, ho3.out, x6, y5, by simp; omega⟩
  case round =>
    obtain ⟨i, hi, hq, rfl, hm, hc, hbx, hby, hsz⟩ := hrel
    replace hq := Lib.hid hq
    clear ho2 ho3 x6 y5
    by_cases hlt : i < l2.length
    · obtain ⟨x, hx⟩ : ∃ x, l2[i]? = some x := ⟨_, List.getElem?_eq_getElem hlt⟩
      obtain ⟨p, hp, hp2⟩ := hat.out x (List.mem_of_getElem? hx)
      have hm' : wr.ownsRow (w2.heap.size + 1) 34 4 (.slice A2 l2.length cap2) (mixT d i l2).length (toksC (mixT d i l2)) := by rw [mixT_len hi]; exact hm
      obtain ⟨g, cap', e2, hg1, hg2, _, _, c2, _⟩ := toks_at hm' (mixT_get hx)
      rw [mixT_len hi] at e2
      cases e2
      rw [hp] at c2
      obtain ⟨hg3, hg4⟩ := hA2.out g rfl
      have fz : wr.frozen? ⟨g, i * 4 + 2, none⟩ = false := hm.frozenAt _
      have hset := Lib.hid (own_set hx hm)
      have ev : x.2.2.1 + (d : Int) = (p : Int) + (s.length : Int) + 1 := by have := hd.out; omega
      rw [ev] at hset
      have hc2 := Lib.hid (own_far hc (p := ⟨g, i * 4 + 2, none⟩) (show g < w3.heap.size + 1 by omega) (.int .i64 ((p : Int) + (s.length : Int) + 1)))
      clear hx hm hm' hc hp ev
      go_wp2
      go_roundg (l2.length - (i + 1))
      case measure => rw [hq.out]; omega
      case rel => exact ⟨i + 1, by omega, rfl, by go_num, hset.out, hc2.out, hbx.setCell (show w2.heap.size ≤ g by omega) _, hby.setCell (show w.heap.size ≤ g by omega) _, by simp; omega⟩
    · obtain rfl : i = l2.length := by omega
      rw [mixT_end] at hm
      have hr1 := own_keep ho1.out hbx (Nat.le_refl _)
      have hz : wr.heap.size ≤ wr.heap.size := Nat.le_refl _
      have hE := World.ownsRow_lit (base := wr.heap.size) (e := 34) (size := 4) wr #[] 0 hz (by simp [maxLen]) rfl
      have hbE := (Below.refl wr.heap.size wr).alloc hz (.cells #[] 34)
      have hm2 := Lib.hid hm
      have hr1' := hr1.alloc (.cells #[] 34)
      have hr2' := hm.alloc (.cells #[] 34)
      replace hr1' := Lib.hid hr1'
      replace hr2' := Lib.hid hr2'
      replace hE := Lib.hid hE
      replace hc := Lib.hid hc
      have hq1 := Lib.hid (toksC_one l1)
      have hq2 := Lib.hid (toksC_one (shiftT d l2))
      have hzz : wr.heap.size ≤ (wr.alloc (.cells #[] 34)).heap.size := hbE.size
      clear hr1 hm ho1 hat g3 g4
      go_wp2_with (at_builtin; first
        | (have hh7 := hb7; have hr27 := own_keep hm2.out (hbE.trans hb7) (Nat.le_refl _); refine wpList_append_row el_tok rfl (.tmp 84) (.tmp 85) rfl wr.heap.size v' (0 + l1.length) _ hown7 (w2.heap.size + 1) (.slice A2 l2.length cap2) l2.length (toksC (shiftT d l2)) hr27 rfl rfl hq2.out (by simp only [maxLen]; omega) (by omega) (Nat.le_trans hzz hb7.size) ?_; intro v'' w8 hown8 hb8)
        | (refine wpList_append_row el_tok rfl (.tmp 82) (.tmp 83) rfl wr.heap.size (.slice (some ⟨wr.heap.size, 0, none⟩) 0 0) 0 [] hE.out w1.heap.size (.slice A1 l1.length cap1) l1.length (toksC l1) hr1'.out rfl rfl hq1.out (by simp only [maxLen]; omega) (by omega) hzz ?_; intro v' w7 hown7 hb7))
      have hbb := (hbE.trans hb7).trans hb8
      have hC := own_keep hc.out hbb (Nat.le_refl _)
      have hD : w8.ownsRow wr.heap.size 34 4 v'' (l1 ++ shiftT d l2).length (toksC (l1 ++ shiftT d l2)) := by
        rw [hlc.out, ← toksC_app]
        rw [Nat.zero_add, List.nil_append] at hown8
        exact hown8
      have z8 := hbb.size
      refine (SameT_any _ _ (l1 ++ shiftT d l2) (l1 ++ shiftT d l2) w8 (TokV.of_own (by rw [hlc.out]; exact hC)) (TokV.of_own hD)).mono ?_
      rintro e0 w9 ⟨rfl, hb9⟩
      rw [beq_self_eq_true]
      have hy9 := Below.call (hby.trans (hbb.mono (by omega))) hb9 (by omega)
      clear hD hC hown8 hown7 hc hm2
      go_wp2
      go_ret
      exact ⟨rfl, hy9⟩

theorem LexJoined_true (s t : List UInt8) (w : World) (hl : s.length ≤ 140737488351232) (hl2 : t.length ≤ 140737488351232) : Calls Try.prog 5 #[strV s, strV t] w fun e w' => e = .returned (.bool true) ∧ Below w.heap.size w w' := by
  by_cases h1 : (lexV s).2.1 = 0
  · by_cases h2 : (lexV t).2.1 = 0
    · by_cases h : s.length + t.length + 1 ≤ 6000
      · exact LexJoined_yes s t w h h1 h2
      · exact LexJoined_no s t w hl hl2 (.inr (.inr ⟨h1, h2, by omega⟩))
    · exact LexJoined_no s t w hl hl2 (.inr (.inl ⟨h1, h2⟩))
  · exact LexJoined_no s t w hl hl2 (.inl h1)

end Lx
end Go.Proofs.Ytbcgcpcjepigeaa
