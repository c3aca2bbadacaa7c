/- The walk of bits.TrailingZeros64, over the table that its initialiser lays. What the walk of masks.Spans leans on: bits of words, spans as cells. No walk. The walk of masks.Spans. -/
import Derived.Test.YtbadplbdgpbdaaaDoorMskB
import Derived.Test.YtbadplbdgpbdaaaDoorMask
import Derived.Shelf.Spec.TrailingZeros
import Derived.Outline
import Derived.Test.YtbadplbdgpbdaaaDoorApp
namespace Go.Proofs.YtbadplbdgpbdaaaDoor
open Go.RowKit
namespace Msk

/-- the table of bits.TrailingZeros64 lies in its variable -/
def Tab (w : World) : Prop := 0 < w.heap.size ∧ TabAt 0 Lib.deBruijn64tab w
theorem Tab.below {B : Nat} {w w' : World} (h : Tab w) (hb : Below B w w') (hB : 0 < B) : Tab w' := ⟨Nat.lt_of_lt_of_le h.1 hb.size, fun j hj => (hb.cell (p := ⟨0, j, none⟩) hB).trans (h.2 j hj)⟩
theorem Tab.after {w w' : World} (h : Tab w) (hb : Below w.heap.size w w') : Tab w' := h.below hb h.1

set_option maxHeartbeats 1000000 in
theorem tz_core (x k idx : Nat) (w : World) (hx0 : ((x : Int) == 0) = false)
    (key : IntKind.u64.wrap (bits BinOp.and IntKind.u64 (x : Int) (IntKind.u64.wrap (-(x : Int))) * 285870213051353865) / 288230376151711744 = (idx : Int))
    (hi : idx < 64) (hk : k < 64) (hcell : w.cell? ⟨0, idx, none⟩ = some (.int .u8 k)) :
    Calls Tryd.prog 81 #[.int .u64 x] w fun e w' => e = .returned (.int .i64 k) ∧ w = w' := by
  go_enter Tryd.func81, Tryd.ntmps81
  go_wp2_with (simp only [key])
  go_ret
  exact ⟨rfl, rfl⟩

/-- of a word that has a bit: where the first one is -/
theorem TrailingZeros_any (x : Nat) (w : World) (hx : x < 18446744073709551616) (hx0 : x ≠ 0) (hT : Tab w) :
    Calls Tryd.prog 81 #[.int .u64 x] w fun e w' => e = .returned (.int .i64 (Lib.ctz 64 x)) ∧ w = w' := by
  obtain ⟨hlow, hk⟩ := Lib.lowest_bit 64 x hx0 hx
  obtain ⟨hi, htab⟩ := Lib.deBruijn64_at _ hk
  have hcell := hT.2 _ hi
  rw [htab] at hcell
  exact tz_core x _ _ w (by simp; omega) (tz64_key x _ hx hx0 hlow) hi hk hcell

/-- the first bit of a word -/
theorem ctz_spec (x : Nat) (hx : x < 18446744073709551616) (hx0 : x ≠ 0) : Lib.ctz 64 x < 64 ∧ x.testBit (Lib.ctz 64 x) = true ∧ ∀ j, j < Lib.ctz 64 x → x.testBit j = false := by
  obtain ⟨m, hm, hlt⟩ := Lib.ctzFrom_spec 64 x (by omega) hx
  have e : Lib.ctz 64 x = Lib.ctzFrom 64 x := by unfold Lib.ctz; rw [if_neg hx0]
  rw [e]
  generalize Lib.ctzFrom 64 x = k at *
  refine ⟨hlt, ?_, fun j hj => ?_⟩
  · rw [hm, Nat.testBit_two_pow_mul]
    simp
  · rw [hm, Nat.testBit_two_pow_mul]
    simp
    omega

end Msk
end Go.Proofs.YtbadplbdgpbdaaaDoor

namespace Go.Proofs.YtbadplbdgpbdaaaDoor
open Go.RowKit
namespace Msk

theorem chain_len : ∀ {lo : Int} {l : List (Int × Int)}, chain lo l → lo + l.length ≤ 1440 ∨ l = []
  | _, [], _ => .inr rfl
  | lo, s :: l, h => by
    have h1 := h.1
    have h2 := h.2.1
    have h3 := h.2.2.1
    rcases chain_len h.2.2.2 with h4 | rfl
    · left; simp; omega
    · left; simp; omega
/-- spans as cells -/
def flatS (l : List (Int × Int)) : List Value := l.flatMap fun s => [.int .i64 s.1, .int .i64 s.2]
theorem flatS_length (l : List (Int × Int)) : (flatS l).length = l.length * 2 := by
  unfold flatS
  induction l with
  | nil => rfl
  | cons x xs ih => rw [List.flatMap_cons, List.length_append, ih]; simp; omega
theorem flatS_snoc (l : List (Int × Int)) (a b : Int) : flatS (l ++ [(a, b)]) = flatS l ++ [.int .i64 a, .int .i64 b] := by
  unfold flatS
  rw [List.flatMap_append]; rfl
theorem word_bit (p : Nat → Bool) (i j : Nat) : (setW p (i / 64) / 2 ^ (i % 64)).testBit j = (decide (i % 64 + j < 64) && (decide (i + j < 1440) && p (i + j))) := by
  rw [Nat.testBit_div_two_pow, setW_bit, show 64 * (i / 64) + (j + i % 64) = i + j by omega, show j + i % 64 = i % 64 + j by omega]
theorem bit_of (p : Nat → Bool) (b : Nat) : bits .and .u64 (((setW p (b / 64) : Nat) : Int) / 2 ^ (b % 64)) 1 = if decide (b < 1440) && p b then 1 else 0 := by
  have h := u64_and_nat (setW p (b / 64) / 2 ^ (b % 64)) 1 (Nat.lt_of_le_of_lt (Nat.div_le_self _ _) (setW_lt _ _)) (by omega)
  have e : ((setW p (b / 64) : Nat) : Int) / 2 ^ (b % 64) = ((setW p (b / 64) / 2 ^ (b % 64) : Nat) : Int) := by norm_cast
  have hb := word_bit p b 0
  rw [Nat.testBit_zero, Nat.add_zero, Nat.add_zero, decide_eq_true (show b % 64 < 64 by omega), Bool.true_and] at hb
  rw [e, show (1 : Int) = ((1 : Nat) : Int) from rfl, h, and_1, ← hb]
  by_cases h2 : setW p (b / 64) / 2 ^ (b % 64) % 2 = 1
  · rw [h2]; simp
  · have : setW p (b / 64) / 2 ^ (b % 64) % 2 = 0 := by omega
    rw [this]; simp
/-- has a word all bits? (behind a name: the numeral stays out of the walk) -/
def isFull (x : Nat) : Bool := x == 18446744073709551615
@[go_sem] theorem isFull_of (x : Nat) : ((x : Int) == 18446744073709551615) = isFull x := by
  unfold isFull
  rw [Bool.eq_iff_iff, beq_iff_eq, beq_iff_eq]
  omega
theorem full_word (p : Nat → Bool) (b : Nat) (hb : b % 64 = 0) (h0 : isFull (setW p (b / 64)) = true) : ∀ j, b ≤ j → j < b + 64 → j < 1440 ∧ p j = true := fun j h1 h2 => by
  have h : setW p (b / 64) = 18446744073709551615 := by unfold isFull at h0; simpa using h0
  have hj := setW_bit p (b / 64) (j - b)
  rw [h, show (18446744073709551615 : Nat) = 2 ^ 64 - 1 from rfl, Nat.testBit_two_pow_sub_one, show 64 * (b / 64) + (j - b) = j by omega, decide_eq_true (show j - b < 64 by omega)] at hj
  simp at hj
  exact hj

end Msk
end Go.Proofs.YtbadplbdgpbdaaaDoor

namespace Go.Proofs.YtbadplbdgpbdaaaDoor
open Go.RowKit
namespace Msk

theorem el_span : El Tryd.prog 53 108 2 16 := El.mk' Tryd.underlying53 (by kernel_rfl) (by omega)

set_option maxHeartbeats 400000 in
set_option maxRecDepth 100000 in
theorem Spans_any (f : Nat → Nat) (w : World) (hf : ∀ k, k < 23 → f k < 18446744073709551616) (hT : Tab w) :
    Calls Tryd.prog 43 #[.agg (maskA f)] w fun e w' => ∃ v l, e = .returned v ∧ Below w.heap.size w w' ∧ IsSpans (has f) l ∧ w'.ownsRow w.heap.size 108 2 v l.length (flatS l) := by
  go_enter Tryd.func43, Tryd.ntmps43
  go_wp2_with fail
  refine (clean_any f _ hf).mono ?_
  rintro e w1 ⟨rfl, hb1⟩
  obtain ⟨n1, rfl⟩ := After.of hb1
  have z1 := n1.size
  simp at z1
  have B1 := ((Blk.new w 38 (maskA f)).after n1 (by simp))
  have k2 := blk_free B1
  go_wp2_with fail
  generalize hp : has f = p
  have Bm : Blk (n1.w.setRow w.heap.size (maskA (setW p))) w.heap.size 38 (maskA (setW p)) := B1.setRow _
  have hbm : Below w.heap.size w (n1.w.setRow w.heap.size (maskA (setW p))) := (by repeat (first | exact Below.refl _ _ | assumption | refine Below.n _ ?_ (by first | omega | (simp; done) | (simp; omega)) | refine Below.alloc ?_ (by first | omega | (simp; done) | (simp; omega)) _ | refine Below.setCell ?_ (by first | omega | (simp; done) | (simp; omega)) _ | refine Below.drew ?_ | refine Below.setRow ?_ (by first | omega | (simp; done) | (simp; omega)) _ | refine Below.drewN ?_ _))
  have zm : w.heap.size + 1 ≤ (n1.w.setRow w.heap.size (maskA (setW p))).heap.size := by simpa using z1
  clear B1 k2 z1
  generalize n1.w.setRow w.heap.size (maskA (setW p)) = wm at *
  replace hf := Lib.hid hf
  replace hp := Lib.hid hp
  go_loopg [3, 4] 1472 (fun n v k wr => ∃ (i : Nat) (l : List (Int × Int)), i ≤ 1472 ∧ n = 1472 - i ∧ k = .int .i64 i ∧ SpansTo p (min i 1440) l ∧ (i = 0 ∨ p (i - 1) = false ∨ (i < 1440 → p i = false)) ∧ wr.ownsRow (w.heap.size + 1) 108 2 v l.length (flatS l) ∧
    Below w.heap.size w wr ∧ w.heap.size + 1 ≤ wr.heap.size ∧ Blk wr w.heap.size 38 (maskA (setW p)))
  case atStart => exact ⟨0, [], by omega, rfl, rfl, SpansTo.zero p, .inl rfl, World.ownsRow_nil _ _ _ _, hbm, zm, Bm⟩
  case round =>
    clear Bm hbm zm
    obtain ⟨i, l, hi, hn, rfl, hl, hJ, ho, hb, hsz, B⟩ := hrel
    replace hn := Lib.hid hn
    replace hl := Lib.hid hl
    replace hJ := Lib.hid hJ
    replace ho := Lib.hid ho
    by_cases hlt : i < 1440
    · have c1 : wr.cell? ⟨w.heap.size, i / 64, none⟩ = some (.int .u64 (setW p (i / 64))) := by rw [B.cell, maskA_get, if_pos (by omega)]
      obtain ⟨y, hy⟩ : ∃ y : Nat, setW p (i / 64) / 2 ^ (i % 64) = y := ⟨_, rfl⟩
      have hyb : ∀ j, y.testBit j = (decide (i % 64 + j < 64) && (decide (i + j < 1440) && p (i + j))) := fun j => by
        rw [← hy, word_bit]
      have hylt : y < 18446744073709551616 := by rw [← hy]; exact Nat.lt_of_le_of_lt (Nat.div_le_self _ _) (setW_lt _ _)
      have hyI : ((setW p (i / 64) : Nat) : Int) / 2 ^ (i % 64) = (y : Int) := by rw [← hy]; norm_cast
      replace hyb := Lib.hid hyb
      clear hy
      by_cases hy0 : y = 0
      · subst hy0
        have hnone : ∀ j, i ≤ j → j < (i / 64 + 1) * 64 → j < 1440 → p j = false := fun j h1 h2 h3 => by
          have := hyb.out (j - i)
          rw [Nat.zero_testBit, show i + (j - i) = j by omega, decide_eq_true h3, decide_eq_true (show i % 64 + (j - i) < 64 by omega)] at this
          simpa using this.symm
        replace hnone := Lib.hid hnone
        go_wp2
        go_roundg (1472 - (i / 64 + 1) * 64)
        case measure => rw [hn.out]; omega
        case rel =>
          refine ⟨(i / 64 + 1) * 64, l, by omega, rfl, by go_num, hl.out.skip (by omega) (by omega) (fun j h1 h2 => hnone.out j (by omega) (by omega) (by omega)), ?_, ho.out, hb, hsz, B⟩
          by_cases h : (i / 64 + 1) * 64 ≤ 1440
          · exact .inr (.inl (hnone.out _ (by omega) (by omega) (by omega)))
          · exact .inr (.inr (fun h' => absurd h' (by omega)))
      · have g : ((y : Int) == 0) = false := by rw [beq_eq_false_iff_ne]; omega
        obtain ⟨q1, q2, q3⟩ := ctz_spec y hylt hy0
        obtain ⟨t, ht⟩ : ∃ t : Nat, Lib.ctz 64 y = t := ⟨_, rfl⟩
        have hct := TrailingZeros_any y wr hylt hy0 (hT.below hb hT.1)
        rw [ht] at q1 q2 q3 hct
        rw [hyb.out] at q2
        simp only [Bool.and_eq_true, decide_eq_true_eq] at q2
        obtain ⟨q4, q5, q6⟩ := q2
        have hnone : ∀ j, i ≤ j → j < i + t → p j = false := fun j h1 h2 => by
          have := q3 (j - i) (by omega)
          rw [hyb.out, show i + (j - i) = j by omega, decide_eq_true (show j < 1440 by omega), decide_eq_true (show i % 64 + (j - i) < 64 by omega)] at this
          simpa using this
        have htouch : i + t = 0 ∨ p (i + t - 1) = false := by
          by_cases h0 : t = 0
          · subst h0
            rcases hJ.out with rfl | h | h
            · exact .inl rfl
            · exact .inr h
            · rw [Nat.add_zero] at q6
              rw [h hlt] at q6; cases q6
          · exact .inr (hnone _ (by omega) (by omega))
        replace hnone := Lib.hid hnone
        replace htouch := Lib.hid htouch
        replace q6 := Lib.hid q6
        replace hct := Lib.hid hct
        clear ht q3 hy0 hyb hJ
        go_wp2_with fail
        refine hct.out.mono ?_
        rintro e w2 ⟨rfl, rfl⟩
        clear c1 hyI
        go_wp2_with fail
        obtain ⟨wo, rfl⟩ : ∃ wo : World, wo = wr := ⟨_, rfl⟩
        obtain ⟨a, ha⟩ : ∃ a : Nat, i + t = a := ⟨_, rfl⟩
        have haI : (i : Int) + (t : Int) = (a : Int) := by omega
        rw [haI]
        rw [ha] at hnone htouch q6 q5
        have hia : i ≤ a := by omega
        have hlnil := Lib.hid (chain_len hl.out.ch)
        replace ha := Lib.hid ha
        clear haI g hylt q1 q4
        go_loopg [6] (1440 - a) (fun n v wr2 => ∃ b : Nat, a ≤ b ∧ b ≤ 1440 ∧ n = 1440 - b ∧ v = .int .i64 b ∧ Hid (∀ j, a ≤ j → j < b → p j = true) ∧ wr2 = wo)
        case atStart => exact ⟨a, by omega, by omega, rfl, rfl, Lib.hid (fun j h1 h2 => by omega), rfl⟩
        case round =>
          obtain ⟨b, hb1, hb2, hk, rfl, hin, rfl⟩ := hrel
          replace hk := Lib.hid hk
          by_cases hgo : b < 1440 ∧ p b = true
          · obtain ⟨hb3, hpb⟩ := hgo
            have gb : decide ((b : Int) < 1440) = true := by simp; omega
            obtain ⟨x, hx⟩ : ∃ x : Nat, setW p (b / 64) = x := ⟨_, rfl⟩
            have c1 : wr.cell? ⟨w.heap.size, b / 64, none⟩ = some (.int .u64 (x : Nat)) := by rw [B.cell, maskA_get, if_pos (by omega), hx]
            obtain ⟨z, hz⟩ : ∃ z : Nat, x / 2 ^ (b % 64) = z := ⟨_, rfl⟩
            have hxs : (x : Int) / 2 ^ (b % 64) = (z : Int) := by rw [← hz]; norm_cast
            have hone : bits .and .u64 (z : Int) 1 = 1 := by
              have := bit_of p b
              rw [hpb, decide_eq_true hb3, hx, hxs] at this
              simpa using this
            clear hz
            have hfull : ((b : Int) % 64 == 0) = true ∧ isFull x = true ∨ ((b : Int) % 64 == 0) = false ∨ ((b : Int) % 64 == 0) = true ∧ isFull x = false := by
              cases h1 : ((b : Int) % 64 == 0)
              · exact .inr (.inl rfl)
              · cases h2 : isFull x
                · exact .inr (.inr ⟨rfl, rfl⟩)
                · exact .inl ⟨rfl, rfl⟩
            have hin2 := Lib.hid (show ∀ j, a ≤ j → j < b + 1 → p j = true from fun j h1 h2 => by
              by_cases h : j = b
              · rw [h]; exact hpb
              · exact hin.out j h1 (by omega))
            replace hpb := Lib.hid hpb
            rcases hfull with ⟨g1, g2⟩ | g1 | ⟨g1, g2⟩
            · have hall := full_word p b (by simp at g1; omega) (by rw [hx]; exact g2)
              have hin3 := Lib.hid (show ∀ j, a ≤ j → j < b + 64 → p j = true from fun j h1 h2 => by
                by_cases h : j < b
                · exact hin.out j h1 h
                · exact (hall j (by omega) h2).2)
              have hb64 : b + 64 ≤ 1440 := by have := (hall (b + 63) (by omega) (by omega)).1; omega
              clear hall
              replace hx := Lib.hid hx
              go_wp2
              go_roundg (1440 - (b + 64))
              case measure => rw [hk.out]; omega
              case rel => exact ⟨b + 64, by omega, by omega, rfl, by go_num, hin3, rfl⟩
            all_goals
              replace hx := Lib.hid hx
              go_wp2
              go_roundg (1440 - (b + 1))
              case measure => rw [hk.out]; omega
              case rel => exact ⟨b + 1, by omega, by omega, rfl, by go_num, hin2, rfl⟩
          · have hab : a < b := by
              by_cases h : a = b
              · exact absurd ⟨by omega, by rw [← h]; exact q6.out⟩ hgo
              · omega
            have hl2 := Lib.hid (hl.out.push (a := a) (b := b) (by omega) hab hb2 (fun j h1 h2 => hnone.out j (by omega) h2) hin.out htouch.out)
            have hpb := Lib.hid (show b < 1440 → p b = false from fun h => by
              cases hpb : p b
              · rfl
              · exact absurd ⟨h, hpb⟩ hgo)
            have hex : decide ((b : Int) < 1440) = false ∨ decide ((b : Int) < 1440) = true ∧ b < 1440 := by
              by_cases h : b < 1440
              · exact .inr ⟨by simp; omega, h⟩
              · exact .inl (by simp; omega)
            have hz1 : w.heap.size + 1 ≤ wr.heap.size := hsz
            have hlen : l.length ≤ 1500 := by rcases hlnil.out with h | h <;> first | omega | simp [h]
            have hnew := Lib.hid (show ∀ u ∈ (#[.int .i64 (a : Int), .int .i64 (b : Int)] : Array Value).toList, u.oneCell' = true from fun u hu => by simp at hu; rcases hu with rfl | rfl <;> rfl)
            clear hgo
            rcases hex with gb | ⟨gb, hb3⟩
            · go_wp2_with (at_builtin; refine wpList_append_lit el_span rfl (.tmp 56) (.tmp 60) rfl (w.heap.size + 1) u3 l.length (flatS l) ho.out #[.int .i64 (a : Int), .int .i64 (b : Int)] 108 rfl rfl rfl hnew.out (by simp only [maxLen]; omega) (by omega) hz1 ?_; intro v' w5 hown5 hb5 hs5)
              go_roundg (1472 - b)
              case measure => rw [hn.out]; omega
              case rel => exact ⟨b, l ++ [((a : Int), (b : Int))], by omega, rfl, rfl, by rw [Nat.min_eq_left (by omega)]; exact hl2.out, .inr (.inr hpb.out), by rw [flatS_snoc, List.length_append]; exact hown5, hb.trans (hb5.mono (by omega)), by omega, B.below hb5 (by omega)⟩
            · obtain ⟨x, hx⟩ : ∃ x : Nat, setW p (b / 64) = x := ⟨_, rfl⟩
              have c1 : wr.cell? ⟨w.heap.size, b / 64, none⟩ = some (.int .u64 (x : Nat)) := by rw [B.cell, maskA_get, if_pos (by omega), hx]
              obtain ⟨z, hz⟩ : ∃ z : Nat, x / 2 ^ (b % 64) = z := ⟨_, rfl⟩
              have hxs : (x : Int) / 2 ^ (b % 64) = (z : Int) := by rw [← hz]; norm_cast
              have hone : bits .and .u64 (z : Int) 1 = 0 := by
                have := bit_of p b
                rw [hpb.out hb3, decide_eq_true hb3, hx, hxs] at this
                simpa using this
              clear hz
              replace hx := Lib.hid hx
              go_wp2_with (at_builtin; refine wpList_append_lit el_span rfl (.tmp 56) (.tmp 60) rfl (w.heap.size + 1) u3 l.length (flatS l) ho.out #[.int .i64 (a : Int), .int .i64 (b : Int)] 108 rfl rfl rfl hnew.out (by simp only [maxLen]; omega) (by omega) hz1 ?_; intro v' w5 hown5 hb5 hs5)
              go_roundg (1472 - b)
              case measure => rw [hn.out]; omega
              case rel => exact ⟨b, l ++ [((a : Int), (b : Int))], by omega, rfl, rfl, by rw [Nat.min_eq_left (by omega)]; exact hl2.out, .inr (.inr hpb.out), by rw [flatS_snoc, List.length_append]; exact hown5, hb.trans (hb5.mono (by omega)), by omega, B.below hb5 (by omega)⟩
    · go_wp2
      go_ret
      refine ⟨_, l, rfl, hb, ?_, own_mono ho.out (by omega)⟩
      have := hl.out
      rw [Nat.min_eq_right (by omega)] at this
      rw [hp.out]
      exact this

end Msk
end Go.Proofs.YtbadplbdgpbdaaaDoor
