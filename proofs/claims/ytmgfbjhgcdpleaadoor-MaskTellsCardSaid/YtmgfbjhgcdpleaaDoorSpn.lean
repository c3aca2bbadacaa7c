/- The walk of masks.Spans. -/
import Derived.Test.YtmgfbjhgcdpleaaDoorSpnM
import Derived.Outline
import Derived.Test.YtmgfbjhgcdpleaaDoorApp
namespace Go.Proofs.YtmgfbjhgcdpleaaDoor
open Go.RowKit
namespace Msk

theorem el_span : El Tryd.prog 32 30 2 16 := El.mk' Tryd.underlying32 (by kernel_rfl) (by omega)

set_option maxHeartbeats 400000 in
set_option maxRecDepth 100000 in
theorem Spans_any (f : Nat → Nat) (w : World) (hf : ∀ k, k < 23 → f k < 18446744073709551616) (hT : Tab w) :
    Calls Tryd.prog 12 #[.agg (maskA f)] w fun e w' => ∃ v l, e = .returned v ∧ Below w.heap.size w w' ∧ IsSpans (has f) l ∧ w'.ownsRow w.heap.size 30 2 v l.length (flatS l) := by
  go_enter Tryd.func12, Tryd.ntmps12
  go_wp2_with fail
  refine (clean_any f _ hf).mono ?_
  rintro e w1 ⟨rfl, hb1⟩
  obtain ⟨n1, rfl⟩ := After.of hb1
  have z1 := n1.size
  simp at z1
  have B1 := ((Blk.new w 24 (maskA f)).after n1 (by simp))
  have k2 := blk_free B1
  go_wp2_with fail
  generalize hp : has f = p
  have Bm : Blk (n1.w.setRow w.heap.size (maskA (setW p))) w.heap.size 24 (maskA (setW p)) := B1.setRow _
  have hbm : Below w.heap.size w (n1.w.setRow w.heap.size (maskA (setW p))) := (by repeat (first | exact Below.refl _ _ | assumption | refine Below.n _ ?_ (by first | omega | (simp; done) | (simp; omega)) | refine Below.alloc ?_ (by first | omega | (simp; done) | (simp; omega)) _ | refine Below.setCell ?_ (by first | omega | (simp; done) | (simp; omega)) _ | refine Below.drew ?_ | refine Below.setRow ?_ (by first | omega | (simp; done) | (simp; omega)) _ | refine Below.drewN ?_ _))
  have zm : w.heap.size + 1 ≤ (n1.w.setRow w.heap.size (maskA (setW p))).heap.size := by simpa using z1
  clear B1 k2 z1
  generalize n1.w.setRow w.heap.size (maskA (setW p)) = wm at *
  replace hf := Lib.hid hf
  replace hp := Lib.hid hp
  go_loopg [3, 4] 1472 (fun n v k wr => ∃ (i : Nat) (l : List (Int × Int)), i ≤ 1472 ∧ n = 1472 - i ∧ k = .int .i64 i ∧ SpansTo p (min i 1440) l ∧ (i = 0 ∨ p (i - 1) = false ∨ (i < 1440 → p i = false)) ∧ wr.ownsRow (w.heap.size + 1) 30 2 v l.length (flatS l) ∧
    Below w.heap.size w wr ∧ w.heap.size + 1 ≤ wr.heap.size ∧ Blk wr w.heap.size 24 (maskA (setW p)))
  case atStart => exact ⟨0, [], by omega, rfl, rfl, SpansTo.zero p, .inl rfl, World.ownsRow_nil _ _ _ _, hbm, zm, Bm⟩
  case round =>
    clear Bm hbm zm
    obtain ⟨i, l, hi, hn, rfl, hl, hJ, ho, hb, hsz, B⟩ := hrel
    replace hn := Lib.hid hn
    replace hl := Lib.hid hl
    replace hJ := Lib.hid hJ
    replace ho := Lib.hid ho
    by_cases hlt : i < 1440
    · have c1 : wr.cell? ⟨w.heap.size, i / 64, none⟩ = some (.int .u64 (setW p (i / 64))) := by rw [B.cell, maskA_get, if_pos (by omega)]
      obtain ⟨y, hy⟩ : ∃ y : Nat, setW p (i / 64) / 2 ^ (i % 64) = y := ⟨_, rfl⟩
      have hyb : ∀ j, y.testBit j = (decide (i % 64 + j < 64) && (decide (i + j < 1440) && p (i + j))) := fun j => by
        rw [← hy, word_bit]
      have hylt : y < 18446744073709551616 := by rw [← hy]; exact Nat.lt_of_le_of_lt (Nat.div_le_self _ _) (setW_lt _ _)
      have hyI : ((setW p (i / 64) : Nat) : Int) / 2 ^ (i % 64) = (y : Int) := by rw [← hy]; norm_cast
      replace hyb := Lib.hid hyb
      clear hy
      by_cases hy0 : y = 0
      · subst hy0
        have hnone : ∀ j, i ≤ j → j < (i / 64 + 1) * 64 → j < 1440 → p j = false := fun j h1 h2 h3 => by
          have := hyb.out (j - i)
          rw [Nat.zero_testBit, show i + (j - i) = j by omega, decide_eq_true h3, decide_eq_true (show i % 64 + (j - i) < 64 by omega)] at this
          simpa using this.symm
        replace hnone := Lib.hid hnone
        go_wp2
        go_roundg (1472 - (i / 64 + 1) * 64)
        case measure => rw [hn.out]; omega
        case rel =>
          refine ⟨(i / 64 + 1) * 64, l, by omega, rfl, by go_num, hl.out.skip (by omega) (by omega) (fun j h1 h2 => hnone.out j (by omega) (by omega) (by omega)), ?_, ho.out, hb, hsz, B⟩
          by_cases h : (i / 64 + 1) * 64 ≤ 1440
          · exact .inr (.inl (hnone.out _ (by omega) (by omega) (by omega)))
          · exact .inr (.inr (fun h' => absurd h' (by omega)))
      · have g : ((y : Int) == 0) = false := by rw [beq_eq_false_iff_ne]; omega
        obtain ⟨q1, q2, q3⟩ := ctz_spec y hylt hy0
        obtain ⟨t, ht⟩ : ∃ t : Nat, Lib.ctz 64 y = t := ⟨_, rfl⟩
        have hct := TrailingZeros_any y wr hylt hy0 (hT.below hb hT.1)
        rw [ht] at q1 q2 q3 hct
        rw [hyb.out] at q2
        simp only [Bool.and_eq_true, decide_eq_true_eq] at q2
        obtain ⟨q4, q5, q6⟩ := q2
        have hnone : ∀ j, i ≤ j → j < i + t → p j = false := fun j h1 h2 => by
          have := q3 (j - i) (by omega)
          rw [hyb.out, show i + (j - i) = j by omega, decide_eq_true (show j < 1440 by omega), decide_eq_true (show i % 64 + (j - i) < 64 by omega)] at this
          simpa using this
        have htouch : i + t = 0 ∨ p (i + t - 1) = false := by
          by_cases h0 : t = 0
          · subst h0
            rcases hJ.out with rfl | h | h
            · exact .inl rfl
            · exact .inr h
            · rw [Nat.add_zero] at q6
              rw [h hlt] at q6; cases q6
          · exact .inr (hnone _ (by omega) (by omega))
        replace hnone := Lib.hid hnone
        replace htouch := Lib.hid htouch
        replace q6 := Lib.hid q6
        replace hct := Lib.hid hct
        clear ht q3 hy0 hyb hJ
        go_wp2_with fail
        refine hct.out.mono ?_
        rintro e w2 ⟨rfl, rfl⟩
        clear c1 hyI
        go_wp2_with fail
        obtain ⟨wo, rfl⟩ : ∃ wo : World, wo = wr := ⟨_, rfl⟩
        obtain ⟨a, ha⟩ : ∃ a : Nat, i + t = a := ⟨_, rfl⟩
        have haI : (i : Int) + (t : Int) = (a : Int) := by omega
        rw [haI]
        rw [ha] at hnone htouch q6 q5
        have hia : i ≤ a := by omega
        have hlnil := Lib.hid (chain_len hl.out.ch)
        replace ha := Lib.hid ha
        clear haI g hylt q1 q4
        go_loopg [6] (1440 - a) (fun n v wr2 => ∃ b : Nat, a ≤ b ∧ b ≤ 1440 ∧ n = 1440 - b ∧ v = .int .i64 b ∧ Hid (∀ j, a ≤ j → j < b → p j = true) ∧ wr2 = wo)
        case atStart => exact ⟨a, by omega, by omega, rfl, rfl, Lib.hid (fun j h1 h2 => by omega), rfl⟩
        case round =>
          obtain ⟨b, hb1, hb2, hk, rfl, hin, rfl⟩ := hrel
          replace hk := Lib.hid hk
          by_cases hgo : b < 1440 ∧ p b = true
          · obtain ⟨hb3, hpb⟩ := hgo
            have gb : decide ((b : Int) < 1440) = true := by simp; omega
            obtain ⟨x, hx⟩ : ∃ x : Nat, setW p (b / 64) = x := ⟨_, rfl⟩
            have c1 : wr.cell? ⟨w.heap.size, b / 64, none⟩ = some (.int .u64 (x : Nat)) := by rw [B.cell, maskA_get, if_pos (by omega), hx]
            obtain ⟨z, hz⟩ : ∃ z : Nat, x / 2 ^ (b % 64) = z := ⟨_, rfl⟩
            have hxs : (x : Int) / 2 ^ (b % 64) = (z : Int) := by rw [← hz]; norm_cast
            have hone : bits .and .u64 (z : Int) 1 = 1 := by
              have := bit_of p b
              rw [hpb, decide_eq_true hb3, hx, hxs] at this
              simpa using this
            clear hz
            have hfull : ((b : Int) % 64 == 0) = true ∧ isFull x = true ∨ ((b : Int) % 64 == 0) = false ∨ ((b : Int) % 64 == 0) = true ∧ isFull x = false := by
              cases h1 : ((b : Int) % 64 == 0)
              · exact .inr (.inl rfl)
              · cases h2 : isFull x
                · exact .inr (.inr ⟨rfl, rfl⟩)
                · exact .inl ⟨rfl, rfl⟩
            have hin2 := Lib.hid (show ∀ j, a ≤ j → j < b + 1 → p j = true from fun j h1 h2 => by
              by_cases h : j = b
              · rw [h]; exact hpb
              · exact hin.out j h1 (by omega))
            replace hpb := Lib.hid hpb
            rcases hfull with ⟨g1, g2⟩ | g1 | ⟨g1, g2⟩
            · have hall := full_word p b (by simp at g1; omega) (by rw [hx]; exact g2)
              have hin3 := Lib.hid (show ∀ j, a ≤ j → j < b + 64 → p j = true from fun j h1 h2 => by
                by_cases h : j < b
                · exact hin.out j h1 h
                · exact (hall j (by omega) h2).2)
              have hb64 : b + 64 ≤ 1440 := by have := (hall (b + 63) (by omega) (by omega)).1; omega
              clear hall
              replace hx := Lib.hid hx
              go_wp2
              go_roundg (1440 - (b + 64))
              case measure => rw [hk.out]; omega
              case rel => exact ⟨b + 64, by omega, by omega, rfl, by go_num, hin3, rfl⟩
            all_goals
              replace hx := Lib.hid hx
              go_wp2
              go_roundg (1440 - (b + 1))
              case measure => rw [hk.out]; omega
              case rel => exact ⟨b + 1, by omega, by omega, rfl, by go_num, hin2, rfl⟩
          · have hab : a < b := by
              by_cases h : a = b
              · exact absurd ⟨by omega, by rw [← h]; exact q6.out⟩ hgo
              · omega
            have hl2 := Lib.hid (hl.out.push (a := a) (b := b) (by omega) hab hb2 (fun j h1 h2 => hnone.out j (by omega) h2) hin.out htouch.out)
            have hpb := Lib.hid (show b < 1440 → p b = false from fun h => by
              cases hpb : p b
              · rfl
              · exact absurd ⟨h, hpb⟩ hgo)
            have hex : decide ((b : Int) < 1440) = false ∨ decide ((b : Int) < 1440) = true ∧ b < 1440 := by
              by_cases h : b < 1440
              · exact .inr ⟨by simp; omega, h⟩
              · exact .inl (by simp; omega)
            have hz1 : w.heap.size + 1 ≤ wr.heap.size := hsz
            have hlen : l.length ≤ 1500 := by rcases hlnil.out with h | h <;> first | omega | simp [h]
            have hnew := Lib.hid (show ∀ u ∈ (#[.int .i64 (a : Int), .int .i64 (b : Int)] : Array Value).toList, u.oneCell' = true from fun u hu => by simp at hu; rcases hu with rfl | rfl <;> rfl)
            clear hgo
            rcases hex with gb | ⟨gb, hb3⟩
            · go_wp2_with (at_builtin; refine wpList_append_lit el_span rfl (.tmp 56) (.tmp 60) rfl (w.heap.size + 1) u3 l.length (flatS l) ho.out #[.int .i64 (a : Int), .int .i64 (b : Int)] 30 rfl rfl rfl hnew.out (by simp only [maxLen]; omega) (by omega) hz1 ?_; intro v' w5 hown5 hb5 hs5)
              go_roundg (1472 - b)
              case measure => rw [hn.out]; omega
              case rel => exact ⟨b, l ++ [((a : Int), (b : Int))], by omega, rfl, rfl, by rw [Nat.min_eq_left (by omega)]; exact hl2.out, .inr (.inr hpb.out), by rw [flatS_snoc, List.length_append]; exact hown5, hb.trans (hb5.mono (by omega)), by omega, B.below hb5 (by omega)⟩
            · obtain ⟨x, hx⟩ : ∃ x : Nat, setW p (b / 64) = x := ⟨_, rfl⟩
              have c1 : wr.cell? ⟨w.heap.size, b / 64, none⟩ = some (.int .u64 (x : Nat)) := by rw [B.cell, maskA_get, if_pos (by omega), hx]
              obtain ⟨z, hz⟩ : ∃ z : Nat, x / 2 ^ (b % 64) = z := ⟨_, rfl⟩
              have hxs : (x : Int) / 2 ^ (b % 64) = (z : Int) := by rw [← hz]; norm_cast
              have hone : bits .and .u64 (z : Int) 1 = 0 := by
                have := bit_of p b
                rw [hpb.out hb3, decide_eq_true hb3, hx, hxs] at this
                simpa using this
              clear hz
              replace hx := Lib.hid hx
              go_wp2_with (at_builtin; refine wpList_append_lit el_span rfl (.tmp 56) (.tmp 60) rfl (w.heap.size + 1) u3 l.length (flatS l) ho.out #[.int .i64 (a : Int), .int .i64 (b : Int)] 30 rfl rfl rfl hnew.out (by simp only [maxLen]; omega) (by omega) hz1 ?_; intro v' w5 hown5 hb5 hs5)
              go_roundg (1472 - b)
              case measure => rw [hn.out]; omega
              case rel => exact ⟨b, l ++ [((a : Int), (b : Int))], by omega, rfl, rfl, by rw [Nat.min_eq_left (by omega)]; exact hl2.out, .inr (.inr hpb.out), by rw [flatS_snoc, List.length_append]; exact hown5, hb.trans (hb5.mono (by omega)), by omega, B.below hb5 (by omega)⟩
    · go_wp2
      go_ret
      refine ⟨_, l, rfl, hb, ?_, own_mono ho.out (by omega)⟩
      have := hl.out
      rw [Nat.min_eq_right (by omega)] at this
      rw [hp.out]
      exact this

end Msk
end Go.Proofs.YtmgfbjhgcdpleaaDoor
