/- The walks of lex.small, digit, shape, num. -/
import Derived.Test.YtbcgcpcjepigeaaRows
import Derived.Test.YtbcgcpcjepigeaaLexM
import Derived.Test.YtbcgcpcjepigeaaLib
import Derived.BigQuiet
namespace Go.Proofs.Ytbcgcpcjepigeaa
open Go.RowKit
namespace Lx

/-- a text's byte -/
def bAt (s : List UInt8) (j : Nat) : UInt8 := s.getD j 0
theorem bAt_of {s : List UInt8} {j : Nat} {c : UInt8} (h : s[j]? = some c) : bAt s j = c := by unfold bAt; simp [h]
@[go_sem ↓] theorem get_str (s : List UInt8) (j : Nat) (h : j < ByteArray.size ⟨s.toArray⟩) : (⟨s.toArray⟩ : ByteArray)[j]'h = bAt s j := by
  unfold bAt
  have h' : j < s.length := by simpa [ByteArray.size] using h
  simp [List.getElem?_eq_getElem h']
  rfl

/-- a part of a text -/
@[go_sem ↓] theorem ext_str (s : List UInt8) (a b : Nat) : (⟨s.toArray⟩ : ByteArray).extract a b = ⟨((s.take b).drop a).toArray⟩ := by
  apply ByteArray.ext
  rw [ByteArray.data_extract]
  apply Array.ext'
  simp [List.drop_take]

theorem wsmall (n : Nat) (w : World) : Calls Try.prog 31 #[.int .u8 n] w fun e w' => e = .returned (.bool (small n)) ∧ w = w' := by
  have hc : (decide (97 ≤ (n : Int)) = false ∧ small n = false) ∨ (decide (97 ≤ (n : Int)) = true ∧ decide ((n : Int) ≤ 122) = false ∧ small n = false) ∨ (decide (97 ≤ (n : Int)) = true ∧ decide ((n : Int) ≤ 122) = true ∧ small n = true) := by
    unfold small
    by_cases h1 : 97 ≤ n
    · by_cases h2 : n ≤ 122
      · right; right; simp [h1, h2]; omega
      · right; left; simp [h1, h2]; omega
    · left; simp [h1]; omega
  rcases hc with ⟨g1, e⟩ | ⟨g1, g2, e⟩ | ⟨g1, g2, e⟩
  all_goals
    rw [e]
    clear e
    go_enter Try.func31, Try.ntmps31
    go_wp2
    go_ret
    exact ⟨rfl, rfl⟩
theorem wdigit (n : Nat) (w : World) : Calls Try.prog 33 #[.int .u8 n] w fun e w' => e = .returned (.bool (digit n)) ∧ w = w' := by
  have hc : (decide (48 ≤ (n : Int)) = false ∧ digit n = false) ∨ (decide (48 ≤ (n : Int)) = true ∧ decide ((n : Int) ≤ 57) = false ∧ digit n = false) ∨ (decide (48 ≤ (n : Int)) = true ∧ decide ((n : Int) ≤ 57) = true ∧ digit n = true) := by
    unfold digit
    by_cases h1 : 48 ≤ n
    · by_cases h2 : n ≤ 57
      · right; right; simp [h1, h2]; omega
      · right; left; simp [h1, h2]; omega
    · left; simp [h1]; omega
  rcases hc with ⟨g1, e⟩ | ⟨g1, g2, e⟩ | ⟨g1, g2, e⟩
  all_goals
    rw [e]
    clear e
    go_enter Try.func33, Try.ntmps33
    go_wp2
    go_ret
    exact ⟨rfl, rfl⟩

set_option maxHeartbeats 400000 in
theorem num_any (s : List UInt8) (w : World) (hl : s.length ≤ 6) (hd : ∀ c ∈ s, digit c.toNat = true) :
    Calls Try.prog 64 #[.string ⟨s.toArray⟩] w fun e w' => e = .returned (.int .i64 (num s)) ∧ w = w' := by
  replace hd := Lib.hid hd
  go_enter Try.func64, Try.ntmps64
  go_wp2
  go_loopg [3, 7] s.length (fun q a k wr => ∃ (j : Nat) (x : Int), j ≤ s.length ∧ q = s.length - j ∧ k = .int .i64 j ∧ a = .int .i64 x ∧ Hid (x = num (s.take j)) ∧ 0 ≤ x ∧ x ≤ 1000000 ∧ wr = w)
  case atStart => exact ⟨0, 0, by omega, rfl, rfl, rfl, Lib.hid rfl, by omega, by omega, rfl⟩
  case round =>
    obtain ⟨j, x, hj, hq, rfl, rfl, hx, hx0, hx1, rfl⟩ := hrel
    replace hq := Lib.hid hq
    by_cases hlt : j < s.length
    · obtain ⟨c, hc⟩ : ∃ c, s[j]? = some c := ⟨_, List.getElem?_eq_getElem hlt⟩
      have hx2 := num_take hc
      have hdc := digit_iff.1 (hd.out c (List.mem_of_getElem? hc))
      obtain ⟨h1, h2⟩ := num_bd hd.out (j + 1) (by omega)
      rw [hx2, ← hx.out] at h1 h2
      have h3 : 10 * x + ((c.toNat : Int) - 48) ≤ 1000000 := by
        have hj6 : j = 0 ∨ j = 1 ∨ j = 2 ∨ j = 3 ∨ j = 4 ∨ j = 5 := by omega
        rcases hj6 with rfl | rfl | rfl | rfl | rfl | rfl <;> omega
      have d1 : 48 ≤ (c.toNat : Int) := by omega
      have d2 : (c.toNat : Int) ≤ 57 := by omega
      have hb := bAt_of hc
      have hx3 := Lib.hid (show 10 * x + ((c.toNat : Int) - 48) = num (s.take (j + 1)) by rw [hx2, hx.out])
      clear h2 hx2 hc
      go_wp2
      go_roundg (s.length - (j + 1))
      case measure => rw [hq.out]; omega
      case rel => exact ⟨j + 1, 10 * x + ((c.toNat : Int) - 48), by omega, rfl, by go_num, rfl, hx3, h1, h3, rfl⟩
    · obtain rfl : j = s.length := by omega
      have hx2 := hx.out
      rw [List.take_length] at hx2
      go_wp2
      go_ret
      exact ⟨ret_int hx2, rfl⟩

theorem beqI {c x : UInt8} : (((c.toNat : Nat) : Int) == ((x.toNat : Nat) : Int)) = (c == x) := by
  rw [Bool.eq_iff_iff, beq_iff_eq, beq_iff_eq, ← UInt8.toNat_inj]; omega
theorem bneI {c x : UInt8} : (((c.toNat : Nat) : Int) != ((x.toNat : Nat) : Int)) = !(c == x) := by
  unfold bne; rw [beqI]

set_option maxHeartbeats 800000 in
theorem shape_any (s sh : List UInt8) (w : World) (hl : s.length ≤ 9223372036854775807) (hl2 : sh.length ≤ 9223372036854775807) :
    Calls Try.prog 62 #[.string ⟨s.toArray⟩, .string ⟨sh.toArray⟩] w fun e w' => e = .returned (.bool (shapeGo s sh)) ∧ Below w.heap.size w w' := by
  by_cases hlen : s.length < sh.length
  · have e : shapeGo s sh = false := by
      cases h : shapeGo s sh
      · rfl
      · have := shapeGo_len h; omega
    rw [e]
    clear e
    go_enter Try.func62, Try.ntmps62
    go_wp2
    go_ret
    exact ⟨rfl, Below.refl _ _⟩
  · go_enter Try.func62, Try.ntmps62
    go_wp2
    go_loopg [13] sh.length (fun q k wr => ∃ j : Nat, j ≤ sh.length ∧ q = sh.length - j ∧ k = .int .i64 j ∧ Hid (∀ (i : Nat) (c x : UInt8), i < j → s[i]? = some c → sh[i]? = some x → okAt c x = true) ∧ Below w.heap.size w wr)
    case atStart => exact ⟨0, by omega, rfl, rfl, Lib.hid (fun i c x h => by omega), Below.refl _ _⟩
    case round =>
      obtain ⟨j, hj, hq, rfl, hall, hb⟩ := hrel
      replace hq := Lib.hid hq
      by_cases hlt : j < sh.length
      · obtain ⟨x, hx⟩ : ∃ x, sh[j]? = some x := ⟨_, List.getElem?_eq_getElem hlt⟩
        have hlt2 : j < s.length := by omega
        obtain ⟨c, hc⟩ : ∃ c, s[j]? = some c := ⟨_, List.getElem?_eq_getElem hlt2⟩
        have e1 := bAt_of hc
        have e2 := bAt_of hx
        have z := hb.size
        have hyes : okAt c x = true → Hid (∀ (i : Nat) (c x : UInt8), i < j + 1 → s[i]? = some c → sh[i]? = some x → okAt c x = true) := fun ho => Lib.hid (fun i c' x' hi h1 h2 => by
          by_cases h : i = j
          · subst h
            rw [hc] at h1; rw [hx] at h2
            cases h1; cases h2; exact ho
          · exact hall.out i c' x' (by omega) h1 h2)
        have hno : okAt c x = false → Hid (shapeGo s sh = false) := fun ho => Lib.hid (by
          cases h : shapeGo s sh
          · rfl
          · have := (shapeGo_iff.1 h).2 j c x hc hx
            rw [ho] at this; cases this)
        have hji : (j : Int) < s.length := by omega
        have hji2 : (j : Int) < sh.length := by omega
        by_cases h100 : x = 100
        · have g1 : (((x.toNat : Nat) : Int) == 100) = true := by subst h100; rfl
          have g2 : (((x.toNat : Nat) : Int) != 100) = false := by subst h100; rfl
          have ho : okAt c x = digit c.toNat := by unfold okAt; rw [if_pos h100]
          have cD := fun W => wdigit c.toNat W
          cases hd : digit c.toNat with
          | true =>
            rw [hd] at ho cD
            have hy := hyes ho
            replace cD := Lib.hid cD
            clear hyes hno ho hd hc hx h100
            go_wp2
            refine wp_region_below (wr.heap.size) _ (Below.refl _ _) (by kernel_rfl) (by kernel_rfl) ?_
            repeat (go_big_quiet_step ((go_at_call 33; with_reducible exact quiet_same (cD.out _))))
            refine wpQuiet_nil ?_
            rintro _ ⟨n1, rfl⟩
            have z1 := n1.size
            go_wp2
            go_roundg (sh.length - (j + 1))
            case measure => rw [hq.out]; omega
            case rel => exact ⟨j + 1, by omega, rfl, by go_num, hy, (by repeat (first | exact Below.refl _ _ | assumption | refine Below.n _ ?_ (by first | omega | (simp; done) | (simp; omega)) | refine Below.alloc ?_ (by first | omega | (simp; done) | (simp; omega)) _ | refine Below.setCell ?_ (by first | omega | (simp; done) | (simp; omega)) _ | refine Below.drew ?_ | refine Below.setRow ?_ (by first | omega | (simp; done) | (simp; omega)) _ | refine Below.drewN ?_ _))⟩
          | false =>
            rw [hd] at ho cD
            have hn := hno ho
            replace cD := Lib.hid cD
            clear hyes hno ho hd hc hx h100
            go_wp2
            refine wp_region_below (wr.heap.size) _ (Below.refl _ _) (by kernel_rfl) (by kernel_rfl) ?_
            repeat (go_big_quiet_step ((go_at_call 33; with_reducible exact quiet_same (cD.out _))))
            refine wpQuiet_nil ?_
            rintro _ ⟨n1, rfl⟩
            have z1 := n1.size
            go_wp2
            go_ret
            exact ⟨ret_bool hn.out.symm, (by repeat (first | exact Below.refl _ _ | assumption | refine Below.n _ ?_ (by first | omega | (simp; done) | (simp; omega)) | refine Below.alloc ?_ (by first | omega | (simp; done) | (simp; omega)) _ | refine Below.setCell ?_ (by first | omega | (simp; done) | (simp; omega)) _ | refine Below.drew ?_ | refine Below.setRow ?_ (by first | omega | (simp; done) | (simp; omega)) _ | refine Below.drewN ?_ _))⟩
        · have g1 : (((x.toNat : Nat) : Int) == 100) = false := by
            rw [beq_eq_false_iff_ne]; intro h; exact h100 (by rw [← UInt8.toNat_inj]; have : (100 : UInt8).toNat = 100 := rfl; omega)
          have g2 : (((x.toNat : Nat) : Int) != 100) = true := by unfold bne; rw [g1]; rfl
          have g3 := bneI (c := c) (x := x)
          have ho : okAt c x = (c == x) := by unfold okAt; rw [if_neg h100]
          cases hd : (c == x) with
          | true =>
            rw [hd] at ho g3
            have hy := hyes ho
            clear hyes hno ho hd hc hx h100
            simp at g3
            go_wp2
            refine wp_region_below (wr.heap.size) _ (Below.refl _ _) (by kernel_rfl) (by kernel_rfl) ?_
            repeat (go_big_quiet_step ((fail)))
            refine wpQuiet_nil ?_
            rintro _ ⟨n1, rfl⟩
            have z1 := n1.size
            go_wp2
            go_roundg (sh.length - (j + 1))
            case measure => rw [hq.out]; omega
            case rel => exact ⟨j + 1, by omega, rfl, by go_num, hy, (by repeat (first | exact Below.refl _ _ | assumption | refine Below.n _ ?_ (by first | omega | (simp; done) | (simp; omega)) | refine Below.alloc ?_ (by first | omega | (simp; done) | (simp; omega)) _ | refine Below.setCell ?_ (by first | omega | (simp; done) | (simp; omega)) _ | refine Below.drew ?_ | refine Below.setRow ?_ (by first | omega | (simp; done) | (simp; omega)) _ | refine Below.drewN ?_ _))⟩
          | false =>
            rw [hd] at ho g3
            have hn := hno ho
            clear hyes hno ho hd hc hx h100
            rw [Bool.not_false] at g3
            go_wp2
            refine wp_region_below (wr.heap.size) _ (Below.refl _ _) (by kernel_rfl) (by kernel_rfl) ?_
            repeat (go_big_quiet_step ((fail)))
            refine wpQuiet_nil ?_
            rintro _ ⟨n1, rfl⟩
            have z1 := n1.size
            go_wp2
            go_ret
            exact ⟨ret_bool hn.out.symm, (by repeat (first | exact Below.refl _ _ | assumption | refine Below.n _ ?_ (by first | omega | (simp; done) | (simp; omega)) | refine Below.alloc ?_ (by first | omega | (simp; done) | (simp; omega)) _ | refine Below.setCell ?_ (by first | omega | (simp; done) | (simp; omega)) _ | refine Below.drew ?_ | refine Below.setRow ?_ (by first | omega | (simp; done) | (simp; omega)) _ | refine Below.drewN ?_ _))⟩
      · obtain rfl : j = sh.length := by omega
        have hy := Lib.hid (show shapeGo s sh = true from shapeGo_iff.2 ⟨by omega, fun i c x h1 h2 => hall.out i c x (List.getElem?_eq_some_iff.1 h2).1 h1 h2⟩)
        go_wp2
        go_ret
        exact ⟨ret_bool hy.out.symm, hb⟩

end Lx
end Go.Proofs.Ytbcgcpcjepigeaa
