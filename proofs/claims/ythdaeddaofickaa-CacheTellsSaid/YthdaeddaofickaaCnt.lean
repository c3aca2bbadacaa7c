/- How many bits a word has: the sums that bits.OnesCount64 makes. No walk. -/
import Derived.Test.YthdaeddaofickaaMaskS
namespace Go.Proofs.Ythdaeddaofickaa
namespace Msk

/-- bits of a word, so many -/
def pcn : Nat → Nat → Nat
  | 0, _ => 0
  | n + 1, x => x % 2 + pcn n (x / 2)
/-- the same digit in so many places of a base -/
def rep (c b : Nat) : Nat → Nat
  | 0 => 0
  | n + 1 => c + b * rep c b n
theorem and_fields (k a c r m : Nat) (ha : a < 2 ^ k) (hc : c < 2 ^ k) : (a + 2 ^ k * r) &&& (c + 2 ^ k * m) = (a &&& c) + 2 ^ k * (r &&& m) := by
  have hp : 0 < 2 ^ k := Nat.two_pow_pos k
  have hac : (a &&& c) < 2 ^ k := Nat.lt_of_le_of_lt Nat.and_le_left ha
  have e1 : ((a + 2 ^ k * r) &&& (c + 2 ^ k * m)) % 2 ^ k = a &&& c := by
    rw [Nat.and_mod_two_pow, Nat.add_mul_mod_self_left, Nat.add_mul_mod_self_left, Nat.mod_eq_of_lt ha, Nat.mod_eq_of_lt hc]
  have e2 : ((a + 2 ^ k * r) &&& (c + 2 ^ k * m)) / 2 ^ k = r &&& m := by
    rw [Nat.and_div_two_pow, Nat.add_mul_div_left _ _ hp, Nat.add_mul_div_left _ _ hp, Nat.div_eq_of_lt ha, Nat.div_eq_of_lt hc, Nat.zero_add, Nat.zero_add]
  have := Nat.mod_add_div ((a + 2 ^ k * r) &&& (c + 2 ^ k * m)) (2 ^ k)
  rw [e1, e2] at this
  exact this.symm
theorem and_15 (a : Nat) : a &&& 15 = a % 16 := Nat.and_two_pow_sub_one_eq_mod a 4
theorem and_3 (a : Nat) : a &&& 3 = a % 4 := Nat.and_two_pow_sub_one_eq_mod a 2
theorem and_1 (a : Nat) : a &&& 1 = a % 2 := Nat.and_two_pow_sub_one_eq_mod a 1
theorem and_127 (a : Nat) : a &&& 127 = a % 128 := Nat.and_two_pow_sub_one_eq_mod a 7

theorem and_rep4 (n y : Nat) : y &&& rep 1 4 (n + 1) = y % 2 + 4 * (y / 4 &&& rep 1 4 n) := by
  have h := and_fields 2 (y % 4) 1 (y / 4) (rep 1 4 n) (by omega) (by omega)
  rw [show y % 4 + 2 ^ 2 * (y / 4) = y by omega, and_1] at h
  show y &&& (1 + 4 * rep 1 4 n) = _
  rw [h]; omega
theorem and_rep16 (n y : Nat) : y &&& rep 3 16 (n + 1) = y % 4 + 16 * (y / 16 &&& rep 3 16 n) := by
  have h := and_fields 4 (y % 16) 3 (y / 16) (rep 3 16 n) (by omega) (by omega)
  rw [show y % 16 + 2 ^ 4 * (y / 16) = y by omega, and_3] at h
  show y &&& (3 + 16 * rep 3 16 n) = _
  rw [h]; omega
theorem and_rep256 (n y : Nat) : y &&& rep 15 256 (n + 1) = y % 16 + 256 * (y / 256 &&& rep 15 256 n) := by
  have h := and_fields 8 (y % 256) 15 (y / 256) (rep 15 256 n) (by omega) (by omega)
  rw [show y % 256 + 2 ^ 8 * (y / 256) = y by omega, and_15] at h
  show y &&& (15 + 256 * rep 15 256 n) = _
  rw [h]; omega

/-- pairs, fours, eights of bits, side by side -/
def v1 : Nat → Nat → Nat
  | 0, _ => 0
  | n + 1, x => (x % 2 + x / 2 % 2) + 4 * v1 n (x / 4)
def b4 (x : Nat) : Nat := x % 2 + x / 2 % 2 + x / 4 % 2 + x / 8 % 2
def v2 : Nat → Nat → Nat
  | 0, _ => 0
  | n + 1, x => b4 x + 16 * v2 n (x / 16)
def v3 : Nat → Nat → Nat
  | 0, _ => 0
  | n + 1, x => (b4 x + b4 (x / 16)) + 256 * v3 n (x / 256)
theorem b4_le (x : Nat) : b4 x ≤ 4 := by unfold b4; omega

theorem s1_eq : ∀ (n x : Nat), (x / 2 &&& rep 1 4 n) + (x &&& rep 1 4 n) = v1 n x
  | 0, x => by simp [rep, v1]
  | n + 1, x => by
    have ih := s1_eq n (x / 4)
    rw [and_rep4, and_rep4, v1, ← ih, show x / 2 / 4 = x / 4 / 2 by omega]
    omega
theorem v1_two (n x : Nat) : v1 (n + 2) x = (x % 2 + x / 2 % 2) + 4 * (x / 4 % 2 + x / 8 % 2) + 16 * v1 n (x / 16) := by
  rw [v1, v1, show x / 4 / 2 = x / 8 by omega, show x / 4 / 4 = x / 16 by omega]
  omega
theorem s2_eq : ∀ (n x : Nat), (v1 (2 * n) x / 4 &&& rep 3 16 n) + (v1 (2 * n) x &&& rep 3 16 n) = v2 n x
  | 0, x => by simp [rep, v2]
  | n + 1, x => by
    have ih := s2_eq n (x / 16)
    rw [show 2 * (n + 1) = 2 * n + 2 by omega, and_rep16, and_rep16, v2, ← ih, v1_two]
    unfold b4
    have h1 : ((x % 2 + x / 2 % 2) + 4 * (x / 4 % 2 + x / 8 % 2) + 16 * v1 (2 * n) (x / 16)) / 16 = v1 (2 * n) (x / 16) := by omega
    have h2 : ((x % 2 + x / 2 % 2) + 4 * (x / 4 % 2 + x / 8 % 2) + 16 * v1 (2 * n) (x / 16)) / 4 / 16 = v1 (2 * n) (x / 16) / 4 := by omega
    rw [h1, h2]
    omega
theorem v2_two (n x : Nat) : v2 (n + 2) x = b4 x + 16 * b4 (x / 16) + 256 * v2 n (x / 256) := by
  rw [v2, v2, show x / 16 / 16 = x / 256 by omega]
  omega
theorem v2_low : ∀ (n x : Nat), v2 n x % 16 ≤ 4
  | 0, x => by simp [v2]
  | n + 1, x => by rw [v2]; have := b4_le x; omega
theorem s3_eq : ∀ (n x : Nat), (v2 (2 * n) x / 16 + v2 (2 * n) x) &&& rep 15 256 n = v3 n x
  | 0, x => by simp [rep, v3]
  | n + 1, x => by
    have ih := s3_eq n (x / 256)
    have hl := v2_low (2 * n) (x / 256)
    have h4 := b4_le x
    have h5 := b4_le (x / 16)
    rw [show 2 * (n + 1) = 2 * n + 2 by omega, and_rep256, v3, ← ih, v2_two]
    generalize v2 (2 * n) (x / 256) = R at *
    generalize b4 x = d0 at *
    generalize b4 (x / 16) = d1 at *
    have h1 : ((d0 + 16 * d1 + 256 * R) / 16 + (d0 + 16 * d1 + 256 * R)) / 256 = R / 16 + R := by omega
    rw [h1]
    have h2 : ((d0 + 16 * d1 + 256 * R) / 16 + (d0 + 16 * d1 + 256 * R)) % 16 = d0 + d1 := by omega
    rw [h2]
theorem pcn_zero (x : Nat) : pcn 0 x = 0 := rfl
theorem b4_pcn (n x : Nat) : pcn (n + 4) x = b4 x + pcn n (x / 16) := by
  rw [pcn, pcn, pcn, pcn, show x / 2 / 2 = x / 4 by omega, show x / 4 / 2 = x / 8 by omega, show x / 8 / 2 = x / 16 by omega]
  unfold b4
  omega

def w1 (x : Nat) : Nat := (x / 2 &&& 6148914691236517205) + (x &&& 6148914691236517205)
def w2 (x : Nat) : Nat := (x / 4 &&& 3689348814741910323) + (x &&& 3689348814741910323)
def w3 (x : Nat) : Nat := (x / 16 + x) &&& 1085102592571150095
def w4 (x : Nat) : Nat := x + x / 256
def w5 (x : Nat) : Nat := x + x / 65536
def w6 (x : Nat) : Nat := x + x / 4294967296
theorem w1_eq (x : Nat) : w1 x = v1 32 x := s1_eq 32 x
theorem w2_eq (x : Nat) : w2 (v1 32 x) = v2 16 x := s2_eq 16 x
theorem w3_eq (x : Nat) : w3 (v2 16 x) = v3 8 x := s3_eq 8 x
theorem w4_val (B0 R : Nat) (h : B0 ≤ 8) : w4 (B0 + 256 * R) = B0 + 256 * R + R := by unfold w4; omega
theorem w5_val (P0 P1 P2 P3 : Nat) (h0 : P0 ≤ 5000) : w5 (P0 + 65536 * (P1 + 65536 * (P2 + 65536 * P3))) = P0 + 65536 * (P1 + 65536 * (P2 + 65536 * P3)) + (P1 + 65536 * (P2 + 65536 * P3)) := by unfold w5; omega
theorem w6_val (U V : Nat) (h0 : U < 4294967296) : w6 (U + 4294967296 * V) = U + 4294967296 * V + V := by unfold w6; omega
theorem fold8 {B0 B1 B2 B3 B4 B5 B6 B7 : Nat} (q0 : B0 ≤ 8) (q1 : B1 ≤ 8) (q2 : B2 ≤ 8) (q3 : B3 ≤ 8) (q4 : B4 ≤ 8) (q5 : B5 ≤ 8) (q6 : B6 ≤ 8) (q7 : B7 ≤ 8) :
    w6 (w5 (w4 (B0 + 256 * B1 + 65536 * B2 + 16777216 * B3 + 4294967296 * B4 + 1099511627776 * B5 + 281474976710656 * B6 + 72057594037927936 * B7))) % 128 = B0 + B1 + (B2 + B3) + (B4 + B5) + (B6 + B7) := by
  have e1 : B0 + 256 * B1 + 65536 * B2 + 16777216 * B3 + 4294967296 * B4 + 1099511627776 * B5 + 281474976710656 * B6 + 72057594037927936 * B7 = B0 + 256 * (B1 + 256 * B2 + 65536 * B3 + 16777216 * B4 + 4294967296 * B5 + 1099511627776 * B6 + 281474976710656 * B7) := by omega
  rw [e1, w4_val _ _ q0]
  have e2 : B0 + 256 * (B1 + 256 * B2 + 65536 * B3 + 16777216 * B4 + 4294967296 * B5 + 1099511627776 * B6 + 281474976710656 * B7) + (B1 + 256 * B2 + 65536 * B3 + 16777216 * B4 + 4294967296 * B5 + 1099511627776 * B6 + 281474976710656 * B7) =
      (B0 + B1 + 256 * (B1 + B2)) + 65536 * ((B2 + B3 + 256 * (B3 + B4)) + 65536 * ((B4 + B5 + 256 * (B5 + B6)) + 65536 * (B6 + B7 + 256 * B7))) := by omega
  rw [e2, w5_val _ _ _ _ (by omega)]
  generalize hP0 : B0 + B1 + 256 * (B1 + B2) = P0
  generalize hP1 : B2 + B3 + 256 * (B3 + B4) = P1
  generalize hP2 : B4 + B5 + 256 * (B5 + B6) = P2
  generalize hP3 : B6 + B7 + 256 * B7 = P3
  have e3 : P0 + 65536 * (P1 + 65536 * (P2 + 65536 * P3)) + (P1 + 65536 * (P2 + 65536 * P3)) = (P0 + P1 + 65536 * (P1 + P2)) + 4294967296 * (P2 + P3 + 65536 * P3) := by omega
  rw [e3, w6_val _ _ (by omega)]
  have e4 : P0 + P1 + 65536 * (P1 + P2) + 4294967296 * (P2 + P3 + 65536 * P3) + (P2 + P3 + 65536 * P3) = (P0 + P1 + P2 + P3) + 128 * (512 * (P1 + P2) + 33554432 * (P2 + P3 + 65536 * P3) + 512 * P3) := by omega
  rw [e4, Nat.add_mul_mod_self_left]
  clear e1 e2 e3 e4
  have e5 : P0 + P1 + P2 + P3 = (B0 + B1 + (B2 + B3) + (B4 + B5) + (B6 + B7)) + 128 * (2 * (B1 + B2) + 2 * (B3 + B4) + 2 * (B5 + B6) + 2 * B7) := by omega
  rw [e5, Nat.add_mul_mod_self_left, Nat.mod_eq_of_lt (by omega)]
theorem ones_eq (x : Nat) : w6 (w5 (w4 (w3 (w2 (w1 x))))) % 128 = pcn 64 x := by
  rw [w1_eq, w2_eq, w3_eq]
  have e : pcn 64 x = b4 x + b4 (x / 16) + (b4 (x / 256) + b4 (x / 4096)) + (b4 (x / 65536) + b4 (x / 1048576)) + (b4 (x / 16777216) + b4 (x / 268435456)) + (b4 (x / 4294967296) + b4 (x / 68719476736)) + (b4 (x / 1099511627776) + b4 (x / 17592186044416)) +
      (b4 (x / 281474976710656) + b4 (x / 4503599627370496)) + (b4 (x / 72057594037927936) + b4 (x / 1152921504606846976)) := by
    simp only [b4_pcn, Nat.div_div_eq_div_mul, Nat.reduceMul, pcn_zero]
    omega
  have hv : v3 8 x = (b4 x + b4 (x / 16)) + 256 * (b4 (x / 256) + b4 (x / 4096)) + 65536 * (b4 (x / 65536) + b4 (x / 1048576)) + 16777216 * (b4 (x / 16777216) + b4 (x / 268435456)) + 4294967296 * (b4 (x / 4294967296) + b4 (x / 68719476736)) +
      1099511627776 * (b4 (x / 1099511627776) + b4 (x / 17592186044416)) + 281474976710656 * (b4 (x / 281474976710656) + b4 (x / 4503599627370496)) + 72057594037927936 * (b4 (x / 72057594037927936) + b4 (x / 1152921504606846976)) := by
    simp only [v3, Nat.div_div_eq_div_mul, Nat.reduceMul]
    omega
  rw [e, hv]
  have q0 : b4 x + b4 (x / 16) ≤ 8 := by have := b4_le x; have := b4_le (x / 16); omega
  have q1 : b4 (x / 256) + b4 (x / 4096) ≤ 8 := by have := b4_le (x / 256); have := b4_le (x / 4096); omega
  have q2 : b4 (x / 65536) + b4 (x / 1048576) ≤ 8 := by have := b4_le (x / 65536); have := b4_le (x / 1048576); omega
  have q3 : b4 (x / 16777216) + b4 (x / 268435456) ≤ 8 := by have := b4_le (x / 16777216); have := b4_le (x / 268435456); omega
  have q4 : b4 (x / 4294967296) + b4 (x / 68719476736) ≤ 8 := by have := b4_le (x / 4294967296); have := b4_le (x / 68719476736); omega
  have q5 : b4 (x / 1099511627776) + b4 (x / 17592186044416) ≤ 8 := by have := b4_le (x / 1099511627776); have := b4_le (x / 17592186044416); omega
  have q6 : b4 (x / 281474976710656) + b4 (x / 4503599627370496) ≤ 8 := by have := b4_le (x / 281474976710656); have := b4_le (x / 4503599627370496); omega
  have q7 : b4 (x / 72057594037927936) + b4 (x / 1152921504606846976) ≤ 8 := by have := b4_le (x / 72057594037927936); have := b4_le (x / 1152921504606846976); omega
  generalize b4 x + b4 (x / 16) = B0 at *
  generalize b4 (x / 256) + b4 (x / 4096) = B1 at *
  generalize b4 (x / 65536) + b4 (x / 1048576) = B2 at *
  generalize b4 (x / 16777216) + b4 (x / 268435456) = B3 at *
  generalize b4 (x / 4294967296) + b4 (x / 68719476736) = B4 at *
  generalize b4 (x / 1099511627776) + b4 (x / 17592186044416) = B5 at *
  generalize b4 (x / 281474976710656) + b4 (x / 4503599627370496) = B6 at *
  generalize b4 (x / 72057594037927936) + b4 (x / 1152921504606846976) = B7 at *
  rw [fold8 q0 q1 q2 q3 q4 q5 q6 q7]
  omega
/-! ### Bounds; words' bits are a set's minutes -/
theorem w1_le (x : Nat) : w1 x ≤ 12297829382473034410 := by
  unfold w1
  have h1 : x / 2 &&& 6148914691236517205 ≤ 6148914691236517205 := Nat.and_le_right
  have h2 : x &&& 6148914691236517205 ≤ 6148914691236517205 := Nat.and_le_right
  omega
theorem w2_le (x : Nat) : w2 x ≤ 7378697629483820646 := by
  unfold w2
  have h1 : x / 4 &&& 3689348814741910323 ≤ 3689348814741910323 := Nat.and_le_right
  have h2 : x &&& 3689348814741910323 ≤ 3689348814741910323 := Nat.and_le_right
  omega
theorem w3_le (x : Nat) : w3 x ≤ 1085102592571150095 := Nat.and_le_right
theorem pcn_countP : ∀ (n x : Nat), pcn n x = (List.range n).countP fun j => x.testBit j
  | 0, _ => rfl
  | n + 1, x => by
    rw [pcn, pcn_countP n (x / 2), List.range_succ_eq_map, List.countP_cons, List.countP_map]
    have e : ((fun j => x.testBit j) ∘ Nat.succ) = fun j => (x / 2).testBit j := by
      funext j
      show x.testBit (j + 1) = _
      rw [Nat.testBit_succ]
    rw [e, Nat.testBit_zero]
    by_cases h : x % 2 = 1
    · rw [h]; simp; omega
    · have : x % 2 = 0 := by omega
      rw [this]; simp
/-- minutes of a set below a number -/
def cntTo (p : Nat → Bool) (n : Nat) : Nat := (List.range n).countP fun i => decide (i < 1440) && p i
theorem cntTo_word (p : Nat → Bool) (k : Nat) : cntTo p (64 * (k + 1)) = cntTo p (64 * k) + pcn 64 (setW p k) := by
  unfold cntTo
  rw [show 64 * (k + 1) = 64 * k + 64 by omega, List.range_add, List.countP_append, List.countP_map, pcn_countP]
  congr 1
  apply List.countP_congr
  intro j hj
  have hj' : j < 64 := by simpa using hj
  rw [setW_bit]
  simp [hj']
theorem cntTo_all (p : Nat → Bool) : cntTo p (64 * 23) = cnt p := by
  unfold cntTo cnt
  rw [show 64 * 23 = 1440 + 32 by omega, List.range_add, List.countP_append, List.countP_map]
  have e1 : (List.range 1440).countP (fun i => decide (i < 1440) && p i) = (List.range 1440).countP p := by
    apply List.countP_congr
    intro j hj
    have hj' : j < 1440 := by simpa using hj
    simp [hj']
  have e2 : (List.range 32).countP ((fun i => decide (i < 1440) && p i) ∘ fun x => 1440 + x) = 0 := by
    rw [List.countP_eq_zero]
    intro j _
    simp
    intro h
    omega
  rw [e1, e2, Nat.add_zero]
theorem cntTo_zero (p : Nat → Bool) : cntTo p (64 * 0) = 0 := rfl
theorem cnt_le (p : Nat → Bool) : cnt p ≤ 1440 := by
  unfold cnt
  exact Nat.le_trans List.countP_le_length (by simp)

end Msk
end Go.Proofs.Ythdaeddaofickaa
