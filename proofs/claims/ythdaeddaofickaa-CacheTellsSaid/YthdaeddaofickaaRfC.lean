/- The machine's search for rings, and the document's table of who calls whom: they tell the same. No walk. The walk of slotref7.Calls: who calls whom, by way of others. -/
import Derived.Test.YthdaeddaofickaaVmP
import Derived.Test.YthdaeddaofickaaWal
import Derived.Test.YthdaeddaofickaaRfT
import Derived.Test.YthdaeddaofickaaVmW
import Derived.Test.YthdaeddaofickaaQt
namespace Go.Proofs.Ythdaeddaofickaa
namespace Vm
open Msk

section
variable {l : List Code} {rule : Int}
theorem scan_none : ∀ (xs : List Ins) (s t : List Int), scan rule xs s t = none → ∃ x ∈ xs, x.op = 8 ∧ x.a = rule
  | [], s, t, h => by cases h
  | x :: xs, s, t, h => by
    rw [scan] at h
    by_cases h8 : x.op = 8
    · rw [if_pos h8] at h
      by_cases hr : x.a = rule
      · exact ⟨x, by simp, h8, hr⟩
      · rw [if_neg hr] at h
        split at h
        all_goals
          obtain ⟨y, hy, h1⟩ := scan_none xs _ _ h
          exact ⟨y, by simp [hy], h1⟩
    · rw [if_neg h8] at h
      obtain ⟨y, hy, h1⟩ := scan_none xs _ _ h
      exact ⟨y, by simp [hy], h1⟩
theorem scan_todo : ∀ (xs : List Ins) (s t s' t' : List Int), scan rule xs s t = some (s', t') → ∀ y ∈ t', y ∈ t ∨ ∃ x ∈ xs, x.op = 8 ∧ x.a = y
  | [], s, t, s', t', h => by cases h; exact fun y hy => .inl hy
  | x :: xs, s, t, s', t', h => by
    rw [scan] at h
    have up : ∀ y, (∃ z ∈ xs, z.op = 8 ∧ z.a = y) → ∃ z ∈ x :: xs, z.op = 8 ∧ z.a = y := fun y ⟨z, hz, h1⟩ => ⟨z, by simp [hz], h1⟩
    by_cases h8 : x.op = 8
    · rw [if_pos h8] at h
      by_cases hr : x.a = rule
      · rw [if_pos hr] at h; cases h
      · rw [if_neg hr] at h
        split at h
        · exact fun y hy => (scan_todo xs _ _ s' t' h y hy).imp id (up y)
        · intro y hy
          rcases scan_todo xs _ _ s' t' h y hy with h1 | h1
          · rcases List.mem_append.1 h1 with h1 | h1
            · exact .inl h1
            · simp at h1
              exact .inr ⟨x, by simp, h8, h1.symm⟩
          · exact .inr (up y h1)
    · rw [if_neg h8] at h
      exact fun y hy => (scan_todo xs _ _ s' t' h y hy).imp id (up y)
theorem Reach.snoc {r k m : Int} (h : Reach l r k) (hc : calls l k m) : Reach l r m := by
  induction h with
  | one h => exact .more h (.one hc)
  | more h _ ih => exact .more h (ih hc)
theorem bfs_true : ∀ (f : Nat) (s t : List Int), bfs l rule f s t = true → (∀ y ∈ t, y = rule ∨ Reach l rule y) → Reach l rule rule
  | 0, s, t, h, _ => by cases h
  | f + 1, s, [], h, _ => by cases h
  | f + 1, s, t0 :: ts, h, ht => by
    rw [bfs] at h
    have h0 := ht t0 (by simp)
    have go : ∀ y, calls l t0 y → Reach l rule y := fun y hy => by
      rcases h0 with rfl | h0
      · exact .one hy
      · exact h0.snoc hy
    cases hsc : scan rule (insOf l t0) s ts with
    | none =>
      obtain ⟨x, hx, h8, hr⟩ := scan_none _ _ _ hsc
      exact go rule ⟨x, hx, h8, hr⟩
    | some p =>
      obtain ⟨s', t'⟩ := p
      rw [hsc] at h
      refine bfs_true f s' t' h fun y hy => ?_
      rcases scan_todo _ _ _ _ _ hsc y hy with h1 | ⟨x, hx, h8, h1⟩
      · exact ht y (by simp [h1])
      · exact .inr (go y ⟨x, hx, h8, h1⟩)
theorem rings_iff (hN : ∀ k, ∀ x ∈ insOf l k, x.op = 8 → 0 ≤ x.a ∧ x.a < l.length) : ringsL l rule = true ↔ Reach l rule rule := by
  constructor
  · exact fun h => bfs_true _ _ _ h (by simp)
  · intro h
    cases e : ringsL l rule with
    | true => rfl
    | false => exact absurd h (ring_none hN e)

/-- the table's first state -/
def callsB (l : List Code) (i k : Nat) : Bool := (insOf l i).any fun x => decide (x.op = 8) && decide (x.a = k)
theorem callsB_iff {i k : Nat} : callsB l i k = true ↔ calls l i k := by
  unfold callsB calls
  simp only [List.any_eq_true, Bool.and_eq_true, decide_eq_true_eq]
theorem callsB_lt (hN : ∀ k, ∀ x ∈ insOf l k, x.op = 8 → 0 ≤ x.a ∧ x.a < l.length) {i k : Nat} (h : callsB l i k = true) : i < l.length ∧ k < l.length := by
  obtain ⟨x, hx, h8, ha⟩ := callsB_iff.1 h
  have h1 := hN i x hx h8
  refine ⟨?_, by omega⟩
  rcases Nat.lt_or_ge i l.length with h | h
  · exact h
  · unfold insOf at hx
    rw [Int.toNat_natCast, List.getElem?_eq_none h] at hx
    simp at hx
theorem way_reach {m i k : Nat} (h : Wal.Way (callsB l) m i k) : Reach l i k := by
  induction h with
  | one h => exact .one (callsB_iff.1 h)
  | cons h _ _ ih => exact .more (callsB_iff.1 h) ih
theorem reach_way (hN : ∀ k, ∀ x ∈ insOf l k, x.op = 8 → 0 ≤ x.a ∧ x.a < l.length) {a b : Int} (h : Reach l a b) : ∀ i k : Nat, a = i → b = k → Wal.Way (callsB l) l.length i k := by
  induction h with
  | one h => intro i k h1 h2; subst h1 h2; exact .one (callsB_iff.2 h)
  | @more r j m h _ ih =>
    intro i k h1 h2
    subst h1 h2
    have h' := h
    obtain ⟨x, hx, h8, ha⟩ := h'
    have h1 := hN _ x hx h8
    obtain ⟨q, rfl⟩ := Int.eq_ofNat_of_zero_le (show 0 ≤ j by omega)
    exact .cons (callsB_iff.2 h) (by omega) (ih q k rfl rfl)
theorem rings_table (hN : ∀ k, ∀ x ∈ insOf l k, x.op = 8 → 0 ≤ x.a ∧ x.a < l.length) (i : Nat) : ringsL l i = Wal.wal (callsB l) l.length i i := by
  rw [Bool.eq_iff_iff, rings_iff hN, Wal.wal_way]
  exact ⟨fun h => reach_way hN h i i rfl rfl, way_reach⟩
end

end Vm
end Go.Proofs.Ythdaeddaofickaa

namespace Go.Proofs.Ythdaeddaofickaa
open Go.RowKit
namespace Vm
open Msk Sl

def mentions (c : List Ins) (k : Nat) (y : Nat) : Bool := (c.take k).any fun x => decide (x.op = 8) && decide (x.a = y)
theorem mentions_next {c : List Ins} {k : Nat} {x : Ins} (h : c[k]? = some x) (y : Nat) : mentions c (k + 1) y = (mentions c k y || (decide (x.op = 8) && decide (x.a = y))) := by
  unfold mentions
  rw [List.take_add_one, h]
  simp
theorem mentions_all {l : List Code} {i : Nat} {c : Code} (h : l[i]? = some c) (y : Nat) : mentions c.ins c.ins.length y = callsB l i y := by
  unfold mentions callsB insOf
  rw [List.take_length, Int.toNat_natCast, h]
  rfl
/-- the table in the midst of a way-point -/
def midB (r : Nat → Nat → Bool) (m i k : Nat) : Nat → Nat → Bool := fun x y => if x < i ∨ (x = i ∧ y < k) then Wal.wal r (m + 1) x y else Wal.wal r m x y
theorem midB_start (r : Nat → Nat → Bool) (m x y : Nat) : midB r m 0 0 x y = Wal.wal r m x y := by
  unfold midB
  rw [if_neg (by omega)]
theorem midB_row (r : Nat → Nat → Bool) (m i n x y : Nat) (hy : y < n) : midB r m i n x y = midB r m (i + 1) 0 x y := by
  unfold midB
  by_cases h : x < i ∨ x = i
  · rw [if_pos (by omega), if_pos (by omega)]
  · rw [if_neg (by omega), if_neg (by omega)]
theorem midB_end (r : Nat → Nat → Bool) (m n x y : Nat) (hx : x < n) : midB r m n 0 x y = Wal.wal r (m + 1) x y := by
  unfold midB
  rw [if_pos (by omega)]
theorem midB_here (r : Nat → Nat → Bool) (m i k : Nat) : midB r m i k i k = Wal.wal r m i k := by
  unfold midB
  rw [if_neg (by omega)]
theorem midB_col (r : Nat → Nat → Bool) (m i k : Nat) : midB r m i k i m = Wal.wal r m i m := by
  unfold midB
  split
  · exact Wal.step_col m _ i
  · rfl
theorem midB_way (r : Nat → Nat → Bool) (m i k : Nat) : midB r m i k m k = Wal.wal r m m k := by
  unfold midB
  split
  · exact Wal.step_row m _ k
  · rfl
theorem midB_next (r : Nat → Nat → Bool) (m i k x y : Nat) : (if x = i ∧ y = k then (Wal.wal r m i k || (Wal.wal r m i m && Wal.wal r m m k)) else midB r m i k x y) = midB r m i (k + 1) x y := by
  unfold midB
  by_cases h : x = i ∧ y = k
  · obtain ⟨rfl, rfl⟩ := h
    rw [if_pos ⟨rfl, rfl⟩, if_pos (by omega)]
    rfl
  · rw [if_neg h]
    by_cases h2 : x < i ∨ (x = i ∧ y < k)
    · rw [if_pos h2, if_pos (by omega)]
    · rw [if_neg h2, if_neg (by omega)]

theorem info_bools7 : (Try.prog.info? 86).map (fun i => (i.zero, i.size, i.bytes)) = some (some (.slice none 0 0), 1, 24) := by kernel_rfl
theorem info_bool7 : (Try.prog.info? 4).map (fun i => (i.zero, i.size, i.bytes)) = some (some (.bool false), 1, 1) := by kernel_rfl
theorem info_parts7 {t : TypeId} {z : Value} {n b : Nat} (h : (Try.prog.info? t).map (fun i => (i.zero, i.size, i.bytes)) = some (some z, n, b)) : ∃ i, Try.prog.info? t = some i ∧ i.zero = some z ∧ i.size = n ∧ i.bytes = b := by
  cases e : Try.prog.info? t with
  | none => rw [e] at h; simp at h
  | some i => rw [e] at h; simp at h; exact ⟨i, rfl, h.1, h.2.1, h.2.2⟩

set_option maxRecDepth 100000 in
set_option maxHeartbeats 4000000 in
theorem refCalls_any (codeV : Value) (l : List Code) (w : World) (hl : CodesV w w.heap.size codeV l) (hN : ∀ c ∈ l, ∀ x ∈ c.ins, x.op = 8 → 0 ≤ x.a ∧ x.a < l.length) (h40 : l.length ≤ 40) :
    Calls Try.prog 38 #[codeV] w fun e w' => ∃ (g : Nat) (G : Nat → Nat), e = .returned (.slice (some ⟨g, 0, none⟩) l.length l.length) ∧ w.heap.size ≤ g ∧ TabB w' g l.length l.length G (Wal.wal (callsB l) l.length) ∧ Below w.heap.size w w' := by
  obtain ⟨A, cap, rfl, hlen, hc⟩ := hl
  replace hc := Lib.hid hc
  replace hN := Lib.hid hN
  obtain ⟨i5, hi5, hz5, hs5, hy5⟩ := info_parts7 info_bools7
  obtain ⟨i6, hi6, hz6, hs6, hy6⟩ := info_parts7 info_bool7
  replace hi5 := Lib.hid hi5
  replace hz5 := Lib.hid hz5
  replace hs5 := Lib.hid hs5
  replace hi6 := Lib.hid hi6
  replace hz6 := Lib.hid hz6
  replace hs6 := Lib.hid hs6
  have hl5 := Lib.hid (show i5.bytes * l.length ≤ 281474976710656 by rw [hy5]; omega)
  have hl6 := Lib.hid (show i6.bytes * l.length ≤ 281474976710656 by rw [hy6]; omega)
  have hl63 := Lib.hid (show l.length ≤ 9223372036854775807 by omega)
  clear hy5 hy6
  go_enter Try.func38, Try.ntmps38
  go_wp2_with (at_make; refine wpList_make_row _ rfl _ _ 84 rfl 86 i5 _ Try.underlying84 hi5.out hz5.out hs5.out rfl .i64 .i64 l.length rfl rfl hl5.out hl63.out ?_)
  go_loopg [15] l.length (fun n k wr => ∃ (i : Nat) (G : Nat → Nat), i ≤ l.length ∧ n = l.length - i ∧ k = .int .i64 i ∧ Hid (TabB wr w.heap.size l.length i G (callsB l)) ∧ Below w.heap.size w wr)
  case atStart => exact ⟨0, fun _ => 0, by omega, rfl, rfl, Lib.hid (TabB.start w l.length _ _), (by repeat (first | exact Below.refl _ _ | assumption | refine Below.n _ ?_ (by first | omega | (simp; done) | (simp; omega)) | refine Below.alloc ?_ (by first | omega | (simp; done) | (simp; omega)) _ | refine Below.setCell ?_ (by first | omega | (simp; done) | (simp; omega)) _ | refine Below.drew ?_ | refine Below.setRow ?_ (by first | omega | (simp; done) | (simp; omega)) _ | refine Below.drewN ?_ _))⟩
  case round =>
    obtain ⟨i, G, hi, hn, rfl, hT, hbw⟩ := hrel
    replace hn := Lib.hid hn
    by_cases hlt : i < l.length
    · obtain ⟨c, hcx⟩ : ∃ c, l[i]? = some c := ⟨_, List.getElem?_eq_getElem hlt⟩
      obtain ⟨b, o, rfl, hb, ⟨u, k0, hI⟩, _, _⟩ := hc.out i c hcx
      obtain ⟨A1, cap1, rfl, hlen1, hc1⟩ := hI
      replace hc1 := Lib.hid hc1
      have hall := Lib.hid (fun y => mentions_all hcx y)
      have hN8 := Lib.hid (hN.out c (List.mem_of_getElem? hcx))
      have d0 : wr.cell? ⟨b, o + i * 3, none⟩ = some (.slice A1 c.ins.length cap1) := (hbw.cell (p := ⟨b, _, none⟩) hb).trans k0
      obtain ⟨d1, d2⟩ := hT.out.rest (Nat.le_refl _) hlt
      have z := hbw.size
      have zg := hT.out.lt.1
      clear hcx k0
      go_wp2_with (at_make; refine wpList_make_row _ rfl _ _ 86 rfl 4 i6 _ Try.underlying86 hi6.out hz6.out hs6.out rfl .i64 .i64 l.length rfl rfl hl6.out hl63.out ?_)
      have hmore := hT.out.more hlt
      have hT2 := Lib.hid (hmore.congr (r' := fun x y => if x = i then mentions c.ins 0 y else callsB l x y) (fun x y _ _ => by by_cases e : x = i <;> simp [e, mentions]))
      clear hmore hT d0 d1 d2
      obtain ⟨G2, hG2⟩ : ∃ G2 : Nat → Nat, G2 = fun x => if x = i then wr.heap.size else G x := ⟨_, rfl⟩
      rw [← hG2] at hT2
      clear hG2
      obtain ⟨wo, rfl⟩ : ∃ wo : World, wo = wr := ⟨_, rfl⟩
      go_loopg [30] c.ins.length (fun n s wr2 => ∃ k : Nat, k ≤ c.ins.length ∧ n = c.ins.length - k ∧ s = .int .i64 k ∧ Hid (TabB wr2 w.heap.size l.length (i + 1) G2 (fun x y => if x = i then mentions c.ins k y else callsB l x y)) ∧ Below w.heap.size w wr2)
      case atStart => exact ⟨0, Nat.zero_le _, rfl, rfl, hT2, (by repeat (first | exact Below.refl _ _ | assumption | refine Below.n _ ?_ (by first | omega | (simp; done) | (simp; omega)) | refine Below.alloc ?_ (by first | omega | (simp; done) | (simp; omega)) _ | refine Below.setCell ?_ (by first | omega | (simp; done) | (simp; omega)) _ | refine Below.drew ?_ | refine Below.setRow ?_ (by first | omega | (simp; done) | (simp; omega)) _ | refine Below.drewN ?_ _))⟩
      case round =>
        clear hbw hT2
        obtain ⟨k, hk, hq, rfl, hT, hbw⟩ := hrel
        replace hq := Lib.hid hq
        by_cases hlk : k < c.ins.length
        · obtain ⟨x, hx⟩ : ∃ x, c.ins[k]? = some x := ⟨_, List.getElem?_eq_getElem hlk⟩
          obtain ⟨b1, o1, rfl, hb1, hat⟩ := hc1.out k x hx
          have hx8 := hN8.out x (List.mem_of_getElem? hx)
          obtain ⟨x0, x1, x2, x3, u4, x4, x5⟩ := hat.below hbw hb1 (Nat.le_refl _) (Nat.le_refl _)
          have z2 := hbw.size
          have z1 : b1 < wr.heap.size := by omega
          have hnx := Lib.hid (fun y => mentions_next hx y)
          obtain ⟨r0, _⟩ := hT.out.row (Nat.lt_succ_self i)
          have hlG := (hT.out.lt.2 i (Nat.lt_succ_self i))
          obtain ⟨A4, cap4, rfl, _⟩ := x5
          clear hx hat
          obtain ⟨op, a, bb, to, sp⟩ := x
          simp only at x0 x1 x2 x3 x4 hx8 hnx
          by_cases e8 : op = 8
          · subst e8
            obtain ⟨ha1, ha2⟩ := hx8 rfl
            obtain ⟨an, rfl⟩ := Int.eq_ofNat_of_zero_le ha1
            have han : an < l.length := by omega
            obtain ⟨t0, t1⟩ := hT.out.at (Nat.lt_succ_self i) han
            have hput := Lib.hid (fun (W : World) (hW : TabB W w.heap.size l.length (i + 1) G2 (fun x y => if x = i then mentions c.ins k y else callsB l x y)) => (hW.put (Nat.lt_succ_self i) han true).congr (r' := fun x y => if x = i then mentions c.ins (k + 1) y else callsB l x y) (fun x y _ _ => by
              by_cases e : x = i
              · subst e
                by_cases e2 : y = an
                · subst e2; simp [hnx.out]
                · have e3 : ¬ (an : Int) = y := by omega
                  simp only [hnx.out, e2, e3, and_false, if_false, if_true, decide_false, Bool.and_false, Bool.or_false]
              · simp [e]))
            generalize G2 i = gi at *
            clear hx8
            go_wp2_with fail
            go_region
            all_goals
              go_wp2_with fail
              go_roundg (c.ins.length - (k + 1))
              case measure => rw [hq.out]; omega
              case rel =>
                exact ⟨k + 1, by omega, rfl, by go_num, Lib.hid (TabB.alloc (hput.out _ hT.out) _), (by repeat (first | exact Below.refl _ _ | assumption | refine Below.n _ ?_ (by first | omega | (simp; done) | (simp; omega)) | refine Below.alloc ?_ (by first | omega | (simp; done) | (simp; omega)) _ | refine Below.setCell ?_ (by first | omega | (simp; done) | (simp; omega)) _ | refine Below.drew ?_ | refine Below.setRow ?_ (by first | omega | (simp; done) | (simp; omega)) _ | refine Below.drewN ?_ _))⟩
          · have g8 : (op == 8) = false := by simpa using e8
            have hcg := Lib.hid (hT.out.congr (r' := fun x y => if x = i then mentions c.ins (k + 1) y else callsB l x y) (fun x y _ _ => by rw [hnx.out]; simp [e8]))
            clear hx8 e8
            go_wp2
            go_roundg (c.ins.length - (k + 1))
            case measure => rw [hq.out]; omega
            case rel => exact ⟨k + 1, by omega, rfl, by go_num, Lib.hid (hcg.out.heap (B := wr.heap.size) (by repeat (first | exact Below.refl _ _ | assumption | refine Below.n _ ?_ (by first | omega | (simp; done) | (simp; omega)) | refine Below.alloc ?_ (by first | omega | (simp; done) | (simp; omega)) _ | refine Below.setCell ?_ (by first | omega | (simp; done) | (simp; omega)) _ | refine Below.drew ?_ | refine Below.setRow ?_ (by first | omega | (simp; done) | (simp; omega)) _ | refine Below.drewN ?_ _)) (Nat.le_refl _)), (by repeat (first | exact Below.refl _ _ | assumption | refine Below.n _ ?_ (by first | omega | (simp; done) | (simp; omega)) | refine Below.alloc ?_ (by first | omega | (simp; done) | (simp; omega)) _ | refine Below.setCell ?_ (by first | omega | (simp; done) | (simp; omega)) _ | refine Below.drew ?_ | refine Below.setRow ?_ (by first | omega | (simp; done) | (simp; omega)) _ | refine Below.drewN ?_ _))⟩
        · obtain rfl : k = c.ins.length := by omega
          have hcg := Lib.hid (hT.out.congr (r' := callsB l) (fun x y _ _ => by
            by_cases e : x = i
            · subst e; simp [hall.out]
            · simp [e]))
          go_wp2
          go_roundg (l.length - (i + 1))
          case measure => rw [hn.out]; omega
          case rel => exact ⟨i + 1, G2, by omega, rfl, by go_num, hcg, hbw⟩
    · obtain rfl : i = l.length := by omega
      obtain ⟨wo, rfl⟩ : ∃ wo : World, wo = wr := ⟨_, rfl⟩
      clear hn
      go_wp2
      go_loopg [48] l.length (fun n s wr2 => ∃ m : Nat, m ≤ l.length ∧ n = l.length - m ∧ s = .int .i64 m ∧ Hid (TabB wr2 w.heap.size l.length l.length G (Wal.wal (callsB l) m)) ∧ Below w.heap.size w wr2)
      case atStart => exact ⟨0, Nat.zero_le _, rfl, rfl, hT, hbw⟩
      case round =>
        clear hbw hT
        obtain ⟨m, hm, hn, rfl, hT, hbw⟩ := hrel
        replace hn := Lib.hid hn
        by_cases hlm : m < l.length
        · have hT1 := Lib.hid (hT.out.congr (r' := midB (callsB l) m 0 0) (fun x y _ _ => (midB_start _ _ _ _).symm))
          clear hT
          obtain ⟨wo2, rfl⟩ : ∃ wo2 : World, wo2 = wr := ⟨_, rfl⟩
          go_wp2
          go_loopg [53] l.length (fun n s wr2 => ∃ i : Nat, i ≤ l.length ∧ n = l.length - i ∧ s = .int .i64 i ∧ Hid (TabB wr2 w.heap.size l.length l.length G (midB (callsB l) m i 0)) ∧ Below w.heap.size w wr2)
          case atStart => exact ⟨0, Nat.zero_le _, rfl, rfl, hT1, hbw⟩
          case round =>
            clear hbw hT1
            obtain ⟨i, hi, hq, rfl, hT, hbw⟩ := hrel
            replace hq := Lib.hid hq
            by_cases hli : i < l.length
            · obtain ⟨wo3, rfl⟩ : ∃ wo3 : World, wo3 = wr := ⟨_, rfl⟩
              go_wp2
              go_loopg [58] l.length (fun n s wr2 => ∃ k : Nat, k ≤ l.length ∧ n = l.length - k ∧ s = .int .i64 k ∧ Hid (TabB wr2 w.heap.size l.length l.length G (midB (callsB l) m i k)) ∧ Below w.heap.size w wr2)
              case atStart => exact ⟨0, Nat.zero_le _, rfl, rfl, hT, hbw⟩
              case round =>
                clear hbw hT
                obtain ⟨k, hk, hp, rfl, hT, hbw⟩ := hrel
                replace hp := Lib.hid hp
                by_cases hlk : k < l.length
                · obtain ⟨a0, _⟩ := hT.out.row hli
                  obtain ⟨b0, _⟩ := hT.out.row hlm
                  obtain ⟨a1, a2⟩ := hT.out.at hli hlk
                  obtain ⟨a3, _⟩ := hT.out.at hli hlm
                  obtain ⟨b1, _⟩ := hT.out.at hlm hlk
                  rw [midB_here] at a1
                  rw [midB_col] at a3
                  rw [midB_way] at b1
                  have hput := Lib.hid ((hT.out.put hli hlk (Wal.wal (callsB l) m i k || (Wal.wal (callsB l) m i m && Wal.wal (callsB l) m m k))).congr (fun x y _ _ => midB_next (callsB l) m i k x y))
                  have hgi := hT.out.lt.2 i hli
                  generalize G i = gi at *
                  generalize G m = gm at *
                  generalize Wal.wal (callsB l) m i k = q1 at *
                  generalize Wal.wal (callsB l) m i m = q2 at *
                  generalize Wal.wal (callsB l) m m k = q3 at *
                  have z := hbw.size
                  cases q1
                  · cases q2
                    · simp only [Bool.or_false, Bool.false_and] at hput
                      go_wp2_with fail
                      go_region
                      all_goals
                        go_wp2_with fail
                        go_roundg (l.length - (k + 1))
                        case measure => rw [hp.out]; omega
                        case rel => exact ⟨k + 1, by omega, rfl, by go_num, hput, (by repeat (first | exact Below.refl _ _ | assumption | refine Below.n _ ?_ (by first | omega | (simp; done) | (simp; omega)) | refine Below.alloc ?_ (by first | omega | (simp; done) | (simp; omega)) _ | refine Below.setCell ?_ (by first | omega | (simp; done) | (simp; omega)) _ | refine Below.drew ?_ | refine Below.setRow ?_ (by first | omega | (simp; done) | (simp; omega)) _ | refine Below.drewN ?_ _))⟩
                    · simp only [Bool.false_or, Bool.true_and] at hput
                      go_wp2_with fail
                      go_region
                      all_goals
                        go_wp2_with fail
                        go_roundg (l.length - (k + 1))
                        case measure => rw [hp.out]; omega
                        case rel => exact ⟨k + 1, by omega, rfl, by go_num, hput, (by repeat (first | exact Below.refl _ _ | assumption | refine Below.n _ ?_ (by first | omega | (simp; done) | (simp; omega)) | refine Below.alloc ?_ (by first | omega | (simp; done) | (simp; omega)) _ | refine Below.setCell ?_ (by first | omega | (simp; done) | (simp; omega)) _ | refine Below.drew ?_ | refine Below.setRow ?_ (by first | omega | (simp; done) | (simp; omega)) _ | refine Below.drewN ?_ _))⟩
                  · simp only [Bool.true_or] at hput
                    go_wp2_with fail
                    go_region
                    all_goals
                      go_wp2_with fail
                      go_roundg (l.length - (k + 1))
                      case measure => rw [hp.out]; omega
                      case rel => exact ⟨k + 1, by omega, rfl, by go_num, hput, (by repeat (first | exact Below.refl _ _ | assumption | refine Below.n _ ?_ (by first | omega | (simp; done) | (simp; omega)) | refine Below.alloc ?_ (by first | omega | (simp; done) | (simp; omega)) _ | refine Below.setCell ?_ (by first | omega | (simp; done) | (simp; omega)) _ | refine Below.drew ?_ | refine Below.setRow ?_ (by first | omega | (simp; done) | (simp; omega)) _ | refine Below.drewN ?_ _))⟩
                · obtain rfl : k = l.length := by omega
                  have hcg := Lib.hid (hT.out.congr (fun x y _ hy => midB_row (callsB l) m i _ x y hy))
                  go_wp2
                  go_roundg (l.length - (i + 1))
                  case measure => rw [hq.out]; omega
                  case rel => exact ⟨i + 1, by omega, rfl, by go_num, hcg, hbw⟩
            · obtain rfl : i = l.length := by omega
              have hcg := Lib.hid (hT.out.congr (fun x y hx _ => midB_end (callsB l) m _ x y hx))
              go_wp2
              go_roundg (l.length - (m + 1))
              case measure => rw [hn.out]; omega
              case rel => exact ⟨m + 1, by omega, rfl, by go_num, hcg, hbw⟩
        · obtain rfl : m = l.length := by omega
          go_wp2
          go_ret
          exact ⟨_, G, rfl, Nat.le_refl _, hT.out, hbw⟩

end Vm
end Go.Proofs.Ythdaeddaofickaa
