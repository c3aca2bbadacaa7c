/- The law of chapter 5 that a rule more, that nobody speaks of, leaves rules as they were: slotlaw5.CheckMore. -/
import Derived.Test.YtfhedopfjgjffaaWth
import Derived.Test.YtfhedopfjgjffaaAlw
import Derived.Test.YtfhedopfjgjffaaEqF
namespace Go.Proofs.Ytfhedopfjgjffaa
open Go.RowKit
namespace Ru
open Lx
open Sl (strV Reads IntsV)

theorem firstErr_congr {α : Type} {f g : Nat → α → Int} : ∀ (l : List α) (i : Nat), (∀ j c, l[j]? = some c → f (i + j) c = g (i + j) c) → firstErr f i l = firstErr g i l
  | [], _, _ => rfl
  | c :: cs, i, h => by
    have h0 := h 0 c rfl
    rw [Nat.add_zero] at h0
    have ih := firstErr_congr (f := f) (g := g) cs (i + 1) (fun j d hd => by rw [show i + 1 + j = i + (j + 1) by omega]; exact h (j + 1) d (by simpa using hd))
    rw [firstErr, firstErr, h0, ih]
theorem firstErr_zero2 {α : Type} {f : Nat → α → Int} : ∀ (l : List α) (i : Nat), (firstErr f i l).1 = 0 → firstErr f i l = (0, 0)
  | [], _, _ => rfl
  | c :: cs, i, h => by
    rw [firstErr] at h ⊢
    split at h
    · rename_i h0
      rw [if_pos h0]
      exact firstErr_zero2 cs (i + 1) h
    · rename_i h0
      exact absurd h h0
theorem firstErr_last {α : Type} {f : Nat → α → Int} {x : α} : ∀ (l : List α) (i : Nat), firstErr f i (l ++ [x]) = if (firstErr f i l).1 = 0 then firstErr f (i + l.length) [x] else firstErr f i l
  | [], i => by simp [firstErr]
  | c :: cs, i => by
    rw [List.cons_append, firstErr, firstErr, firstErr_last cs (i + 1)]
    by_cases h : f i c = 0
    · rw [if_pos h, if_pos h, List.length_cons, show i + 1 + cs.length = i + (cs.length + 1) by omega]
    · rw [if_neg h, if_neg h, if_neg (by simpa using h)]
/-- one more that is right, and the others as they were -/
theorem firstErr_more {α : Type} {f g : Nat → α → Int} {l : List α} {x : α} (h : ∀ j c, l[j]? = some c → f j c = g j c) (h0 : f l.length x = 0) : firstErr f 0 (l ++ [x]) = firstErr g 0 l := by
  rw [firstErr_last, firstErr_congr (g := g) l 0 (fun j c hc => by rw [Nat.zero_add]; exact h j c hc)]
  split
  · rename_i h1
    rw [firstErr_zero2 l 0 h1, Nat.zero_add, firstErr, if_pos h0, firstErr]
  · rfl

def neverX : Expr := .mk 1 0 0 [] []
/-- rules, and one more that is never -/
def withV (l : List Rule) (nm : List UInt8) : List Rule := l ++ [⟨nm, neverX⟩]
theorem find_other {l : List Rule} {nm : List UInt8} {x : List UInt8} (hx : x ≠ nm) : findI (withV l nm) x = findI l x := by
  have hp : placeR (withV l nm) x = if placeR l x < l.length then placeR l x else 1 + l.length := by
    unfold placeR withV
    rw [List.findIdx_append]
    split
    · rfl
    · congr 1
      rw [List.findIdx_cons]
      have : (nm == x) = false := by simpa using fun h => hx h.symm
      rw [this]
      rfl
  unfold findI
  rw [hp]
  have hl : (withV l nm).length = l.length + 1 := by unfold withV; rw [List.length_append, List.length_singleton]
  rw [hl]
  by_cases h : placeR l x < l.length
  · rw [if_pos h, if_pos h, if_pos (by omega)]
  · rw [if_neg h, if_neg h, if_neg (by omega)]
section
variable {l : List Rule} {nm : List UInt8} (hn : ∀ (i : Nat) (r : Rule), l[i]? = some r → r.name ≠ nm ∧ nm ∉ namesE r.expr)
include hn
theorem find_new : findI (withV l nm) nm = l.length := by
  have hp : placeR (withV l nm) nm = l.length := by
    have h0 : placeR l nm = l.length := by
      apply Nat.le_antisymm
      · exact List.findIdx_le_length
      · apply Decidable.byContradiction
        intro hlt
        have hlt' : placeR l nm < l.length := by omega
        have hr : l[placeR l nm]? = some l[placeR l nm] := List.getElem?_eq_getElem hlt'
        exact (hn _ _ hr).1 (placeR_name hr)
    unfold placeR at h0 ⊢
    unfold withV
    rw [List.findIdx_append, h0, if_neg (Nat.lt_irrefl _), List.findIdx_cons]
    simp
  unfold findI
  rw [hp, if_pos (by unfold withV; rw [List.length_append, List.length_singleton]; omega)]
theorem direct_more : directR (withV l nm) = directR l := by
  funext i
  by_cases hi : i < l.length
  · have hr : l[i]? = some l[i] := List.getElem?_eq_getElem hi
    have hr2 : (withV l nm)[i]? = some l[i] := by unfold withV; rw [List.getElem?_append_left hi]; exact hr
    rw [directR_at2 hr, directR_at2 hr2]
    apply List.map_congr_left
    intro x hx
    exact find_other fun h => (hn i _ hr).2 (h ▸ hx)
  · have h1 : directR l i = [] := by
      unfold directR
      rw [List.getElem?_eq_none (by omega)]
      rfl
    rw [h1]
    by_cases he : i = l.length
    · subst he
      rw [directR_at2 (show (withV l nm)[l.length]? = some ⟨nm, neverX⟩ by unfold withV; rw [List.getElem?_append_right (Nat.le_refl _), Nat.sub_self]; rfl)]
      rfl
    · unfold directR withV
      rw [List.getElem?_eq_none (by rw [List.length_append, List.length_singleton]; omega)]
      rfl
end
theorem step_none {l : List Rule} {k : Nat} : stepB (directR l) l.length k = false := by
  unfold stepB directR
  rw [List.getElem?_eq_none (Nat.le_refl _)]
  rfl
theorem step_far {l : List Rule} {i : Nat} : stepB (directR l) i l.length = false := by
  cases h : stepB (directR l) i l.length with
  | false => rfl
  | true => exact absurd (stepB_lt h) (Nat.lt_irrefl _)
theorem way_more {l : List Rule} {i k : Nat} : Wal.Way (stepB (directR l)) (l.length + 1) i k ↔ Wal.Way (stepB (directR l)) l.length i k := by
  constructor
  · intro h
    induction h with
    | one h => exact .one h
    | cons h hj t ih =>
      rename_i i j k
      by_cases he : j < l.length
      · exact .cons h he ih
      · have : j = l.length := by omega
        subst this
        rw [step_far] at h
        cases h
  · exact fun h => h.mono (Nat.le_succ _)
theorem wal_more {l : List Rule} (i k : Nat) : Wal.wal (stepB (directR l)) (l.length + 1) i k = Wal.wal (stepB (directR l)) l.length i k := by
  cases h : Wal.wal (stepB (directR l)) l.length i k with
  | true => exact (Wal.wal_way _ _ _ _).2 (way_more.2 ((Wal.wal_way _ _ _ _).1 h))
  | false =>
    cases h2 : Wal.wal (stepB (directR l)) (l.length + 1) i k with
    | false => rfl
    | true =>
      rw [(Wal.wal_way _ _ _ _).2 (way_more.1 ((Wal.wal_way _ _ _ _).1 h2))] at h
      cases h
theorem wal_from {l : List Rule} (k : Nat) : Wal.wal (stepB (directR l)) l.length l.length k = false := by
  cases h : Wal.wal (stepB (directR l)) l.length l.length k with
  | false => rfl
  | true =>
    have := (Wal.wal_way _ _ _ _).1 h
    cases this with
    | one h => rw [step_none] at h; cases h
    | cons h _ _ => rw [step_none] at h; cases h
theorem wal_to {l : List Rule} (i : Nat) : Wal.wal (stepB (directR l)) l.length i l.length = false := by
  cases h : Wal.wal (stepB (directR l)) l.length i l.length with
  | false => rfl
  | true =>
    have hw := (Wal.wal_way _ _ _ _).1 h
    have key : ∀ {i k : Nat}, Wal.Way (stepB (directR l)) l.length i k → k ≠ l.length := fun hw => by
      induction hw with
      | one h => intro e; rw [e, step_far] at h; cases h
      | cons _ _ _ ih => exact ih
    exact absurd rfl (key hw)
theorem more_len (l : List Rule) (nm : List UInt8) : (withV l nm).length = l.length + 1 := by unfold withV; rw [List.length_append, List.length_singleton]
theorem wrong_more {l : List Rule} {nm : List UInt8} (hn : ∀ (i : Nat) (r : Rule), l[i]? = some r → r.name ≠ nm ∧ nm ∉ namesE r.expr) (h40 : l.length < 40) (hF : (wrongF (withV l nm)).1 = 0) : wrongR (withV l nm) = wrongR l := by
  have hF1 : (wrongF l).1 = 0 := by
    unfold wrongF at hF ⊢
    rw [if_neg (by rw [more_len]; omega)] at hF
    rw [if_neg (by omega)]
    unfold withV at hF
    rw [firstErr_last] at hF
    split at hF
    · rename_i h; exact h
    · exact hF
  have hd := direct_more hn
  have e1 : firstErr (dupErr (withV l nm)) 0 (withV l nm) = firstErr (dupErr l) 0 l := by
    refine firstErr_more (fun j c hc => ?_) ?_
    · unfold dupErr
      rw [find_other (hn j c hc).1]
    · unfold dupErr
      rw [find_new hn, if_neg (by omega)]
  have e2 : firstErr (fun i _ => noneErr (withV l nm) i) 0 (withV l nm) = firstErr (fun i _ => noneErr l i) 0 l := by
    refine firstErr_more (fun j c hc => ?_) ?_
    · unfold noneErr
      rw [hd]
    · unfold noneErr
      rw [hd]
      unfold directR
      rw [List.getElem?_eq_none (Nat.le_refl _)]
      rfl
  have e3 : firstErr (fun i _ => ringErr (withV l nm) i) 0 (withV l nm) = firstErr (fun i _ => ringErr l i) 0 l := by
    refine firstErr_more (fun j c hc => ?_) ?_
    · unfold ringErr
      rw [hd, more_len, wal_more]
    · unfold ringErr
      rw [hd, more_len, wal_more, wal_from]
      rfl
  unfold wrongR
  rw [if_pos hF, if_pos hF1, e1, e2, e3]
theorem reach_same {l : List Rule} {nm : List UInt8} (hd : directR (withV l nm) = directR l) (j : Nat) : ∀ n, reachL (withV l nm) j n = reachL l j n := fun n => by
  unfold reachL
  rw [hd, more_len]
  congr 1
  apply List.filter_congr
  intro k _
  rw [wal_more]
theorem uses_more {l : List Rule} {nm : List UInt8} (hn : ∀ (i : Nat) (r : Rule), l[i]? = some r → r.name ≠ nm ∧ nm ∉ namesE r.expr) (h40 : l.length < 40) (hF : (wrongF (withV l nm)).1 = 0) {i : Nat} (hi : i < l.length) : usesR (withV l nm) i = usesR l i := by
  have hd := direct_more hn
  unfold usesR
  rw [wrong_more hn h40 hF, more_len]
  by_cases hw : (wrongR l).1 = 0
  · rw [if_neg (by omega), if_neg (by omega), reachL_succ, hd, more_len, wal_more]
    rw [if_neg (by rw [wal_to]; decide)]
    exact reach_same hd _ _
  · rw [if_pos (by omega), if_pos (by omega)]
theorem uses_last {l : List Rule} {nm : List UInt8} (hn : ∀ (i : Nat) (r : Rule), l[i]? = some r → r.name ≠ nm ∧ nm ∉ namesE r.expr) : usesR (withV l nm) l.length = [] := by
  have hd := direct_more hn
  unfold usesR
  split
  · rfl
  · unfold reachL
    rw [hd, more_len]
    have : ((List.range (l.length + 1)).filter fun k => Wal.wal (stepB (directR l)) (l.length + 1) ((l.length : Int)).toNat k) = [] := by
      apply List.filter_eq_nil_iff.2
      intro k _
      rw [wal_more, Int.toNat_natCast, wal_from]
      decide
    rw [this]
    rfl

theorem never_lit (w : World) (nm : List UInt8) (T : TypeId) : ∀ j u, (ruleC ((⟨nm, neverX⟩ : Rule), none, 0))[j]? = some u → (w.alloc (.cells #[strV nm, .int .i64 1, .int .i64 0, .int .i64 0, strV [], .slice none 0 0] T)).cell? ⟨w.heap.size, j, none⟩ = some u := fun j u hu => by
  rw [(Blk.new w T #[strV nm, .int .i64 1, .int .i64 0, .int .i64 0, strV [], .slice none 0 0]).cell]
  rw [← Array.getElem?_toList]
  exact hu
theorem never_ok {w : World} {B : Nat} {nm : List UInt8} (h : nm.length ≤ 9223372036854775807) : RuleOk w B ((⟨nm, neverX⟩ : Rule), none, 0) := ⟨h, ⟨by show 0 ≤ _; omega, by show _ ≤ (1 : Int); omega, by show (1 : Int) ≤ _; omega⟩, by show 0 ≤ _; omega, .inl rfl⟩

set_option maxRecDepth 100000 in
set_option maxHeartbeats 16000000 in
theorem CheckMore_true (v : Value) (l : List Rule) (nm : List UInt8) (w : World) (hr : RulesIn w v l) (hnm : nm.length ≤ 9223372036854775807) :
    Calls Try.prog 5 #[v, strV nm] w fun r w' => r = .returned (.bool true) ∧ Below w.heap.size w w' := by
  have hAl := Lib.hid alive5
  obtain ⟨xs, hS⟩ := hr.at'.src
  have hlen := hr.z
  have hnil := hr.nil
  obtain ⟨A0, cap0, hv0, hSc⟩ := hS.at'
  subst hv0
  go_enter Try.func5, Try.ntmps5
  go_wp2_with fail
  refine (hAl.out _).mono ?_
  rintro e1 w1 ⟨rfl, hb1⟩
  have hz1 := hb1.size
  have hown0 : (w1.alloc (.cells #[] 40)).ownsRow w1.heap.size 40 6 (.slice (some ⟨w1.heap.size, 0, none⟩) 0 0) 0 [] := World.ownsRow_made w1 #[] 0 (Nat.le_refl _) (Nat.zero_le _) rfl
  have hbz : Below w.heap.size w (w1.alloc (.cells #[] 40)) := hb1.alloc hz1 _
  have hS1 := hS.below hbz (Nat.le_refl _)
  go_wp2_with (first
    | (at_builtin; refine wpList_copy rfl (.tmp 11) (.tmp 12) rfl w1.heap.size w.heap.size w1.heap.size (.slice A0 l.length cap0) l xs rfl hown0 rfl hS1 hlen hnil (by simp) hz1 0 [] ?_; intro g2 c2 w2 hrow2 hG2 hc2; have hz2 : w1.heap.size < w2.heap.size := (by have := hG2.bel.size; simp at this; omega); have hb2 : Below w.heap.size w w2 := hbz.trans (hG2.bel.mono hz1); have hrow2' := hrow2.gr (M := max (l.length * 6) 6) (F := []) (w' := w2.alloc (.cells #[strV nm, .int .i64 1, .int .i64 0, .int .i64 0, strV [], .slice none 0 0] 40)) (B := w1.heap.size) (GrR.of ((Below.refl _ _).alloc (Nat.le_refl _) _) (by omega)) hz1 (.inl (by rw [hrow2.len]; omega)); have BL := Blk.new w2 40 #[strV nm, .int .i64 1, .int .i64 0, .int .i64 0, strV [], .slice none 0 0])
    | (at_builtin; refine wpList_more (g := g2) (c := c2) (k := w2.heap.size) (l := l) (xs := xs) (y := ((⟨nm, neverX⟩ : Rule), none, 0)) (base := w1.heap.size) (B := w.heap.size) (M := max (l.length * 6) 6) (F := (xs ++ [((⟨nm, neverX⟩ : Rule), none, 0)]).flatMap ruleC) rfl (.tmp 13) (.tmp 17) rfl rfl hrow2' hc2 rfl (never_lit w2 nm _) (never_ok hnm) hz1 hlen (by simp; omega) rfl rfl ?_; intro g3 c3 w3 hrow3 hG3; have hb3 : Below w.heap.size w w3 := (hb2.alloc (by omega) _).trans (hG3.bel.mono hz1); have hz3 : w2.heap.size < w3.heap.size := (by have := hG3.bel.size; simp at this; omega); have hr3 : RulesV w3 w3.heap.size (.slice (some ⟨g3, 0, none⟩) (l.length + 1) c3) (withV l nm) := hrow3.rules (by omega) (by rw [List.length_append, List.length_singleton]; omega); clear hrow2 hrow2' hG2 hc2 BL hrow3 hG3 hown0 hS1; by_cases h40 : 40 ≤ l.length))
  · go_ret
    exact ⟨rfl, hb3⟩
  refine (PWrong_any _ (withV l nm) w3 hr3).mono ?_
  rintro e4 w4 ⟨rfl, hb4⟩
  unfold faultV
  have hb4' : Below w.heap.size w w4 := hb3.trans (hb4.mono (by omega))
  by_cases hF : (wrongF (withV l nm)).1 = 0
  case neg =>
    have gF : ((wrongF (withV l nm)).1 != 0) = true := by simpa using hF
    go_wp2
    go_ret
    exact ⟨rfl, hb4'⟩
  have gF : ((wrongF (withV l nm)).1 != 0) = false := by simpa using hF
  have hz4 := hb4.size
  have hv := Lib.hid (fun (W : World) (h : Below w4.heap.size w4 W) => (show RulesV W W.heap.size (.slice A0 l.length cap0) l ∧ RulesV W W.heap.size (.slice (some ⟨g3, 0, none⟩) (l.length + 1) c3) (withV l nm) from ⟨hr.at'.below (hb4'.trans (h.mono (by omega))) (Nat.le_refl _) (by have := h.size; omega), hr3.below (hb4.trans (h.mono hz4)) (Nat.le_refl _) (by have := h.size; omega)⟩))
  replace hF := Lib.hid hF
  go_wp2_with fail
  go_loopg [30] l.length (fun q kv wr => ∃ i : Nat, i ≤ l.length ∧ q = l.length - i ∧ kv = .int .i64 i ∧ Hid (∀ (j : Nat) (r : Rule), j < i → l[j]? = some r → r.name ≠ nm ∧ nm ∉ namesE r.expr) ∧ Below w4.heap.size w4 wr)
  case atStart => exact ⟨0, by omega, rfl, rfl, Lib.hid (fun j r h => by omega), Below.refl _ _⟩
  case round =>
    obtain ⟨i, hi, hq, rfl, hseen, hbr⟩ := hrel
    replace hq := Lib.hid hq
    have zr := hbr.size
    have hbw : Below w.heap.size w wr := hb4'.trans (hbr.mono (by omega))
    by_cases hlt : i < l.length
    · obtain ⟨r, hx⟩ : ∃ r, l[i]? = some r := ⟨_, List.getElem?_eq_getElem hlt⟩
      obtain ⟨A', cap', e, hl', hc'⟩ := (hv.out wr hbr).1
      cases e
      obtain ⟨b, o, rfl, hbb, hR⟩ := hc' i r hx
      obtain ⟨k0, hrn, hE⟩ := id hR
      obtain ⟨A1, cap1, k1, k2, k3, k4, k5, he1, he2, he3⟩ := exprAt_val hE
      have hlti : (i : Int) < l.length := by omega
      have k1' : wr.cell? ⟨b, o + i * 6 + 1, none⟩ = some (.int .i64 r.expr.kind) := k1
      have k2' : wr.cell? ⟨b, o + i * 6 + 2, none⟩ = some (.int .i64 r.expr.a) := k2
      have k3' : wr.cell? ⟨b, o + i * 6 + 3, none⟩ = some (.int .i64 r.expr.b) := k3
      have k4' : wr.cell? ⟨b, o + i * 6 + 4, none⟩ = some (strV r.expr.name) := k4
      have k5' : wr.cell? ⟨b, o + i * 6 + 5, none⟩ = some (.slice A1 r.expr.kids.length cap1) := k5
      clear k1 k2 k3 k4 k5
      by_cases hnq : r.name = nm
      · have gn : (r.name == nm) = true := by simpa using hnq
        clear hnq
        go_wp2
        go_ret
        exact ⟨rfl, hbw.alloc (by omega) _⟩
      · have gn : (r.name == nm) = false := by simpa using hnq
        have hSp := Lib.hid (Speaks_any (nodesE r.expr) r.expr (.agg #[.int .i64 r.expr.kind, .int .i64 r.expr.a, .int .i64 r.expr.b, strV r.expr.name, .slice A1 r.expr.kids.length cap1]) nm (wr.alloc (.cells #[strV r.name, .int .i64 r.expr.kind, .int .i64 r.expr.a, .int .i64 r.expr.b, strV r.expr.name, .slice A1 r.expr.kids.length cap1] 40)) wr.heap.size (Nat.le_refl _) ⟨A1, cap1, rfl, he1, he2, he3.below ((Below.refl wr.heap.size wr).alloc (Nat.le_refl _) _) (Nat.le_refl _) (Nat.le_refl _)⟩ (by simp))
        go_wp2_with fail
        refine hSp.out.mono ?_
        rintro e5 w5 ⟨rfl, hb5⟩
        have hb5' : Below w4.heap.size w4 w5 := Below.call (hbr.alloc zr _) hb5 (by simp; omega)
        cases hsp : speaksE r.expr nm with
        | true =>
          go_wp2
          go_ret
          exact ⟨rfl, hb4'.trans (hb5'.mono (by omega))⟩
        | false =>
          have hnin : nm ∉ namesE r.expr := by
            rw [speaks_names] at hsp
            simpa using hsp
          go_wp2_with fail
          go_roundg (l.length - (i + 1))
          case measure => rw [hq.out]; omega
          case rel => exact ⟨i + 1, by omega, rfl, by go_num, Lib.hid (fun j r' hj hr' => by
            by_cases hji : j = i
            · subst hji
              rw [hx] at hr'
              cases hr'
              exact ⟨hnq, hnin⟩
            · exact hseen.out j r' (by omega) hr'), hb5'⟩
    · obtain rfl : i = l.length := by omega
      have hn : ∀ (j : Nat) (r : Rule), l[j]? = some r → r.name ≠ nm ∧ nm ∉ namesE r.expr := fun j r h => hseen.out j r (List.getElem?_eq_some_iff.1 h).1 h
      have hWm := wrong_more hn (by omega) hF.out
      have hU := Lib.hid (fun (i : Nat) (h : i < l.length) => uses_more hn (by omega) hF.out h)
      have hUl := Lib.hid (uses_last hn)
      clear hn hseen
      have c1 := Lib.hid (CWrong_any _ l wr (hv.out wr hbr).1)
      go_wp2_with fail
      refine c1.out.mono ?_
      rintro e5 w5 ⟨rfl, hb5⟩
      have hb5' : Below w4.heap.size w4 w5 := Below.call hbr hb5 zr
      have c2 := Lib.hid (CWrong_any _ (withV l nm) w5 (hv.out w5 hb5').2)
      rw [hWm] at c2
      unfold faultV at c2 ⊢
      generalize (wrongR l).1 = q1 at *
      generalize (wrongR l).2 = q2 at *
      have hself := eqF_self q1 q2
      go_wp2_with fail
      refine c2.out.mono ?_
      rintro e6 w6 ⟨rfl, hb6⟩
      have hb6' : Below w4.heap.size w4 w6 := Below.call hb5' hb6 hb5'.size
      go_wp2_with fail
      go_loopg [52, 8] l.length (fun q kv _ wx => ∃ i : Nat, i ≤ l.length ∧ q = l.length - i ∧ kv = .int .i64 i ∧ Below w4.heap.size w4 wx)
      case atStart => exact ⟨0, by omega, rfl, rfl, hb6'⟩
      case round =>
        clear hb5 hb5' c1 c2 hb6 hb6' hWm hself
        obtain ⟨i, hi, hq2, rfl, hbx⟩ := hrel
        replace hq2 := Lib.hid hq2
        have zx := hbx.size
        by_cases hlt : i < l.length
        · have hlti : (i : Int) < l.length := by omega
          have u1 := Lib.hid (CUses_any _ l i _ (hv.out _ hbx).1)
          unfold UsesPost at u1
          go_wp2_with fail
          refine u1.out.mono ?_
          rintro e7 w7 ⟨v7, rfl, ho7, hb7⟩
          have hb7' := Below.call hbx hb7 zx
          obtain ⟨A7, c7, rfl⟩ := own_slice ho7
          have u2 := Lib.hid (CUses_any _ (withV l nm) i w7 (hv.out w7 hb7').2)
          unfold UsesPost at u2
          rw [hU.out i hlt] at u2
          go_wp2_with fail
          refine u2.out.mono ?_
          rintro e8 w8 ⟨v8, rfl, ho8, hb8⟩
          have hb8' := Below.call hb7' hb8 hb7'.size
          obtain ⟨A8, c8, rfl⟩ := own_slice ho8
          have hI := Lib.hid (Ints_same _ _ (usesR l i) w8 (own_reads (own_keep ho7 hb8 (Nat.le_refl _)) (Nat.le_refl _)) (own_reads ho8 (Nat.le_refl _)))
          clear u1 u2 ho7 ho8
          go_wp2_with fail
          refine hI.out.mono ?_
          rintro e9 w9 ⟨rfl, hb9⟩
          have hb9' := Below.call hb8' hb9 hb8'.size
          go_wp2_with fail
          go_roundg (l.length - (i + 1))
          case measure => rw [hq2.out]; omega
          case rel => exact ⟨i + 1, by omega, rfl, by go_num, hb9'⟩
        · obtain rfl : i = l.length := by omega
          have u1 := Lib.hid (CUses_any _ (withV l nm) l.length _ (hv.out _ hbx).2)
          unfold UsesPost at u1
          rw [hUl.out] at u1
          go_wp2_with fail
          refine u1.out.mono ?_
          rintro e7 w7 ⟨v7, rfl, ho7, hb7⟩
          have hb7' := Below.call hbx hb7 zx
          obtain ⟨A7, c7, rfl⟩ := own_slice ho7
          go_wp2
          go_ret
          exact ⟨rfl, hb4'.trans (hb7'.mono (by omega))⟩

end Ru
end Go.Proofs.Ytfhedopfjgjffaa
