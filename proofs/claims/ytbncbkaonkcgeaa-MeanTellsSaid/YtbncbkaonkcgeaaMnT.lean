/- What an expression means where some rules' masks are known: slotref5.Mean. What all rules mean on a day, as the document tells it: slotref5.All. The law of chapter 6 that All tells what the document tells: slotlaw6.MeanTells; slotref5.Same. -/
import Derived.Test.YtbncbkaonkcgeaaMnA
import Derived.Test.YtbncbkaonkcgeaaRfT
import Derived.Deep.MidRow
import Derived.Deep.OwnRows
import Derived.Laws.MakeOwn
import Derived.Test.YtbncbkaonkcgeaaEqF
namespace Go.Proofs.Ytbncbkaonkcgeaa
open Go.RowKit Go.Maps Go.ChangeShapes
namespace Ru
open Msk Vm
open Sl (strV Reads IntsV)

/-- are all that an expression speaks of known? -/
def okE (l : List Rule) (K : Nat → Bool) (e : Expr) : Bool := (namesE e).all fun nm => K (placeR l nm)
def okL (l : List Rule) (K : Nat → Bool) (es : List Expr) : Bool := (namesL es).all fun nm => K (placeR l nm)
theorem okL_take {l : List Rule} {K : Nat → Bool} {es : List Expr} {j : Nat} {e : Expr} (h : es[j]? = some e) : okL l K (es.take (j + 1)) = (okL l K (es.take j) && okE l K e) := by
  unfold okL okE
  rw [namesL_take h, List.all_append]
theorem okL_le {l : List Rule} {K : Nat → Bool} {es : List Expr} {j : Nat} (h : okL l K (es.take j) = false) : okL l K es = false := by
  unfold okL at *
  rw [List.all_eq_false] at h ⊢
  obtain ⟨nm, h1, h2⟩ := h
  refine ⟨nm, ?_, h2⟩
  clear h2
  induction es generalizing j with
  | nil => simpa using h1
  | cons x es ih =>
    cases j with
    | zero => rw [List.take_zero, namesL] at h1; cases h1
    | succ j =>
      rw [List.take_succ_cons, namesL] at h1
      rw [namesL]
      rcases List.mem_append.1 h1 with h1 | h1
      · exact List.mem_append_left _ h1
      · exact List.mem_append_right _ (ih h1)
theorem namesL_mem {nm : List UInt8} {es : List Expr} : ∀ {j : Nat} {e : Expr}, es[j]? = some e → nm ∈ namesE e → nm ∈ namesL es := by
  induction es with
  | nil => intro j e h; simp at h
  | cons x es ih =>
    intro j e h hn
    rw [namesL]
    cases j with
    | zero => simp at h; subst h; exact List.mem_append_left _ hn
    | succ j => exact List.mem_append_right _ (ih (by simpa using h) hn)
theorem meanL_take {wd : Nat} {day : Int} {env : List UInt8 → Nat → Bool} {es : List Expr} : ∀ {j : Nat} {e : Expr}, es[j]? = some e → meanL wd day env (es.take (j + 1)) = meanL wd day env (es.take j) ++ [meanE wd day env e] := by
  induction es with
  | nil => intro j e h; simp at h
  | cons x es ih =>
    intro j e h
    cases j with
    | zero => simp at h; subst h; rw [List.take_succ_cons, List.take_zero, List.take_zero, meanL, meanL]; rfl
    | succ j =>
      rw [List.take_succ_cons, List.take_succ_cons, meanL, meanL, ih (by simpa using h)]
      rfl
theorem meanL_len {wd : Nat} {day : Int} {env : List UInt8 → Nat → Bool} : ∀ (es : List Expr), (meanL wd day env es).length = es.length
  | [] => by rw [meanL]; rfl
  | x :: es => by rw [meanL, List.length_cons, List.length_cons, meanL_len es]

/-- which masks are known, and what they are so far -/
structure KnownAt (w : World) (ga gm n : Nat) (K : Nat → Bool) (P : Nat → Nat → Bool) : Prop where
  kn : ∀ i, i < n → w.cell? ⟨ga, i, none⟩ = some (.bool (K i))
  ms : ∀ i, i < n → cellsAt w gm (i * 23) 23 = some (maskA (setW (P i)))
  lk : ga < w.heap.size
  lm : gm < w.heap.size
theorem KnownAt.below {w w' : World} {ga gm n : Nat} {K : Nat → Bool} {P : Nat → Nat → Bool} (h : KnownAt w ga gm n K P) {B : Nat} (hb : Below B w w') (hB : w.heap.size ≤ B) : KnownAt w' ga gm n K P := by
  have h1 := h.lk
  have h2 := h.lm
  have h3 := hb.size
  exact ⟨fun i hi => (hb.cell (p := ⟨ga, _, none⟩) (by show ga < B; omega)).trans (h.kn i hi), fun i hi => (cellsAt_congr fun j _ => hb.cell (p := ⟨gm, _, none⟩) (by show gm < B; omega)).trans (h.ms i hi), by omega, by omega⟩
theorem mask_at {w : World} {base : Nat} {v : Value} {S : List (Nat → Bool)} (h : MaskRow w base v S) {i : Nat} {p : Nat → Bool} (hi : S[i]? = some p) : ∃ g cap, v = .slice (some ⟨g, 0, none⟩) S.length cap ∧ base ≤ g ∧ g < w.heap.size ∧ cellsAt w g (i * 23) 23 = some (maskA (setW p)) := by
  obtain ⟨g, cap, e, h1, h2, h3⟩ := own_at h maskL_len hi
  refine ⟨g, cap, e, ?_, h2, cellsAt_some.2 ⟨maskA_size _, fun j hj => ?_⟩⟩
  · rcases h.2 with ⟨e2, _⟩ | ⟨g', cap', cur, e2, hb, _⟩
    · rw [e2] at e; cases e
    · rw [e2] at e; cases e; exact hb
  · have hj2 : j < (maskA (setW p)).size := by rw [maskA_size]; exact hj
    rw [Array.getElem?_eq_getElem hj2]
    exact h3 j _ (by unfold maskL; rw [Array.getElem?_toList, Array.getElem?_eq_getElem hj2])

def RMeanPost (wd : Nat) (day : Int) (l : List Rule) (K : Nat → Bool) (P : Nat → Nat → Bool) (e : Expr) (w : World) (r : Ending) (w' : World) : Prop :=
  ∃ q, r = .returned (.tuple #[.agg (maskA (setW q)), .bool (okE l K e)]) ∧ (okE l K e = true → q = meanE wd day (fun nm => P (placeR l nm)) e) ∧ Below w.heap.size w w'
def RMeanAll (wd : Nat) (day : Int) (l : List Rule) (K : Nat → Bool) (P : Nat → Nat → Bool) (N : Nat) : Prop := ∀ (e : Expr) (v rv : Value) (w : World) (B ga gm : Nat), nodesE e ≤ N → GoodE e → (∀ nm ∈ namesE e, placeR l nm < l.length) → ExprVal w B v e → B ≤ w.heap.size → RulesV w B rv l → KnownAt w ga gm l.length K P →
    Calls Try.prog 38 #[v, rv, .int .i64 day, .slice (some ⟨ga, 0, none⟩) l.length l.length, .slice (some ⟨gm, 0, none⟩) l.length l.length] w (RMeanPost wd day l K P e w)

set_option maxHeartbeats 400000 in
theorem RWeekM (n : Int) (w : World) (h1 : 0 ≤ n) (h2 : n < 146097) :
    Calls Try.prog 82 #[.int .i64 n] w fun e w' => e = .returned (.int .i64 (Civ.weekI n)) ∧ w = w' := by
  go_enter Try.func82, Try.ntmps82
  go_wp2
  go_ret
  exact ⟨ret_int (by unfold Civ.weekI; omega), rfl⟩
set_option maxHeartbeats 400000 in
theorem Mean1_any (i : Nat) (w : World) : Calls Try.prog 80 #[.int .i64 i] w fun e w' => e = .returned (.bool true) ∧ Below w.heap.size w w' := by
  go_enter Try.func80, Try.ntmps80
  go_wp2
  go_ret
  exact ⟨rfl, Below.refl _ _⟩
set_option maxHeartbeats 400000 in
theorem Mean2_any (i g : Nat) (x y : Int) (w : World) (h1 : w.cell? ⟨g, 1, none⟩ = some (.int .i64 x)) (h2 : w.cell? ⟨g, 2, none⟩ = some (.int .i64 y)) : Calls Try.prog 81 #[.int .i64 i, .pointer (some ⟨g, 0, none⟩)] w fun e w' => e = .returned (.bool (inSpans [(x, y)] i)) ∧ Below w.heap.size w w' := by
  have e : inSpans [(x, y)] i = (decide (x ≤ (i : Int)) && decide ((i : Int) < y)) := by simp [inSpans]
  rw [e]
  rcases dec (x ≤ (i : Int)) with ⟨q1, _⟩ | ⟨q1, _⟩
  all_goals
    go_enter Try.func81, Try.ntmps81
    go_wp2
    go_ret
    exact ⟨ret_bool (by first | rfl | (rw [q1]; simp)), Below.refl _ _⟩
theorem week_bitM (a wd : Nat) (h1 : a ≤ 127) (h2 : wd ≤ 6) : (bits BinOp.and IntKind.i64 (a : Int) (wrap64 (2 ^ wd)) == 0) = !(bits BinOp.and IntKind.i64 ((a : Int) / 2 ^ wd) 1 == 1) := by
  have key : ((List.range 7).all fun wd => (List.range 128).all fun a => (bits BinOp.and IntKind.i64 ((a : Nat) : Int) (2 ^ wd) == 0) == !(bits BinOp.and IntKind.i64 (((a : Nat) : Int) / 2 ^ wd) 1 == 1)) = true := by kernel_rfl
  have hp : (2 : Int) ^ wd ≤ 64 := by
    have : ((List.range 7).all fun wd => decide ((2 : Int) ^ wd ≤ 64)) = true := by kernel_rfl
    simpa using List.all_eq_true.1 this wd (List.mem_range.2 (by omega))
  have hq : 0 ≤ (2 : Int) ^ wd := Int.pow_nonneg (by decide)
  rw [show wrap64 (2 ^ wd) = 2 ^ wd by unfold wrap64; omega]
  exact eq_of_beq (List.all_eq_true.1 (List.all_eq_true.1 key wd (List.mem_range.2 (by omega))) a (List.mem_range.2 (by omega)))

set_option maxRecDepth 100000 in
set_option maxHeartbeats 16000000 in
theorem RMean_step (wd : Nat) (day : Int) (hd0 : 0 ≤ day) (hd1 : day < 146097) (hwd : Civ.weekI day = (wd : Nat)) (l : List Rule) (K : Nat → Bool) (P : Nat → Nat → Bool) (N : Nat) (ih : RMeanAll wd day l K P N) : RMeanAll wd day l K P (N + 1) := by
  intro e v rv w B ga gm hN hg hnm he hB hr hK
  obtain ⟨A, cap, rfl, hnl, hkl, hkw⟩ := he
  have hnod : nodesL e.kids ≤ N := by cases e; rw [nodesE] at hN; simp only [Expr.kids]; omega
  have hof := own_facts hg.own
  have hkg := Lib.hid (fun (i : Nat) (k : Expr) (h : e.kids[i]? = some k) => hg.kid h)
  obtain ⟨k, x, y, enm, kids⟩ := e
  simp only [Expr.kind, Expr.a, Expr.b, Expr.name, Expr.kids] at hnl hkl hkw hnod hof hkg ⊢
  have hnames : namesE (.mk k x y enm kids) = if k = 10 then [enm] else namesL kids := by rw [namesE]
  have hmean : meanE wd day (fun nm => P (placeR l nm)) (.mk k x y enm kids) = meanK wd day k x y (P (placeR l enm)) (meanL wd day (fun nm => P (placeR l nm)) kids) := by rw [meanE]
  obtain ⟨hk1, hk10, hlen, ho4, ho5, ho3, ho9⟩ := hof
  have hkn : kids.length ≤ 2 := by rw [hlen]; unfold kidsOf; repeat' (first | omega | split)
  have hnk : ∀ nm ∈ namesL kids, k ≠ 10 → placeR l nm < l.length := fun nm hn hne => hnm nm (by rw [hnames, if_neg hne]; exact hn)
  have hk0 : k = 10 → kids = [] := fun e => by subst e; exact List.eq_nil_of_length_eq_zero hlen
  have hnk2 : ∀ nm ∈ namesL kids, placeR l nm < l.length := fun nm hn => by
    by_cases e : k = 10
    · rw [hk0 e, namesL] at hn; cases hn
    · exact hnk nm hn e
  have hoke : k ≠ 10 → okE l K (.mk k x y enm kids) = okL l K kids := fun hne => by unfold okE okL; rw [hnames, if_neg hne]
  replace ih := Lib.hid ih
  replace hkw := Lib.hid hkw
  replace hnod := Lib.hid hnod
  replace hnk2 := Lib.hid hnk2
  replace hmean := Lib.hid hmean
  replace hoke := Lib.hid hoke
  replace hlen := Lib.hid hlen
  replace hk0 := Lib.hid hk0
  have hrr := Lib.hid hr
  obtain ⟨Ar, capr, rfl, _⟩ := hr
  have hbA : Below w.heap.size w ((w.alloc (.cells #[.int .i64 k, .int .i64 x, .int .i64 y, strV enm, .slice A kids.length cap] 43)).alloc (.cells (maskA fun _ => 0) 51)) := ((Below.refl _ _).alloc (Nat.le_refl _) _).alloc (by simp) _
  have BX := (Blk.new w 43 #[.int .i64 k, .int .i64 x, .int .i64 y, strV enm, .slice A kids.length cap]).alloc (.cells (maskA fun _ => 0) 51)
  have BR := Blk.new (w.alloc (.cells #[.int .i64 k, .int .i64 x, .int .i64 y, strV enm, .slice A kids.length cap] 43)) 51 (maskA fun _ => 0)
  rw [World.size_alloc] at BR
  clear hN hg hnk hnames
  go_enter Try.func38, Try.ntmps38
  go_wp2
  obtain ⟨w0, hw0⟩ : ∃ w0, w0 = (w.alloc (.cells #[.int .i64 k, .int .i64 x, .int .i64 y, strV enm, .slice A kids.length cap] 43)).alloc (.cells (maskA fun _ => 0) 51) := ⟨_, rfl⟩
  rw [← hw0]
  rw [← hw0] at hbA BX BR
  have hz0 : w0.heap.size = w.heap.size + 1 + 1 := by rw [hw0, World.size_alloc, World.size_alloc]
  clear hw0
  replace hz0 := Lib.hid hz0
  go_loopg [12, 22] kids.length (fun m mv kv wr => ∃ j : Nat, j ≤ kids.length ∧ m = kids.length - j ∧ kv = .int .i64 j ∧ Hid (MaskRow wr w0.heap.size mv (meanL wd day (fun nm => P (placeR l nm)) (kids.take j))) ∧ Hid (okL l K (kids.take j) = true) ∧ Below w0.heap.size w0 wr)
  case atStart => exact ⟨0, by omega, rfl, rfl, by rw [List.take_zero, meanL]; exact Lib.hid (MaskRow.nil _ _), by rw [List.take_zero]; exact Lib.hid rfl, Below.refl _ _⟩
  case round =>
    obtain ⟨j, hj, hm, rfl, hS, hok, hbq⟩ := hrel
    replace hm := Lib.hid hm
    have zq := hbq.size
    have zz := hz0.out
    have hbw : Below w.heap.size w wr := hbA.trans (hbq.mono (by omega))
    have BX2 := BX.below hbq (by omega)
    have BR2 := BR.below hbq (by omega)
    by_cases hlt : j < kids.length
    · obtain ⟨e1, hx⟩ : ∃ d, kids[j]? = some d := ⟨_, List.getElem?_eq_getElem hlt⟩
      obtain ⟨kb, ko, rfl, hkb, hke⟩ := hkw.out.at' hx
      have hkr := hke.below hbw hB (Nat.le_refl _) (by omega)
      obtain ⟨v0, v1, v2, v3, hnl1, A1, cap1, v4, hkl1, hkv1⟩ := hkr.out
      have x4 : wr.cell? ⟨w.heap.size, 4, none⟩ = some (.slice (some ⟨kb, ko, none⟩) kids.length cap) := BX2.cell 4
      have hzz : kb < wr.heap.size := by omega
      have hbe : Below wr.heap.size wr (wr.alloc (.cells #[.int .i64 e1.kind, .int .i64 e1.a, .int .i64 e1.b, strV e1.name, .slice A1 e1.kids.length cap1] 43)) := (Below.refl _ _).alloc (Nat.le_refl _) _
      have hcall := Lib.hid (ih.out e1 (.agg #[.int .i64 e1.kind, .int .i64 e1.a, .int .i64 e1.b, strV e1.name, .slice A1 e1.kids.length cap1]) (.slice Ar l.length capr) (wr.alloc (.cells #[.int .i64 e1.kind, .int .i64 e1.a, .int .i64 e1.b, strV e1.name, .slice A1 e1.kids.length cap1] 43)) B ga gm (by have := nodesE_kid hx; have := hnod.out; omega) (hkg.out j e1 hx)
        (fun nm hn => hnk2.out nm (namesL_mem hx hn))
        ⟨A1, cap1, rfl, hnl1, hkl1, hkv1.below (hbe.mono (by omega)) (Nat.le_refl _) (Nat.le_refl _)⟩ (by simp; omega) (hrr.out.below (hbw.trans (hbe.mono (by omega))) hB (Nat.le_refl _)) ((hK.below hbw (Nat.le_refl _)).below hbe (Nat.le_refl _)))
      have hst := okL_take (l := l) (K := K) hx
      rw [hok.out, Bool.true_and] at hst
      have hml := Lib.hid (meanL_take (wd := wd) (day := day) (env := fun nm => P (placeR l nm)) hx)
      obtain ⟨A8, cap8, rfl⟩ := own_slice hS.out
      have hsl : (meanL wd day (fun nm => P (placeR l nm)) (kids.take j)).length ≤ 2 := by rw [meanL_len, List.length_take]; omega
      unfold RMeanPost at hcall
      generalize meanL wd day (fun nm => P (placeR l nm)) (kids.take j) = S0 at *
      generalize meanE wd day (fun nm => P (placeR l nm)) e1 = p1 at *
      clear hx hke hkv1 hkr hkl1 hnl1
      cases h0 : okE l K e1 with
      | false =>
        rw [h0] at hst hcall
        have hoke2 : okE l K (.mk k x y enm kids) = false := by
          by_cases e10 : k = 10
          · have := hk0.out e10; rw [this] at hlt; simp at hlt
          · rw [hoke.out e10]; exact okL_le hst
        replace hoke2 := Lib.hid hoke2
        clear h0 hst
        go_wp2_with (go_at_call 38; refine hcall.out.mono ?_; rintro e w5 ⟨q, rfl, _, hb5⟩; have hz5 := hb5.size; simp at hz5; have BR5 := (BR2.alloc (.cells #[.int .i64 e1.kind, .int .i64 e1.a, .int .i64 e1.b, strV e1.name, .slice A1 e1.kids.length cap1] 43)).below hb5 (by simp; omega); have k7 := blk_free BR5; have hlw : w.heap.size + 1 < w5.heap.size := by omega)
        have hb9 : Below w.heap.size w w5 := (hbw.trans (hbe.mono (by omega))).trans (hb5.mono (by simp; omega))
        have k8 := mask_put _ q ((BR5.alloc (.cells (maskA fun _ => 0) 51)).farRow (k := w5.heap.size) (by omega) (maskA (setW q)))
        refine bodyPost_ret (v := .tuple #[.agg (maskA (setW q)), .bool false]) ?_ rfl ⟨q, by rw [hoke2.out], fun h => (by rw [hoke2.out] at h; cases h), (by repeat (first | exact Below.refl _ _ | assumption | refine Below.n _ ?_ (by first | omega | (simp; done) | (simp; omega)) | refine Below.alloc ?_ (by first | omega | (simp; done) | (simp; omega)) _ | refine Below.setCell ?_ (by first | omega | (simp; done) | (simp; omega)) _ | refine Below.drew ?_ | refine Below.setRow ?_ (by first | omega | (simp; done) | (simp; omega)) _ | refine Below.drewN ?_ _))⟩
        simp [results, Try.results38, go_sem, k8]
      | true =>
        rw [h0] at hst hcall
        replace hst := Lib.hid hst
        clear h0
        go_wp2_with (first
          | (go_at_call 38; refine hcall.out.mono ?_; rintro e w5 ⟨q, rfl, hq, hb5⟩; obtain rfl := hq rfl; have hz5 := hb5.size; simp at hz5; have hS5 := Lib.hid (own_keep (own_keep hS.out hbe (Nat.le_refl _)) hb5 (Nat.le_refl _)); have hbS : Below w5.heap.size w5 ((w5.alloc (.cells (maskA fun _ => 0) 51)).setRow w5.heap.size (maskA (setW q))) := Below.setRow ((Below.refl _ _).alloc (Nat.le_refl _) _) (Nat.le_refl _) _; have hbT : Below w5.heap.size w5 (((w5.alloc (.cells (maskA fun _ => 0) 51)).setRow w5.heap.size (maskA (setW q))).alloc (.cells (maskA (setW q)) 51)) := hbS.alloc hbS.size _; have hS9 := Lib.hid (own_keep hS5.out hbT (Nat.le_refl _)); have hG9 := Lib.hid (show Blk (((w5.alloc (.cells (maskA fun _ => 0) 51)).setRow w5.heap.size (maskA (setW q))).alloc (.cells (maskA (setW q)) 51)) (w5.heap.size + 1) 51 (maskA (setW q)) from by simpa using Blk.new ((w5.alloc (.cells (maskA fun _ => 0) 51)).setRow w5.heap.size (maskA (setW q))) 51 (maskA (setW q))); have hlw : w.heap.size + 1 < w5.heap.size := by omega)
          | (at_builtin; refine wp_pushG rfl (.tmp 38) (.tmp 40) rfl w0.heap.size _ S0 q (w5.heap.size + 1) hS9.out hG9.out rfl rfl (by omega) (by have := hbT.size; omega) ?_; intro v6 w6 hS6 hb6))
        go_roundg (kids.length - (j + 1))
        case measure => rw [hm.out]; omega
        case rel => exact ⟨j + 1, by omega, rfl, by go_num, Lib.hid (by rw [hml.out]; exact hS6), hst, (((hbq.trans (hbe.mono zq)).trans (hb5.mono (by simp; omega))).trans (hbT.mono (by omega))).trans hb6⟩
    · obtain rfl : j = kids.length := by omega
      rw [List.take_length] at hS hok
      clear hm hlt ih hkg hnk2 hkw hnod BX BR hj
      have x0 : wr.cell? ⟨w.heap.size, 0, none⟩ = some (.int .i64 k) := BX2.cell 0
      have x1 : wr.cell? ⟨w.heap.size, 1, none⟩ = some (.int .i64 x) := BX2.cell 1
      have x2 : wr.cell? ⟨w.heap.size, 2, none⟩ = some (.int .i64 y) := BX2.cell 2
      have x3 : wr.cell? ⟨w.heap.size, 3, none⟩ = some (strV enm) := BX2.cell 3
      have zx : w.heap.size + 1 < wr.heap.size := by omega
      have kR := blk_cells BR2
      have kF := blk_free BR2
      have hbZ : Below wr.heap.size wr (wr.alloc (.cells (maskA fun _ => 0) 51)) := (Below.refl _ _).alloc (Nat.le_refl _) _
      obtain ⟨A8, cap8, hv8⟩ := own_slice hS.out
      obtain rfl | rfl | rfl | rfl | rfl | rfl | rfl | rfl | rfl | rfl : k = 1 ∨ k = 2 ∨ k = 3 ∨ k = 4 ∨ k = 5 ∨ k = 6 ∨ k = 7 ∨ k = 8 ∨ k = 9 ∨ k = 10 := by omega
      · as_aux_lemma =>
          have hoke2 : okE l K (.mk 1 x y enm kids) = true := by rw [hoke.out (by decide)]; exact hok.out
          replace hoke2 := Lib.hid hoke2
          replace hmean := hmean.out
          have hG : meanE wd day (fun nm => P (placeR l nm)) (.mk 1 x y enm kids) = noS := by rw [hmean]; rfl
          replace hG := Lib.hid hG
          clear hoke hmean hk0 hrr hK
          have BZ : Blk ((wr.alloc (.cells (maskA fun _ => 0) 51)).setRow wr.heap.size (maskA fun _ => 0)) (w.heap.size + 1) 51 (maskA fun _ => 0) := (BR2.alloc _).farRow (by omega) _
          have hZ : Below w.heap.size w ((wr.alloc (.cells (maskA fun _ => 0) 51)).setRow wr.heap.size (maskA fun _ => 0)) := Below.setRow (hbw.alloc (by omega) _) (by omega) _
          have hqZ : Below wr.heap.size wr ((wr.alloc (.cells (maskA fun _ => 0) 51)).setRow wr.heap.size (maskA fun _ => 0)) := Below.setRow ((Below.refl _ _).alloc (Nat.le_refl _) _) (Nat.le_refl _) _
          have zZ : ((wr.alloc (.cells (maskA fun _ => 0) 51)).setRow wr.heap.size (maskA fun _ => 0)).heap.size = wr.heap.size + 1 := by rw [size_setRow, World.size_alloc]
          subst hv8
          go_wp2
          have e9 : maskA (setW noS) = maskA (fun _ => 0) := zero_set
          have k8 := mask_put _ noS BZ
          rw [e9] at k8
          refine bodyPost_ret (v := .tuple #[.agg (maskA fun _ => 0), .bool true]) ?_ rfl ⟨noS, by rw [hoke2.out, e9], fun _ => hG.out.symm, Below.setRow hZ (by omega) _⟩
          simp [results, Try.results38, go_sem, k8]
      · as_aux_lemma =>
          have hoke2 : okE l K (.mk 2 x y enm kids) = true := by rw [hoke.out (by decide)]; exact hok.out
          replace hoke2 := Lib.hid hoke2
          replace hmean := hmean.out
          have hG : meanE wd day (fun nm => P (placeR l nm)) (.mk 2 x y enm kids) = inSpans [(0, 1440)] := by rw [hmean]; rfl
          replace hG := Lib.hid hG
          clear hoke hmean hk0 hrr hK
          have BZ : Blk ((wr.alloc (.cells (maskA fun _ => 0) 51)).setRow wr.heap.size (maskA fun _ => 0)) (w.heap.size + 1) 51 (maskA fun _ => 0) := (BR2.alloc _).farRow (by omega) _
          have hZ : Below w.heap.size w ((wr.alloc (.cells (maskA fun _ => 0) 51)).setRow wr.heap.size (maskA fun _ => 0)) := Below.setRow (hbw.alloc (by omega) _) (by omega) _
          have hqZ : Below wr.heap.size wr ((wr.alloc (.cells (maskA fun _ => 0) 51)).setRow wr.heap.size (maskA fun _ => 0)) := Below.setRow ((Below.refl _ _).alloc (Nat.le_refl _) _) (Nat.le_refl _) _
          have zZ : ((wr.alloc (.cells (maskA fun _ => 0) 51)).setRow wr.heap.size (maskA fun _ => 0)).heap.size = wr.heap.size + 1 := by rw [size_setRow, World.size_alloc]
          subst hv8
          have hMk := Lib.hid (show Calls Try.prog 79 #[.func (.func 80) #[] #[]] ((wr.alloc (.cells (maskA fun _ => 0) 51)).setRow wr.heap.size (maskA fun _ => 0)) (fun e w' => e = .returned (.agg (maskA (setW (inSpans [(0, 1440)])))) ∧ Below ((wr.alloc (.cells (maskA fun _ => 0) 51)).setRow wr.heap.size (maskA fun _ => 0)).heap.size ((wr.alloc (.cells (maskA fun _ => 0) 51)).setRow wr.heap.size (maskA fun _ => 0)) w') from by
            have := Make0 80 (fun _ _ => by kernel_rfl) (fun _ => true) ((wr.alloc (.cells (maskA fun _ => 0) 51)).setRow wr.heap.size (maskA fun _ => 0)) (fun i W _ _ => Mean1_any i W)
            rwa [show setA (fun _ => true) = maskA (setW (inSpans [(0, 1440)])) from by unfold setA; rw [setW_congr (q := inSpans [(0, 1440)]) fun i hi => by simp [inSpans]; omega]] at this)
          go_wp2_with (go_at_call 79; refine hMk.out.mono ?_; rintro e w5 ⟨rfl, hb5⟩; have z5 := hb5.size; rw [zZ] at z5; have B5 := BZ.below hb5 (by omega); have k7 := blk_free B5)
          have k8 := mask_put _ (inSpans [(0, 1440)]) B5
          refine bodyPost_ret (v := .tuple #[.agg (maskA (setW (inSpans [(0, 1440)]))), .bool true]) ?_ rfl ⟨inSpans [(0, 1440)], by rw [hoke2.out], fun _ => hG.out.symm, Below.setRow (hZ.trans (hb5.mono (by omega))) (by omega) _⟩
          simp [results, Try.results38, go_sem, k8]
      · as_aux_lemma =>
          have hoke2 : okE l K (.mk 3 x y enm kids) = true := by rw [hoke.out (by decide)]; exact hok.out
          replace hoke2 := Lib.hid hoke2
          replace hmean := hmean.out
          have hG : meanE wd day (fun nm => P (placeR l nm)) (.mk 3 x y enm kids) = inSpans [(x, y)] := by rw [hmean]; rfl
          replace hG := Lib.hid hG
          clear hoke hmean hk0 hrr hK
          have BZ : Blk ((wr.alloc (.cells (maskA fun _ => 0) 51)).setRow wr.heap.size (maskA fun _ => 0)) (w.heap.size + 1) 51 (maskA fun _ => 0) := (BR2.alloc _).farRow (by omega) _
          have hZ : Below w.heap.size w ((wr.alloc (.cells (maskA fun _ => 0) 51)).setRow wr.heap.size (maskA fun _ => 0)) := Below.setRow (hbw.alloc (by omega) _) (by omega) _
          have hqZ : Below wr.heap.size wr ((wr.alloc (.cells (maskA fun _ => 0) 51)).setRow wr.heap.size (maskA fun _ => 0)) := Below.setRow ((Below.refl _ _).alloc (Nat.le_refl _) _) (Nat.le_refl _) _
          have zZ : ((wr.alloc (.cells (maskA fun _ => 0) 51)).setRow wr.heap.size (maskA fun _ => 0)).heap.size = wr.heap.size + 1 := by rw [size_setRow, World.size_alloc]
          subst hv8
          have hMk := Lib.hid (Make1 81 (.pointer (some ⟨w.heap.size, 0, none⟩)) (fun _ _ => by kernel_rfl) (inSpans [(x, y)]) ((wr.alloc (.cells (maskA fun _ => 0) 51)).setRow wr.heap.size (maskA fun _ => 0)) (fun i W _ hb => Mean2_any i w.heap.size x y W ((hb.cell (p := ⟨w.heap.size, _, none⟩) (by show w.heap.size < _; omega)).trans ((hqZ.cell (p := ⟨w.heap.size, _, none⟩) (by show w.heap.size < wr.heap.size; omega)).trans x1)) ((hb.cell (p := ⟨w.heap.size, _, none⟩) (by show w.heap.size < _; omega)).trans ((hqZ.cell (p := ⟨w.heap.size, _, none⟩) (by show w.heap.size < wr.heap.size; omega)).trans x2))))
          go_wp2_with (go_at_call 79; refine hMk.out.mono ?_; rintro e w5 ⟨rfl, hb5⟩; have z5 := hb5.size; rw [zZ] at z5; have B5 := BZ.below hb5 (by omega); have k7 := blk_free B5)
          have k8 := mask_put _ (inSpans [(x, y)]) B5
          refine bodyPost_ret (v := .tuple #[.agg (maskA (setW (inSpans [(x, y)]))), .bool true]) ?_ rfl ⟨inSpans [(x, y)], by rw [hoke2.out], fun _ => hG.out.symm, Below.setRow (hZ.trans (hb5.mono (by omega))) (by omega) _⟩
          simp [results, Try.results38, go_sem, k8]
      · as_aux_lemma =>
          have hoke2 : okE l K (.mk 4 x y enm kids) = true := by rw [hoke.out (by decide)]; exact hok.out
          replace hoke2 := Lib.hid hoke2
          replace hmean := hmean.out
          obtain ⟨e1, rfl⟩ := kids_one (by rw [hlen.out]; rfl)
          have hS1 := hS.out
          rw [meanL, meanL] at hS1 hmean hv8
          obtain ⟨g1, cap9, hm9, hg1, hg2, c0⟩ := mask_at hS1 (i := 0) rfl
          generalize meanE wd day (fun nm => P (placeR l nm)) e1 = p1 at *
          subst hm9
          rw [Nat.zero_mul] at c0
          have hG : meanE wd day (fun nm => P (placeR l nm)) (.mk 4 x y enm [e1]) = if (bits BinOp.and IntKind.i64 (x / 2 ^ wd) 1 == 1) = true then p1 else noS := by rw [hmean]; rfl
          replace hG := Lib.hid hG
          clear hoke hmean hk0 hrr hK
          have BZ : Blk ((wr.alloc (.cells (maskA fun _ => 0) 51)).setRow wr.heap.size (maskA fun _ => 0)) (w.heap.size + 1) 51 (maskA fun _ => 0) := (BR2.alloc _).farRow (by omega) _
          have hZ : Below w.heap.size w ((wr.alloc (.cells (maskA fun _ => 0) 51)).setRow wr.heap.size (maskA fun _ => 0)) := Below.setRow (hbw.alloc (by omega) _) (by omega) _
          have hqZ : Below wr.heap.size wr ((wr.alloc (.cells (maskA fun _ => 0) 51)).setRow wr.heap.size (maskA fun _ => 0)) := Below.setRow ((Below.refl _ _).alloc (Nat.le_refl _) _) (Nat.le_refl _) _
          have zZ : ((wr.alloc (.cells (maskA fun _ => 0) 51)).setRow wr.heap.size (maskA fun _ => 0)).heap.size = wr.heap.size + 1 := by rw [size_setRow, World.size_alloc]
          have hx7 := ho4 rfl
          obtain ⟨xn, rfl⟩ := Int.eq_ofNat_of_zero_le (show 0 ≤ x by omega)
          have hw7 : wd ≤ 6 := by have : Civ.weekI day = (day + 5) % 7 := rfl; omega
          have hbit := week_bitM xn wd (by omega) hw7
          have hmn : min wd 64 = wd := by omega
          have hmn2 : wd < 64 := by omega
          have hW := Lib.hid (fun W => show Calls Try.prog 82 #[.int .i64 day] W (fun e w' => e = .returned (.int .i64 (wd : Nat)) ∧ W = w') from by have := RWeekM day W hd0 hd1; rwa [hwd] at this)
          go_wp2_with fail
          refine wp_region_below (wr.heap.size + 1) _ (Below.refl _ _) (by kernel_rfl) (by kernel_rfl) ?_
          repeat (go_big_quiet_step (((go_at_call 82; exact quiet_same (hW.out _)))))
          refine wpQuiet_nil ?_
          rintro _ ⟨n1, rfl⟩
          have B5 := BZ.below n1.below (by omega)
          have k7 := blk_free B5
          have z5 := n1.size
          rw [zZ] at z5
          have hb5 : Below w.heap.size w n1.w := hZ.trans (n1.below.mono (by omega))
          cases hgb : (bits BinOp.and IntKind.i64 ((xn : Int) / 2 ^ wd) 1 == 1) with
          | true =>
            rw [hgb] at hbit
            have hG1 := Lib.hid (hG.out.trans (if_pos hgb))
            clear hgb
            go_wp2
            have k8 := mask_put _ (p1) B5
            refine bodyPost_ret (v := .tuple #[.agg (maskA (setW (p1))), .bool true]) ?_ rfl ⟨p1, by rw [hoke2.out], fun _ => hG1.out.symm, Below.setRow hb5 (by omega) _⟩
            simp [results, Try.results38, go_sem, k8]
          | false =>
            rw [hgb] at hbit
            have hG1 := Lib.hid (hG.out.trans (if_neg (by rw [hgb]; decide)))
            clear hgb
            go_wp2
            have e9 : maskA (setW noS) = maskA (fun _ => 0) := zero_set
            have k8 := mask_put _ noS B5
            rw [e9] at k8
            refine bodyPost_ret (v := .tuple #[.agg (maskA fun _ => 0), .bool true]) ?_ rfl ⟨noS, by rw [hoke2.out, e9], fun _ => hG1.out.symm, Below.setRow hb5 (by omega) _⟩
            simp [results, Try.results38, go_sem, k8]
      · as_aux_lemma =>
          have hoke2 : okE l K (.mk 5 x y enm kids) = true := by rw [hoke.out (by decide)]; exact hok.out
          replace hoke2 := Lib.hid hoke2
          replace hmean := hmean.out
          obtain ⟨e1, rfl⟩ := kids_one (by rw [hlen.out]; rfl)
          have hS1 := hS.out
          rw [meanL, meanL] at hS1 hmean hv8
          obtain ⟨g1, cap9, hm9, hg1, hg2, c0⟩ := mask_at hS1 (i := 0) rfl
          generalize meanE wd day (fun nm => P (placeR l nm)) e1 = p1 at *
          subst hm9
          rw [Nat.zero_mul] at c0
          have hG : meanE wd day (fun nm => P (placeR l nm)) (.mk 5 x y enm [e1]) = if (decide (x ≤ day) && decide (day ≤ y)) = true then p1 else noS := by rw [hmean]; rfl
          replace hG := Lib.hid hG
          clear hoke hmean hk0 hrr hK
          have BZ : Blk ((wr.alloc (.cells (maskA fun _ => 0) 51)).setRow wr.heap.size (maskA fun _ => 0)) (w.heap.size + 1) 51 (maskA fun _ => 0) := (BR2.alloc _).farRow (by omega) _
          have hZ : Below w.heap.size w ((wr.alloc (.cells (maskA fun _ => 0) 51)).setRow wr.heap.size (maskA fun _ => 0)) := Below.setRow (hbw.alloc (by omega) _) (by omega) _
          have hqZ : Below wr.heap.size wr ((wr.alloc (.cells (maskA fun _ => 0) 51)).setRow wr.heap.size (maskA fun _ => 0)) := Below.setRow ((Below.refl _ _).alloc (Nat.le_refl _) _) (Nat.le_refl _) _
          have zZ : ((wr.alloc (.cells (maskA fun _ => 0) 51)).setRow wr.heap.size (maskA fun _ => 0)).heap.size = wr.heap.size + 1 := by rw [size_setRow, World.size_alloc]
          rcases dec (day < x) with ⟨q1, _⟩ | ⟨q1, _⟩
          · have hG1 := Lib.hid (hG.out.trans (if_neg (by simp; omega)))
            go_wp2
            have e9 : maskA (setW noS) = maskA (fun _ => 0) := zero_set
            have k8 := mask_put _ noS BZ
            rw [e9] at k8
            refine bodyPost_ret (v := .tuple #[.agg (maskA fun _ => 0), .bool true]) ?_ rfl ⟨noS, by rw [hoke2.out, e9], fun _ => hG1.out.symm, Below.setRow hZ (by omega) _⟩
            simp [results, Try.results38, go_sem, k8]
          · rcases dec (y < day) with ⟨q2, _⟩ | ⟨q2, _⟩
            · have hG1 := Lib.hid (hG.out.trans (if_neg (by simp; omega)))
              go_wp2
              have e9 : maskA (setW noS) = maskA (fun _ => 0) := zero_set
              have k8 := mask_put _ noS BZ
              rw [e9] at k8
              refine bodyPost_ret (v := .tuple #[.agg (maskA fun _ => 0), .bool true]) ?_ rfl ⟨noS, by rw [hoke2.out, e9], fun _ => hG1.out.symm, Below.setRow hZ (by omega) _⟩
              simp [results, Try.results38, go_sem, k8]
            · have hG1 := Lib.hid (hG.out.trans (if_pos (by simp; omega)))
              go_wp2
              have k8 := mask_put _ (p1) BZ
              refine bodyPost_ret (v := .tuple #[.agg (maskA (setW (p1))), .bool true]) ?_ rfl ⟨p1, by rw [hoke2.out], fun _ => hG1.out.symm, Below.setRow hZ (by omega) _⟩
              simp [results, Try.results38, go_sem, k8]
      · as_aux_lemma =>
          have hoke2 : okE l K (.mk 6 x y enm kids) = true := by rw [hoke.out (by decide)]; exact hok.out
          replace hoke2 := Lib.hid hoke2
          replace hmean := hmean.out
          obtain ⟨e1, e2, rfl⟩ := kids_two (by rw [hlen.out]; rfl)
          have hS1 := hS.out
          rw [meanL, meanL, meanL] at hS1 hmean hv8
          obtain ⟨g1, cap9, hm9, hg1, hg2, c0⟩ := mask_at hS1 (i := 0) rfl
          obtain ⟨g1', cap9', hm9', _, _, c1⟩ := mask_at hS1 (i := 1) rfl
          generalize meanE wd day (fun nm => P (placeR l nm)) e1 = p1 at *
          generalize meanE wd day (fun nm => P (placeR l nm)) e2 = p2 at *
          subst hm9
          cases hm9'
          rw [Nat.zero_mul] at c0
          rw [Nat.one_mul] at c1
          have hG : meanE wd day (fun nm => P (placeR l nm)) (.mk 6 x y enm [e1, e2]) = orS p1 p2 := by rw [hmean]; rfl
          replace hG := Lib.hid hG
          clear hoke hmean hk0 hrr hK
          have BZ : Blk ((wr.alloc (.cells (maskA fun _ => 0) 51)).setRow wr.heap.size (maskA fun _ => 0)) (w.heap.size + 1) 51 (maskA fun _ => 0) := (BR2.alloc _).farRow (by omega) _
          have hZ : Below w.heap.size w ((wr.alloc (.cells (maskA fun _ => 0) 51)).setRow wr.heap.size (maskA fun _ => 0)) := Below.setRow (hbw.alloc (by omega) _) (by omega) _
          have hqZ : Below wr.heap.size wr ((wr.alloc (.cells (maskA fun _ => 0) 51)).setRow wr.heap.size (maskA fun _ => 0)) := Below.setRow ((Below.refl _ _).alloc (Nat.le_refl _) _) (Nat.le_refl _) _
          have zZ : ((wr.alloc (.cells (maskA fun _ => 0) 51)).setRow wr.heap.size (maskA fun _ => 0)).heap.size = wr.heap.size + 1 := by rw [size_setRow, World.size_alloc]
          go_wp2_with fail
          refine wp_region_below_tail 7 (wr.heap.size + 1) _ (Below.refl _ _) (by kernel_rfl) (by kernel_rfl) ?_
          simp only [List.take_succ_cons, List.take_zero, List.drop_succ_cons, List.drop_zero]
          iterate 7 (go_big_quiet_step (((go_at_call 83; exact quiet_below (Nat.le_of_eq zZ.symm) (RSUnion p1 p2 _)))))
          refine wpQuiet_nil ?_
          rintro _ ⟨n1, rfl⟩
          change wpList _ _ _ _ _ _
          have B5 := BZ.below n1.below (by omega)
          have k7 := blk_free B5
          have z5 := n1.size
          rw [zZ] at z5
          have hb5 : Below w.heap.size w n1.w := hZ.trans (n1.below.mono (by omega))
          go_wp2
          have k8 := mask_put _ (orS p1 p2) B5
          refine bodyPost_ret (v := .tuple #[.agg (maskA (setW (orS p1 p2))), .bool true]) ?_ rfl ⟨orS p1 p2, by rw [hoke2.out], fun _ => hG.out.symm, Below.setRow hb5 (by omega) _⟩
          simp [results, Try.results38, go_sem, k8]
      · as_aux_lemma =>
          have hoke2 : okE l K (.mk 7 x y enm kids) = true := by rw [hoke.out (by decide)]; exact hok.out
          replace hoke2 := Lib.hid hoke2
          replace hmean := hmean.out
          obtain ⟨e1, e2, rfl⟩ := kids_two (by rw [hlen.out]; rfl)
          have hS1 := hS.out
          rw [meanL, meanL, meanL] at hS1 hmean hv8
          obtain ⟨g1, cap9, hm9, hg1, hg2, c0⟩ := mask_at hS1 (i := 0) rfl
          obtain ⟨g1', cap9', hm9', _, _, c1⟩ := mask_at hS1 (i := 1) rfl
          generalize meanE wd day (fun nm => P (placeR l nm)) e1 = p1 at *
          generalize meanE wd day (fun nm => P (placeR l nm)) e2 = p2 at *
          subst hm9
          cases hm9'
          rw [Nat.zero_mul] at c0
          rw [Nat.one_mul] at c1
          have hG : meanE wd day (fun nm => P (placeR l nm)) (.mk 7 x y enm [e1, e2]) = sansS p1 p2 := by rw [hmean]; rfl
          replace hG := Lib.hid hG
          clear hoke hmean hk0 hrr hK
          have BZ : Blk ((wr.alloc (.cells (maskA fun _ => 0) 51)).setRow wr.heap.size (maskA fun _ => 0)) (w.heap.size + 1) 51 (maskA fun _ => 0) := (BR2.alloc _).farRow (by omega) _
          have hZ : Below w.heap.size w ((wr.alloc (.cells (maskA fun _ => 0) 51)).setRow wr.heap.size (maskA fun _ => 0)) := Below.setRow (hbw.alloc (by omega) _) (by omega) _
          have hqZ : Below wr.heap.size wr ((wr.alloc (.cells (maskA fun _ => 0) 51)).setRow wr.heap.size (maskA fun _ => 0)) := Below.setRow ((Below.refl _ _).alloc (Nat.le_refl _) _) (Nat.le_refl _) _
          have zZ : ((wr.alloc (.cells (maskA fun _ => 0) 51)).setRow wr.heap.size (maskA fun _ => 0)).heap.size = wr.heap.size + 1 := by rw [size_setRow, World.size_alloc]
          go_wp2_with fail
          refine wp_region_below_tail 7 (wr.heap.size + 1) _ (Below.refl _ _) (by kernel_rfl) (by kernel_rfl) ?_
          simp only [List.take_succ_cons, List.take_zero, List.drop_succ_cons, List.drop_zero]
          iterate 7 (go_big_quiet_step (((go_at_call 84; exact quiet_below (Nat.le_of_eq zZ.symm) (RSDiff p1 p2 _)))))
          refine wpQuiet_nil ?_
          rintro _ ⟨n1, rfl⟩
          change wpList _ _ _ _ _ _
          have B5 := BZ.below n1.below (by omega)
          have k7 := blk_free B5
          have z5 := n1.size
          rw [zZ] at z5
          have hb5 : Below w.heap.size w n1.w := hZ.trans (n1.below.mono (by omega))
          go_wp2
          have k8 := mask_put _ (sansS p1 p2) B5
          refine bodyPost_ret (v := .tuple #[.agg (maskA (setW (sansS p1 p2))), .bool true]) ?_ rfl ⟨sansS p1 p2, by rw [hoke2.out], fun _ => hG.out.symm, Below.setRow hb5 (by omega) _⟩
          simp [results, Try.results38, go_sem, k8]
      · as_aux_lemma =>
          have hoke2 : okE l K (.mk 8 x y enm kids) = true := by rw [hoke.out (by decide)]; exact hok.out
          replace hoke2 := Lib.hid hoke2
          replace hmean := hmean.out
          obtain ⟨e1, e2, rfl⟩ := kids_two (by rw [hlen.out]; rfl)
          have hS1 := hS.out
          rw [meanL, meanL, meanL] at hS1 hmean hv8
          obtain ⟨g1, cap9, hm9, hg1, hg2, c0⟩ := mask_at hS1 (i := 0) rfl
          obtain ⟨g1', cap9', hm9', _, _, c1⟩ := mask_at hS1 (i := 1) rfl
          generalize meanE wd day (fun nm => P (placeR l nm)) e1 = p1 at *
          generalize meanE wd day (fun nm => P (placeR l nm)) e2 = p2 at *
          subst hm9
          cases hm9'
          rw [Nat.zero_mul] at c0
          rw [Nat.one_mul] at c1
          have hG : meanE wd day (fun nm => P (placeR l nm)) (.mk 8 x y enm [e1, e2]) = andS p1 p2 := by rw [hmean]; rfl
          replace hG := Lib.hid hG
          clear hoke hmean hk0 hrr hK
          have BZ : Blk ((wr.alloc (.cells (maskA fun _ => 0) 51)).setRow wr.heap.size (maskA fun _ => 0)) (w.heap.size + 1) 51 (maskA fun _ => 0) := (BR2.alloc _).farRow (by omega) _
          have hZ : Below w.heap.size w ((wr.alloc (.cells (maskA fun _ => 0) 51)).setRow wr.heap.size (maskA fun _ => 0)) := Below.setRow (hbw.alloc (by omega) _) (by omega) _
          have hqZ : Below wr.heap.size wr ((wr.alloc (.cells (maskA fun _ => 0) 51)).setRow wr.heap.size (maskA fun _ => 0)) := Below.setRow ((Below.refl _ _).alloc (Nat.le_refl _) _) (Nat.le_refl _) _
          have zZ : ((wr.alloc (.cells (maskA fun _ => 0) 51)).setRow wr.heap.size (maskA fun _ => 0)).heap.size = wr.heap.size + 1 := by rw [size_setRow, World.size_alloc]
          go_wp2_with fail
          refine wp_region_below_tail 7 (wr.heap.size + 1) _ (Below.refl _ _) (by kernel_rfl) (by kernel_rfl) ?_
          simp only [List.take_succ_cons, List.take_zero, List.drop_succ_cons, List.drop_zero]
          iterate 7 (go_big_quiet_step (((go_at_call 85; exact quiet_below (Nat.le_of_eq zZ.symm) (RSBoth p1 p2 _)))))
          refine wpQuiet_nil ?_
          rintro _ ⟨n1, rfl⟩
          change wpList _ _ _ _ _ _
          have B5 := BZ.below n1.below (by omega)
          have k7 := blk_free B5
          have z5 := n1.size
          rw [zZ] at z5
          have hb5 : Below w.heap.size w n1.w := hZ.trans (n1.below.mono (by omega))
          go_wp2
          have k8 := mask_put _ (andS p1 p2) B5
          refine bodyPost_ret (v := .tuple #[.agg (maskA (setW (andS p1 p2))), .bool true]) ?_ rfl ⟨andS p1 p2, by rw [hoke2.out], fun _ => hG.out.symm, Below.setRow hb5 (by omega) _⟩
          simp [results, Try.results38, go_sem, k8]
      · as_aux_lemma =>
          have hoke2 : okE l K (.mk 9 x y enm kids) = true := by rw [hoke.out (by decide)]; exact hok.out
          replace hoke2 := Lib.hid hoke2
          replace hmean := hmean.out
          obtain ⟨e1, rfl⟩ := kids_one (by rw [hlen.out]; rfl)
          have hS1 := hS.out
          rw [meanL, meanL] at hS1 hmean hv8
          obtain ⟨g1, cap9, hm9, hg1, hg2, c0⟩ := mask_at hS1 (i := 0) rfl
          generalize meanE wd day (fun nm => P (placeR l nm)) e1 = p1 at *
          subst hm9
          rw [Nat.zero_mul] at c0
          have hG : meanE wd day (fun nm => P (placeR l nm)) (.mk 9 x y enm [e1]) = shS (has (setW p1)) x := by rw [hmean]; rfl
          replace hG := Lib.hid hG
          clear hoke hmean hk0 hrr hK
          have BZ : Blk ((wr.alloc (.cells (maskA fun _ => 0) 51)).setRow wr.heap.size (maskA fun _ => 0)) (w.heap.size + 1) 51 (maskA fun _ => 0) := (BR2.alloc _).farRow (by omega) _
          have hZ : Below w.heap.size w ((wr.alloc (.cells (maskA fun _ => 0) 51)).setRow wr.heap.size (maskA fun _ => 0)) := Below.setRow (hbw.alloc (by omega) _) (by omega) _
          have hqZ : Below wr.heap.size wr ((wr.alloc (.cells (maskA fun _ => 0) 51)).setRow wr.heap.size (maskA fun _ => 0)) := Below.setRow ((Below.refl _ _).alloc (Nat.le_refl _) _) (Nat.le_refl _) _
          have zZ : ((wr.alloc (.cells (maskA fun _ => 0) 51)).setRow wr.heap.size (maskA fun _ => 0)).heap.size = wr.heap.size + 1 := by rw [size_setRow, World.size_alloc]
          go_wp2_with fail
          refine wp_region_below_tail 6 (wr.heap.size + 1) _ (Below.refl _ _) (by kernel_rfl) (by kernel_rfl) ?_
          simp only [List.take_succ_cons, List.take_zero, List.drop_succ_cons, List.drop_zero]
          iterate 6 (go_big_quiet_step (((go_at_call 86; exact quiet_below (Nat.le_of_eq zZ.symm) (RSShift p1 x _)))))
          refine wpQuiet_nil ?_
          rintro _ ⟨n1, rfl⟩
          change wpList _ _ _ _ _ _
          have B5 := BZ.below n1.below (by omega)
          have k7 := blk_free B5
          have z5 := n1.size
          rw [zZ] at z5
          have hb5 : Below w.heap.size w n1.w := hZ.trans (n1.below.mono (by omega))
          go_wp2
          have k8 := mask_put _ (shS (has (setW p1)) x) B5
          refine bodyPost_ret (v := .tuple #[.agg (maskA (setW (shS (has (setW p1)) x))), .bool true]) ?_ rfl ⟨shS (has (setW p1)) x, by rw [hoke2.out], fun _ => hG.out.symm, Below.setRow hb5 (by omega) _⟩
          simp [results, Try.results38, go_sem, k8]
      · as_aux_lemma =>
          have hp9 := hnm enm (by rw [namesE, if_pos rfl]; simp)
          have hoke2 : okE l K (.mk 10 x y enm kids) = K (placeR l enm) := by unfold okE; rw [namesE, if_pos rfl]; simp
          have hG : meanE wd day (fun nm => P (placeR l nm)) (.mk 10 x y enm kids) = P (placeR l enm) := by rw [hmean.out, meanK_ten]
          replace hoke2 := Lib.hid hoke2
          replace hG := Lib.hid hG
          subst hv8
          have BZ : Blk ((wr.alloc (.cells (maskA fun _ => 0) 51)).setRow wr.heap.size (maskA fun _ => 0)) (w.heap.size + 1) 51 (maskA fun _ => 0) := (BR2.alloc _).farRow (by omega) _
          have hZ : Below w.heap.size w ((wr.alloc (.cells (maskA fun _ => 0) 51)).setRow wr.heap.size (maskA fun _ => 0)) := Below.setRow (hbw.alloc (by omega) _) (by omega) _
          have hqZ : Below wr.heap.size wr ((wr.alloc (.cells (maskA fun _ => 0) 51)).setRow wr.heap.size (maskA fun _ => 0)) := Below.setRow ((Below.refl _ _).alloc (Nat.le_refl _) _) (Nat.le_refl _) _
          have zZ : ((wr.alloc (.cells (maskA fun _ => 0) 51)).setRow wr.heap.size (maskA fun _ => 0)).heap.size = wr.heap.size + 1 := by rw [size_setRow, World.size_alloc]
          have hAt := Lib.hid (At_any _ l enm ((wr.alloc (.cells (maskA fun _ => 0) 51)).setRow wr.heap.size (maskA fun _ => 0)) (hrr.out.below hZ hB (by omega)))
          rw [findI_nat hp9] at hAt
          have hKw := hK.below hbw (Nat.le_refl _)
          have c0 := hKw.ms _ hp9
          have c1 := hKw.kn _ hp9
          have zg := hKw.lk
          have zm := hKw.lm
          have zg0 := hK.lk
          have zm0 := hK.lm
          clear hoke hmean hk0 hrr hK hnm
          generalize placeR l enm = i at *
          generalize P i = p1 at *
          generalize K i = k1 at *
          go_wp2_with (go_at_call 76; refine hAt.out.mono ?_; rintro e w5 ⟨rfl, hb5⟩; have z5 := hb5.size; rw [zZ] at z5)
          have hb6 : Below w.heap.size w w5 := hZ.trans (hb5.mono (by omega))
          have hq5 : Below wr.heap.size wr w5 := hqZ.trans (hb5.mono (by omega))
          have d0 : cellsAt w5 gm (i * 23) 23 = some (maskA (setW p1)) := (cellsAt_congr fun j _ => hq5.cell (p := ⟨gm, _, none⟩) zm).trans c0
          have d1 : w5.cell? ⟨ga, i, none⟩ = some (.bool k1) := (hq5.cell (p := ⟨ga, _, none⟩) zg).trans c1
          have B5 := BZ.below hb5 (by omega)
          have k7 := blk_free B5
          have zg5 : ga < w5.heap.size := by omega
          have zm5 : gm < w5.heap.size := by omega
          clear c0 c1
          go_wp2_with fail
          go_region
          all_goals
            go_wp2_with fail
            refine bodyPost_ret (v := .tuple #[.agg (maskA (setW p1)), .bool k1]) ?_ rfl ⟨p1, by rw [hoke2.out], fun _ => hG.out.symm, ?_⟩
            · simp [results, Try.results38, go_sem, k7]
            · (repeat (first | exact Below.refl _ _ | assumption | refine Below.n _ ?_ (by first | omega | (simp; done) | (simp; omega)) | refine Below.alloc ?_ (by first | omega | (simp; done) | (simp; omega)) _ | refine Below.setCell ?_ (by first | omega | (simp; done) | (simp; omega)) _ | refine Below.drew ?_ | refine Below.setRow ?_ (by first | omega | (simp; done) | (simp; omega)) _ | refine Below.drewN ?_ _))

theorem RMean_any (wd : Nat) (day : Int) (hd0 : 0 ≤ day) (hd1 : day < 146097) (hwd : Civ.weekI day = (wd : Nat)) (l : List Rule) (K : Nat → Bool) (P : Nat → Nat → Bool) : ∀ N, RMeanAll wd day l K P N := by
  intro N
  induction N with
  | zero => intro e v rv w B ga gm hN; have := nodesE_pos e; omega
  | succ N ih => exact RMean_step wd day hd0 hd1 hwd l K P N ih

end Ru
end Go.Proofs.Ytbncbkaonkcgeaa

namespace Go.Proofs.Ytbncbkaonkcgeaa
open Go.RowKit Go.Maps Go.ChangeShapes
namespace Ru
open Msk Vm
open Sl (strV Reads IntsV MasksV)

/-! ### rounds -/
/-- masks that are known are right -/
def Good (l : List Rule) (env : List UInt8 → Nat → Bool) (K : Nat → Bool) (P : Nat → Nat → Bool) : Prop := ∀ (i : Nat) (r : Rule), l[i]? = some r → K i = true → P i = env r.name
theorem Good.mean {l : List Rule} {env : List UInt8 → Nat → Bool} {K : Nat → Bool} {P : Nat → Nat → Bool} {wd : Nat} {day : Int} (h : Good l env K P) (hM : Means wd day l env) (hR : RightR l) {i : Nat} {r : Rule} (hi : l[i]? = some r) (hok : okE l K r.expr = true) :
    meanE wd day (fun nm => P (placeR l nm)) r.expr = env r.name := by
  rw [hM i r hi]
  refine meanE_loc r.expr fun nm hn => ?_
  have hk := hR.known i r hi nm hn
  have h2 : l[placeR l nm]? = some l[placeR l nm] := List.getElem?_eq_getElem hk
  have h1 := h _ _ h2 (List.all_eq_true.1 hok nm hn)
  rw [placeR_name h2] at h1
  exact h1
/-- how far a pass has come -/
def PassK (l : List Rule) (K0 K : Nat → Bool) (i : Nat) : Prop := (∀ k, K0 k = true → K k = true) ∧ ∀ (k : Nat) (r : Rule), k < i → l[k]? = some r → okE l K0 r.expr = true → K k = true
theorem PassK.start (l : List Rule) (K : Nat → Bool) : PassK l K K 0 := ⟨fun _ h => h, fun k r hk => by omega⟩
theorem okE_mono {l : List Rule} {K0 K : Nat → Bool} (h : ∀ k, K0 k = true → K k = true) {e : Expr} (ho : okE l K0 e = true) : okE l K e = true :=
  List.all_eq_true.2 fun nm hn => h _ (List.all_eq_true.1 ho nm hn)
theorem PassK.has {l : List Rule} {K0 K : Nat → Bool} {i : Nat} (h : PassK l K0 K i) (hK : K i = true) : PassK l K0 K (i + 1) := ⟨h.1, fun k r hk hr ho => by
  by_cases e : k = i
  · rw [e]; exact hK
  · exact h.2 k r (by omega) hr ho⟩
theorem PassK.put {l : List Rule} {K0 K : Nat → Bool} {i : Nat} {r : Rule} (h : PassK l K0 K i) (hi : l[i]? = some r) (hK : K i = false) : PassK l K0 (fun x => if x = i then okE l K r.expr else K x) (i + 1) := by
  refine ⟨fun k hk => ?_, fun k r2 hk hr ho => ?_⟩
  · dsimp only
    split
    · rename_i e
      subst e
      have := h.1 k hk
      rw [hK] at this
      cases this
    · exact h.1 k hk
  · dsimp only
    by_cases e : k = i
    · subst e
      rw [if_pos rfl]
      rw [hi] at hr
      cases hr
      exact okE_mono h.1 ho
    · rw [if_neg e]
      exact h.2 k r2 (by omega) hr ho
theorem PassK.done {l : List Rule} {K0 K : Nat → Bool} (h : PassK l K0 K l.length) (hR : RightR l) {r : Nat} (hr : r ≤ cntB K0 l.length) (hlt : r < l.length) : r + 1 ≤ cntB K l.length := by
  have hm := cntB_mono (U := K0) (V := K) l.length (fun k _ => h.1 k)
  by_cases hall : cntB K0 l.length < l.length
  · obtain ⟨i, hi, hU⟩ := cntB_not hall
    obtain ⟨k, hk, hUk, hdep⟩ := last_one (r := stepB (directR l)) (n := l.length) (fun i k hs => stepB_lt hs) hR.noring (fun j => !K0 j) hi (by simp [hU])
    have hk2 : K0 k = false := by simpa using hUk
    have hx : l[k]? = some l[k] := List.getElem?_eq_getElem hk
    have ho : okE l K0 l[k].expr = true := List.all_eq_true.2 fun nm hn => by
      have hp := hR.known k _ hx nm hn
      have hs : stepB (directR l) k (placeR l nm) = true := by
        unfold stepB
        rw [directR_at hx, List.contains_iff_mem]
        exact List.mem_map.2 ⟨nm, hn, findI_nat hp⟩
      simpa using hdep _ hs
    have := cntB_lt (U := K0) (V := K) (k := k) l.length (fun j _ => h.1 j) hk hk2 (h.2 k _ hk hx ho)
    omega
  · omega
theorem cnt_all {K : Nat → Bool} {n : Nat} (h : n ≤ cntB K n) {k : Nat} (hk : k < n) : K k = true := by
  cases e : K k with
  | true => rfl
  | false =>
    have h1 := cntB_lt (U := K) (V := fun _ => true) (k := k) n (fun _ _ _ => rfl) hk e rfl
    have h2 := cntB_le (fun _ => true) n
    omega

/-! ### the two rows -/
theorem Blk_put {g : Nat} {t : TypeId} : ∀ (vs : List Value) {w : World} {cs : Array Value} (_ : Blk w g t cs) (o : Nat), ∃ cs', Blk (w.setCells g o vs) g t cs' ∧ cs'.size = cs.size ∧ (∀ i, cs'[i]? = if o ≤ i ∧ i < o + vs.length ∧ i < cs.size then vs[i - o]? else cs[i]?) ∧ w.grownBy (w.setCells g o vs) (some g)
  | [], w, cs, h, o => ⟨cs, by simpa [World.setCells] using h, rfl, fun i => by rw [if_neg (by simp; omega)], by simpa [World.setCells] using grown_refl w (some g)⟩
  | v :: vs, w, cs, h, o => by
    obtain ⟨cs', h1, h2, h3, h5⟩ := Blk_put vs (h.set o v) (o + 1)
    refine ⟨cs', by simpa [World.setCells] using h1, by rw [h2]; simp, fun i => ?_, ?_⟩
    · rw [h3, Array.getElem?_setIfInBounds, Array.size_setIfInBounds, List.length_cons]
      by_cases e : o = i
      · subst e
        rw [if_neg (by omega), if_pos rfl]
        by_cases e2 : o < cs.size
        · rw [if_pos e2, if_pos (by omega), Nat.sub_self]; rfl
        · rw [if_neg e2, if_neg (by omega), Array.getElem?_eq_none (by omega)]
      · rw [if_neg e]
        by_cases e2 : o + 1 ≤ i ∧ i < o + 1 + vs.length ∧ i < cs.size
        · rw [if_pos e2, if_pos (by omega), show i - o = (i - (o + 1)) + 1 by omega]; rfl
        · rw [if_neg e2, if_neg (by omega)]
    · have e : w.setCells g o (v :: vs) = (w.setCell ⟨g, o, none⟩ v).setCells g (o + 1) vs := by simp [World.setCells]
      rw [e]
      exact ⟨h5.os, h5.tape, h5.output, by have := h5.size; simpa using this, fun k hk hne => (h5.block k (by simpa using hk) hne).trans (Below.heap_setCell w ⟨g, o, none⟩ v k (fun e => hne (by rw [e])))⟩
structure KnB (w : World) (ga gm n : Nat) (K : Nat → Bool) (P : Nat → Nat → Bool) : Prop where
  kb : ∃ cs, Blk w ga 4 cs ∧ cs.size = n ∧ ∀ i, i < n → cs[i]? = some (.bool (K i))
  mbk : ∃ cs, Blk w gm 51 cs ∧ cs.size = n * 23 ∧ ∀ i, i < n → ∀ j, j < 23 → cs[i * 23 + j]? = (maskA (setW (P i)))[j]?
theorem KnB.known {w : World} {ga gm n : Nat} {K : Nat → Bool} {P : Nat → Nat → Bool} (h : KnB w ga gm n K P) : KnownAt w ga gm n K P := by
  obtain ⟨⟨ck, hk, _, hk2⟩, ⟨cm, hm, hm1, hm2⟩⟩ := h
  refine ⟨fun i hi => by rw [hk.cell]; exact hk2 i hi, fun i hi => cellsAt_some.2 ⟨maskA_size _, fun j hj => ?_⟩, hk.lt, hm.lt⟩
  rw [hm.cell]
  exact hm2 i hi j hj
theorem KnB.ne {w : World} {ga gm n : Nat} {K : Nat → Bool} {P : Nat → Nat → Bool} (h : KnB w ga gm n K P) : ga ≠ gm := by
  obtain ⟨⟨ck, hk, _⟩, ⟨cm, hm, _⟩⟩ := h
  intro e
  subst e
  unfold Blk at hk hm
  rw [hk] at hm
  simp at hm
theorem KnB.below {w w' : World} {ga gm n : Nat} {K : Nat → Bool} {P : Nat → Nat → Bool} (h : KnB w ga gm n K P) {B : Nat} (hb : Below B w w') (hB : w.heap.size ≤ B) : KnB w' ga gm n K P := by
  obtain ⟨⟨ck, hk, hk1⟩, ⟨cm, hm, hm1⟩⟩ := h
  exact ⟨⟨ck, hk.below hb (by have := hk.lt; omega), hk1⟩, ⟨cm, hm.below hb (by have := hm.lt; omega), hm1⟩⟩
theorem KnB.there {w : World} {ga gm n : Nat} {K : Nat → Bool} {P : Nat → Nat → Bool} (h : KnB w ga gm n K P) {i : Nat} (hi : i < n) : w.there gm (i * 23) 23 := by
  obtain ⟨_, ⟨cm, hm, hm1, _⟩⟩ := h
  intro j hj
  have : i * 23 + j < cm.size := by
    have := Nat.mul_le_mul_right 23 (show i + 1 ≤ n by omega)
    omega
  exact ⟨by rw [hm.cell, Array.getElem?_eq_getElem this]; rfl, hm.frozen _⟩
theorem KnB.free {w : World} {ga gm n : Nat} {K : Nat → Bool} {P : Nat → Nat → Bool} (h : KnB w ga gm n K P) (i : Nat) : w.frozen? ⟨ga, i, none⟩ = false := by
  obtain ⟨⟨ck, hk, _⟩, _⟩ := h
  exact hk.frozen i
/-- a mask, and whether it is known, is stored -/
theorem KnB.putM {w : World} {ga gm n : Nat} {K : Nat → Bool} {P : Nat → Nat → Bool} (h : KnB w ga gm n K P) {i : Nat} (hi : i < n) (p : Nat → Bool) : KnB (w.setCells gm (i * 23) (maskA (setW p)).toList) ga gm n K (fun x => if x = i then p else P x) ∧ w.grownBy (w.setCells gm (i * 23) (maskA (setW p)).toList) (some gm) := by
  have hne := h.ne
  obtain ⟨⟨ck, hk, hk1⟩, ⟨cm, hm, hm1, hm2⟩⟩ := h
  obtain ⟨cs', h1, h2, h3, h4⟩ := Blk_put (maskA (setW p)).toList hm (i * 23)
  refine ⟨⟨⟨ck, (h4.block ga hk.lt (by intro e; injection e with e; exact hne e)).trans hk, hk1⟩, ⟨cs', h1, by rw [h2, hm1], fun x hx j hj => ?_⟩⟩, h4⟩
  rw [h3, Array.length_toList, maskA_size]
  have hxs : x * 23 + j < cm.size := by
    have := Nat.mul_le_mul_right 23 (show x + 1 ≤ n by omega)
    omega
  by_cases e : x = i
  · subst e
    rw [if_pos (by omega), if_pos rfl, show x * 23 + j - x * 23 = j by omega, Array.getElem?_toList]
  · rw [if_neg (by omega), if_neg e]
    exact hm2 x hx j hj
theorem KnB.putK {w : World} {ga gm n : Nat} {K : Nat → Bool} {P : Nat → Nat → Bool} (h : KnB w ga gm n K P) {i : Nat} (hi : i < n) (b : Bool) : KnB (w.setCell ⟨ga, i, none⟩ (.bool b)) ga gm n (fun x => if x = i then b else K x) P := by
  have hne := h.ne
  obtain ⟨⟨ck, hk, hk1, hk2⟩, ⟨cm, hm, hm1⟩⟩ := h
  refine ⟨⟨_, hk.set i _, by simpa using hk1, fun x hx => ?_⟩, ⟨cm, hm.far (p := ⟨ga, i, none⟩) (Ne.symm hne) _, hm1⟩⟩
  rw [Array.getElem?_setIfInBounds]
  by_cases e : i = x
  · subst e
    rw [if_pos rfl, if_pos (by omega), if_pos rfl]
  · rw [if_neg e, if_neg (fun e2 => e e2.symm)]
    exact hk2 x hx
theorem made_mask (n i j : Nat) (hi : i < n) (hj : j < 23) : (madeCells (maskA fun _ => 0) (n * 23))[i * 23 + j]? = (maskA (setW noS))[j]? := by
  have hlt : i * 23 + j < n * 23 := by
    have := Nat.mul_le_mul_right 23 (show i + 1 ≤ n by omega)
    omega
  have e2 : maskA (setW noS) = maskA (fun _ => 0) := zero_set
  rw [e2, maskA_get, if_pos hj]
  unfold madeCells
  rw [Array.getElem?_map, Array.getElem?_range, if_pos hlt]
  have e3 : (i * 23 + j) % (maskA fun _ => 0).size = j := by rw [maskA_size]; omega
  simp only [Option.map_some, e3]
  rw [getElem!_pos _ j (by rw [maskA_size]; exact hj)]
  congr 1
  have := maskA_get (fun _ => 0) j
  rw [if_pos hj, Array.getElem?_eq_getElem (by rw [maskA_size]; exact hj)] at this
  exact Option.some.inj this
theorem KnB.start {w : World} {ga gm n : Nat} (h1 : Blk w ga 4 (madeCells #[.bool false] n)) (h2 : Blk w gm 51 (madeCells (maskA fun _ => 0) (n * 23))) : KnB w ga gm n (fun _ => false) (fun _ => noS) :=
  ⟨⟨_, h1, size_madeCells _ _, fun i hi => by rw [← Array.getElem?_toList, toList_madeCells_one, List.getElem?_replicate, if_pos hi]⟩, ⟨_, h2, size_madeCells _ _, fun i hi j hj => made_mask n i j hi hj⟩⟩
theorem KnB.reads {w : World} {ga gm n : Nat} {K : Nat → Bool} {P : Nat → Nat → Bool} (h : KnB w ga gm n K P) (hn : n ≤ 9223372036854775807) {S : List (Nat → Bool)} (hS : S.length = n) (he : ∀ i p, S[i]? = some p → P i = p) : MasksV w w.heap.size (.slice (some ⟨gm, 0, none⟩) n n) (S.map setW) := by
  have hk := h.known
  refine ⟨_, n, by rw [List.length_map, hS], by rw [List.length_map, hS]; exact hn, fun i f hf => ⟨gm, 0, rfl, hk.lm, ?_⟩⟩
  rw [List.getElem?_map, Option.map_eq_some_iff] at hf
  obtain ⟨p, hp, rfl⟩ := hf
  have hi := (List.getElem?_eq_some_iff.1 hp).1
  rw [Nat.zero_add, hk.ms i (by omega), he i p hp]
  exact ⟨rfl, fun k _ => setW_lt p k⟩
theorem row_reads {w : World} {base : Nat} {v : Value} {S : List (Nat → Bool)} (h : MaskRow w base v S) : MasksV w w.heap.size v (S.map setW) := by
  obtain ⟨A, cap, rfl⟩ := own_slice h
  refine ⟨A, cap, by rw [List.length_map], by rw [List.length_map]; exact own_max h, fun i f hf => ?_⟩
  rw [List.getElem?_map, Option.map_eq_some_iff] at hf
  obtain ⟨p, hp, rfl⟩ := hf
  obtain ⟨g, cap2, e, _, hg, hc⟩ := mask_at h hp
  cases e
  exact ⟨g, 0, rfl, hg, by rw [Nat.zero_add]; exact hc, fun k _ => setW_lt p k⟩

theorem KnB.far {w : World} {ga gm n : Nat} {K : Nat → Bool} {P : Nat → Nat → Bool} (h : KnB w ga gm n K P) {p : Addr} (ha : ga ≠ p.block) (hm : gm ≠ p.block) (u : Value) : KnB (w.setCell p u) ga gm n K P := by
  obtain ⟨⟨ck, hk, hk1⟩, ⟨cm, hm1, hm2⟩⟩ := h
  exact ⟨⟨ck, hk.far ha u, hk1⟩, ⟨cm, hm1.far hm u, hm2⟩⟩
/-! ### the walk -/
def RAllPost (l : List Rule) (env : List UInt8 → Nat → Bool) (day : Int) (w : World) (e : Ending) (w' : World) : Prop := ∃ v, e = .returned (.tuple #[v, faultV (allF l day)]) ∧ MasksV w' w'.heap.size v ((allM l env day).map setW) ∧ Below w.heap.size w w'
theorem MasksV_nil (w : World) : MasksV w w.heap.size (.slice none 0 0) (([] : List (Nat → Bool)).map setW) := ⟨none, 0, rfl, by simp, fun i f h => by simp at h⟩

set_option maxRecDepth 100000 in
set_option maxHeartbeats 4000000 in
theorem RAll_wrong (v : Value) (l : List Rule) (env : List UInt8 → Nat → Bool) (day : Int) (w : World) (hr : RulesV w w.heap.size v l) (h : (wrongR l).1 ≠ 0) : Calls Try.prog 14 #[v, .int .i64 day] w (RAllPost l env day w) := by
  have hF : allF l day = wrongR l := if_pos h
  have hM : allM l env day = [] := if_neg (by rw [hF]; exact h)
  have hbA : Below w.heap.size w (w.alloc (.cells #[.int .i64 0, .int .i64 0] 26)) := (Below.refl _ _).alloc (Nat.le_refl _) _
  have hP := Lib.hid (RWrong_any v l (w.alloc (.cells #[.int .i64 0, .int .i64 0] 26)) (hr.below hbA (Nat.le_refl _) (by simp)))
  have B0 := Blk.new w 26 #[.int .i64 0, .int .i64 0]
  obtain ⟨A, cap, rfl, _⟩ := hr
  have g : ((wrongR l).1 != 0) = true := by simpa using h
  unfold RAllPost
  rw [hF, hM]
  generalize wrongR l = q at *
  obtain ⟨q1, q2⟩ := q
  unfold faultV at hP ⊢
  simp only at g hP ⊢
  clear h hF hM
  go_enter Try.func14, Try.ntmps14
  go_wp2_with (go_at_call 37; refine hP.out.mono ?_; rintro e w1 ⟨rfl, hb1⟩; have hz1 := hb1.size; simp at hz1; have B1 := B0.below hb1 (by simp); have s0 : w1.cell? ⟨w.heap.size, 0, none⟩ = some (.int .i64 0) := B1.cell 0; have s1 : w1.cell? ⟨w.heap.size, 1, none⟩ = some (.int .i64 0) := B1.cell 1; have t0 : w1.frozen? ⟨w.heap.size, 0, none⟩ = false := B1.frozen 0; have t1 : w1.frozen? ⟨w.heap.size, 1, none⟩ = false := B1.frozen 1)
  have hb2 : Below w.heap.size w w1 := hbA.trans (hb1.mono (by simp))
  have hlw : w.heap.size < w1.heap.size := by omega
  go_region
  all_goals
    go_wp2_with fail
    exact bodyPost_ret (v := .tuple #[.slice none 0 0, .agg #[.int .i64 q1, .int .i64 q2]]) (by simp [results, Try.results14, s0, s1, hlw, go_sem]) rfl ⟨_, rfl, MasksV_nil _, (by repeat (first | exact Below.refl _ _ | assumption | refine Below.n _ ?_ (by first | omega | (simp; done) | (simp; omega)) | refine Below.alloc ?_ (by first | omega | (simp; done) | (simp; omega)) _ | refine Below.setCell ?_ (by first | omega | (simp; done) | (simp; omega)) _ | refine Below.drew ?_ | refine Below.setRow ?_ (by first | omega | (simp; done) | (simp; omega)) _ | refine Below.drewN ?_ _))⟩

set_option maxRecDepth 100000 in
set_option maxHeartbeats 4000000 in
theorem RAll_range (v : Value) (l : List Rule) (env : List UInt8 → Nat → Bool) (day : Int) (w : World) (hr : RulesV w w.heap.size v l) (h : (wrongR l).1 = 0) (hd : day < 0 ∨ 146097 ≤ day) : Calls Try.prog 14 #[v, .int .i64 day] w (RAllPost l env day w) := by
  have hF : allF l day = (3, 0) := by unfold allF; rw [if_neg (by omega), if_pos hd]
  have hM : allM l env day = [] := if_neg (by rw [hF]; decide)
  have hbA : Below w.heap.size w (w.alloc (.cells #[.int .i64 0, .int .i64 0] 26)) := (Below.refl _ _).alloc (Nat.le_refl _) _
  have hP := Lib.hid (RWrong_any v l (w.alloc (.cells #[.int .i64 0, .int .i64 0] 26)) (hr.below hbA (Nat.le_refl _) (by simp)))
  have B0 := Blk.new w 26 #[.int .i64 0, .int .i64 0]
  obtain ⟨A, cap, rfl, _⟩ := hr
  unfold RAllPost
  rw [hF, hM]
  generalize wrongR l = q at *
  obtain ⟨q1, q2⟩ := q
  simp only at h
  subst h
  unfold faultV at hP ⊢
  simp only at hP ⊢
  clear hF hM
  rcases dec (day < 0) with ⟨g, _⟩ | ⟨g, _⟩
  all_goals
    have g2 : decide (146097 ≤ day) = true ∨ day < 0 := by simp; omega
    go_enter Try.func14, Try.ntmps14
    go_wp2_with (go_at_call 37; refine hP.out.mono ?_; rintro e w1 ⟨rfl, hb1⟩; have hz1 := hb1.size; simp at hz1; have B1 := B0.below hb1 (by simp); have s0 : w1.cell? ⟨w.heap.size, 0, none⟩ = some (.int .i64 0) := B1.cell 0; have s1 : w1.cell? ⟨w.heap.size, 1, none⟩ = some (.int .i64 0) := B1.cell 1; have t0 : w1.frozen? ⟨w.heap.size, 0, none⟩ = false := B1.frozen 0; have t1 : w1.frozen? ⟨w.heap.size, 1, none⟩ = false := B1.frozen 1; have hlw : w.heap.size < w1.heap.size := by omega)
    have hb2 : Below w.heap.size w w1 := hbA.trans (hb1.mono (by simp))
    exact bodyPost_ret (v := .tuple #[.slice none 0 0, .agg #[.int .i64 3, .int .i64 0]]) (by simp [results, Try.results14, s0, s1, hlw, go_sem]) rfl ⟨_, rfl, MasksV_nil _, (by repeat (first | exact Below.refl _ _ | assumption | refine Below.n _ ?_ (by first | omega | (simp; done) | (simp; omega)) | refine Below.alloc ?_ (by first | omega | (simp; done) | (simp; omega)) _ | refine Below.setCell ?_ (by first | omega | (simp; done) | (simp; omega)) _ | refine Below.drew ?_ | refine Below.setRow ?_ (by first | omega | (simp; done) | (simp; omega)) _ | refine Below.drewN ?_ _))⟩

theorem info_bool9 : (Try.prog.info? 4).map (fun i => (i.zero, i.size, i.bytes)) = some (some (.bool false), 1, 1) := by kernel_rfl
theorem info_mask9 : (Try.prog.info? 51).map (fun i => (i.zero.map (·.cells), i.size, i.bytes)) = some (some (maskA fun _ => 0), 23, 184) := by rw [← zeroA]; kernel_rfl
theorem make_known (n : Nat) (hn : n ≤ 40) (W : World) : (Instr.makeSlice 72 (.int .i64 (n : Int)) (.int .i64 (n : Int))).run Try.prog W = .ok (.slice (some ⟨W.heap.size, 0, none⟩) n n) (W.alloc (.cells (madeCells #[.bool false] n) 4)) := by
  obtain ⟨i, hi, hz, hs, hb⟩ := info_parts8 info_bool9
  exact run_make_row 72 4 i _ Try.underlying72 hi hz hs rfl .i64 .i64 n (by rw [hb]; omega) (by omega) W
theorem make_masks (n : Nat) (hn : n ≤ 40) (W : World) : (Instr.makeSlice 23 (.int .i64 (n : Int)) (.int .i64 (n : Int))).run Try.prog W = .ok (.slice (some ⟨W.heap.size, 0, none⟩) n n) (W.alloc (.cells (madeCells (maskA fun _ => 0) (n * 23)) 51)) := by
  have h := info_mask9
  cases e : Try.prog.info? 51 with
  | none => rw [e] at h; simp at h
  | some i =>
    rw [e] at h
    simp at h
    obtain ⟨⟨z, hz, hz2⟩, hs, hb⟩ := h
    have := run_make (P := Try.prog) W 23 51 i z Try.underlying23 e hz .i64 .i64 n n (by omega) (Int.le_refl _) (by rw [hb]; omega) (by omega)
    rw [hz2, hs] at this
    simpa using this

set_option maxRecDepth 100000 in
set_option maxHeartbeats 8000000 in
theorem RAll_right (v : Value) (l : List Rule) (env : List UInt8 → Nat → Bool) (wd : Nat) (day : Int) (hme : Means wd day l env) (hwd : Civ.weekI day = (wd : Nat)) (w : World) (hr : RulesV w w.heap.size v l) (h : (wrongR l).1 = 0) (hd0 : 0 ≤ day) (hd1 : day < 146097) : Calls Try.prog 14 #[v, .int .i64 day] w (RAllPost l env day w) := by
  have hF : allF l day = (0, 0) := by unfold allF; rw [if_neg (by omega), if_neg (by omega)]
  have hM : allM l env day = l.map fun r => env r.name := if_pos (by rw [hF])
  have hbA : Below w.heap.size w (w.alloc (.cells #[.int .i64 0, .int .i64 0] 26)) := (Below.refl _ _).alloc (Nat.le_refl _) _
  have hP := Lib.hid (RWrong_any v l (w.alloc (.cells #[.int .i64 0, .int .i64 0] 26)) (hr.below hbA (Nat.le_refl _) (by simp)))
  have B0 := Blk.new w 26 #[.int .i64 0, .int .i64 0]
  have hright := Lib.hid (right_of h)
  have hform := Lib.hid (wrong_form h)
  obtain ⟨h40, _⟩ := form_right (wrong_form h)
  have hrr := Lib.hid hr
  obtain ⟨A, cap, rfl, hlen, hc⟩ := hr
  replace hc := Lib.hid hc
  unfold RAllPost
  rw [hF, hM]
  generalize wrongR l = q at *
  obtain ⟨q1, q2⟩ := q
  simp only at h
  subst h
  unfold faultV at hP ⊢
  simp only at hP ⊢
  replace hme := Lib.hid hme
  clear hF hM
  have g : decide (day < 0) = false := by simp; omega
  have g2 : decide (146097 ≤ day) = false := by simp; omega
  have mk1 := make_known l.length h40
  have mk2 := make_masks l.length h40
  go_enter Try.func14, Try.ntmps14
  go_wp2_with (go_at_call 37; refine hP.out.mono ?_; rintro e w1 ⟨rfl, hb1⟩; have hz1 := hb1.size; simp at hz1; have B1 := B0.below hb1 (by simp); have hlw : w.heap.size < w1.heap.size := by omega)
  go_region
  · have hbk1 := (Blk.new (w1.alloc (.cells #[.int .i64 0, .int .i64 q2] 26)) 4 (madeCells #[Value.bool false] l.length)).alloc (.cells (madeCells (maskA fun x => 0) (l.length * 23)) 51)
    have hbk2 := Blk.new ((w1.alloc (.cells #[.int .i64 0, .int .i64 q2] 26)).alloc (.cells (madeCells #[Value.bool false] l.length) 4)) 51 (madeCells (maskA fun x => 0) (l.length * 23))
    rw [World.size_alloc] at hbk1
    rw [World.size_alloc, World.size_alloc] at hbk2
    have hT : KnB ((((w1.alloc (.cells #[.int .i64 0, .int .i64 q2] 26)).alloc (.cells (madeCells #[Value.bool false] l.length) 4)).alloc (.cells (madeCells (maskA fun x => 0) (l.length * 23)) 51)).drew) (w1.heap.size + 1) (w1.heap.size + 1 + 1) l.length (fun _ => false) (fun _ => noS) := KnB.start hbk1 hbk2
    have hb2 : Below w1.heap.size w1 ((((w1.alloc (.cells #[.int .i64 0, .int .i64 q2] 26)).alloc (.cells (madeCells #[Value.bool false] l.length) 4)).alloc (.cells (madeCells (maskA fun x => 0) (l.length * 23)) 51)).drew) := Below.drew ((((Below.refl _ _).alloc (Nat.le_refl _) _).alloc (by simp) _).alloc (by simp; omega) _)
    have hbw1 : Below w.heap.size w w1 := hbA.trans (hb1.mono (by simp))
    clear hbk1 hbk2 mk1 mk2 hP hb1 B0 hbA g g2
    generalize hw2 : ((((w1.alloc (.cells #[.int .i64 0, .int .i64 q2] 26)).alloc (.cells (madeCells #[Value.bool false] l.length) 4)).alloc (.cells (madeCells (maskA fun x => 0) (l.length * 23)) 51)).drew) = w2 at *
    clear hw2
    generalize hgx : w1.heap.size + 1 + 1 = gx at *
    generalize hgy : w1.heap.size + 1 = gy at *
    have zx : w1.heap.size < gx ∧ w1.heap.size < gy := by omega
    clear hgx hgy
    replace hT := Lib.hid hT
    go_wp2_with fail
    go_loopg [32] l.length (fun q k wr => ∃ (m : Nat) (K : Nat → Bool) (P : Nat → Nat → Bool), m ≤ l.length ∧ q = l.length - m ∧ k = .int .i64 m ∧ Hid (KnB wr gy gx l.length K P) ∧ Hid (Good l env K P) ∧ m ≤ cntB K l.length ∧ Below w1.heap.size w1 wr)
    case atStart => exact ⟨0, _, _, by omega, rfl, rfl, hT, Lib.hid (fun i r hi hk => by cases hk), Nat.zero_le _, hb2⟩
    case round =>
      clear hT hb2
      obtain ⟨m, K, P, hm, hn, rfl, hT, hG, hcnt, hbq⟩ := hrel
      replace hn := Lib.hid hn
      replace hcnt := Lib.hid hcnt
      have zq := hbq.size
      have zka := hT.out.known.lk
      have zkm := hT.out.known.lm
      by_cases hlt : m < l.length
      · obtain ⟨wo, rfl⟩ : ∃ wo : World, wo = wr := ⟨_, rfl⟩
        go_wp2_with fail
        go_loopg [36] l.length (fun q k wr => ∃ (i : Nat) (K2 : Nat → Bool) (P2 : Nat → Nat → Bool), i ≤ l.length ∧ q = l.length - i ∧ k = .int .i64 i ∧ Hid (KnB wr gy gx l.length K2 P2) ∧ Hid (Good l env K2 P2) ∧ Hid (PassK l K K2 i) ∧ Below w1.heap.size w1 wr)
        case atStart => exact ⟨0, K, P, by omega, rfl, rfl, hT, hG, Lib.hid (PassK.start _ _), hbq⟩
        case round =>
          clear hT hG hbq zka zkm
          obtain ⟨i, K2, P2, hi, hp, rfl, hT, hG, hPs, hbq⟩ := hrel
          replace hp := Lib.hid hp
          have zq2 := hbq.size
          have zka := hT.out.known.lk
          have zkm := hT.out.known.lm
          have hbw : Below w.heap.size w wr := hbw1.trans (hbq.mono (by omega))
          by_cases hli : i < l.length
          · obtain ⟨r, hx⟩ : ∃ r, l[i]? = some r := ⟨_, List.getElem?_eq_getElem hli⟩
            obtain ⟨b, o, rfl, hbl, k0, hnl, hE⟩ := hc.out i r hx
            have zbl : b < wr.heap.size := by omega
            obtain ⟨v0, v1, v2, v3, hnl1, A1, cap1, v4, hkl1, hkv1⟩ := (hE.below hbw (Nat.le_refl _) (Nat.le_refl _) hbl).out
            have f0 : wr.cell? ⟨b, o + i * 6, none⟩ = some (strV r.name) := (hbw.cell (p := ⟨b, _, none⟩) hbl).trans k0
            have f1 : wr.cell? ⟨b, o + i * 6 + 1, none⟩ = some (.int .i64 r.expr.kind) := v0
            have f2 : wr.cell? ⟨b, o + i * 6 + 2, none⟩ = some (.int .i64 r.expr.a) := v1
            have f3 : wr.cell? ⟨b, o + i * 6 + 3, none⟩ = some (.int .i64 r.expr.b) := v2
            have f4 : wr.cell? ⟨b, o + i * 6 + 4, none⟩ = some (strV r.expr.name) := v3
            have f5 : wr.cell? ⟨b, o + i * 6 + 5, none⟩ = some (.slice A1 r.expr.kids.length cap1) := v4
            have c1 := hT.out.known.kn i hli
            have hbe : Below wr.heap.size wr (wr.alloc (.cells #[strV r.name, .int .i64 r.expr.kind, .int .i64 r.expr.a, .int .i64 r.expr.b, strV r.expr.name, .slice A1 r.expr.kids.length cap1] 45)) := (Below.refl _ _).alloc (Nat.le_refl _) _
            have hcall := Lib.hid (RMean_any wd day hd0 hd1 hwd l K2 P2 (nodesE r.expr) r.expr (.agg #[.int .i64 r.expr.kind, .int .i64 r.expr.a, .int .i64 r.expr.b, strV r.expr.name, .slice A1 r.expr.kids.length cap1]) _ (wr.alloc (.cells #[strV r.name, .int .i64 r.expr.kind, .int .i64 r.expr.a, .int .i64 r.expr.b, strV r.expr.name, .slice A1 r.expr.kids.length cap1] 45)) w.heap.size gy gx (Nat.le_refl _) ⟨1, 0, form_each hform.out hx⟩ (fun nm hn => hright.out.known i r hx nm hn) ⟨A1, cap1, rfl, hnl1, hkl1, hkv1.below (hbe.mono (by omega)) (Nat.le_refl _) (Nat.le_refl _)⟩ (by simp; omega) (hrr.out.below (hbw.trans (hbe.mono (by omega))) (Nat.le_refl _) (Nat.le_refl _)) (hT.out.known.below hbe (Nat.le_refl _)))
            have hgm := Lib.hid (fun ok => hG.out.mean hme.out hright.out hx ok)
            have hput := Lib.hid (fun hk => hPs.out.put hx hk)
            unfold RMeanPost at hcall
            clear v0 v1 v2 v3 v4 k0 hE hkv1
            cases hk2 : K2 i with
            | true =>
              rw [hk2] at c1
              have hPs2 := Lib.hid (hPs.out.has hk2)
              clear hk2 hx
              go_wp2
              go_roundg (l.length - (i + 1))
              case measure => rw [hp.out]; omega
              case rel => exact ⟨i + 1, K2, P2, by omega, rfl, by go_num, Lib.hid (hT.out.below hbe (Nat.le_refl _)), hG, hPs2, hbq.trans (hbe.mono zq2)⟩
            | false =>
              rw [hk2] at c1
              have hPs2 := Lib.hid (hput.out hk2)
              have hG2 := Lib.hid (fun (q : Nat → Bool) (hq : okE l K2 r.expr = true → q = env r.name) => show Good l env (fun x => if x = i then okE l K2 r.expr else K2 x) (fun x => if x = i then q else P2 x) from fun k r2 hk ho => by
                dsimp only at ho ⊢
                by_cases e : k = i
                · subst e
                  rw [if_pos rfl] at ho ⊢
                  rw [hx] at hk
                  cases hk
                  exact hq ho
                · rw [if_neg e] at ho ⊢
                  exact hG.out k r2 hk ho)
              replace hx := Lib.hid hx
              clear hk2 hput hPs
              generalize okE l K2 r.expr = ok at *
              go_wp2_with fail
              refine hcall.out.mono ?_
              rintro e w5 ⟨q, rfl, hq, hb5⟩
              have hq2 := Lib.hid (fun h => (hq h).trans (hgm.out h))
              clear hq
              have hz5 := hb5.size
              simp at hz5
              have hT5 := Lib.hid ((hT.out.below hbe (Nat.le_refl _)).below hb5 (Nat.le_refl _))
              have hth := Lib.hid (hT5.out.there hli)
              obtain ⟨hT6, hg6⟩ := hT5.out.putM hli q
              replace hT6 := Lib.hid hT6
              have zk5 := hT5.out.known.lk
              have zm5 := hT5.out.known.lm
              have hb6 : Below w1.heap.size w1 (w5.setCells gx (i * 23) (maskA (setW q)).toList) := below_row ((hbq.trans (hbe.mono zq2)).trans (hb5.mono (by simp; omega))) hg6 (by omega) (by omega)
              have z6 := hg6.size
              have c6 := hT6.out.known.kn i hli
              have c7 := hT6.out.free i
              have hT7 := Lib.hid (hT6.out.putK hli ok)
              have hlw6 : gy < (w5.setCells gx (i * 23) (maskA (setW q)).toList).heap.size := by omega
              go_wp2_with (with_reducible show wpList _ _ _ (Oper.mk _ (Op.store 51 _ _) _ _ _ _ :: _) _ _; refine wpList_store_mid rfl 51 (.tmp 60) (.tmp 58) rfl gx (i * 23) (maskA (setW q)) rfl rfl (by rw [maskA_size]; exact hth.out) (by rw [maskA_size]; kernel_rfl) (by rw [Array.all_eq_true_iff_forall_mem]; intro v hv; exact Msk.one_cell _ v (by simpa using hv)) ?_)
              go_roundg (l.length - (i + 1))
              case measure => rw [hp.out]; omega
              case rel => exact ⟨i + 1, _, _, by omega, rfl, by go_num, hT7, Lib.hid (hG2.out q hq2.out), hPs2, hb6.setCell (by show w1.heap.size ≤ gy; omega) _⟩
          · obtain rfl : i = l.length := by omega
            have hcnt2 := hPs.out.done hright.out hcnt.out hlt
            clear hPs
            go_wp2
            go_roundg (l.length - (m + 1))
            case measure => rw [hn.out]; omega
            case rel => exact ⟨m + 1, K2, P2, by omega, rfl, by go_num, hT, hG, hcnt2, hbq⟩
      · obtain rfl : m = l.length := by omega
        have hall := Lib.hid (fun k (hk : k < l.length) => cnt_all hcnt.out hk)
        have B8 := B1.below hbq (by omega)
        have s0 : wr.cell? ⟨w.heap.size, 0, none⟩ = some (.int .i64 0) := B8.cell 0
        have s1 : wr.cell? ⟨w.heap.size, 1, none⟩ = some (.int .i64 0) := B8.cell 1
        have t0 : wr.frozen? ⟨w.heap.size, 0, none⟩ = false := B8.frozen 0
        have t1 : wr.frozen? ⟨w.heap.size, 1, none⟩ = false := B8.frozen 1
        have hlw2 : w.heap.size < wr.heap.size := by omega
        go_wp2
        have E := (B8.set 0 (.int .i64 0)).set 1 (.int .i64 0)
        have e0 := (E.cell 0).trans (show _ = some (Value.int .i64 0) from rfl)
        have e1 := (E.cell 1).trans (show _ = some (Value.int .i64 0) from rfl)
        refine bodyPost_ret (v := .tuple #[.slice (some ⟨gx, 0, none⟩) l.length l.length, .agg #[.int .i64 0, .int .i64 0]]) (by simp [results, Try.results14, e0, e1, go_sem]) rfl ⟨_, rfl, ?_, (((hbw1.trans (hbq.mono (by omega))).setCell (by simp) _).setCell (by simp) _)⟩
        refine (((hT.out.far (p := ⟨w.heap.size, 0, none⟩) (by show gy ≠ w.heap.size; omega) (by show gx ≠ w.heap.size; omega) (.int .i64 0)).far (p := ⟨w.heap.size, 1, none⟩) (by show gy ≠ w.heap.size; omega) (by show gx ≠ w.heap.size; omega) (.int .i64 0)).reads hlen (S := l.map fun r => env r.name) (by simp) (fun i p hp => ?_))
        rw [List.getElem?_map, Option.map_eq_some_iff] at hp
        obtain ⟨r, hr, rfl⟩ := hp
        exact hG.out i r hr (hall.out i (List.getElem?_eq_some_iff.1 hr).1)
  · have hbk1 := (Blk.new (w1.alloc (.cells #[.int .i64 0, .int .i64 q2] 26)) 51 (madeCells (maskA fun x => 0) (l.length * 23))).alloc (.cells (madeCells #[Value.bool false] l.length) 4)
    have hbk2 := Blk.new ((w1.alloc (.cells #[.int .i64 0, .int .i64 q2] 26)).alloc (.cells (madeCells (maskA fun x => 0) (l.length * 23)) 51)) 4 (madeCells #[Value.bool false] l.length)
    rw [World.size_alloc] at hbk1
    rw [World.size_alloc, World.size_alloc] at hbk2
    have hT : KnB ((((w1.alloc (.cells #[.int .i64 0, .int .i64 q2] 26)).alloc (.cells (madeCells (maskA fun x => 0) (l.length * 23)) 51)).alloc (.cells (madeCells #[Value.bool false] l.length) 4)).drew) (w1.heap.size + 1 + 1) (w1.heap.size + 1) l.length (fun _ => false) (fun _ => noS) := KnB.start hbk2 hbk1
    have hb2 : Below w1.heap.size w1 ((((w1.alloc (.cells #[.int .i64 0, .int .i64 q2] 26)).alloc (.cells (madeCells (maskA fun x => 0) (l.length * 23)) 51)).alloc (.cells (madeCells #[Value.bool false] l.length) 4)).drew) := Below.drew ((((Below.refl _ _).alloc (Nat.le_refl _) _).alloc (by simp) _).alloc (by simp; omega) _)
    have hbw1 : Below w.heap.size w w1 := hbA.trans (hb1.mono (by simp))
    clear hbk1 hbk2 mk1 mk2 hP hb1 B0 hbA g g2
    generalize hw2 : ((((w1.alloc (.cells #[.int .i64 0, .int .i64 q2] 26)).alloc (.cells (madeCells (maskA fun x => 0) (l.length * 23)) 51)).alloc (.cells (madeCells #[Value.bool false] l.length) 4)).drew) = w2 at *
    clear hw2
    generalize hgx : w1.heap.size + 1 + 1 = gx at *
    generalize hgy : w1.heap.size + 1 = gy at *
    have zx : w1.heap.size < gx ∧ w1.heap.size < gy := by omega
    clear hgx hgy
    replace hT := Lib.hid hT
    go_wp2_with fail
    go_loopg [32] l.length (fun q k wr => ∃ (m : Nat) (K : Nat → Bool) (P : Nat → Nat → Bool), m ≤ l.length ∧ q = l.length - m ∧ k = .int .i64 m ∧ Hid (KnB wr gx gy l.length K P) ∧ Hid (Good l env K P) ∧ m ≤ cntB K l.length ∧ Below w1.heap.size w1 wr)
    case atStart => exact ⟨0, _, _, by omega, rfl, rfl, hT, Lib.hid (fun i r hi hk => by cases hk), Nat.zero_le _, hb2⟩
    case round =>
      clear hT hb2
      obtain ⟨m, K, P, hm, hn, rfl, hT, hG, hcnt, hbq⟩ := hrel
      replace hn := Lib.hid hn
      replace hcnt := Lib.hid hcnt
      have zq := hbq.size
      have zka := hT.out.known.lk
      have zkm := hT.out.known.lm
      by_cases hlt : m < l.length
      · obtain ⟨wo, rfl⟩ : ∃ wo : World, wo = wr := ⟨_, rfl⟩
        go_wp2_with fail
        go_loopg [36] l.length (fun q k wr => ∃ (i : Nat) (K2 : Nat → Bool) (P2 : Nat → Nat → Bool), i ≤ l.length ∧ q = l.length - i ∧ k = .int .i64 i ∧ Hid (KnB wr gx gy l.length K2 P2) ∧ Hid (Good l env K2 P2) ∧ Hid (PassK l K K2 i) ∧ Below w1.heap.size w1 wr)
        case atStart => exact ⟨0, K, P, by omega, rfl, rfl, hT, hG, Lib.hid (PassK.start _ _), hbq⟩
        case round =>
          clear hT hG hbq zka zkm
          obtain ⟨i, K2, P2, hi, hp, rfl, hT, hG, hPs, hbq⟩ := hrel
          replace hp := Lib.hid hp
          have zq2 := hbq.size
          have zka := hT.out.known.lk
          have zkm := hT.out.known.lm
          have hbw : Below w.heap.size w wr := hbw1.trans (hbq.mono (by omega))
          by_cases hli : i < l.length
          · obtain ⟨r, hx⟩ : ∃ r, l[i]? = some r := ⟨_, List.getElem?_eq_getElem hli⟩
            obtain ⟨b, o, rfl, hbl, k0, hnl, hE⟩ := hc.out i r hx
            have zbl : b < wr.heap.size := by omega
            obtain ⟨v0, v1, v2, v3, hnl1, A1, cap1, v4, hkl1, hkv1⟩ := (hE.below hbw (Nat.le_refl _) (Nat.le_refl _) hbl).out
            have f0 : wr.cell? ⟨b, o + i * 6, none⟩ = some (strV r.name) := (hbw.cell (p := ⟨b, _, none⟩) hbl).trans k0
            have f1 : wr.cell? ⟨b, o + i * 6 + 1, none⟩ = some (.int .i64 r.expr.kind) := v0
            have f2 : wr.cell? ⟨b, o + i * 6 + 2, none⟩ = some (.int .i64 r.expr.a) := v1
            have f3 : wr.cell? ⟨b, o + i * 6 + 3, none⟩ = some (.int .i64 r.expr.b) := v2
            have f4 : wr.cell? ⟨b, o + i * 6 + 4, none⟩ = some (strV r.expr.name) := v3
            have f5 : wr.cell? ⟨b, o + i * 6 + 5, none⟩ = some (.slice A1 r.expr.kids.length cap1) := v4
            have c1 := hT.out.known.kn i hli
            have hbe : Below wr.heap.size wr (wr.alloc (.cells #[strV r.name, .int .i64 r.expr.kind, .int .i64 r.expr.a, .int .i64 r.expr.b, strV r.expr.name, .slice A1 r.expr.kids.length cap1] 45)) := (Below.refl _ _).alloc (Nat.le_refl _) _
            have hcall := Lib.hid (RMean_any wd day hd0 hd1 hwd l K2 P2 (nodesE r.expr) r.expr (.agg #[.int .i64 r.expr.kind, .int .i64 r.expr.a, .int .i64 r.expr.b, strV r.expr.name, .slice A1 r.expr.kids.length cap1]) _ (wr.alloc (.cells #[strV r.name, .int .i64 r.expr.kind, .int .i64 r.expr.a, .int .i64 r.expr.b, strV r.expr.name, .slice A1 r.expr.kids.length cap1] 45)) w.heap.size gx gy (Nat.le_refl _) ⟨1, 0, form_each hform.out hx⟩ (fun nm hn => hright.out.known i r hx nm hn) ⟨A1, cap1, rfl, hnl1, hkl1, hkv1.below (hbe.mono (by omega)) (Nat.le_refl _) (Nat.le_refl _)⟩ (by simp; omega) (hrr.out.below (hbw.trans (hbe.mono (by omega))) (Nat.le_refl _) (Nat.le_refl _)) (hT.out.known.below hbe (Nat.le_refl _)))
            have hgm := Lib.hid (fun ok => hG.out.mean hme.out hright.out hx ok)
            have hput := Lib.hid (fun hk => hPs.out.put hx hk)
            unfold RMeanPost at hcall
            clear v0 v1 v2 v3 v4 k0 hE hkv1
            cases hk2 : K2 i with
            | true =>
              rw [hk2] at c1
              have hPs2 := Lib.hid (hPs.out.has hk2)
              clear hk2 hx
              go_wp2
              go_roundg (l.length - (i + 1))
              case measure => rw [hp.out]; omega
              case rel => exact ⟨i + 1, K2, P2, by omega, rfl, by go_num, Lib.hid (hT.out.below hbe (Nat.le_refl _)), hG, hPs2, hbq.trans (hbe.mono zq2)⟩
            | false =>
              rw [hk2] at c1
              have hPs2 := Lib.hid (hput.out hk2)
              have hG2 := Lib.hid (fun (q : Nat → Bool) (hq : okE l K2 r.expr = true → q = env r.name) => show Good l env (fun x => if x = i then okE l K2 r.expr else K2 x) (fun x => if x = i then q else P2 x) from fun k r2 hk ho => by
                dsimp only at ho ⊢
                by_cases e : k = i
                · subst e
                  rw [if_pos rfl] at ho ⊢
                  rw [hx] at hk
                  cases hk
                  exact hq ho
                · rw [if_neg e] at ho ⊢
                  exact hG.out k r2 hk ho)
              replace hx := Lib.hid hx
              clear hk2 hput hPs
              generalize okE l K2 r.expr = ok at *
              go_wp2_with fail
              refine hcall.out.mono ?_
              rintro e w5 ⟨q, rfl, hq, hb5⟩
              have hq2 := Lib.hid (fun h => (hq h).trans (hgm.out h))
              clear hq
              have hz5 := hb5.size
              simp at hz5
              have hT5 := Lib.hid ((hT.out.below hbe (Nat.le_refl _)).below hb5 (Nat.le_refl _))
              have hth := Lib.hid (hT5.out.there hli)
              obtain ⟨hT6, hg6⟩ := hT5.out.putM hli q
              replace hT6 := Lib.hid hT6
              have zk5 := hT5.out.known.lk
              have zm5 := hT5.out.known.lm
              have hb6 : Below w1.heap.size w1 (w5.setCells gy (i * 23) (maskA (setW q)).toList) := below_row ((hbq.trans (hbe.mono zq2)).trans (hb5.mono (by simp; omega))) hg6 (by omega) (by omega)
              have z6 := hg6.size
              have c6 := hT6.out.known.kn i hli
              have c7 := hT6.out.free i
              have hT7 := Lib.hid (hT6.out.putK hli ok)
              have hlw6 : gx < (w5.setCells gy (i * 23) (maskA (setW q)).toList).heap.size := by omega
              go_wp2_with (with_reducible show wpList _ _ _ (Oper.mk _ (Op.store 51 _ _) _ _ _ _ :: _) _ _; refine wpList_store_mid rfl 51 (.tmp 60) (.tmp 58) rfl gy (i * 23) (maskA (setW q)) rfl rfl (by rw [maskA_size]; exact hth.out) (by rw [maskA_size]; kernel_rfl) (by rw [Array.all_eq_true_iff_forall_mem]; intro v hv; exact Msk.one_cell _ v (by simpa using hv)) ?_)
              go_roundg (l.length - (i + 1))
              case measure => rw [hp.out]; omega
              case rel => exact ⟨i + 1, _, _, by omega, rfl, by go_num, hT7, Lib.hid (hG2.out q hq2.out), hPs2, hb6.setCell (by show w1.heap.size ≤ gx; omega) _⟩
          · obtain rfl : i = l.length := by omega
            have hcnt2 := hPs.out.done hright.out hcnt.out hlt
            clear hPs
            go_wp2
            go_roundg (l.length - (m + 1))
            case measure => rw [hn.out]; omega
            case rel => exact ⟨m + 1, K2, P2, by omega, rfl, by go_num, hT, hG, hcnt2, hbq⟩
      · obtain rfl : m = l.length := by omega
        have hall := Lib.hid (fun k (hk : k < l.length) => cnt_all hcnt.out hk)
        have B8 := B1.below hbq (by omega)
        have s0 : wr.cell? ⟨w.heap.size, 0, none⟩ = some (.int .i64 0) := B8.cell 0
        have s1 : wr.cell? ⟨w.heap.size, 1, none⟩ = some (.int .i64 0) := B8.cell 1
        have t0 : wr.frozen? ⟨w.heap.size, 0, none⟩ = false := B8.frozen 0
        have t1 : wr.frozen? ⟨w.heap.size, 1, none⟩ = false := B8.frozen 1
        have hlw2 : w.heap.size < wr.heap.size := by omega
        go_wp2
        have E := (B8.set 0 (.int .i64 0)).set 1 (.int .i64 0)
        have e0 := (E.cell 0).trans (show _ = some (Value.int .i64 0) from rfl)
        have e1 := (E.cell 1).trans (show _ = some (Value.int .i64 0) from rfl)
        refine bodyPost_ret (v := .tuple #[.slice (some ⟨gy, 0, none⟩) l.length l.length, .agg #[.int .i64 0, .int .i64 0]]) (by simp [results, Try.results14, e0, e1, go_sem]) rfl ⟨_, rfl, ?_, (((hbw1.trans (hbq.mono (by omega))).setCell (by simp) _).setCell (by simp) _)⟩
        refine (((hT.out.far (p := ⟨w.heap.size, 0, none⟩) (by show gx ≠ w.heap.size; omega) (by show gy ≠ w.heap.size; omega) (.int .i64 0)).far (p := ⟨w.heap.size, 1, none⟩) (by show gx ≠ w.heap.size; omega) (by show gy ≠ w.heap.size; omega) (.int .i64 0)).reads hlen (S := l.map fun r => env r.name) (by simp) (fun i p hp => ?_))
        rw [List.getElem?_map, Option.map_eq_some_iff] at hp
        obtain ⟨r, hr, rfl⟩ := hp
        exact hG.out i r hr (hall.out i (List.getElem?_eq_some_iff.1 hr).1)

theorem RAll_any (v : Value) (l : List Rule) (env : List UInt8 → Nat → Bool) (wd : Nat) (day : Int) (hme : (wrongR l).1 = 0 → 0 ≤ day → day < 146097 → Means wd day l env) (hwd : 0 ≤ day → day < 146097 → Civ.weekI day = (wd : Nat)) (w : World) (hr : RulesV w w.heap.size v l) : Calls Try.prog 14 #[v, .int .i64 day] w (RAllPost l env day w) := by
  by_cases h : (wrongR l).1 = 0
  · by_cases hd : day < 0 ∨ 146097 ≤ day
    · exact RAll_range v l env day w hr h hd
    · exact RAll_right v l env wd day (hme h (by omega) (by omega)) (hwd (by omega) (by omega)) w hr h (by omega) (by omega)
  · exact RAll_wrong v l env day w hr h

end Ru
end Go.Proofs.Ytbncbkaonkcgeaa

namespace Go.Proofs.Ytbncbkaonkcgeaa
open Go.RowKit
namespace Ru
open Msk Vm
open Sl (strV Reads IntsV MasksV)

set_option maxRecDepth 100000 in
set_option maxHeartbeats 2000000 in
/-- slotref5.Same at masks that are the same -/
theorem Same_same (va vb : Value) (a : List (Nat → Nat)) (w : World) (ha : MasksV w w.heap.size va a) (hb : MasksV w w.heap.size vb a) : Calls Try.prog 15 #[va, vb] w fun e w' => e = .returned (.bool true) ∧ Below w.heap.size w w' := by
  obtain ⟨A1, c1, rfl, hl, hc1⟩ := ha
  obtain ⟨A2, c2, rfl, _, hc2⟩ := hb
  replace hc1 := Lib.hid hc1
  replace hc2 := Lib.hid hc2
  go_enter Try.func15, Try.ntmps15
  go_wp2
  go_loopg [13] a.length (fun n k wr => ∃ i : Nat, i ≤ a.length ∧ n = a.length - i ∧ k = .int .i64 i ∧ Below w.heap.size w wr)
  case atStart => exact ⟨0, by omega, rfl, rfl, Below.refl _ _⟩
  case round =>
    obtain ⟨i, hi, hn, rfl, hbw⟩ := hrel
    replace hn := Lib.hid hn
    have z := hbw.size
    by_cases hlt : i < a.length
    · obtain ⟨x, hx⟩ : ∃ x, a[i]? = some x := ⟨_, List.getElem?_eq_getElem hlt⟩
      obtain ⟨b1, o1, rfl, hb1, k1, _⟩ := hc1.out i x hx
      obtain ⟨b2, o2, rfl, hb2, k2, _⟩ := hc2.out i x hx
      have d1 : cellsAt wr b1 (o1 + i * 23) 23 = some (maskA x) := (cellsAt_congr fun j _ => hbw.cell (p := ⟨b1, _, none⟩) hb1).trans k1
      have d2 : cellsAt wr b2 (o2 + i * 23) 23 = some (maskA x) := (cellsAt_congr fun j _ => hbw.cell (p := ⟨b2, _, none⟩) hb2).trans k2
      have z1 : b1 < wr.heap.size := by omega
      have z2 : b2 < wr.heap.size := by omega
      have hs : sameW x x = true := by simp [sameW]
      clear hx k1 k2
      go_wp2_with fail
      refine wp_region_below (wr.heap.size) _ (Below.refl _ _) (by kernel_rfl) (by kernel_rfl) ?_
      repeat (go_big_quiet_step ((fail)))
      refine wpQuiet_nil ?_
      rintro _ ⟨n1, rfl⟩
      have hb2 := n1.below
      have hz2 := n1.size
      go_wp2
      go_roundg (a.length - (i + 1))
      case measure => rw [hn.out]; omega
      case rel => exact ⟨i + 1, by omega, rfl, by go_num, hbw.trans (hb2.mono z)⟩
    · obtain rfl : i = a.length := by omega
      go_wp2
      go_ret
      exact ⟨rfl, hbw⟩

set_option maxRecDepth 100000 in
set_option maxHeartbeats 2000000 in
theorem MeanTells_true (v : Value) (l : List Rule) (day : Int) (w : World) (hr : RulesV w w.heap.size v l) : Calls Try.prog 3 #[v, .int .i64 day] w fun e w' => e = .returned (.bool true) ∧ Below w.heap.size w w' := by
  obtain ⟨wd, env, hme, hwd⟩ := env_exists l day
  have h1 := Lib.hid (MAll_any v l env wd day hme hwd w hr)
  have h2 := Lib.hid (fun (W : World) (h : Below w.heap.size w W) => RAll_any v l env wd day hme hwd W (hr.below h (Nat.le_refl _) h.size))
  clear hme hwd
  unfold AllPost at h1
  unfold RAllPost at h2
  generalize allF l day = q at *
  generalize allM l env day = S at *
  obtain ⟨q1, q2⟩ := q
  unfold faultV at h1 h2
  simp only at h1 h2
  have hself := eqF_self q1 q2
  obtain ⟨A, cap, rfl, _⟩ := hr
  go_enter Try.func3, Try.ntmps3
  go_wp2_with (first
    | (go_at_call 13; refine h1.out.mono ?_; rintro e w1 ⟨v1, rfl, hS1, hb1⟩; obtain ⟨A1, c1, rfl⟩ := own_slice hS1; have hR1 := row_reads hS1; replace hS1 := Lib.hid hS1; have hz1 := hb1.size; have hbA : Below w.heap.size w (w1.alloc (.cells #[.int .i64 q1, .int .i64 q2] 26)) := hb1.alloc hz1 _; have B1 := Blk.new w1 26 #[.int .i64 q1, .int .i64 q2]; have hbA1 : Below w1.heap.size w1 (w1.alloc (.cells #[.int .i64 q1, .int .i64 q2] 26)) := (Below.refl _ _).alloc (Nat.le_refl _) _; have hbB := fun W : World => show Below W.heap.size W (W.alloc (.cells #[.int .i64 q1, .int .i64 q2] 26)) from (Below.refl _ _).alloc (Nat.le_refl _) _)
    | (go_at_call 14; refine (h2.out _ hbA).mono ?_; rintro e w2 ⟨v2, rfl, hS2, hb2⟩; obtain ⟨A2, c2, rfl, _⟩ := id hS2; rw [List.length_map] at hS2; replace hS2 := Lib.hid hS2; have hz2 := hb2.size; simp at hz2; have B2 := B1.below hb2 (by simp); have x0 : w2.cell? ⟨w1.heap.size, 0, none⟩ = some (.int .i64 q1) := B2.cell 0; have x1 : w2.cell? ⟨w1.heap.size, 1, none⟩ = some (.int .i64 q2) := B2.cell 1)
    | (go_at_call 15; refine (Same_same _ _ (S.map setW) _ (((hR1.below (hbA1.trans (hb2.mono (by simp)))  (Nat.le_refl _) (by omega))).below (hbB w2) (Nat.le_refl _) (by simp)) (hS2.out.below (hbB w2) (Nat.le_refl _) (by simp))).mono ?_; rintro e w3 ⟨rfl, hb3⟩))
  go_ret
  exact ⟨rfl, ((hbA.trans (hb2.mono (by simp; omega))).alloc (by omega) _).trans (hb3.mono (by simp; omega))⟩

end Ru
end Go.Proofs.Ytbncbkaonkcgeaa
