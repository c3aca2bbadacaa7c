/- slotref5.Mean, walked. -/
import Derived.Test.YtbadplbdgpbdaaaDoorMnA
import Derived.Test.YtbadplbdgpbdaaaDoorRfT
import Derived.Deep.MidRow
import Derived.Deep.OwnRows
import Derived.Laws.MakeOwn
import Derived.Test.YtbadplbdgpbdaaaDoorEqF
namespace Go.Proofs.YtbadplbdgpbdaaaDoor
open Go.RowKit Go.Maps Go.ChangeShapes
namespace Ru
open Msk Vm
open Sl (strV Reads IntsV)

/-- are all that an expression speaks of known? -/
def okKE (l : List Rule) (K : Nat → Bool) (e : Expr) : Bool := (namesE e).all fun nm => K (placeR l nm)
def okKL (l : List Rule) (K : Nat → Bool) (es : List Expr) : Bool := (namesL es).all fun nm => K (placeR l nm)
theorem okKL_take {l : List Rule} {K : Nat → Bool} {es : List Expr} {j : Nat} {e : Expr} (h : es[j]? = some e) : okKL l K (es.take (j + 1)) = (okKL l K (es.take j) && okKE l K e) := by
  unfold okKL okKE
  rw [namesL_take h, List.all_append]
theorem okKL_le {l : List Rule} {K : Nat → Bool} {es : List Expr} {j : Nat} (h : okKL l K (es.take j) = false) : okKL l K es = false := by
  unfold okKL at *
  rw [List.all_eq_false] at h ⊢
  obtain ⟨nm, h1, h2⟩ := h
  refine ⟨nm, ?_, h2⟩
  clear h2
  induction es generalizing j with
  | nil => simpa using h1
  | cons x es ih =>
    cases j with
    | zero => rw [List.take_zero, namesL] at h1; cases h1
    | succ j =>
      rw [List.take_succ_cons, namesL] at h1
      rw [namesL]
      rcases List.mem_append.1 h1 with h1 | h1
      · exact List.mem_append_left _ h1
      · exact List.mem_append_right _ (ih h1)
theorem namesL_mem {nm : List UInt8} {es : List Expr} : ∀ {j : Nat} {e : Expr}, es[j]? = some e → nm ∈ namesE e → nm ∈ namesL es := by
  induction es with
  | nil => intro j e h; simp at h
  | cons x es ih =>
    intro j e h hn
    rw [namesL]
    cases j with
    | zero => simp at h; subst h; exact List.mem_append_left _ hn
    | succ j => exact List.mem_append_right _ (ih (by simpa using h) hn)
theorem meanL_take {wd : Nat} {day : Int} {env : List UInt8 → Nat → Bool} {es : List Expr} : ∀ {j : Nat} {e : Expr}, es[j]? = some e → meanL wd day env (es.take (j + 1)) = meanL wd day env (es.take j) ++ [meanE wd day env e] := by
  induction es with
  | nil => intro j e h; simp at h
  | cons x es ih =>
    intro j e h
    cases j with
    | zero => simp at h; subst h; rw [List.take_succ_cons, List.take_zero, List.take_zero, meanL, meanL]; rfl
    | succ j =>
      rw [List.take_succ_cons, List.take_succ_cons, meanL, meanL, ih (by simpa using h)]
      rfl
theorem meanL_len {wd : Nat} {day : Int} {env : List UInt8 → Nat → Bool} : ∀ (es : List Expr), (meanL wd day env es).length = es.length
  | [] => by rw [meanL]; rfl
  | x :: es => by rw [meanL, List.length_cons, List.length_cons, meanL_len es]

/-- which masks are known, and what they are so far -/
structure KnownAt (w : World) (ga gm n : Nat) (K : Nat → Bool) (P : Nat → Nat → Bool) : Prop where
  kn : ∀ i, i < n → w.cell? ⟨ga, i, none⟩ = some (.bool (K i))
  ms : ∀ i, i < n → cellsAt w gm (i * 23) 23 = some (maskA (setW (P i)))
  lk : ga < w.heap.size
  lm : gm < w.heap.size
theorem KnownAt.below {w w' : World} {ga gm n : Nat} {K : Nat → Bool} {P : Nat → Nat → Bool} (h : KnownAt w ga gm n K P) {B : Nat} (hb : Below B w w') (hB : w.heap.size ≤ B) : KnownAt w' ga gm n K P := by
  have h1 := h.lk
  have h2 := h.lm
  have h3 := hb.size
  exact ⟨fun i hi => (hb.cell (p := ⟨ga, _, none⟩) (by show ga < B; omega)).trans (h.kn i hi), fun i hi => (cellsAt_congr fun j _ => hb.cell (p := ⟨gm, _, none⟩) (by show gm < B; omega)).trans (h.ms i hi), by omega, by omega⟩
def RMeanPost (wd : Nat) (day : Int) (l : List Rule) (K : Nat → Bool) (P : Nat → Nat → Bool) (e : Expr) (w : World) (r : Ending) (w' : World) : Prop :=
  ∃ q, r = .returned (.tuple #[.agg (maskA (setW q)), .bool (okKE l K e)]) ∧ (okKE l K e = true → q = meanE wd day (fun nm => P (placeR l nm)) e) ∧ Below w.heap.size w w'
def RMeanAll (wd : Nat) (day : Int) (l : List Rule) (K : Nat → Bool) (P : Nat → Nat → Bool) (N : Nat) : Prop := ∀ (e : Expr) (v rv kvv mvv : Value) (w : World) (B ga gm : Nat), nodesE e ≤ N → GoodE e → (∀ nm ∈ namesE e, placeR l nm < l.length) → ExprVal w B v e → B ≤ w.heap.size → RulesV w B rv l → (namesE e ≠ [] → kvv = .slice (some ⟨ga, 0, none⟩) l.length l.length ∧ mvv = .slice (some ⟨gm, 0, none⟩) l.length l.length ∧ KnownAt w ga gm l.length K P) →
    Calls Tryd.prog 33 #[v, rv, .int .i64 day, kvv, mvv] w (RMeanPost wd day l K P e w)

set_option maxHeartbeats 400000 in
theorem RWeekM (n : Int) (w : World) (h1 : 0 ≤ n) (h2 : n < 146097) :
    Calls Tryd.prog 68 #[.int .i64 n] w fun e w' => e = .returned (.int .i64 (Civ.weekI n)) ∧ w = w' := by
  go_enter Tryd.func68, Tryd.ntmps68
  go_wp2
  go_ret
  exact ⟨ret_int (by unfold Civ.weekI; omega), rfl⟩
set_option maxHeartbeats 400000 in
theorem Mean1_any (i : Nat) (w : World) : Calls Tryd.prog 66 #[.int .i64 i] w fun e w' => e = .returned (.bool true) ∧ Below w.heap.size w w' := by
  go_enter Tryd.func66, Tryd.ntmps66
  go_wp2
  go_ret
  exact ⟨rfl, Below.refl _ _⟩
set_option maxHeartbeats 400000 in
theorem Mean2_any (i g : Nat) (x y : Int) (w : World) (h1 : w.cell? ⟨g, 1, none⟩ = some (.int .i64 x)) (h2 : w.cell? ⟨g, 2, none⟩ = some (.int .i64 y)) : Calls Tryd.prog 67 #[.int .i64 i, .pointer (some ⟨g, 0, none⟩)] w fun e w' => e = .returned (.bool (inSpans [(x, y)] i)) ∧ Below w.heap.size w w' := by
  have e : inSpans [(x, y)] i = (decide (x ≤ (i : Int)) && decide ((i : Int) < y)) := by simp [inSpans]
  rw [e]
  rcases dec (x ≤ (i : Int)) with ⟨q1, _⟩ | ⟨q1, _⟩
  all_goals
    go_enter Tryd.func67, Tryd.ntmps67
    go_wp2
    go_ret
    exact ⟨ret_bool (by first | rfl | (rw [q1]; simp)), Below.refl _ _⟩
theorem week_bitM (a wd : Nat) (h1 : a ≤ 127) (h2 : wd ≤ 6) : (bits BinOp.and IntKind.i64 (a : Int) (wrap64 (2 ^ wd)) == 0) = !(bits BinOp.and IntKind.i64 ((a : Int) / 2 ^ wd) 1 == 1) := by
  have key : ((List.range 7).all fun wd => (List.range 128).all fun a => (bits BinOp.and IntKind.i64 ((a : Nat) : Int) (2 ^ wd) == 0) == !(bits BinOp.and IntKind.i64 (((a : Nat) : Int) / 2 ^ wd) 1 == 1)) = true := by kernel_rfl
  have hp : (2 : Int) ^ wd ≤ 64 := by
    have : ((List.range 7).all fun wd => decide ((2 : Int) ^ wd ≤ 64)) = true := by kernel_rfl
    simpa using List.all_eq_true.1 this wd (List.mem_range.2 (by omega))
  have hq : 0 ≤ (2 : Int) ^ wd := Int.pow_nonneg (by decide)
  rw [show wrap64 (2 ^ wd) = 2 ^ wd by unfold wrap64; omega]
  exact eq_of_beq (List.all_eq_true.1 (List.all_eq_true.1 key wd (List.mem_range.2 (by omega))) a (List.mem_range.2 (by omega)))

set_option maxRecDepth 100000 in
set_option maxHeartbeats 16000000 in
theorem RMean_step (wd : Nat) (day : Int) (hd0 : 0 ≤ day) (hd1 : day < 146097) (hwd : Civ.weekI day = (wd : Nat)) (l : List Rule) (K : Nat → Bool) (P : Nat → Nat → Bool) (N : Nat) (ih : RMeanAll wd day l K P N) : RMeanAll wd day l K P (N + 1) := by
  intro e v rv kvv mvv w B ga gm hN hg hnm he hB hr hK
  obtain ⟨A, cap, rfl, hnl, hkl, hkw⟩ := he
  have hnod : nodesL e.kids ≤ N := by cases e; rw [nodesE] at hN; simp only [Expr.kids]; omega
  have hof := own_facts hg.own
  have hkg := Lib.hid (fun (i : Nat) (k : Expr) (h : e.kids[i]? = some k) => hg.kid h)
  obtain ⟨k, x, y, enm, kids⟩ := e
  simp only [Expr.kind, Expr.a, Expr.b, Expr.name, Expr.kids] at hnl hkl hkw hnod hof hkg ⊢
  have hnames : namesE (.mk k x y enm kids) = if k = 10 then [enm] else namesL kids := by rw [namesE]
  have hmean : meanE wd day (fun nm => P (placeR l nm)) (.mk k x y enm kids) = meanK wd day k x y (P (placeR l enm)) (meanL wd day (fun nm => P (placeR l nm)) kids) := by rw [meanE]
  obtain ⟨hk1, hk10, hlen, ho4, ho5, ho3, ho9⟩ := hof
  have hkn : kids.length ≤ 2 := by rw [hlen]; unfold kidsOf; repeat' (first | omega | split)
  have hnk : ∀ nm ∈ namesL kids, k ≠ 10 → placeR l nm < l.length := fun nm hn hne => hnm nm (by rw [hnames, if_neg hne]; exact hn)
  have hk0 : k = 10 → kids = [] := fun e => by subst e; exact List.eq_nil_of_length_eq_zero hlen
  have hnk2 : ∀ nm ∈ namesL kids, placeR l nm < l.length := fun nm hn => by
    by_cases e : k = 10
    · rw [hk0 e, namesL] at hn; cases hn
    · exact hnk nm hn e
  have hoke : k ≠ 10 → okKE l K (.mk k x y enm kids) = okKL l K kids := fun hne => by unfold okKE okKL; rw [hnames, if_neg hne]
  have hKk : ∀ (j : Nat) (e1 : Expr), kids[j]? = some e1 → namesE e1 ≠ [] → namesE (.mk k x y enm kids) ≠ [] := fun j e1 hx hne h0 => by
    have hk10 : k ≠ 10 := fun e => by have := hk0 e; rw [this] at hx; simp at hx
    rw [hnames, if_neg hk10] at h0
    cases hn : namesE e1 with
    | nil => exact hne hn
    | cons a t =>
      have := namesL_mem (nm := a) hx (by rw [hn]; simp)
      rw [h0] at this
      cases this
  replace hKk := Lib.hid hKk
  replace ih := Lib.hid ih
  replace hkw := Lib.hid hkw
  replace hnod := Lib.hid hnod
  replace hnk2 := Lib.hid hnk2
  replace hmean := Lib.hid hmean
  replace hoke := Lib.hid hoke
  replace hlen := Lib.hid hlen
  replace hk0 := Lib.hid hk0
  have hrr := Lib.hid hr
  obtain ⟨Ar, capr, rfl, _⟩ := hr
  have hbA : Below w.heap.size w ((w.alloc (.cells #[.int .i64 k, .int .i64 x, .int .i64 y, strV enm, .slice A kids.length cap] 48)).alloc (.cells (maskA fun _ => 0) 38)) := ((Below.refl _ _).alloc (Nat.le_refl _) _).alloc (by simp) _
  have BX := (Blk.new w 48 #[.int .i64 k, .int .i64 x, .int .i64 y, strV enm, .slice A kids.length cap]).alloc (.cells (maskA fun _ => 0) 38)
  have BR := Blk.new (w.alloc (.cells #[.int .i64 k, .int .i64 x, .int .i64 y, strV enm, .slice A kids.length cap] 48)) 38 (maskA fun _ => 0)
  rw [World.size_alloc] at BR
  clear hN hg hnk hnames
  go_enter Tryd.func33, Tryd.ntmps33
  go_wp2
  obtain ⟨w0, hw0⟩ : ∃ w0, w0 = (w.alloc (.cells #[.int .i64 k, .int .i64 x, .int .i64 y, strV enm, .slice A kids.length cap] 48)).alloc (.cells (maskA fun _ => 0) 38) := ⟨_, rfl⟩
  rw [← hw0]
  rw [← hw0] at hbA BX BR
  have hz0 : w0.heap.size = w.heap.size + 1 + 1 := by rw [hw0, World.size_alloc, World.size_alloc]
  clear hw0
  replace hz0 := Lib.hid hz0
  go_loopg [12, 22] kids.length (fun m mv kv wr => ∃ j : Nat, j ≤ kids.length ∧ m = kids.length - j ∧ kv = .int .i64 j ∧ Hid (MaskRow wr w0.heap.size mv (meanL wd day (fun nm => P (placeR l nm)) (kids.take j))) ∧ Hid (okKL l K (kids.take j) = true) ∧ Below w0.heap.size w0 wr)
  case atStart => exact ⟨0, by omega, rfl, rfl, by rw [List.take_zero, meanL]; exact Lib.hid (MaskRow.nil _ _), by rw [List.take_zero]; exact Lib.hid rfl, Below.refl _ _⟩
  case round =>
    obtain ⟨j, hj, hm, rfl, hS, hok, hbq⟩ := hrel
    replace hm := Lib.hid hm
    have zq := hbq.size
    have zz := hz0.out
    have hbw : Below w.heap.size w wr := hbA.trans (hbq.mono (by omega))
    have BX2 := BX.below hbq (by omega)
    have BR2 := BR.below hbq (by omega)
    by_cases hlt : j < kids.length
    · obtain ⟨e1, hx⟩ : ∃ d, kids[j]? = some d := ⟨_, List.getElem?_eq_getElem hlt⟩
      obtain ⟨kb, ko, rfl, hkb, hke⟩ := hkw.out.at' hx
      have hkr := hke.below hbw hB (Nat.le_refl _) (by omega)
      obtain ⟨v0, v1, v2, v3, hnl1, A1, cap1, v4, hkl1, hkv1⟩ := hkr.out
      have x4 : wr.cell? ⟨w.heap.size, 4, none⟩ = some (.slice (some ⟨kb, ko, none⟩) kids.length cap) := BX2.cell 4
      have hzz : kb < wr.heap.size := by omega
      have hbe : Below wr.heap.size wr (wr.alloc (.cells #[.int .i64 e1.kind, .int .i64 e1.a, .int .i64 e1.b, strV e1.name, .slice A1 e1.kids.length cap1] 48)) := (Below.refl _ _).alloc (Nat.le_refl _) _
      have hcall := Lib.hid (ih.out e1 (.agg #[.int .i64 e1.kind, .int .i64 e1.a, .int .i64 e1.b, strV e1.name, .slice A1 e1.kids.length cap1]) (.slice Ar l.length capr) kvv mvv (wr.alloc (.cells #[.int .i64 e1.kind, .int .i64 e1.a, .int .i64 e1.b, strV e1.name, .slice A1 e1.kids.length cap1] 48)) B ga gm (by have := nodesE_kid hx; have := hnod.out; omega) (hkg.out j e1 hx)
        (fun nm hn => hnk2.out nm (namesL_mem hx hn))
        ⟨A1, cap1, rfl, hnl1, hkl1, hkv1.below (hbe.mono (by omega)) (Nat.le_refl _) (Nat.le_refl _)⟩ (by simp; omega) (hrr.out.below (hbw.trans (hbe.mono (by omega))) hB (Nat.le_refl _)) (fun hne => by obtain ⟨e1, e2, h3⟩ := hK (hKk.out j _ hx hne); exact ⟨e1, e2, (h3.below hbw (Nat.le_refl _)).below hbe (Nat.le_refl _)⟩))
      have hst := okKL_take (l := l) (K := K) hx
      rw [hok.out, Bool.true_and] at hst
      have hml := Lib.hid (meanL_take (wd := wd) (day := day) (env := fun nm => P (placeR l nm)) hx)
      obtain ⟨A8, cap8, rfl⟩ := own_slice hS.out
      have hsl : (meanL wd day (fun nm => P (placeR l nm)) (kids.take j)).length ≤ 2 := by rw [meanL_len, List.length_take]; omega
      unfold RMeanPost at hcall
      generalize meanL wd day (fun nm => P (placeR l nm)) (kids.take j) = S0 at *
      generalize meanE wd day (fun nm => P (placeR l nm)) e1 = p1 at *
      clear hx hke hkv1 hkr hkl1 hnl1
      cases h0 : okKE l K e1 with
      | false =>
        rw [h0] at hst hcall
        have hoke2 : okKE l K (.mk k x y enm kids) = false := by
          by_cases e10 : k = 10
          · have := hk0.out e10; rw [this] at hlt; simp at hlt
          · rw [hoke.out e10]; exact okKL_le hst
        replace hoke2 := Lib.hid hoke2
        clear h0 hst
        go_wp2_with (go_at_call 33; refine hcall.out.mono ?_; rintro e w5 ⟨q, rfl, _, hb5⟩; have hz5 := hb5.size; simp at hz5; have BR5 := (BR2.alloc (.cells #[.int .i64 e1.kind, .int .i64 e1.a, .int .i64 e1.b, strV e1.name, .slice A1 e1.kids.length cap1] 48)).below hb5 (by simp; omega); have k7 := blk_free BR5; have hlw : w.heap.size + 1 < w5.heap.size := by omega)
        have hb9 : Below w.heap.size w w5 := (hbw.trans (hbe.mono (by omega))).trans (hb5.mono (by simp; omega))
        have k8 := mask_put _ q ((BR5.alloc (.cells (maskA fun _ => 0) 38)).farRow (k := w5.heap.size) (by omega) (maskA (setW q)))
        refine bodyPost_ret (v := .tuple #[.agg (maskA (setW q)), .bool false]) ?_ rfl ⟨q, by rw [hoke2.out], fun h => (by rw [hoke2.out] at h; cases h), (by repeat (first | exact Below.refl _ _ | assumption | refine Below.n _ ?_ (by first | omega | (simp; done) | (simp; omega)) | refine Below.alloc ?_ (by first | omega | (simp; done) | (simp; omega)) _ | refine Below.setCell ?_ (by first | omega | (simp; done) | (simp; omega)) _ | refine Below.drew ?_ | refine Below.setRow ?_ (by first | omega | (simp; done) | (simp; omega)) _ | refine Below.drewN ?_ _))⟩
        simp [results, Tryd.results33, go_sem, k8]
      | true =>
        rw [h0] at hst hcall
        replace hst := Lib.hid hst
        clear h0
        go_wp2_with (first
          | (go_at_call 33; refine hcall.out.mono ?_; rintro e w5 ⟨q, rfl, hq, hb5⟩; obtain rfl := hq rfl; have hz5 := hb5.size; simp at hz5; have hS5 := Lib.hid (own_keep (own_keep hS.out hbe (Nat.le_refl _)) hb5 (Nat.le_refl _)); have hbS : Below w5.heap.size w5 ((w5.alloc (.cells (maskA fun _ => 0) 38)).setRow w5.heap.size (maskA (setW q))) := Below.setRow ((Below.refl _ _).alloc (Nat.le_refl _) _) (Nat.le_refl _) _; have hbT : Below w5.heap.size w5 (((w5.alloc (.cells (maskA fun _ => 0) 38)).setRow w5.heap.size (maskA (setW q))).alloc (.cells (maskA (setW q)) 38)) := hbS.alloc hbS.size _; have hS9 := Lib.hid (own_keep hS5.out hbT (Nat.le_refl _)); have hG9 := Lib.hid (show Blk (((w5.alloc (.cells (maskA fun _ => 0) 38)).setRow w5.heap.size (maskA (setW q))).alloc (.cells (maskA (setW q)) 38)) (w5.heap.size + 1) 38 (maskA (setW q)) from by simpa using Blk.new ((w5.alloc (.cells (maskA fun _ => 0) 38)).setRow w5.heap.size (maskA (setW q))) 38 (maskA (setW q))); have hlw : w.heap.size + 1 < w5.heap.size := by omega)
          | (at_builtin; refine wp_pushG rfl (.tmp 38) (.tmp 40) rfl w0.heap.size _ S0 q (w5.heap.size + 1) hS9.out hG9.out rfl rfl (by omega) (by have := hbT.size; omega) ?_; intro v6 w6 hS6 hb6))
        go_roundg (kids.length - (j + 1))
        case measure => rw [hm.out]; omega
        case rel => exact ⟨j + 1, by omega, rfl, by go_num, Lib.hid (by rw [hml.out]; exact hS6), hst, (((hbq.trans (hbe.mono zq)).trans (hb5.mono (by simp; omega))).trans (hbT.mono (by omega))).trans hb6⟩
    · obtain rfl : j = kids.length := by omega
      rw [List.take_length] at hS hok
      clear hm hlt ih hkg hnk2 hkw hnod BX BR hj
      have x0 : wr.cell? ⟨w.heap.size, 0, none⟩ = some (.int .i64 k) := BX2.cell 0
      have x1 : wr.cell? ⟨w.heap.size, 1, none⟩ = some (.int .i64 x) := BX2.cell 1
      have x2 : wr.cell? ⟨w.heap.size, 2, none⟩ = some (.int .i64 y) := BX2.cell 2
      have x3 : wr.cell? ⟨w.heap.size, 3, none⟩ = some (strV enm) := BX2.cell 3
      have zx : w.heap.size + 1 < wr.heap.size := by omega
      have kR := blk_cells BR2
      have kF := blk_free BR2
      have hbZ : Below wr.heap.size wr (wr.alloc (.cells (maskA fun _ => 0) 38)) := (Below.refl _ _).alloc (Nat.le_refl _) _
      obtain ⟨A8, cap8, hv8⟩ := own_slice hS.out
      obtain rfl | rfl | rfl | rfl | rfl | rfl | rfl | rfl | rfl | rfl : k = 1 ∨ k = 2 ∨ k = 3 ∨ k = 4 ∨ k = 5 ∨ k = 6 ∨ k = 7 ∨ k = 8 ∨ k = 9 ∨ k = 10 := by omega
      · as_aux_lemma =>
          have hoke2 : okKE l K (.mk 1 x y enm kids) = true := by rw [hoke.out (by decide)]; exact hok.out
          replace hoke2 := Lib.hid hoke2
          replace hmean := hmean.out
          have hG : meanE wd day (fun nm => P (placeR l nm)) (.mk 1 x y enm kids) = noS := by rw [hmean]; rfl
          replace hG := Lib.hid hG
          clear hoke hmean hk0 hrr hK
          have BZ : Blk ((wr.alloc (.cells (maskA fun _ => 0) 38)).setRow wr.heap.size (maskA fun _ => 0)) (w.heap.size + 1) 38 (maskA fun _ => 0) := (BR2.alloc _).farRow (by omega) _
          have hZ : Below w.heap.size w ((wr.alloc (.cells (maskA fun _ => 0) 38)).setRow wr.heap.size (maskA fun _ => 0)) := Below.setRow (hbw.alloc (by omega) _) (by omega) _
          have hqZ : Below wr.heap.size wr ((wr.alloc (.cells (maskA fun _ => 0) 38)).setRow wr.heap.size (maskA fun _ => 0)) := Below.setRow ((Below.refl _ _).alloc (Nat.le_refl _) _) (Nat.le_refl _) _
          have zZ : ((wr.alloc (.cells (maskA fun _ => 0) 38)).setRow wr.heap.size (maskA fun _ => 0)).heap.size = wr.heap.size + 1 := by rw [size_setRow, World.size_alloc]
          subst hv8
          go_wp2
          have e9 : maskA (setW noS) = maskA (fun _ => 0) := zero_set
          have k8 := mask_put _ noS BZ
          rw [e9] at k8
          refine bodyPost_ret (v := .tuple #[.agg (maskA fun _ => 0), .bool true]) ?_ rfl ⟨noS, by rw [hoke2.out, e9], fun _ => hG.out.symm, Below.setRow hZ (by omega) _⟩
          simp [results, Tryd.results33, go_sem, k8]
      · as_aux_lemma =>
          have hoke2 : okKE l K (.mk 2 x y enm kids) = true := by rw [hoke.out (by decide)]; exact hok.out
          replace hoke2 := Lib.hid hoke2
          replace hmean := hmean.out
          have hG : meanE wd day (fun nm => P (placeR l nm)) (.mk 2 x y enm kids) = inSpans [(0, 1440)] := by rw [hmean]; rfl
          replace hG := Lib.hid hG
          clear hoke hmean hk0 hrr hK
          have BZ : Blk ((wr.alloc (.cells (maskA fun _ => 0) 38)).setRow wr.heap.size (maskA fun _ => 0)) (w.heap.size + 1) 38 (maskA fun _ => 0) := (BR2.alloc _).farRow (by omega) _
          have hZ : Below w.heap.size w ((wr.alloc (.cells (maskA fun _ => 0) 38)).setRow wr.heap.size (maskA fun _ => 0)) := Below.setRow (hbw.alloc (by omega) _) (by omega) _
          have hqZ : Below wr.heap.size wr ((wr.alloc (.cells (maskA fun _ => 0) 38)).setRow wr.heap.size (maskA fun _ => 0)) := Below.setRow ((Below.refl _ _).alloc (Nat.le_refl _) _) (Nat.le_refl _) _
          have zZ : ((wr.alloc (.cells (maskA fun _ => 0) 38)).setRow wr.heap.size (maskA fun _ => 0)).heap.size = wr.heap.size + 1 := by rw [size_setRow, World.size_alloc]
          subst hv8
          have hMk := Lib.hid (show Calls Tryd.prog 65 #[.func (.func 66) #[] #[]] ((wr.alloc (.cells (maskA fun _ => 0) 38)).setRow wr.heap.size (maskA fun _ => 0)) (fun e w' => e = .returned (.agg (maskA (setW (inSpans [(0, 1440)])))) ∧ Below ((wr.alloc (.cells (maskA fun _ => 0) 38)).setRow wr.heap.size (maskA fun _ => 0)).heap.size ((wr.alloc (.cells (maskA fun _ => 0) 38)).setRow wr.heap.size (maskA fun _ => 0)) w') from by
            have := Make0 66 (fun _ _ => by kernel_rfl) (fun _ => true) ((wr.alloc (.cells (maskA fun _ => 0) 38)).setRow wr.heap.size (maskA fun _ => 0)) (fun i W _ _ => Mean1_any i W)
            rwa [show setA (fun _ => true) = maskA (setW (inSpans [(0, 1440)])) from by unfold setA; rw [setW_congr (q := inSpans [(0, 1440)]) fun i hi => by simp [inSpans]; omega]] at this)
          go_wp2_with (go_at_call 65; refine hMk.out.mono ?_; rintro e w5 ⟨rfl, hb5⟩; have z5 := hb5.size; rw [zZ] at z5; have B5 := BZ.below hb5 (by omega); have k7 := blk_free B5)
          have k8 := mask_put _ (inSpans [(0, 1440)]) B5
          refine bodyPost_ret (v := .tuple #[.agg (maskA (setW (inSpans [(0, 1440)]))), .bool true]) ?_ rfl ⟨inSpans [(0, 1440)], by rw [hoke2.out], fun _ => hG.out.symm, Below.setRow (hZ.trans (hb5.mono (by omega))) (by omega) _⟩
          simp [results, Tryd.results33, go_sem, k8]
      · as_aux_lemma =>
          have hoke2 : okKE l K (.mk 3 x y enm kids) = true := by rw [hoke.out (by decide)]; exact hok.out
          replace hoke2 := Lib.hid hoke2
          replace hmean := hmean.out
          have hG : meanE wd day (fun nm => P (placeR l nm)) (.mk 3 x y enm kids) = inSpans [(x, y)] := by rw [hmean]; rfl
          replace hG := Lib.hid hG
          clear hoke hmean hk0 hrr hK
          have BZ : Blk ((wr.alloc (.cells (maskA fun _ => 0) 38)).setRow wr.heap.size (maskA fun _ => 0)) (w.heap.size + 1) 38 (maskA fun _ => 0) := (BR2.alloc _).farRow (by omega) _
          have hZ : Below w.heap.size w ((wr.alloc (.cells (maskA fun _ => 0) 38)).setRow wr.heap.size (maskA fun _ => 0)) := Below.setRow (hbw.alloc (by omega) _) (by omega) _
          have hqZ : Below wr.heap.size wr ((wr.alloc (.cells (maskA fun _ => 0) 38)).setRow wr.heap.size (maskA fun _ => 0)) := Below.setRow ((Below.refl _ _).alloc (Nat.le_refl _) _) (Nat.le_refl _) _
          have zZ : ((wr.alloc (.cells (maskA fun _ => 0) 38)).setRow wr.heap.size (maskA fun _ => 0)).heap.size = wr.heap.size + 1 := by rw [size_setRow, World.size_alloc]
          subst hv8
          have hMk := Lib.hid (Make1 67 (.pointer (some ⟨w.heap.size, 0, none⟩)) (fun _ _ => by kernel_rfl) (inSpans [(x, y)]) ((wr.alloc (.cells (maskA fun _ => 0) 38)).setRow wr.heap.size (maskA fun _ => 0)) (fun i W _ hb => Mean2_any i w.heap.size x y W ((hb.cell (p := ⟨w.heap.size, _, none⟩) (by show w.heap.size < _; omega)).trans ((hqZ.cell (p := ⟨w.heap.size, _, none⟩) (by show w.heap.size < wr.heap.size; omega)).trans x1)) ((hb.cell (p := ⟨w.heap.size, _, none⟩) (by show w.heap.size < _; omega)).trans ((hqZ.cell (p := ⟨w.heap.size, _, none⟩) (by show w.heap.size < wr.heap.size; omega)).trans x2))))
          go_wp2_with (go_at_call 65; refine hMk.out.mono ?_; rintro e w5 ⟨rfl, hb5⟩; have z5 := hb5.size; rw [zZ] at z5; have B5 := BZ.below hb5 (by omega); have k7 := blk_free B5)
          have k8 := mask_put _ (inSpans [(x, y)]) B5
          refine bodyPost_ret (v := .tuple #[.agg (maskA (setW (inSpans [(x, y)]))), .bool true]) ?_ rfl ⟨inSpans [(x, y)], by rw [hoke2.out], fun _ => hG.out.symm, Below.setRow (hZ.trans (hb5.mono (by omega))) (by omega) _⟩
          simp [results, Tryd.results33, go_sem, k8]
      · as_aux_lemma =>
          have hoke2 : okKE l K (.mk 4 x y enm kids) = true := by rw [hoke.out (by decide)]; exact hok.out
          replace hoke2 := Lib.hid hoke2
          replace hmean := hmean.out
          obtain ⟨e1, rfl⟩ := kids_one (by rw [hlen.out]; rfl)
          have hS1 := hS.out
          rw [meanL, meanL] at hS1 hmean hv8
          obtain ⟨g1, cap9, hm9, hg1, hg2, c0⟩ := mask_at hS1 (i := 0) rfl
          generalize meanE wd day (fun nm => P (placeR l nm)) e1 = p1 at *
          subst hm9
          rw [Nat.zero_mul] at c0
          have hG : meanE wd day (fun nm => P (placeR l nm)) (.mk 4 x y enm [e1]) = if (bits BinOp.and IntKind.i64 (x / 2 ^ wd) 1 == 1) = true then p1 else noS := by rw [hmean]; rfl
          replace hG := Lib.hid hG
          clear hoke hmean hk0 hrr hK
          have BZ : Blk ((wr.alloc (.cells (maskA fun _ => 0) 38)).setRow wr.heap.size (maskA fun _ => 0)) (w.heap.size + 1) 38 (maskA fun _ => 0) := (BR2.alloc _).farRow (by omega) _
          have hZ : Below w.heap.size w ((wr.alloc (.cells (maskA fun _ => 0) 38)).setRow wr.heap.size (maskA fun _ => 0)) := Below.setRow (hbw.alloc (by omega) _) (by omega) _
          have hqZ : Below wr.heap.size wr ((wr.alloc (.cells (maskA fun _ => 0) 38)).setRow wr.heap.size (maskA fun _ => 0)) := Below.setRow ((Below.refl _ _).alloc (Nat.le_refl _) _) (Nat.le_refl _) _
          have zZ : ((wr.alloc (.cells (maskA fun _ => 0) 38)).setRow wr.heap.size (maskA fun _ => 0)).heap.size = wr.heap.size + 1 := by rw [size_setRow, World.size_alloc]
          have hx7 := ho4 rfl
          obtain ⟨xn, rfl⟩ := Int.eq_ofNat_of_zero_le (show 0 ≤ x by omega)
          have hw7 : wd ≤ 6 := by have : Civ.weekI day = (day + 5) % 7 := rfl; omega
          have hbit := week_bitM xn wd (by omega) hw7
          have hmn : min wd 64 = wd := by omega
          have hmn2 : wd < 64 := by omega
          have hW := Lib.hid (fun W => show Calls Tryd.prog 68 #[.int .i64 day] W (fun e w' => e = .returned (.int .i64 (wd : Nat)) ∧ W = w') from by have := RWeekM day W hd0 hd1; rwa [hwd] at this)
          go_wp2_with fail
          refine wp_region_below (wr.heap.size + 1) _ (Below.refl _ _) (by kernel_rfl) (by kernel_rfl) ?_
          repeat (go_big_quiet_step (((go_at_call 68; exact quiet_same (hW.out _)))))
          refine wpQuiet_nil ?_
          rintro _ ⟨n1, rfl⟩
          have B5 := BZ.below n1.below (by omega)
          have k7 := blk_free B5
          have z5 := n1.size
          rw [zZ] at z5
          have hb5 : Below w.heap.size w n1.w := hZ.trans (n1.below.mono (by omega))
          cases hgb : (bits BinOp.and IntKind.i64 ((xn : Int) / 2 ^ wd) 1 == 1) with
          | true =>
            rw [hgb] at hbit
            have hG1 := Lib.hid (hG.out.trans (if_pos hgb))
            clear hgb
            go_wp2
            have k8 := mask_put _ (p1) B5
            refine bodyPost_ret (v := .tuple #[.agg (maskA (setW (p1))), .bool true]) ?_ rfl ⟨p1, by rw [hoke2.out], fun _ => hG1.out.symm, Below.setRow hb5 (by omega) _⟩
            simp [results, Tryd.results33, go_sem, k8]
          | false =>
            rw [hgb] at hbit
            have hG1 := Lib.hid (hG.out.trans (if_neg (by rw [hgb]; decide)))
            clear hgb
            go_wp2
            have e9 : maskA (setW noS) = maskA (fun _ => 0) := zero_set
            have k8 := mask_put _ noS B5
            rw [e9] at k8
            refine bodyPost_ret (v := .tuple #[.agg (maskA fun _ => 0), .bool true]) ?_ rfl ⟨noS, by rw [hoke2.out, e9], fun _ => hG1.out.symm, Below.setRow hb5 (by omega) _⟩
            simp [results, Tryd.results33, go_sem, k8]
      · as_aux_lemma =>
          have hoke2 : okKE l K (.mk 5 x y enm kids) = true := by rw [hoke.out (by decide)]; exact hok.out
          replace hoke2 := Lib.hid hoke2
          replace hmean := hmean.out
          obtain ⟨e1, rfl⟩ := kids_one (by rw [hlen.out]; rfl)
          have hS1 := hS.out
          rw [meanL, meanL] at hS1 hmean hv8
          obtain ⟨g1, cap9, hm9, hg1, hg2, c0⟩ := mask_at hS1 (i := 0) rfl
          generalize meanE wd day (fun nm => P (placeR l nm)) e1 = p1 at *
          subst hm9
          rw [Nat.zero_mul] at c0
          have hG : meanE wd day (fun nm => P (placeR l nm)) (.mk 5 x y enm [e1]) = if (decide (x ≤ day) && decide (day ≤ y)) = true then p1 else noS := by rw [hmean]; rfl
          replace hG := Lib.hid hG
          clear hoke hmean hk0 hrr hK
          have BZ : Blk ((wr.alloc (.cells (maskA fun _ => 0) 38)).setRow wr.heap.size (maskA fun _ => 0)) (w.heap.size + 1) 38 (maskA fun _ => 0) := (BR2.alloc _).farRow (by omega) _
          have hZ : Below w.heap.size w ((wr.alloc (.cells (maskA fun _ => 0) 38)).setRow wr.heap.size (maskA fun _ => 0)) := Below.setRow (hbw.alloc (by omega) _) (by omega) _
          have hqZ : Below wr.heap.size wr ((wr.alloc (.cells (maskA fun _ => 0) 38)).setRow wr.heap.size (maskA fun _ => 0)) := Below.setRow ((Below.refl _ _).alloc (Nat.le_refl _) _) (Nat.le_refl _) _
          have zZ : ((wr.alloc (.cells (maskA fun _ => 0) 38)).setRow wr.heap.size (maskA fun _ => 0)).heap.size = wr.heap.size + 1 := by rw [size_setRow, World.size_alloc]
          rcases dec (day < x) with ⟨q1, _⟩ | ⟨q1, _⟩
          · have hG1 := Lib.hid (hG.out.trans (if_neg (by simp; omega)))
            go_wp2
            have e9 : maskA (setW noS) = maskA (fun _ => 0) := zero_set
            have k8 := mask_put _ noS BZ
            rw [e9] at k8
            refine bodyPost_ret (v := .tuple #[.agg (maskA fun _ => 0), .bool true]) ?_ rfl ⟨noS, by rw [hoke2.out, e9], fun _ => hG1.out.symm, Below.setRow hZ (by omega) _⟩
            simp [results, Tryd.results33, go_sem, k8]
          · rcases dec (y < day) with ⟨q2, _⟩ | ⟨q2, _⟩
            · have hG1 := Lib.hid (hG.out.trans (if_neg (by simp; omega)))
              go_wp2
              have e9 : maskA (setW noS) = maskA (fun _ => 0) := zero_set
              have k8 := mask_put _ noS BZ
              rw [e9] at k8
              refine bodyPost_ret (v := .tuple #[.agg (maskA fun _ => 0), .bool true]) ?_ rfl ⟨noS, by rw [hoke2.out, e9], fun _ => hG1.out.symm, Below.setRow hZ (by omega) _⟩
              simp [results, Tryd.results33, go_sem, k8]
            · have hG1 := Lib.hid (hG.out.trans (if_pos (by simp; omega)))
              go_wp2
              have k8 := mask_put _ (p1) BZ
              refine bodyPost_ret (v := .tuple #[.agg (maskA (setW (p1))), .bool true]) ?_ rfl ⟨p1, by rw [hoke2.out], fun _ => hG1.out.symm, Below.setRow hZ (by omega) _⟩
              simp [results, Tryd.results33, go_sem, k8]
      · as_aux_lemma =>
          have hoke2 : okKE l K (.mk 6 x y enm kids) = true := by rw [hoke.out (by decide)]; exact hok.out
          replace hoke2 := Lib.hid hoke2
          replace hmean := hmean.out
          obtain ⟨e1, e2, rfl⟩ := kids_two (by rw [hlen.out]; rfl)
          have hS1 := hS.out
          rw [meanL, meanL, meanL] at hS1 hmean hv8
          obtain ⟨g1, cap9, hm9, hg1, hg2, c0⟩ := mask_at hS1 (i := 0) rfl
          obtain ⟨g1', cap9', hm9', _, _, c1⟩ := mask_at hS1 (i := 1) rfl
          generalize meanE wd day (fun nm => P (placeR l nm)) e1 = p1 at *
          generalize meanE wd day (fun nm => P (placeR l nm)) e2 = p2 at *
          subst hm9
          cases hm9'
          rw [Nat.zero_mul] at c0
          rw [Nat.one_mul] at c1
          have hG : meanE wd day (fun nm => P (placeR l nm)) (.mk 6 x y enm [e1, e2]) = orS p1 p2 := by rw [hmean]; rfl
          replace hG := Lib.hid hG
          clear hoke hmean hk0 hrr hK
          have BZ : Blk ((wr.alloc (.cells (maskA fun _ => 0) 38)).setRow wr.heap.size (maskA fun _ => 0)) (w.heap.size + 1) 38 (maskA fun _ => 0) := (BR2.alloc _).farRow (by omega) _
          have hZ : Below w.heap.size w ((wr.alloc (.cells (maskA fun _ => 0) 38)).setRow wr.heap.size (maskA fun _ => 0)) := Below.setRow (hbw.alloc (by omega) _) (by omega) _
          have hqZ : Below wr.heap.size wr ((wr.alloc (.cells (maskA fun _ => 0) 38)).setRow wr.heap.size (maskA fun _ => 0)) := Below.setRow ((Below.refl _ _).alloc (Nat.le_refl _) _) (Nat.le_refl _) _
          have zZ : ((wr.alloc (.cells (maskA fun _ => 0) 38)).setRow wr.heap.size (maskA fun _ => 0)).heap.size = wr.heap.size + 1 := by rw [size_setRow, World.size_alloc]
          go_wp2_with fail
          refine wp_region_below_tail 7 (wr.heap.size + 1) _ (Below.refl _ _) (by kernel_rfl) (by kernel_rfl) ?_
          simp only [List.take_succ_cons, List.take_zero, List.drop_succ_cons, List.drop_zero]
          iterate 7 (go_big_quiet_step (((go_at_call 69; exact quiet_below (Nat.le_of_eq zZ.symm) (RSUnion p1 p2 _)))))
          refine wpQuiet_nil ?_
          rintro _ ⟨n1, rfl⟩
          change wpList _ _ _ _ _ _
          have B5 := BZ.below n1.below (by omega)
          have k7 := blk_free B5
          have z5 := n1.size
          rw [zZ] at z5
          have hb5 : Below w.heap.size w n1.w := hZ.trans (n1.below.mono (by omega))
          go_wp2
          have k8 := mask_put _ (orS p1 p2) B5
          refine bodyPost_ret (v := .tuple #[.agg (maskA (setW (orS p1 p2))), .bool true]) ?_ rfl ⟨orS p1 p2, by rw [hoke2.out], fun _ => hG.out.symm, Below.setRow hb5 (by omega) _⟩
          simp [results, Tryd.results33, go_sem, k8]
      · as_aux_lemma =>
          have hoke2 : okKE l K (.mk 7 x y enm kids) = true := by rw [hoke.out (by decide)]; exact hok.out
          replace hoke2 := Lib.hid hoke2
          replace hmean := hmean.out
          obtain ⟨e1, e2, rfl⟩ := kids_two (by rw [hlen.out]; rfl)
          have hS1 := hS.out
          rw [meanL, meanL, meanL] at hS1 hmean hv8
          obtain ⟨g1, cap9, hm9, hg1, hg2, c0⟩ := mask_at hS1 (i := 0) rfl
          obtain ⟨g1', cap9', hm9', _, _, c1⟩ := mask_at hS1 (i := 1) rfl
          generalize meanE wd day (fun nm => P (placeR l nm)) e1 = p1 at *
          generalize meanE wd day (fun nm => P (placeR l nm)) e2 = p2 at *
          subst hm9
          cases hm9'
          rw [Nat.zero_mul] at c0
          rw [Nat.one_mul] at c1
          have hG : meanE wd day (fun nm => P (placeR l nm)) (.mk 7 x y enm [e1, e2]) = sansS p1 p2 := by rw [hmean]; rfl
          replace hG := Lib.hid hG
          clear hoke hmean hk0 hrr hK
          have BZ : Blk ((wr.alloc (.cells (maskA fun _ => 0) 38)).setRow wr.heap.size (maskA fun _ => 0)) (w.heap.size + 1) 38 (maskA fun _ => 0) := (BR2.alloc _).farRow (by omega) _
          have hZ : Below w.heap.size w ((wr.alloc (.cells (maskA fun _ => 0) 38)).setRow wr.heap.size (maskA fun _ => 0)) := Below.setRow (hbw.alloc (by omega) _) (by omega) _
          have hqZ : Below wr.heap.size wr ((wr.alloc (.cells (maskA fun _ => 0) 38)).setRow wr.heap.size (maskA fun _ => 0)) := Below.setRow ((Below.refl _ _).alloc (Nat.le_refl _) _) (Nat.le_refl _) _
          have zZ : ((wr.alloc (.cells (maskA fun _ => 0) 38)).setRow wr.heap.size (maskA fun _ => 0)).heap.size = wr.heap.size + 1 := by rw [size_setRow, World.size_alloc]
          go_wp2_with fail
          refine wp_region_below_tail 7 (wr.heap.size + 1) _ (Below.refl _ _) (by kernel_rfl) (by kernel_rfl) ?_
          simp only [List.take_succ_cons, List.take_zero, List.drop_succ_cons, List.drop_zero]
          iterate 7 (go_big_quiet_step (((go_at_call 70; exact quiet_below (Nat.le_of_eq zZ.symm) (RSDiff p1 p2 _)))))
          refine wpQuiet_nil ?_
          rintro _ ⟨n1, rfl⟩
          change wpList _ _ _ _ _ _
          have B5 := BZ.below n1.below (by omega)
          have k7 := blk_free B5
          have z5 := n1.size
          rw [zZ] at z5
          have hb5 : Below w.heap.size w n1.w := hZ.trans (n1.below.mono (by omega))
          go_wp2
          have k8 := mask_put _ (sansS p1 p2) B5
          refine bodyPost_ret (v := .tuple #[.agg (maskA (setW (sansS p1 p2))), .bool true]) ?_ rfl ⟨sansS p1 p2, by rw [hoke2.out], fun _ => hG.out.symm, Below.setRow hb5 (by omega) _⟩
          simp [results, Tryd.results33, go_sem, k8]
      · as_aux_lemma =>
          have hoke2 : okKE l K (.mk 8 x y enm kids) = true := by rw [hoke.out (by decide)]; exact hok.out
          replace hoke2 := Lib.hid hoke2
          replace hmean := hmean.out
          obtain ⟨e1, e2, rfl⟩ := kids_two (by rw [hlen.out]; rfl)
          have hS1 := hS.out
          rw [meanL, meanL, meanL] at hS1 hmean hv8
          obtain ⟨g1, cap9, hm9, hg1, hg2, c0⟩ := mask_at hS1 (i := 0) rfl
          obtain ⟨g1', cap9', hm9', _, _, c1⟩ := mask_at hS1 (i := 1) rfl
          generalize meanE wd day (fun nm => P (placeR l nm)) e1 = p1 at *
          generalize meanE wd day (fun nm => P (placeR l nm)) e2 = p2 at *
          subst hm9
          cases hm9'
          rw [Nat.zero_mul] at c0
          rw [Nat.one_mul] at c1
          have hG : meanE wd day (fun nm => P (placeR l nm)) (.mk 8 x y enm [e1, e2]) = andS p1 p2 := by rw [hmean]; rfl
          replace hG := Lib.hid hG
          clear hoke hmean hk0 hrr hK
          have BZ : Blk ((wr.alloc (.cells (maskA fun _ => 0) 38)).setRow wr.heap.size (maskA fun _ => 0)) (w.heap.size + 1) 38 (maskA fun _ => 0) := (BR2.alloc _).farRow (by omega) _
          have hZ : Below w.heap.size w ((wr.alloc (.cells (maskA fun _ => 0) 38)).setRow wr.heap.size (maskA fun _ => 0)) := Below.setRow (hbw.alloc (by omega) _) (by omega) _
          have hqZ : Below wr.heap.size wr ((wr.alloc (.cells (maskA fun _ => 0) 38)).setRow wr.heap.size (maskA fun _ => 0)) := Below.setRow ((Below.refl _ _).alloc (Nat.le_refl _) _) (Nat.le_refl _) _
          have zZ : ((wr.alloc (.cells (maskA fun _ => 0) 38)).setRow wr.heap.size (maskA fun _ => 0)).heap.size = wr.heap.size + 1 := by rw [size_setRow, World.size_alloc]
          go_wp2_with fail
          refine wp_region_below_tail 7 (wr.heap.size + 1) _ (Below.refl _ _) (by kernel_rfl) (by kernel_rfl) ?_
          simp only [List.take_succ_cons, List.take_zero, List.drop_succ_cons, List.drop_zero]
          iterate 7 (go_big_quiet_step (((go_at_call 71; exact quiet_below (Nat.le_of_eq zZ.symm) (RSBoth p1 p2 _)))))
          refine wpQuiet_nil ?_
          rintro _ ⟨n1, rfl⟩
          change wpList _ _ _ _ _ _
          have B5 := BZ.below n1.below (by omega)
          have k7 := blk_free B5
          have z5 := n1.size
          rw [zZ] at z5
          have hb5 : Below w.heap.size w n1.w := hZ.trans (n1.below.mono (by omega))
          go_wp2
          have k8 := mask_put _ (andS p1 p2) B5
          refine bodyPost_ret (v := .tuple #[.agg (maskA (setW (andS p1 p2))), .bool true]) ?_ rfl ⟨andS p1 p2, by rw [hoke2.out], fun _ => hG.out.symm, Below.setRow hb5 (by omega) _⟩
          simp [results, Tryd.results33, go_sem, k8]
      · as_aux_lemma =>
          have hoke2 : okKE l K (.mk 9 x y enm kids) = true := by rw [hoke.out (by decide)]; exact hok.out
          replace hoke2 := Lib.hid hoke2
          replace hmean := hmean.out
          obtain ⟨e1, rfl⟩ := kids_one (by rw [hlen.out]; rfl)
          have hS1 := hS.out
          rw [meanL, meanL] at hS1 hmean hv8
          obtain ⟨g1, cap9, hm9, hg1, hg2, c0⟩ := mask_at hS1 (i := 0) rfl
          generalize meanE wd day (fun nm => P (placeR l nm)) e1 = p1 at *
          subst hm9
          rw [Nat.zero_mul] at c0
          have hG : meanE wd day (fun nm => P (placeR l nm)) (.mk 9 x y enm [e1]) = shS (has (setW p1)) x := by rw [hmean]; rfl
          replace hG := Lib.hid hG
          clear hoke hmean hk0 hrr hK
          have BZ : Blk ((wr.alloc (.cells (maskA fun _ => 0) 38)).setRow wr.heap.size (maskA fun _ => 0)) (w.heap.size + 1) 38 (maskA fun _ => 0) := (BR2.alloc _).farRow (by omega) _
          have hZ : Below w.heap.size w ((wr.alloc (.cells (maskA fun _ => 0) 38)).setRow wr.heap.size (maskA fun _ => 0)) := Below.setRow (hbw.alloc (by omega) _) (by omega) _
          have hqZ : Below wr.heap.size wr ((wr.alloc (.cells (maskA fun _ => 0) 38)).setRow wr.heap.size (maskA fun _ => 0)) := Below.setRow ((Below.refl _ _).alloc (Nat.le_refl _) _) (Nat.le_refl _) _
          have zZ : ((wr.alloc (.cells (maskA fun _ => 0) 38)).setRow wr.heap.size (maskA fun _ => 0)).heap.size = wr.heap.size + 1 := by rw [size_setRow, World.size_alloc]
          go_wp2_with fail
          refine wp_region_below_tail 6 (wr.heap.size + 1) _ (Below.refl _ _) (by kernel_rfl) (by kernel_rfl) ?_
          simp only [List.take_succ_cons, List.take_zero, List.drop_succ_cons, List.drop_zero]
          iterate 6 (go_big_quiet_step (((go_at_call 72; exact quiet_below (Nat.le_of_eq zZ.symm) (RSShift p1 x _)))))
          refine wpQuiet_nil ?_
          rintro _ ⟨n1, rfl⟩
          change wpList _ _ _ _ _ _
          have B5 := BZ.below n1.below (by omega)
          have k7 := blk_free B5
          have z5 := n1.size
          rw [zZ] at z5
          have hb5 : Below w.heap.size w n1.w := hZ.trans (n1.below.mono (by omega))
          go_wp2
          have k8 := mask_put _ (shS (has (setW p1)) x) B5
          refine bodyPost_ret (v := .tuple #[.agg (maskA (setW (shS (has (setW p1)) x))), .bool true]) ?_ rfl ⟨shS (has (setW p1)) x, by rw [hoke2.out], fun _ => hG.out.symm, Below.setRow hb5 (by omega) _⟩
          simp [results, Tryd.results33, go_sem, k8]
      · as_aux_lemma =>
          obtain ⟨rfl, rfl, hK2⟩ := hK (by rw [namesE, if_pos rfl]; simp)
          have hp9 := hnm enm (by rw [namesE, if_pos rfl]; simp)
          have hoke2 : okKE l K (.mk 10 x y enm kids) = K (placeR l enm) := by unfold okKE; rw [namesE, if_pos rfl]; simp
          have hG : meanE wd day (fun nm => P (placeR l nm)) (.mk 10 x y enm kids) = P (placeR l enm) := by rw [hmean.out, meanK_ten]
          replace hoke2 := Lib.hid hoke2
          replace hG := Lib.hid hG
          subst hv8
          have BZ : Blk ((wr.alloc (.cells (maskA fun _ => 0) 38)).setRow wr.heap.size (maskA fun _ => 0)) (w.heap.size + 1) 38 (maskA fun _ => 0) := (BR2.alloc _).farRow (by omega) _
          have hZ : Below w.heap.size w ((wr.alloc (.cells (maskA fun _ => 0) 38)).setRow wr.heap.size (maskA fun _ => 0)) := Below.setRow (hbw.alloc (by omega) _) (by omega) _
          have hqZ : Below wr.heap.size wr ((wr.alloc (.cells (maskA fun _ => 0) 38)).setRow wr.heap.size (maskA fun _ => 0)) := Below.setRow ((Below.refl _ _).alloc (Nat.le_refl _) _) (Nat.le_refl _) _
          have zZ : ((wr.alloc (.cells (maskA fun _ => 0) 38)).setRow wr.heap.size (maskA fun _ => 0)).heap.size = wr.heap.size + 1 := by rw [size_setRow, World.size_alloc]
          have hAt := Lib.hid (At_any _ l enm ((wr.alloc (.cells (maskA fun _ => 0) 38)).setRow wr.heap.size (maskA fun _ => 0)) (hrr.out.below hZ hB (by omega)))
          rw [findI_nat hp9] at hAt
          have hKw := hK2.below hbw (Nat.le_refl _)
          have c0 := hKw.ms _ hp9
          have c1 := hKw.kn _ hp9
          have zg := hKw.lk
          have zm := hKw.lm
          have zg0 := hK2.lk
          have zm0 := hK2.lm
          clear hoke hmean hk0 hrr hK hK2 hnm
          generalize placeR l enm = i at *
          generalize P i = p1 at *
          generalize K i = k1 at *
          go_wp2_with (go_at_call 45; refine hAt.out.mono ?_; rintro e w5 ⟨rfl, hb5⟩; have z5 := hb5.size; rw [zZ] at z5)
          have hb6 : Below w.heap.size w w5 := hZ.trans (hb5.mono (by omega))
          have hq5 : Below wr.heap.size wr w5 := hqZ.trans (hb5.mono (by omega))
          have d0 : cellsAt w5 gm (i * 23) 23 = some (maskA (setW p1)) := (cellsAt_congr fun j _ => hq5.cell (p := ⟨gm, _, none⟩) zm).trans c0
          have d1 : w5.cell? ⟨ga, i, none⟩ = some (.bool k1) := (hq5.cell (p := ⟨ga, _, none⟩) zg).trans c1
          have B5 := BZ.below hb5 (by omega)
          have k7 := blk_free B5
          have zg5 : ga < w5.heap.size := by omega
          have zm5 : gm < w5.heap.size := by omega
          clear c0 c1
          go_wp2_with fail
          go_region
          all_goals
            go_wp2_with fail
            refine bodyPost_ret (v := .tuple #[.agg (maskA (setW p1)), .bool k1]) ?_ rfl ⟨p1, by rw [hoke2.out], fun _ => hG.out.symm, ?_⟩
            · simp [results, Tryd.results33, go_sem, k7]
            · (repeat (first | exact Below.refl _ _ | assumption | refine Below.n _ ?_ (by first | omega | (simp; done) | (simp; omega)) | refine Below.alloc ?_ (by first | omega | (simp; done) | (simp; omega)) _ | refine Below.setCell ?_ (by first | omega | (simp; done) | (simp; omega)) _ | refine Below.drew ?_ | refine Below.setRow ?_ (by first | omega | (simp; done) | (simp; omega)) _ | refine Below.drewN ?_ _))

theorem RMean_any (wd : Nat) (day : Int) (hd0 : 0 ≤ day) (hd1 : day < 146097) (hwd : Civ.weekI day = (wd : Nat)) (l : List Rule) (K : Nat → Bool) (P : Nat → Nat → Bool) : ∀ N, RMeanAll wd day l K P N := by
  intro N
  induction N with
  | zero => intro e v rv kvv mvv w B ga gm hN; have := nodesE_pos e; omega
  | succ N ih => exact RMean_step wd day hd0 hd1 hwd l K P N ih

end Ru
end Go.Proofs.YtbadplbdgpbdaaaDoor
