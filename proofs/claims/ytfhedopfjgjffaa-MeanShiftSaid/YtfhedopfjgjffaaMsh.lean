/- The law of chapter 6 on what is shifted: slotlaw6.MeanShift. -/
import Derived.Test.YtfhedopfjgjffaaMst
namespace Go.Proofs.Ytfhedopfjgjffaa
open Go.RowKit
namespace Ru
open Lx Msk Vm
open Sl (strV Reads IntsV)

/-- .. and what names mean, beside each -/
theorem ofX_exists2 (l : List Rule) (day : Int) : ∃ wd X, OfX l day wd X ∧ ∃ E : Expr → List UInt8 → Nat → Bool, (∀ e, okW l day e = true → X e = meanE wd day (E e) e) ∧ ∀ e1 e2, okW l day e1 = true → okW l day e2 = true → ∀ nm ∈ namesE e1, E e1 nm = E e2 nm := by
  have hw : 0 ≤ day → Civ.weekI day = ((Civ.weekI day).toNat : Nat) := fun h => by
    have : Civ.weekI day = (day + 5) % 7 := rfl
    omega
  have hx : ∀ e : Expr, ∃ env, (wrongR (withE l e)).1 = 0 → Means (Civ.weekI day).toNat day (withE l e) env := fun e => by
    by_cases h : (wrongR (withE l e)).1 = 0
    · obtain ⟨env, he⟩ := means_exists (Civ.weekI day).toNat day (right_of h)
      exact ⟨env, fun _ => he⟩
    · exact ⟨fun _ => noS, fun h1 => absurd h1 h⟩
  have hE : ∃ E : Expr → List UInt8 → Nat → Bool, ∀ e, (wrongR (withE l e)).1 = 0 → Means (Civ.weekI day).toNat day (withE l e) (E e) := ⟨fun e => Classical.choose (hx e), fun e => Classical.choose_spec (hx e)⟩
  obtain ⟨E, hE⟩ := hE
  have heq : ∀ e, okW l day e = true → ofM l e (E e) day = meanE (Civ.weekI day).toNat day (E e) e := fun e h => by
    have h1 := hE e (okW_right h).1 _ _ (with_new l e)
    unfold ofM
    rw [if_pos (by unfold okW at h; simpa using h)]
    exact h1
  have hag : ∀ e1 e2, okW l day e1 = true → okW l day e2 = true → ∀ nm ∈ namesE e1, E e1 nm = E e2 nm := fun e1 e2 h1 h2 => with_agree (right_of (okW_right h1).1) (hE e1 (okW_right h1).1) (hE e2 (okW_right h2).1)
  refine ⟨(Civ.weekI day).toNat, fun e => ofM l e (E e) day, ⟨fun e v ve w hr he => of_any v ve l e (E e) _ day (fun h _ _ => hE e h) (fun h _ => hw h) w hr he, fun e he => ?_, hw⟩, E, heq, hag⟩
  refine ⟨E e, heq e he, fun e1 h1 => ?_⟩
  rw [heq e1 h1]
  exact (meanE_loc e1 (hag e1 e h1 he)).symm

def byE (n : Int) (e : Expr) : Expr := .mk 9 n 0 [] [e]
def plusE (a b : Expr) : Expr := .mk 6 0 0 [] [a, b]
theorem mean_by {wd : Nat} {day : Int} {env : List UInt8 → Nat → Bool} (n : Int) (e : Expr) : meanE wd day env (byE n e) = shS (has (setW (meanE wd day env e))) n := rfl
theorem names_by (n : Int) (e : Expr) : namesE (byE n e) = namesE e := by
  unfold byE
  rw [namesE, if_neg (by decide), namesL, namesL, List.append_nil]
theorem names_plus (a b : Expr) : namesE (plusE a b) = namesE a ++ namesE b := by
  unfold plusE
  rw [namesE, if_neg (by decide), namesL, namesL, namesL, List.append_nil]
theorem same_sets {p q : Nat → Bool} (h : ∀ i, i < 1440 → p i = q i) : sameW (setW p) (setW q) = true := by rw [sameW_set, sameS_all]; exact h
theorem shift_twice (m : Nat → Bool) (x y : Int) (h : 0 ≤ x ∧ 0 ≤ y ∨ x ≤ 0 ∧ y ≤ 0) : sameW (setW (shS (has (setW (shS (has (setW m)) x))) y)) (setW (shS (has (setW m)) (x + y))) = true := same_sets fun i hi => by
  rw [← shS_two h i hi]
  exact shS_congr (fun i _ => has_setW _ i) _ _
theorem shift_sum (a b : Nat → Bool) (x : Int) : sameW (setW (shS (has (setW (orS a b))) x)) (setW (orS (shS (has (setW a)) x) (shS (has (setW b)) x))) = true := same_sets fun i hi => by
  unfold orS
  rw [has_setW, has_setW, decide_eq_true hi, Bool.true_and, Bool.true_and, ← shS_or]
  exact shS_congr (fun i hi => by rw [has_setW]; simp [hi]) _ _
/-- what is to be shown: twice, and both at once; a sum, and its parts -/
theorem shift_law {l : List Rule} {day : Int} {wd : Nat} {X : Expr → Nat → Bool} {E : Expr → List UInt8 → Nat → Bool} (h1 : ∀ e, okW l day e = true → X e = meanE wd day (E e) e) (h2 : ∀ e1 e2, okW l day e1 = true → okW l day e2 = true → ∀ nm ∈ namesE e1, E e1 nm = E e2 nm) (ea eb : Expr) (x y : Int) (h : 0 ≤ x ∧ 0 ≤ y ∨ x ≤ 0 ∧ y ≤ 0) :
    (okW l day (byE y (byE x ea)) = true → okW l day (byE (x + y) ea) = true → sameW (setW (X (byE y (byE x ea)))) (setW (X (byE (x + y) ea))) = true) ∧
    (okW l day (byE x (plusE ea eb)) = true → okW l day (plusE (byE x ea) (byE x eb)) = true → sameW (setW (X (byE x (plusE ea eb)))) (setW (X (plusE (byE x ea) (byE x eb)))) = true) := by
  constructor
  · intro o1 o2
    rw [h1 _ o1, h1 _ o2, mean_by, mean_by, mean_by, meanE_loc (env := E (byE y (byE x ea))) (env' := E (byE (x + y) ea)) ea (fun nm hn => h2 _ _ o1 o2 nm (by rw [names_by, names_by]; exact hn))]
    exact shift_twice _ _ _ h
  · intro o1 o2
    have e0 := h2 _ _ o1 o2
    rw [names_by, names_plus] at e0
    have ea1 := meanE_loc (wd := wd) (day := day) (env := E (byE x (plusE ea eb))) (env' := E (plusE (byE x ea) (byE x eb))) ea (fun nm hn => e0 nm (List.mem_append_left _ hn))
    have eb1 := meanE_loc (wd := wd) (day := day) (env := E (byE x (plusE ea eb))) (env' := E (plusE (byE x ea) (byE x eb))) eb (fun nm hn => e0 nm (List.mem_append_right _ hn))
    have q1 : meanE wd day (E (byE x (plusE ea eb))) (byE x (plusE ea eb)) = shS (has (setW (orS (meanE wd day (E (byE x (plusE ea eb))) ea) (meanE wd day (E (byE x (plusE ea eb))) eb)))) x := rfl
    have q2 : meanE wd day (E (plusE (byE x ea) (byE x eb))) (plusE (byE x ea) (byE x eb)) = orS (shS (has (setW (meanE wd day (E (plusE (byE x ea) (byE x eb))) ea))) x) (shS (has (setW (meanE wd day (E (plusE (byE x ea) (byE x eb))) eb))) x) := rfl
    rw [h1 _ o1, h1 _ o2, q1, q2, ea1, eb1]
    exact shift_sum _ _ _

set_option maxRecDepth 100000 in
set_option maxHeartbeats 4000000 in
theorem by_any (n : Int) (ea : Expr) (A : Option Addr) (cap B : Nat) (w : World) (hB : B ≤ w.heap.size) (ha : EP w B ea A) :
    Calls Try.prog 32 #[.agg #[.int .i64 ea.kind, .int .i64 ea.a, .int .i64 ea.b, strV ea.name, .slice A ea.kids.length cap], .int .i64 n] w fun r w' => (∃ A3, r = .returned (exprA (byE n ea) A3 1) ∧ EP w' w'.heap.size (byE n ea) A3) ∧ Below w.heap.size w w' := by
  go_enter Try.func32, Try.ntmps32
  go_wp2_with fail
  obtain ⟨W3, hW3⟩ : ∃ W, W = ((w.alloc (.cells #[.int .i64 ea.kind, .int .i64 ea.a, .int .i64 ea.b, strV ea.name, .slice A ea.kids.length cap] 38)).alloc (.cells #[.int .i64 9, .int .i64 n, .int .i64 0, strV [], .slice (some ⟨w.heap.size + 1 + 1, 0, none⟩) 1 1] 38)) := ⟨_, rfl⟩
  have hb3 : Below w.heap.size w W3 := by rw [hW3]; exact ((Below.refl _ _).alloc (Nat.le_refl _) _).alloc (by simp) _
  have hz3 : W3.heap.size = w.heap.size + 1 + 1 := by rw [hW3]; simp
  have B6 : Blk W3 (w.heap.size + 1) 38 #[.int .i64 9, .int .i64 n, .int .i64 0, strV [], .slice (some ⟨w.heap.size + 1 + 1, 0, none⟩) 1 1] := by
    have := Blk.new (w.alloc (.cells #[.int .i64 ea.kind, .int .i64 ea.a, .int .i64 ea.b, strV ea.name, .slice A ea.kids.length cap] 38)) 38 #[.int .i64 9, .int .i64 n, .int .i64 0, strV [], .slice (some ⟨w.heap.size + 1 + 1, 0, none⟩) 1 1]
    rw [World.size_alloc] at this
    rw [hW3]
    exact this
  have ek := (ha.below hb3 hB (Nat.le_refl _)).one (cap := cap) (by omega) (k := 9) (x := n) (y := 0) (by omega) (by omega) 38
  obtain ⟨⟨r0, r1, r2, r3, r4⟩, -⟩ := set_cells5 (B6.alloc (.cells #[.int .i64 ea.kind, .int .i64 ea.a, .int .i64 ea.b, strV ea.name, .slice A ea.kids.length cap] 38))
  rw [hz3] at ek
  rw [show strV [] = .string ⟨#[]⟩ from rfl] at hW3 r3
  rw [← hW3]
  clear B6 hW3
  refine bodyPost_ret (v := exprA (byE n ea) (some ⟨w.heap.size + 1 + 1, 0, none⟩) 1) ?_ rfl ⟨⟨_, rfl, ek⟩, hb3.alloc (by omega) _⟩
  have hx : exprA (byE n ea) (some ⟨w.heap.size + 1 + 1, 0, none⟩) 1 = .agg #[.int .i64 9, .int .i64 n, .int .i64 0, .string ⟨#[]⟩, .slice (some ⟨w.heap.size + 1 + 1, 0, none⟩) 1 1] := rfl
  rw [hx]
  simp [results, Try.results32, go_sem, r0, r1, r2, r3, r4]

set_option maxRecDepth 100000 in
set_option maxHeartbeats 64000000 in
theorem MeanShift_true (v va vb : Value) (l : List Rule) (ea eb : Expr) (x y day : Int) (w : World) (hr : RulesIn w v l) (hea : ExprVal w w.heap.size va ea) (heb : ExprVal w w.heap.size vb eb) :
    Calls Try.prog 10 #[v, va, vb, .int .i64 x, .int .i64 y, .int .i64 day] w fun r w' => r = .returned (.bool true) ∧ Below w.heap.size w w' := by
  obtain ⟨wd, X, hX, E, hXE, hEE⟩ := ofX_exists2 l day
  obtain ⟨A, cap, rfl, hEA⟩ := EP.of hea
  obtain ⟨A2, cap2, rfl, hEB⟩ := EP.of heb
  unfold exprA
  clear hea heb
  have hC := Lib.hid hX.call
  have hAl := Lib.hid alive6
  have hlaw := Lib.hid (fun x y h => shift_law hXE hEE ea eb x y h)
  clear hX hXE hEE
  obtain ⟨A0, cap0, rfl⟩ : ∃ A c, v = .slice A l.length c := by
    obtain ⟨A, c, h, _⟩ := hr.at'
    exact ⟨A, c, h⟩
  obtain ⟨wA, hwA⟩ : ∃ W, W = (w.alloc (.cells #[.int .i64 ea.kind, .int .i64 ea.a, .int .i64 ea.b, strV ea.name, .slice A ea.kids.length cap] 38)).alloc (.cells #[.int .i64 eb.kind, .int .i64 eb.a, .int .i64 eb.b, strV eb.name, .slice A2 eb.kids.length cap2] 38) := ⟨_, rfl⟩
  have hbA : Below w.heap.size w wA := by rw [hwA]; exact ((Below.refl _ _).alloc (Nat.le_refl _) _).alloc (by simp) _
  have hzA : w.heap.size + 2 = wA.heap.size := by rw [hwA]; simp
  have BA : Blk wA w.heap.size 38 #[.int .i64 ea.kind, .int .i64 ea.a, .int .i64 ea.b, strV ea.name, .slice A ea.kids.length cap] := by rw [hwA]; exact (Blk.new w _ _).alloc _
  have BB : Blk wA (w.heap.size + 1) 38 #[.int .i64 eb.kind, .int .i64 eb.a, .int .i64 eb.b, strV eb.name, .slice A2 eb.kids.length cap2] := by
    have := Blk.new (w.alloc (.cells #[.int .i64 ea.kind, .int .i64 ea.a, .int .i64 ea.b, strV ea.name, .slice A ea.kids.length cap] 38)) 38 #[.int .i64 eb.kind, .int .i64 eb.a, .int .i64 eb.b, strV eb.name, .slice A2 eb.kids.length cap2]
    rw [World.size_alloc] at this
    rw [hwA]
    exact this
  have hF : ∀ W, Below wA.heap.size wA W → (W.cell? ⟨w.heap.size, 0, none⟩ = some (.int .i64 ea.kind) ∧ W.cell? ⟨w.heap.size, 1, none⟩ = some (.int .i64 ea.a) ∧ W.cell? ⟨w.heap.size, 2, none⟩ = some (.int .i64 ea.b) ∧ W.cell? ⟨w.heap.size, 3, none⟩ = some (strV ea.name) ∧ W.cell? ⟨w.heap.size, 4, none⟩ = some (.slice A ea.kids.length cap)) ∧ (W.cell? ⟨w.heap.size + 1, 0, none⟩ = some (.int .i64 eb.kind) ∧ W.cell? ⟨w.heap.size + 1, 1, none⟩ = some (.int .i64 eb.a) ∧ W.cell? ⟨w.heap.size + 1, 2, none⟩ = some (.int .i64 eb.b) ∧ W.cell? ⟨w.heap.size + 1, 3, none⟩ = some (strV eb.name) ∧ W.cell? ⟨w.heap.size + 1, 4, none⟩ = some (.slice A2 eb.kids.length cap2)) ∧ RulesIn W (.slice A0 l.length cap0) l ∧ EP W wA.heap.size ea A ∧ EP W wA.heap.size eb A2 ∧ wA.heap.size ≤ W.heap.size := fun W h =>
    ⟨(set_cells5 (BA.below h (by omega))).1, (set_cells5 (BB.below h (by omega))).1, (hr.below hbA (Nat.le_refl _)).below h (Nat.le_refl _), (hEA.below hbA (Nat.le_refl _) (by omega)).below h (Nat.le_refl _) (Nat.le_refl _), (hEB.below hbA (Nat.le_refl _) (by omega)).below h (Nat.le_refl _) (Nat.le_refl _), h.size⟩
  replace hF := Lib.hid hF
  have hzA1 : w.heap.size < wA.heap.size := by omega
  have hzA2 : w.heap.size + 1 < wA.heap.size := by omega
  replace hzA := Lib.hid hzA
  go_enter Try.func10, Try.ntmps10
  go_wp2_with fail
  rw [← hwA]
  replace hwA := Lib.hid hwA
  clear BA BB hEA hEB hr
  refine (hAl.out _).mono ?_
  rintro e1 w1 ⟨rfl, hw1⟩
  have hend1 : Below w.heap.size w w1 := hbA.trans (hw1.mono (by omega))
  by_cases g1 : x < 1
  · go_wp2
    go_ret
    exact ⟨rfl, hend1⟩
  by_cases g2 : y < 1
  · go_wp2
    go_ret
    exact ⟨rfl, hend1⟩
  by_cases g4 : 1440 ≤ x
  · go_wp2
    all_goals (go_ret; exact ⟨rfl, hend1⟩)
  by_cases g5 : 1440 ≤ y
  · go_wp2
    all_goals (go_ret; exact ⟨rfl, hend1⟩)
  have wxy : IntKind.i64.wrap (x + y) = x + y := IntWalk.i64_in _ ⟨by omega, by omega⟩
  by_cases g3 : 1440 ≤ x + y
  · go_wp2
    go_ret
    exact ⟨rfl, hend1⟩
  have hz1 := hw1.size
  go_wp2_with fail
  obtain ⟨wS, hwS⟩ : ∃ W, W = w1.alloc (.cells #[.int .i64 1, .int .i64 (-1)] 3) := ⟨_, rfl⟩
  have hSb : Below w1.heap.size w1 wS := by rw [hwS]; exact (Below.refl _ _).alloc (Nat.le_refl _) _
  have hSz : wS.heap.size = w1.heap.size + 1 := by rw [hwS]; simp
  have BS : Blk wS w1.heap.size 3 #[.int .i64 1, .int .i64 (-1)] := by rw [hwS]; exact Blk.new w1 _ _
  rw [← hwS]
  replace hwS := Lib.hid hwS
  have hwSA : Below wA.heap.size wA wS := hw1.trans (hSb.mono hz1)
  go_loopg [44, 15, 16, 17, 18, 19] 2 (fun q kv _ _ _ _ _ wr => ∃ i : Nat, i ≤ 2 ∧ q = 2 - i ∧ kv = .int .i64 i ∧ Below wS.heap.size wS wr)
  case atStart => exact ⟨0, by omega, rfl, rfl, Below.refl _ _⟩
  case round =>
    obtain ⟨i, hi, hq, rfl, hbr⟩ := hrel
    replace hq := Lib.hid hq
    have zr := hbr.size
    have hbrA : Below wA.heap.size wA wr := hwSA.trans (hbr.mono hwSA.size)
    by_cases hlt : i < 2
    case neg =>
      obtain rfl : i = 2 := by omega
      go_wp2
      go_ret
      exact ⟨rfl, hbA.trans (hbrA.mono (by omega))⟩
    obtain ⟨s, hs, hsc⟩ : ∃ s : Int, (s = 1 ∨ s = -1) ∧ wr.cell? ⟨w1.heap.size, i, none⟩ = some (.int .i64 s) := by
      have BSr := BS.below hbr (by omega)
      match i, hlt with
      | 0, _ => exact ⟨1, .inl rfl, BSr.cell 0⟩
      | 1, _ => exact ⟨-1, .inr rfl, BSr.cell 1⟩
    have m1 : IntKind.i64.wrap (s * x) = s * x := IntWalk.i64_in _ (by rcases hs with rfl | rfl <;> constructor <;> omega)
    have m2 : IntKind.i64.wrap (s * y) = s * y := IntWalk.i64_in _ (by rcases hs with rfl | rfl <;> constructor <;> omega)
    have m3 : IntKind.i64.wrap (s * (x + y)) = s * (x + y) := IntWalk.i64_in _ (by rcases hs with rfl | rfl <;> constructor <;> omega)
    have hlw := hlaw.out (s * x) (s * y) (by rcases hs with rfl | rfl <;> omega)
    rw [← Int.mul_add] at hlw
    have hlw1 := Lib.hid hlw.1
    have hlw2 := Lib.hid hlw.2
    replace hs := Lib.hid hs
    have hi2 : (i : Int) < 2 := by omega
    have zsb : w1.heap.size < wr.heap.size := by omega
    clear hlw
    generalize hnx : s * x = nx at *
    generalize hny : s * y = ny at *
    generalize hnz : s * (x + y) = nz at *
    replace hnx := Lib.hid hnx
    replace hny := Lib.hid hny
    replace hnz := Lib.hid hnz
    obtain ⟨b1, hb1⟩ : ∃ b, b = okW l day (byE ny (byE nx ea)) := ⟨_, rfl⟩
    obtain ⟨b2, hb2⟩ : ∃ b, b = okW l day (byE nz ea) := ⟨_, rfl⟩
    obtain ⟨b3, hb3⟩ : ∃ b, b = okW l day (byE nx (plusE ea eb)) := ⟨_, rfl⟩
    obtain ⟨b4, hb4⟩ : ∃ b, b = okW l day (plusE (byE nx ea) (byE nx eb)) := ⟨_, rfl⟩
    replace hb1 := Lib.hid hb1
    replace hb2 := Lib.hid hb2
    replace hb3 := Lib.hid hb3
    replace hb4 := Lib.hid hb4
    have hwz := hwSA.size
    have hG := Lib.hid (fun W (h : Below wS.heap.size wS W) => hF.out W (hwSA.trans (h.mono hwz)))
    obtain ⟨⟨s0, s1, s2, s3, s4⟩, ⟨t0, t1, t2, t3, t4⟩, -, pa, -, hzr⟩ := hG.out wr hbr
    have hnx2 := hnx.out
    have hny2 := hny.out
    have hnz2 := hnz.out
    go_wp2_with fail
    refine (by_any nx ea A cap wA.heap.size wr hzr pa).mono ?_
    rintro e2 w2 ⟨⟨A3, rfl, hE2⟩, hw2⟩
    have hw2' : Below wS.heap.size wS w2 := hbr.trans (hw2.mono zr)
    have zz2 := hw2.size
    have hx2 : exprA (byE nx ea) A3 1 = .agg #[.int .i64 9, .int .i64 nx, .int .i64 0, .string ⟨#[]⟩, .slice A3 1 1] := rfl
    rw [hx2]
    go_wp2_with fail
    refine (by_any ny (byE nx ea) A3 1 w2.heap.size w2 (Nat.le_refl _) hE2).mono ?_
    rintro e3 w3 ⟨⟨A4, rfl, hE3⟩, hw3⟩
    have hw3' : Below wS.heap.size wS w3 := hw2'.trans (hw3.mono (by omega))
    have zz3 := hw3.size
    have hx3 : exprA (byE ny (byE nx ea)) A4 1 = .agg #[.int .i64 9, .int .i64 ny, .int .i64 0, .string ⟨#[]⟩, .slice A4 1 1] := rfl
    rw [hx3]
    have c3 := Lib.hid (hC.out (byE ny (byE nx ea)) _ _ w3 (hG.out w3 hw3').2.2.1 (hE3.val 1))
    rw [hx3, ← hb1.out] at c3
    go_wp2_with fail
    refine c3.out.mono ?_
    rintro e4 w4 ⟨rfl, hw4⟩
    have hw4' : Below wS.heap.size wS w4 := hw3'.trans (hw4.mono (by omega))
    have zz4 := hw4.size
    obtain ⟨f1, hf1⟩ : ∃ f, f = setW (X (byE ny (byE nx ea))) := ⟨_, rfl⟩
    rw [← hf1]
    replace hf1 := Lib.hid hf1
    clear c3 hE2 hE3 hx2 hx3 s0 s1 s2 s3 s4 t0 t1 t2 t3 t4 pa
    obtain ⟨⟨s0, s1, s2, s3, s4⟩, ⟨t0, t1, t2, t3, t4⟩, -, -, -, hz4⟩ := hG.out w4 hw4'
    have ne4a : ¬ w.heap.size = w4.heap.size := by omega
    have ne4b : ¬ w4.heap.size = w.heap.size := by omega
    have ne4c : ¬ w.heap.size + 1 = w4.heap.size := by omega
    have ne4d : ¬ w4.heap.size = w.heap.size + 1 := by omega
    have lt4a : w.heap.size < w4.heap.size := by omega
    have lt4b : w.heap.size + 1 < w4.heap.size := by omega
    obtain ⟨m4, hs4, zq4⟩ := stored w4 46 (fun _ => 0) f1
    go_wp2_with fail
    generalize (w4.alloc (.cells (maskA fun _ => 0) 46)).setRow w4.heap.size (maskA f1) = W4 at *
    have hW4 : Below wS.heap.size wS W4 := hw4'.trans (hs4.mono (by omega))
    clear s0 s1 s2 s3 s4 t0 t1 t2 t3 t4 ne4a ne4b ne4c ne4d lt4a lt4b
    obtain ⟨-, -, -, pa, -, hzW4⟩ := hG.out W4 hW4
    refine (by_any nz ea A cap wA.heap.size W4 hzW4 pa).mono ?_
    rintro e5 w5 ⟨⟨A5, rfl, hE5⟩, hw5⟩
    have hw5' : Below wS.heap.size wS w5 := hW4.trans (hw5.mono (by omega))
    have zz5 := hw5.size
    have hx5 : exprA (byE nz ea) A5 1 = .agg #[.int .i64 9, .int .i64 nz, .int .i64 0, .string ⟨#[]⟩, .slice A5 1 1] := rfl
    rw [hx5]
    have c5 := Lib.hid (hC.out (byE nz ea) _ _ w5 (hG.out w5 hw5').2.2.1 (hE5.val 1))
    rw [hx5, ← hb2.out] at c5
    go_wp2_with fail
    refine c5.out.mono ?_
    rintro e6 w6 ⟨rfl, hw6⟩
    have hw6' : Below wS.heap.size wS w6 := hw5'.trans (hw6.mono (by omega))
    have zz6 := hw6.size
    have k4_6 := (m4.below hw5 (by omega)).below hw6 (by omega)
    obtain ⟨f2, hf2⟩ : ∃ f, f = setW (X (byE nz ea)) := ⟨_, rfl⟩
    rw [← hf2]
    replace hf2 := Lib.hid hf2
    clear c5 hE5 hx5 pa m4
    obtain ⟨⟨s0, s1, s2, s3, s4⟩, ⟨t0, t1, t2, t3, t4⟩, -, -, -, hz6⟩ := hG.out w6 hw6'
    obtain ⟨m6, hs6, zq6⟩ := stored w6 46 (fun _ => 0) f2
    have ne6 : ¬ w4.heap.size = w6.heap.size := by omega
    have lt6 : w4.heap.size < w6.heap.size := by omega
    have k4_7 := k4_6.below hs6 (by omega)
    have cl : ∀ {W : World} {g : Nat} {f : Nat → Nat}, Blk W g 46 (maskA f) → cellsAt W g 0 23 = some (maskA f) := fun h => by have := h.cells; rwa [maskA_size] at this
    have l4 := cl k4_7
    have l6 := cl m6
    have hcmp : b1 = true → b2 = true → sameW f1 f2 = true := fun h1 h2 => by rw [hf1.out, hf2.out]; exact hlw1.out (hb1.out ▸ h1) (hb2.out ▸ h2)
    cases b1 <;> cases b2
    all_goals
      have g9 := hcmp
      simp only [forall_const, Bool.false_eq_true, false_implies, implies_true] at g9
      clear hcmp
      go_wp2_with fail
      generalize (w6.alloc (.cells (maskA fun _ => 0) 46)).setRow w6.heap.size (maskA f2) = W6 at *
      have hW6 : Below wS.heap.size wS W6 := hw6'.trans (hs6.mono (by omega))
      clear s0 s1 s2 s3 s4 t0 t1 t2 t3 t4 l4 l6
      obtain ⟨-, -, -, pa, pb, hzW6⟩ := hG.out W6 hW6
      refine (two_any 6 (by omega) (by omega) ea eb A A2 cap cap2 wA.heap.size W6 hzW6 pa pb).mono ?_
      rintro e7 w7 ⟨⟨A7, rfl, hE7⟩, hw7⟩
      have hw7' : Below wS.heap.size wS w7 := hW6.trans (hw7.mono (by omega))
      have zz7 := hw7.size
      have hx7 : exprA (.mk 6 0 0 [] [ea, eb]) A7 2 = .agg #[.int .i64 6, .int .i64 0, .int .i64 0, .string ⟨#[]⟩, .slice A7 2 2] := rfl
      rw [hx7]
      go_wp2_with fail
      refine (by_any nx (plusE ea eb) A7 2 w7.heap.size w7 (Nat.le_refl _) hE7).mono ?_
      rintro e8 w8 ⟨⟨A8, rfl, hE8⟩, hw8⟩
      have hw8' : Below wS.heap.size wS w8 := hw7'.trans (hw8.mono (by omega))
      have zz8 := hw8.size
      have hx8 : exprA (byE nx (plusE ea eb)) A8 1 = .agg #[.int .i64 9, .int .i64 nx, .int .i64 0, .string ⟨#[]⟩, .slice A8 1 1] := rfl
      rw [hx8]
      have c8 := Lib.hid (hC.out (byE nx (plusE ea eb)) _ _ w8 (hG.out w8 hw8').2.2.1 (hE8.val 1))
      rw [hx8, ← hb3.out] at c8
      go_wp2_with fail
      refine c8.out.mono ?_
      rintro e9 w9 ⟨rfl, hw9⟩
      have hw9' : Below wS.heap.size wS w9 := hw8'.trans (hw9.mono (by omega))
      have zz9 := hw9.size
      obtain ⟨f3, hf3⟩ : ∃ f, f = setW (X (byE nx (plusE ea eb))) := ⟨_, rfl⟩
      rw [← hf3]
      replace hf3 := Lib.hid hf3
      have k4_9 := ((k4_7.below hw7 (by omega)).below hw8 (by omega)).below hw9 (by omega)
      have k6_9 := ((m6.below hw7 (by omega)).below hw8 (by omega)).below hw9 (by omega)
      have hfr4 := blk_free k4_9
      have y4 := k4_9.lt
      clear c8 hE7 hE8 hx7 hx8 pa pb
      have k4_10 := k4_9.setRow (maskA f3)
      have k6_10 := k6_9.farRow (k := w4.heap.size) (by omega) (maskA f3)
      have hW9 : Below wS.heap.size wS (w9.setRow w4.heap.size (maskA f3)) := Below.setRow hw9' (by omega) _
      go_wp2_with fail
      obtain ⟨W9, hW9e⟩ : ∃ W, W = w9.setRow w4.heap.size (maskA f3) := ⟨_, rfl⟩
      rw [← hW9e] at k4_10 k6_10 hW9 ⊢
      have zW9 : W9.heap.size = w9.heap.size := by rw [hW9e]; simp
      replace hW9e := Lib.hid hW9e
      obtain ⟨⟨s0, s1, s2, s3, s4⟩, ⟨t0, t1, t2, t3, t4⟩, -, pa, pb, hzW9⟩ := hG.out W9 hW9
      have q1 : w.heap.size < W9.heap.size := by omega
      have q2 : w.heap.size + 1 < W9.heap.size := by omega
      refine Fr.wp_region_late [18] [(6, fun v V V' => ∃ A3, v = .agg #[.int .i64 9, .int .i64 nx, .int .i64 0, .string ⟨#[]⟩, .slice A3 1 1] ∧ EP V' V'.heap.size (byE nx ea) A3),
        (12, fun v V V' => ∃ A3, v = .agg #[.int .i64 9, .int .i64 nx, .int .i64 0, .string ⟨#[]⟩, .slice A3 1 1] ∧ EP V' V'.heap.size (byE nx eb) A3),
        (13, fun v V V' => ∃ A3, v = .agg #[.int .i64 6, .int .i64 0, .int .i64 0, .string ⟨#[]⟩, .slice A3 2 2] ∧ EP V' V'.heap.size (plusE (byE nx ea) (byE nx eb)) A3),
        (15, fun v V V' => v = .tuple #[.agg (maskA (setW (X (plusE (byE nx ea) (byE nx eb))))), .bool b4])]
        19 W9.heap.size W9 (Below.refl _ _) (Nat.le_refl _) (by kernel_rfl) (by kernel_rfl) (by kernel_rfl) (fun _ _ d _ _ h => by cases d <;> exact h) ?_
      simp only [List.take_succ_cons, List.take_zero, List.drop_succ_cons, List.drop_zero]
      refine Fr.free_take 6 (Fr.class_ne _ _) (by rfl) (by rfl) ?_
      simp only [List.take_succ_cons, List.take_zero, List.drop_succ_cons, List.drop_zero]
      iterate 6 (go_big_quiet_step ((fail)))
      refine wpQuiet_nil ?_
      change Fr.wpFree _ _ _ _ _ _ _ _ 6 _ _
      refine Fr.free_ev rfl rfl (Nat.le_of_ble_eq_true rfl) (fun V hv => ?_) ?_
      · obtain ⟨⟨n, rfl⟩, _⟩ := hv
        have hbn := n.below
        have hzn := n.size
        have pa' := pa.below (B' := W9.heap.size) (B'' := wA.heap.size) hbn hzW9 (Nat.le_refl _)
        have cc := Lib.hid (by_any nx ea A cap wA.heap.size n.w (by omega) pa')
        go_wp2_with fail
        refine cc.out.mono ?_
        rintro e10 w10 ⟨⟨A10, rfl, hE10⟩, hw10⟩
        rename_i K hK
        exact hK _ _ ⟨rfl, rfl, hw10, A10, rfl, hE10⟩
      rintro _ V6 V6' hv6 hg6 ⟨A10, rfl, hE10⟩
      simp only [Act.put, List.setIfInBounds_toArray, List.set_cons_succ, List.set_cons_zero]
      refine Fr.free_take 5 (Fr.class_ne _ _) (by rfl) (by rfl) ?_
      simp only [List.take_succ_cons, List.take_zero, List.drop_succ_cons, List.drop_zero]
      iterate 5 (go_big_quiet_step ((fail)))
      refine wpQuiet_nil ?_
      change Fr.wpFree _ _ _ _ _ _ _ _ 12 _ _
      refine Fr.free_ev rfl rfl (Nat.le_of_ble_eq_true rfl) (fun V hv => ?_) ?_
      · obtain ⟨⟨n, rfl⟩, _⟩ := hv
        have hbn := n.below
        have hzn := n.size
        have pb' := pb.below (B' := W9.heap.size) (B'' := wA.heap.size) hbn hzW9 (Nat.le_refl _)
        have cc := Lib.hid (by_any nx eb A2 cap2 wA.heap.size n.w (by omega) pb')
        go_wp2_with fail
        refine cc.out.mono ?_
        rintro e11 w11 ⟨⟨A11, rfl, hE11⟩, hw11⟩
        rename_i K hK
        exact hK _ _ ⟨rfl, rfl, hw11, A11, rfl, hE11⟩
      rintro _ V12 V12' hv12 hg12 ⟨A11, rfl, hE11⟩
      simp only [Act.put, List.setIfInBounds_toArray, List.set_cons_succ, List.set_cons_zero]
      refine Fr.free_ev rfl rfl (Nat.le_of_ble_eq_true rfl) (fun V hv => ?_) ?_
      · have gx12 := Fr.Valid.hd hv (by kernel_rfl)
        have gx6 := Fr.Valid.hd (Fr.Valid.tl hv) (by kernel_rfl)
        have pa' := hE10.below (B'' := V.heap.size) gx6 (Nat.le_refl _) gx6.size
        have pb' := hE11.below (B'' := V.heap.size) gx12 (Nat.le_refl _) gx12.size
        obtain ⟨⟨n, rfl⟩, _⟩ := hv
        have cc := Lib.hid (two_any 6 (by omega) (by omega) (byE nx ea) (byE nx eb) A10 A11 1 1 n.w.heap.size n.w (Nat.le_refl _) pa' pb')
        go_wp2_with fail
        refine cc.out.mono ?_
        rintro e13 w13 ⟨⟨A13, rfl, hE13⟩, hw13⟩
        rename_i K hK
        exact hK _ _ ⟨rfl, rfl, hw13, A13, rfl, hE13⟩
      rintro _ V13 V13' hv13 hg13 ⟨A13, rfl, hE13⟩
      simp only [Act.put, List.setIfInBounds_toArray, List.set_cons_succ, List.set_cons_zero]
      refine Fr.free_take 1 (Fr.class_ne _ _) (by rfl) (by rfl) ?_
      simp only [List.take_succ_cons, List.take_zero, List.drop_succ_cons, List.drop_zero]
      iterate 1 (go_big_quiet_step ((fail)))
      refine wpQuiet_nil ?_
      change Fr.wpFree _ _ _ _ _ _ _ _ 15 _ _
      refine Fr.free_ev rfl rfl (Nat.le_of_ble_eq_true rfl) (fun V hv => ?_) ?_
      · have gx13 := Fr.Valid.hd hv (by kernel_rfl)
        have pe := hE13.below (B'' := V.heap.size) gx13 (Nat.le_refl _) gx13.size
        obtain ⟨⟨n, rfl⟩, _⟩ := hv
        have hR := (hG.out n.w (hW9.trans (n.below.mono (by omega)))).2.2.1
        have c15 := Lib.hid (hC.out (plusE (byE nx ea) (byE nx eb)) _ _ n.w hR (pe.val 2))
        have hx15 : exprA (plusE (byE nx ea) (byE nx eb)) A13 2 = .agg #[.int .i64 6, .int .i64 0, .int .i64 0, .string ⟨#[]⟩, .slice A13 2 2] := rfl
        rw [hx15, ← hb4.out] at c15
        go_wp2_with fail
        refine c15.out.mono ?_
        rintro e15 w15 ⟨rfl, hw15⟩
        rename_i K hK
        exact hK _ _ ⟨rfl, rfl, hw15, rfl⟩
      rintro _ V15 V15' hv15 hg15 rfl
      simp only [Act.put, List.setIfInBounds_toArray, List.set_cons_succ, List.set_cons_zero]
      obtain ⟨f4, hf4⟩ : ∃ f, f = setW (X (plusE (byE nx ea) (byE nx eb))) := ⟨_, rfl⟩
      rw [← hf4]
      replace hf4 := Lib.hid hf4
      refine Fr.free_take 3 (Fr.class_ne _ _) (by rfl) (by rfl) ?_
      simp only [List.take_succ_cons, List.take_zero, List.drop_succ_cons, List.drop_zero]
      iterate 3 (go_big_quiet_step ((fail)))
      refine wpQuiet_nil ?_
      change Fr.wpFree _ _ _ _ _ _ _ _ 19 _ _
      refine Fr.free_nil ?_
      intro wf hbd hlin
      obtain ⟨mf, hmf⟩ := hbd.1
      have hbf : Below W9.heap.size W9 wf := by rw [hmf]; exact mf.below
      clear hbd hlin hmf hv6 hg6 hv12 hg12 hv13 hg13 hv15 hg15 hE10 hE11 hE13 pa pb
      have hzf := hbf.size
      have k4_f := k4_10.below hbf (by omega)
      have k6_f := k6_10.below hbf (by omega)
      have hfr6 := blk_free k6_f
      have y6 := k6_f.lt
      have r4 := k4_f.farRow (k := w6.heap.size) (by omega) (maskA f4)
      have r6 := k6_f.setRow (maskA f4)
      have l4 := cl r4
      have l6 := cl r6
      have hWf : Below wS.heap.size wS (wf.setRow w6.heap.size (maskA f4)) := Below.setRow (hW9.trans (hbf.mono (by omega))) (by omega) _
      have hcmp : b3 = true → b4 = true → sameW f3 f4 = true := fun h1 h2 => by rw [hf3.out, hf4.out]; exact hlw2.out (hb3.out ▸ h1) (hb4.out ▸ h2)
      clear k4_f k6_f r4 r6 s0 s1 s2 s3 s4 t0 t1 t2 t3 t4 k4_10 k6_10
      cases b3 <;> cases b4
      all_goals
        have g10 := hcmp
        simp only [forall_const, Bool.false_eq_true, false_implies, implies_true] at g10
        clear hcmp
        go_wp2_with fail
        go_roundg (2 - (i + 1))
        case measure => rw [hq.out]; omega
        case rel => exact ⟨i + 1, by omega, rfl, by go_num, hWf⟩

end Ru
end Go.Proofs.Ytfhedopfjgjffaa
