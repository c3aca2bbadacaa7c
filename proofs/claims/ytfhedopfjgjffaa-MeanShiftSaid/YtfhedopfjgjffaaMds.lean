/- The law of chapter 6 that days are told by themselves: slotlaw6.MeanDays. -/
import Derived.Test.YtfhedopfjgjffaaWth
import Derived.Test.YtfhedopfjgjffaaAlx
namespace Go.Proofs.Ytfhedopfjgjffaa
open Go.RowKit
namespace Ru
open Lx Msk Vm
open Sl (strV Reads IntsV)

/-- an expression whose kids lie below a block -/
def EP (w : World) (B : Nat) (e : Expr) (A : Option Addr) : Prop := (e.name.length ≤ 9223372036854775807 ∧ -9223372036854775808 ≤ e.kind ∧ e.kind ≤ 9223372036854775807) ∧ e.kids.length ≤ 9223372036854775807 ∧ KidsV w B A e.kids
section
variable {w w' : World} {B B' B'' : Nat} {e f : Expr} {A A2 : Option Addr} {cap cap2 : Nat}
theorem EP.val (h : EP w B e A) (cap : Nat) : ExprVal w B (exprA e A cap) e := ⟨A, cap, rfl, h.1, h.2.1, h.2.2⟩
theorem EP.below (h : EP w B e A) (hb : Below B' w w') (hB : B ≤ B') (hB2 : B ≤ B'') : EP w' B'' e A := ⟨h.1, h.2.1, h.2.2.below hb hB hB2⟩
theorem EP.put (h : EP w B e A) {b o : Nat} (c0 : w.cell? ⟨b, o, none⟩ = some (.int .i64 e.kind)) (c1 : w.cell? ⟨b, o + 1, none⟩ = some (.int .i64 e.a)) (c2 : w.cell? ⟨b, o + 2, none⟩ = some (.int .i64 e.b)) (c3 : w.cell? ⟨b, o + 3, none⟩ = some (strV e.name)) (c4 : w.cell? ⟨b, o + 4, none⟩ = some (.slice A e.kids.length cap)) : ExprAt w B b o e := by
  cases e
  rw [ExprAt]
  exact ⟨c0, c1, c2, c3, h.1, A, cap, c4, h.2⟩
theorem EP.leaf {k x y : Int} (h1 : -9223372036854775808 ≤ k) (h2 : k ≤ 9223372036854775807) {A : Option Addr} : EP w B (.mk k x y [] []) A := ⟨⟨by show 0 ≤ _; omega, h1, h2⟩, by show 0 ≤ _; omega, .inl rfl⟩
theorem EP.one (h : EP w B e A) (hB : B ≤ w.heap.size) {k x y : Int} (h1 : -9223372036854775808 ≤ k) (h2 : k ≤ 9223372036854775807) (T : TypeId) :
    EP (w.alloc (.cells #[.int .i64 e.kind, .int .i64 e.a, .int .i64 e.b, strV e.name, .slice A e.kids.length cap] T)) (w.alloc (.cells #[.int .i64 e.kind, .int .i64 e.a, .int .i64 e.b, strV e.name, .slice A e.kids.length cap] T)).heap.size (.mk k x y [] [e]) (some ⟨w.heap.size, 0, none⟩) := by
  have Bk := Blk.new w T #[.int .i64 e.kind, .int .i64 e.a, .int .i64 e.b, strV e.name, .slice A e.kids.length cap]
  have h' := h.below (B'' := (w.alloc (.cells #[.int .i64 e.kind, .int .i64 e.a, .int .i64 e.b, strV e.name, .slice A e.kids.length cap] T)).heap.size) ((Below.refl w.heap.size w).alloc (Nat.le_refl _) (.cells #[.int .i64 e.kind, .int .i64 e.a, .int .i64 e.b, strV e.name, .slice A e.kids.length cap] T)) hB (by simp; omega)
  refine ⟨⟨by show 0 ≤ _; omega, h1, h2⟩, by show 1 ≤ _; omega, .inr ⟨w.heap.size, 0, rfl, by simp, ?_⟩⟩
  show KidsAt _ _ _ _ [e]
  rw [KidsAt, KidsAt]
  exact ⟨h'.put (Bk.cell 0) (Bk.cell 1) (Bk.cell 2) (Bk.cell 3) (Bk.cell 4), trivial⟩
theorem EP.two (h : EP w B e A) (hf : EP w B f A2) (hB : B ≤ w.heap.size) {k x y : Int} (h1 : -9223372036854775808 ≤ k) (h2 : k ≤ 9223372036854775807) (T : TypeId) :
    EP (w.alloc (.cells #[.int .i64 e.kind, .int .i64 e.a, .int .i64 e.b, strV e.name, .slice A e.kids.length cap, .int .i64 f.kind, .int .i64 f.a, .int .i64 f.b, strV f.name, .slice A2 f.kids.length cap2] T)) (w.alloc (.cells #[.int .i64 e.kind, .int .i64 e.a, .int .i64 e.b, strV e.name, .slice A e.kids.length cap, .int .i64 f.kind, .int .i64 f.a, .int .i64 f.b, strV f.name, .slice A2 f.kids.length cap2] T)).heap.size (.mk k x y [] [e, f]) (some ⟨w.heap.size, 0, none⟩) := by
  have Bk := Blk.new w T #[.int .i64 e.kind, .int .i64 e.a, .int .i64 e.b, strV e.name, .slice A e.kids.length cap, .int .i64 f.kind, .int .i64 f.a, .int .i64 f.b, strV f.name, .slice A2 f.kids.length cap2]
  have hb := (Below.refl w.heap.size w).alloc (Nat.le_refl _) (.cells #[.int .i64 e.kind, .int .i64 e.a, .int .i64 e.b, strV e.name, .slice A e.kids.length cap, .int .i64 f.kind, .int .i64 f.a, .int .i64 f.b, strV f.name, .slice A2 f.kids.length cap2] T)
  have h' := h.below (B'' := (w.alloc (.cells #[.int .i64 e.kind, .int .i64 e.a, .int .i64 e.b, strV e.name, .slice A e.kids.length cap, .int .i64 f.kind, .int .i64 f.a, .int .i64 f.b, strV f.name, .slice A2 f.kids.length cap2] T)).heap.size) hb hB (by simp; omega)
  have hf' := hf.below (B'' := (w.alloc (.cells #[.int .i64 e.kind, .int .i64 e.a, .int .i64 e.b, strV e.name, .slice A e.kids.length cap, .int .i64 f.kind, .int .i64 f.a, .int .i64 f.b, strV f.name, .slice A2 f.kids.length cap2] T)).heap.size) hb hB (by simp; omega)
  refine ⟨⟨by show 0 ≤ _; omega, h1, h2⟩, by show 2 ≤ _; omega, .inr ⟨w.heap.size, 0, rfl, by simp, ?_⟩⟩
  show KidsAt _ _ _ _ [e, f]
  rw [KidsAt, KidsAt, KidsAt]
  exact ⟨h'.put (Bk.cell 0) (Bk.cell 1) (Bk.cell 2) (Bk.cell 3) (Bk.cell 4), hf'.put (Bk.cell 5) (Bk.cell 6) (Bk.cell 7) (Bk.cell 8) (Bk.cell 9), trivial⟩
end
theorem RulesIn.below {w w' : World} {B : Nat} {v : Value} {l : List Rule} (h : RulesIn w v l) (hb : Below B w w') (hB : w.heap.size ≤ B) : RulesIn w' v l := ⟨h.at'.below hb hB hb.size, h.z, h.nil⟩

theorem stored (w : World) (T : TypeId) (f0 f : Nat → Nat) : Blk ((w.alloc (.cells (maskA f0) T)).setRow w.heap.size (maskA f)) w.heap.size T (maskA f) ∧ Below w.heap.size w ((w.alloc (.cells (maskA f0) T)).setRow w.heap.size (maskA f)) ∧ ((w.alloc (.cells (maskA f0) T)).setRow w.heap.size (maskA f)).heap.size = w.heap.size + 1 :=
  ⟨(Blk.new w T (maskA f0)).setRow _, Below.setRow ((Below.refl _ _).alloc (Nat.le_refl _) _) (Nat.le_refl _) _, by simp⟩
theorem mean_week {wd : Nat} {day : Int} {env : List UInt8 → Nat → Bool} (x y : Int) (e : Expr) : meanE wd day env (.mk 4 x y [] [e]) = if (bits BinOp.and IntKind.i64 (x / 2 ^ wd) 1 == 1) = true then meanE wd day env e else noS := rfl
theorem mean_dates {wd : Nat} {day : Int} {env : List UInt8 → Nat → Bool} (x y : Int) (e : Expr) : meanE wd day env (.mk 5 x y [] [e]) = if (decide (x ≤ day) && decide (day ≤ y)) = true then meanE wd day env e else noS := rfl

set_option maxRecDepth 100000 in
set_option maxHeartbeats 16000000 in
theorem MeanDays_true (v ve : Value) (l : List Rule) (e : Expr) (set fr tt day : Int) (w : World) (hr : RulesIn w v l) (he : ExprVal w w.heap.size ve e) :
    Calls Try.prog 7 #[v, ve, .int .i64 set, .int .i64 fr, .int .i64 tt, .int .i64 day] w fun r w' => r = .returned (.bool true) ∧ Below w.heap.size w w' := by
  obtain ⟨wd, X, hX⟩ := ofX_exists l day
  obtain ⟨A, cap, rfl, he1, he2, he3⟩ := he
  have hE : EP w w.heap.size e A := ⟨he1, he2, he3⟩
  clear he1 he2 he3
  have hC := Lib.hid hX.call
  have hAl := Lib.hid alive6
  have hXw : okW l day (.mk 4 set 0 [] [e]) = true → okW l day e = true → X (.mk 4 set 0 [] [e]) = if (bits BinOp.and IntKind.i64 (set / 2 ^ wd) 1 == 1) = true then X e else noS := fun h h1 => by
    obtain ⟨env, h2, h3⟩ := hX.env _ h
    rw [h2, mean_week, h3 e h1]
  have hXd : okW l day (.mk 5 fr tt [] [e]) = true → okW l day e = true → X (.mk 5 fr tt [] [e]) = if (decide (fr ≤ day) && decide (day ≤ tt)) = true then X e else noS := fun h h1 => by
    obtain ⟨env, h2, h3⟩ := hX.env _ h
    rw [h2, mean_dates, h3 e h1]
  replace hXw := Lib.hid hXw
  replace hXd := Lib.hid hXd
  have hwd := Lib.hid hX.wd
  clear hX
  obtain ⟨b1, hb1⟩ : ∃ b, b = okW l day e := ⟨_, rfl⟩
  obtain ⟨b2, hb2⟩ : ∃ b, b = okW l day (.mk 4 set 0 [] [e]) := ⟨_, rfl⟩
  obtain ⟨b3, hb3⟩ : ∃ b, b = okW l day (.mk 5 fr tt [] [e]) := ⟨_, rfl⟩
  obtain ⟨A0, cap0, rfl⟩ : ∃ A c, v = .slice A l.length c := by
    obtain ⟨A, c, h, _⟩ := hr.at'
    exact ⟨A, c, h⟩
  obtain ⟨wA, hwA⟩ : ∃ W, W = w.alloc (.cells #[.int .i64 e.kind, .int .i64 e.a, .int .i64 e.b, strV e.name, .slice A e.kids.length cap] 38) := ⟨_, rfl⟩
  have hbA : Below w.heap.size w wA := by rw [hwA]; exact (Below.refl _ _).alloc (Nat.le_refl _) _
  have hzA : w.heap.size < wA.heap.size := by rw [hwA]; simp
  have BE : Blk wA w.heap.size 38 #[.int .i64 e.kind, .int .i64 e.a, .int .i64 e.b, strV e.name, .slice A e.kids.length cap] := by rw [hwA]; exact Blk.new w _ _
  have hF : ∀ W, Below wA.heap.size wA W → (W.cell? ⟨w.heap.size, 0, none⟩ = some (.int .i64 e.kind) ∧ W.cell? ⟨w.heap.size, 1, none⟩ = some (.int .i64 e.a) ∧ W.cell? ⟨w.heap.size, 2, none⟩ = some (.int .i64 e.b) ∧ W.cell? ⟨w.heap.size, 3, none⟩ = some (strV e.name) ∧ W.cell? ⟨w.heap.size, 4, none⟩ = some (.slice A e.kids.length cap)) ∧ RulesIn W (.slice A0 l.length cap0) l ∧ EP W wA.heap.size e A ∧ wA.heap.size ≤ W.heap.size := fun W h =>
    ⟨(set_cells5 (BE.below h hzA)).1, (hr.below hbA (Nat.le_refl _)).below h (Nat.le_refl _), (hE.below hbA (Nat.le_refl _) (Nat.le_of_lt hzA)).below h (Nat.le_refl _) (Nat.le_refl _), h.size⟩
  replace hF := Lib.hid hF
  replace hb1 := Lib.hid hb1
  replace hb2 := Lib.hid hb2
  replace hb3 := Lib.hid hb3
  go_enter Try.func7, Try.ntmps7
  go_wp2_with fail
  rw [← hwA]
  replace hwA := Lib.hid hwA
  refine (hAl.out _).mono ?_
  rintro e1 w1 ⟨rfl, hw1⟩
  obtain ⟨⟨s0, s1, s2, s3, s4⟩, hR1, hE1, hz1⟩ := hF.out w1 hw1
  have c1 := Lib.hid (hC.out e _ _ w1 hR1 ((hE1.below (Below.refl wA.heap.size w1) (Nat.le_refl _) hz1).val cap))
  rw [← hb1.out] at c1
  go_wp2_with fail
  refine c1.out.mono ?_
  rintro e2 w2 ⟨rfl, hw2⟩
  clear c1 hR1 hE1 s0 s1 s2 s3 s4
  have hw2' : Below wA.heap.size wA w2 := hw1.trans (hw2.mono hz1)
  obtain ⟨⟨s0, s1, s2, s3, s4⟩, -, -, hz2⟩ := hF.out w2 hw2'
  have hne2 : ¬ w.heap.size = w2.heap.size := by omega
  have hne2' : ¬ w2.heap.size = w.heap.size := by omega
  have hlt2 : w.heap.size < w2.heap.size := by omega
  obtain ⟨f1, hf1⟩ : ∃ f, f = setW (X e) := ⟨_, rfl⟩
  rw [← hf1]
  replace hf1 := Lib.hid hf1
  obtain ⟨m2, hs2, zz2⟩ := stored w2 46 (fun _ => 0) f1
  go_wp2_with fail
  generalize (w2.alloc (.cells (maskA fun _ => 0) 46)).setRow w2.heap.size (maskA f1) = W2 at *
  have hW2 : Below wA.heap.size wA W2 := hw2'.trans (hs2.mono hz2)
  obtain ⟨-, -, hE2, hZ2⟩ := hF.out W2 hW2
  have ek2 := hE2.one (cap := cap) hZ2 (k := 4) (x := set) (y := 0) (by omega) (by omega) 38
  rw [zz2] at ek2
  have hk2 : Below W2.heap.size W2 (W2.alloc (.cells #[.int .i64 e.kind, .int .i64 e.a, .int .i64 e.b, strV e.name, .slice A e.kids.length cap] 38)) := (Below.refl _ _).alloc (Nat.le_refl _) _
  obtain ⟨-, hR2, -, hY2⟩ := hF.out _ (hW2.trans (hk2.mono hZ2))
  have c2 := Lib.hid (hC.out (.mk 4 set 0 [] [e]) _ _ _ hR2 (ek2.val 1))
  rw [← hb2.out] at c2
  refine c2.out.mono ?_
  rintro e3 w3 ⟨rfl, hw3⟩
  have hw3' : Below wA.heap.size wA w3 := (hW2.trans (hk2.mono hZ2)).trans (hw3.mono hY2)
  have hx3 := hw3.size
  simp at hx3
  have m2' : Blk w3 w2.heap.size 46 (maskA f1) := (m2.alloc _).below hw3 (by simp; omega)
  clear c2 ek2 hE2 hR2 s0 s1 s2 s3 s4
  obtain ⟨⟨s0, s1, s2, s3, s4⟩, -, -, hz3⟩ := hF.out w3 hw3'
  have hne3 : ¬ w.heap.size = w3.heap.size := by omega
  have hne3' : ¬ w3.heap.size = w.heap.size := by omega
  have hlt3 : w.heap.size < w3.heap.size := by omega
  obtain ⟨f2, hf2⟩ : ∃ f, f = setW (X (.mk 4 set 0 [] [e])) := ⟨_, rfl⟩
  rw [← hf2]
  replace hf2 := Lib.hid hf2
  obtain ⟨m3, hs3, zz3⟩ := stored w3 46 (fun _ => 0) f2
  go_wp2_with fail
  generalize (w3.alloc (.cells (maskA fun _ => 0) 46)).setRow w3.heap.size (maskA f2) = W3 at *
  have hW3 : Below wA.heap.size wA W3 := hw3'.trans (hs3.mono hz3)
  obtain ⟨-, -, hE3, hZ3⟩ := hF.out W3 hW3
  have ek3 := hE3.one (cap := cap) hZ3 (k := 5) (x := fr) (y := tt) (by omega) (by omega) 38
  rw [zz3] at ek3
  have hk3 : Below W3.heap.size W3 (W3.alloc (.cells #[.int .i64 e.kind, .int .i64 e.a, .int .i64 e.b, strV e.name, .slice A e.kids.length cap] 38)) := (Below.refl _ _).alloc (Nat.le_refl _) _
  obtain ⟨-, hR3, -, hY3⟩ := hF.out _ (hW3.trans (hk3.mono hZ3))
  have c3 := Lib.hid (hC.out (.mk 5 fr tt [] [e]) _ _ _ hR3 (ek3.val 1))
  rw [← hb3.out] at c3
  refine c3.out.mono ?_
  rintro e4 w4 ⟨rfl, hw4⟩
  have hw4' : Below wA.heap.size wA w4 := (hW3.trans (hk3.mono hZ3)).trans (hw4.mono hY3)
  have hx4 := hw4.size
  simp at hx4
  have m3' : Blk w4 w3.heap.size 46 (maskA f2) := (m3.alloc _).below hw4 (by simp; omega)
  clear c3 ek3 hE3 hR3 s0 s1 s2 s3 s4
  obtain ⟨⟨s0, s1, s2, s3, s4⟩, -, -, hz4⟩ := hF.out w4 hw4'
  have hne4 : ¬ w.heap.size = w4.heap.size := by omega
  have hne4' : ¬ w4.heap.size = w.heap.size := by omega
  have hlt4 : w.heap.size < w4.heap.size := by omega
  obtain ⟨f3, hf3⟩ : ∃ f, f = setW (X (.mk 5 fr tt [] [e])) := ⟨_, rfl⟩
  rw [← hf3]
  replace hf3 := Lib.hid hf3
  obtain ⟨m4, hs4, zz4⟩ := stored w4 46 (fun _ => 0) f3
  have hend0 : Below w.heap.size w w4 := hbA.trans (hw4'.mono (Nat.le_of_lt hzA))
  have hend1 : Below w.heap.size w ((w4.alloc (.cells (maskA fun _ => 0) 46)).setRow w4.heap.size (maskA f3)) := hend0.trans (hs4.mono (by omega))
  by_cases hall : b1 = true ∧ b2 = true ∧ b3 = true
  · obtain ⟨rfl, rfl, rfl⟩ := hall
    obtain ⟨hwr, hd0, hd1⟩ := okW_right hb1.out.symm
    have hq2 := hXw.out hb2.out.symm hb1.out.symm
    have hq3 := hXd.out hb3.out.symm hb1.out.symm
    have hwk := hwd.out hd0
    have hmin : min wd 64 = wd := by
      have : Civ.weekI day = (day + 5) % 7 := rfl
      omega
    have e2 : f2 = if (bits BinOp.and IntKind.i64 (set / 2 ^ wd) 1 == 1) = true then f1 else fun _ => 0 := by
      rw [hf2.out, hq2, hf1.out]
      split
      · rfl
      · exact setW_none
    have e3 : f3 = if (decide (fr ≤ day) && decide (day ≤ tt)) = true then f1 else fun _ => 0 := by
      rw [hf3.out, hq3, hf1.out]
      split
      · rfl
      · exact setW_none
    have hsame : ∀ f, sameW f f = true := fun f => by simp [sameW]
    replace e2 := Lib.hid e2
    replace e3 := Lib.hid e3
    clear hq2 hq3
    have hWk := Lib.hid (fun W => show Calls Try.prog 27 #[.int .i64 day] W (fun e w' => e = .returned (.int .i64 (wd : Nat)) ∧ W = w') from by have := Wk.Week_any day W (by omega) (by omega); rwa [hwk] at this)
    have cl : ∀ {W : World} {g : Nat} {f : Nat → Nat}, Blk W g 46 (maskA f) → cellsAt W g 0 23 = some (maskA f) := fun h => by have := h.cells; rwa [maskA_size] at this
    go_wp2_with fail
    generalize (w4.alloc (.cells (maskA fun _ => 0) 46)).setRow w4.heap.size (maskA f3) = W4 at *
    obtain ⟨m5, hs5, zz5⟩ := stored W4 46 (fun _ => 0) (fun _ => 0)
    rw [zz4] at m5 hs5 zz5
    generalize (W4.alloc (.cells (maskA fun _ => 0) 46)).setRow (w4.heap.size + 1) (maskA fun _ => 0) = W5 at *
    have k1 := cl ((((((m2'.below hs3 (by omega)).below hk3 (by omega)).below hw4 (by simp; omega)).below hs4 (by omega)).below hs5 (by omega)))
    have k2 := cl ((m3'.below hs4 (by omega)).below hs5 (by omega))
    have k3 := cl (m4.below hs5 (by omega))
    have k4 := cl m5
    have zq : w2.heap.size < W5.heap.size := by omega
    refine (hWk.out _).mono ?_
    rintro e6 w6 ⟨rfl, rfl⟩
    have hend2 : Below w.heap.size w W5 := hend1.trans (hs5.mono (by omega))
    have hs1 := hsame f1
    have hs0 := hsame (fun _ => 0)
    clear m2' m3' m4 m5 hsame cl hWk m2 m3
    have e2' := e2.out
    have e3' := e3.out
    clear e2 e3
    cases hbit : (bits BinOp.and IntKind.i64 (set / 2 ^ wd) 1 == 1) with
    | true =>
      rw [hbit, if_pos rfl] at e2'
      subst e2'
      by_cases hd : fr ≤ day ∧ day ≤ tt
      · rw [if_pos (by simpa using hd)] at e3'
        subst e3'
        have g3 := hd.1
        have g4 := hd.2
        go_wp2
        go_ret
        exact ⟨rfl, hend2⟩
      · rw [if_neg (by simpa using hd)] at e3'
        subst e3'
        by_cases g1 : fr ≤ day
        · have g2 : ¬ day ≤ tt := fun h => hd ⟨g1, h⟩
          go_wp2
          go_ret
          exact ⟨rfl, hend2⟩
        · go_wp2
          go_ret
          exact ⟨rfl, hend2⟩
    | false =>
      rw [hbit, if_neg (by decide)] at e2'
      subst e2'
      by_cases hd : fr ≤ day ∧ day ≤ tt
      · rw [if_pos (by simpa using hd)] at e3'
        subst e3'
        have g3 := hd.1
        have g4 := hd.2
        go_wp2
        go_ret
        exact ⟨rfl, hend2⟩
      · rw [if_neg (by simpa using hd)] at e3'
        subst e3'
        by_cases g1 : fr ≤ day
        · have g2 : ¬ day ≤ tt := fun h => hd ⟨g1, h⟩
          go_wp2
          go_ret
          exact ⟨rfl, hend2⟩
        · go_wp2
          go_ret
          exact ⟨rfl, hend2⟩
  · clear m4 hs4 zz4
    cases b1 <;> cases b2 <;> cases b3 <;> first
      | (exact absurd ⟨rfl, rfl, rfl⟩ hall)
      | (go_wp2
         go_ret
         exact ⟨rfl, hend1⟩)

end Ru
end Go.Proofs.Ytfhedopfjgjffaa
