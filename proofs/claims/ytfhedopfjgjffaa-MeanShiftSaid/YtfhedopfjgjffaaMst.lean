/- The law of chapter 6 that signs are sets: slotlaw6.MeanSets. -/
import Derived.Test.YtfhedopfjgjffaaMds
namespace Go.Proofs.Ytfhedopfjgjffaa
open Go.RowKit
namespace Ru
open Lx Msk Vm
open Sl (strV Reads IntsV)

theorem EP.of {w : World} {B : Nat} {v : Value} {e : Expr} (h : ExprVal w B v e) : ∃ A cap, v = exprA e A cap ∧ EP w B e A := by
  obtain ⟨A, cap, rfl, h1, h2, h3⟩ := h
  exact ⟨A, cap, rfl, h1, h2, h3⟩

theorem strV_nil : strV [] = .string ⟨#[]⟩ := rfl
set_option maxRecDepth 100000 in
set_option maxHeartbeats 4000000 in
theorem two_any (k : Int) (h1 : 0 ≤ k) (h2 : k ≤ 10) (ea eb : Expr) (A A2 : Option Addr) (cap cap2 B : Nat) (w : World) (hB : B ≤ w.heap.size) (ha : EP w B ea A) (hb : EP w B eb A2) :
    Calls Try.prog 23 #[.int .i64 k, .agg #[.int .i64 ea.kind, .int .i64 ea.a, .int .i64 ea.b, strV ea.name, .slice A ea.kids.length cap], .agg #[.int .i64 eb.kind, .int .i64 eb.a, .int .i64 eb.b, strV eb.name, .slice A2 eb.kids.length cap2]] w fun r w' => (∃ A3, r = .returned (exprA (.mk k 0 0 [] [ea, eb]) A3 2) ∧ EP w' w'.heap.size (.mk k 0 0 [] [ea, eb]) A3) ∧ Below w.heap.size w w' := by
  go_enter Try.func23, Try.ntmps23
  go_wp2_with fail
  obtain ⟨W3, hW3⟩ : ∃ W, W = (((w.alloc (.cells #[.int .i64 ea.kind, .int .i64 ea.a, .int .i64 ea.b, strV ea.name, .slice A ea.kids.length cap] 38)).alloc (.cells #[.int .i64 eb.kind, .int .i64 eb.a, .int .i64 eb.b, strV eb.name, .slice A2 eb.kids.length cap2] 38)).alloc (.cells #[.int .i64 k, .int .i64 0, .int .i64 0, strV [], .slice (some ⟨w.heap.size + 1 + 1 + 1, 0, none⟩) 2 2] 38)) := ⟨_, rfl⟩
  have hb3 : Below w.heap.size w W3 := by rw [hW3]; exact (((Below.refl _ _).alloc (Nat.le_refl _) _).alloc (by simp) _).alloc (by simp; omega) _
  have hz3 : W3.heap.size = w.heap.size + 1 + 1 + 1 := by rw [hW3]; simp
  have B6 : Blk W3 (w.heap.size + 1 + 1) 38 #[.int .i64 k, .int .i64 0, .int .i64 0, strV [], .slice (some ⟨w.heap.size + 1 + 1 + 1, 0, none⟩) 2 2] := by
    have := Blk.new ((w.alloc (.cells #[.int .i64 ea.kind, .int .i64 ea.a, .int .i64 ea.b, strV ea.name, .slice A ea.kids.length cap] 38)).alloc (.cells #[.int .i64 eb.kind, .int .i64 eb.a, .int .i64 eb.b, strV eb.name, .slice A2 eb.kids.length cap2] 38)) 38 #[.int .i64 k, .int .i64 0, .int .i64 0, strV [], .slice (some ⟨w.heap.size + 1 + 1 + 1, 0, none⟩) 2 2]
    rw [World.size_alloc, World.size_alloc] at this
    rw [hW3]
    exact this
  have ek := (ha.below hb3 hB (Nat.le_refl _)).two (cap := cap) (cap2 := cap2) (hb.below hb3 hB (Nat.le_refl _)) (by omega) (k := k) (x := 0) (y := 0) (by omega) (by omega) 38
  obtain ⟨⟨r0, r1, r2, r3, r4⟩, -⟩ := set_cells5 (B6.alloc (.cells #[.int .i64 ea.kind, .int .i64 ea.a, .int .i64 ea.b, strV ea.name, .slice A ea.kids.length cap, .int .i64 eb.kind, .int .i64 eb.a, .int .i64 eb.b, strV eb.name, .slice A2 eb.kids.length cap2] 38))
  rw [hz3] at ek
  rw [show strV [] = .string ⟨#[]⟩ from rfl] at hW3 r3
  rw [← hW3]
  clear B6 hW3
  refine bodyPost_ret (v := exprA (.mk k 0 0 [] [ea, eb]) (some ⟨w.heap.size + 1 + 1 + 1, 0, none⟩) 2) ?_ rfl ⟨⟨_, rfl, ek⟩, hb3.alloc (by omega) _⟩
  have hx : exprA (.mk k 0 0 [] [ea, eb]) (some ⟨w.heap.size + 1 + 1 + 1, 0, none⟩) 2 = .agg #[.int .i64 k, .int .i64 0, .int .i64 0, .string ⟨#[]⟩, .slice (some ⟨w.heap.size + 1 + 1 + 1, 0, none⟩) 2 2] := rfl
  rw [hx]
  simp [results, Try.results23, go_sem, r0, r1, r2, r3, r4]


theorem firstErr_ext {α : Type} {f g : Nat → α → Int} : ∀ (l l' : List α) (i : Nat), l.length = l'.length → (∀ j c c', l[j]? = some c → l'[j]? = some c' → f (i + j) c = g (i + j) c') → firstErr f i l = firstErr g i l'
  | [], [], _, _, _ => rfl
  | [], _ :: _, _, h, _ => by simp at h
  | _ :: _, [], _, h, _ => by simp at h
  | c :: cs, c' :: cs', i, hl, h => by
    have h0 := h 0 c c' rfl rfl
    rw [Nat.add_zero] at h0
    have ih := firstErr_ext (f := f) (g := g) cs cs' (i + 1) (by simpa using hl) (fun j d d' hd hd' => by rw [show i + 1 + j = i + (j + 1) by omega]; exact h (j + 1) d d' (by simpa using hd) (by simpa using hd'))
    rw [firstErr, firstErr, h0, ih]
/-- an expression of the same form and names is as right as another one -/
theorem with_same {l : List Rule} {e1 e2 : Expr} (hn : namesE e1 = namesE e2) (hf : formE isName e1 1 0 = formE isName e2 1 0) : wrongR (withE l e1) = wrongR (withE l e2) := by
  have hlen : (withE l e1).length = (withE l e2).length := by rw [with_len, with_len]
  have hp : ∀ nm, placeR (withE l e1) nm = placeR (withE l e2) nm := fun nm => by
    unfold placeR withE
    rw [List.findIdx_append, List.findIdx_append]
    rfl
  have hfi : ∀ nm, findI (withE l e1) nm = findI (withE l e2) nm := fun nm => by unfold findI; rw [hp, hlen]
  have hat : ∀ (j : Nat) (c c' : Rule), (withE l e1)[j]? = some c → (withE l e2)[j]? = some c' → c.name = c'.name ∧ namesE c.expr = namesE c'.expr ∧ formE isName c.expr 1 0 = formE isName c'.expr 1 0 := fun j c c' h1 h2 => by
    by_cases hj : j < l.length
    · rw [with_lt hj] at h1 h2
      rw [h1] at h2
      cases h2
      exact ⟨rfl, rfl, rfl⟩
    · have hj2 := (List.getElem?_eq_some_iff.1 h1).1
      rw [with_len] at hj2
      have : j = l.length := by omega
      subst this
      rw [with_new] at h1 h2
      cases h1
      cases h2
      exact ⟨rfl, hn, hf⟩
  have hd : directR (withE l e1) = directR (withE l e2) := by
    funext i
    by_cases hi : i < (withE l e1).length
    · have h1 : (withE l e1)[i]? = some (withE l e1)[i] := List.getElem?_eq_getElem hi
      have h2 : (withE l e2)[i]? = some (withE l e2)[i] := List.getElem?_eq_getElem (by omega)
      rw [directR_at2 h1, directR_at2 h2, (hat i _ _ h1 h2).2.1]
      exact List.map_congr_left fun x _ => hfi x
    · unfold directR
      rw [List.getElem?_eq_none (by omega), List.getElem?_eq_none (by omega)]
      rfl
  have hF : wrongF (withE l e1) = wrongF (withE l e2) := by
    unfold wrongF
    rw [hlen, firstErr_ext (f := fun _ => ruleErr isName) (g := fun _ => ruleErr isName) _ _ 0 hlen fun j c c' h1 h2 => by
      have := hat j c c' h1 h2
      unfold ruleErr
      rw [this.1, this.2.2]]
  unfold wrongR
  rw [hF, firstErr_ext (f := dupErr (withE l e1)) (g := dupErr (withE l e2)) _ _ 0 hlen fun j c c' h1 h2 => by
      unfold dupErr
      rw [hfi, (hat j c c' h1 h2).1],
    firstErr_ext (f := fun i _ => noneErr (withE l e1) i) (g := fun i _ => noneErr (withE l e2) i) _ _ 0 hlen fun j c c' _ _ => by
      unfold noneErr
      rw [hd],
    firstErr_ext (f := fun i _ => ringErr (withE l e1) i) (g := fun i _ => ringErr (withE l e2) i) _ _ 0 hlen fun j c c' _ _ => by
      unfold ringErr
      rw [hd, hlen]]
theorem okW_same {l : List Rule} {day : Int} {e1 e2 : Expr} (hn : namesE e1 = namesE e2) (hf : formE isName e1 1 0 = formE isName e2 1 0) : okW l day e1 = okW l day e2 := by
  unfold okW allF
  rw [with_same hn hf]
theorem mean_two {wd : Nat} {day : Int} {env : List UInt8 → Nat → Bool} (ea eb : Expr) : meanE wd day env (.mk 6 0 0 [] [ea, eb]) = orS (meanE wd day env ea) (meanE wd day env eb) ∧ meanE wd day env (.mk 7 0 0 [] [ea, eb]) = sansS (meanE wd day env ea) (meanE wd day env eb) ∧ meanE wd day env (.mk 8 0 0 [] [ea, eb]) = andS (meanE wd day env ea) (meanE wd day env eb) := ⟨rfl, rfl, rfl⟩
theorem form_two (k : Int) (hk : k = 6 ∨ k = 7 ∨ k = 8) (ea eb : Expr) : formE isName (.mk k 0 0 [] [ea, eb]) 1 0 = formE isName (.mk 6 0 0 [] [ea, eb]) 1 0 := by
  rcases hk with rfl | rfl | rfl <;> rfl

set_option maxRecDepth 100000 in
set_option maxHeartbeats 32000000 in
theorem MeanSets_true (v va vb : Value) (l : List Rule) (ea eb : Expr) (day : Int) (w : World) (hr : RulesIn w v l) (hea : ExprVal w w.heap.size va ea) (heb : ExprVal w w.heap.size vb eb) :
    Calls Try.prog 6 #[v, va, vb, .int .i64 day] w fun r w' => r = .returned (.bool true) ∧ Below w.heap.size w w' := by
  obtain ⟨wd, X, hX⟩ := ofX_exists l day
  obtain ⟨A, cap, rfl, hEA⟩ := EP.of hea
  obtain ⟨A2, cap2, rfl, hEB⟩ := EP.of heb
  unfold exprA
  clear hea heb
  have hC := Lib.hid hX.call
  have hAl := Lib.hid alive6
  have two6 : okW l day (.mk 6 0 0 [] [ea, eb]) = true → okW l day ea = true → okW l day eb = true → okW l day (.mk 7 0 0 [] [ea, eb]) = true ∧ okW l day (.mk 8 0 0 [] [ea, eb]) = true ∧ X (.mk 6 0 0 [] [ea, eb]) = orS (X ea) (X eb) ∧ X (.mk 7 0 0 [] [ea, eb]) = sansS (X ea) (X eb) ∧ X (.mk 8 0 0 [] [ea, eb]) = andS (X ea) (X eb) := fun h h1 h2 => by
    have o7 : okW l day (.mk 7 0 0 [] [ea, eb]) = true := (okW_same (l := l) (day := day) (e1 := .mk 7 0 0 [] [ea, eb]) (e2 := .mk 6 0 0 [] [ea, eb]) rfl (form_two 7 (.inr (.inl rfl)) ea eb)).trans h
    have o8 : okW l day (.mk 8 0 0 [] [ea, eb]) = true := (okW_same (l := l) (day := day) (e1 := .mk 8 0 0 [] [ea, eb]) (e2 := .mk 6 0 0 [] [ea, eb]) rfl (form_two 8 (.inr (.inr rfl)) ea eb)).trans h
    obtain ⟨env6, a1, a2⟩ := hX.env _ h
    obtain ⟨env7, b1, b2⟩ := hX.env _ o7
    obtain ⟨env8, c1, c2⟩ := hX.env _ o8
    exact ⟨o7, o8, by rw [a1, (mean_two ea eb).1, a2 ea h1, a2 eb h2], by rw [b1, (mean_two ea eb).2.1, b2 ea h1, b2 eb h2], by rw [c1, (mean_two ea eb).2.2, c2 ea h1, c2 eb h2]⟩
  have wk1 : okW l day (.mk 4 127 0 [] [ea]) = true → okW l day ea = true → X (.mk 4 127 0 [] [ea]) = X ea := fun h h1 => by
    obtain ⟨env, a1, a2⟩ := hX.env _ h
    have hd := okW_right h1
    have hwd := hX.wd hd.2.1
    have h6 : wd ≤ 6 := by
      have : Civ.weekI day = (day + 5) % 7 := rfl
      omega
    have hbit : (bits BinOp.and IntKind.i64 (127 / 2 ^ wd) 1 == 1) = true := by
      match wd, h6 with
      | 0, _ => rfl
      | 1, _ => rfl
      | 2, _ => rfl
      | 3, _ => rfl
      | 4, _ => rfl
      | 5, _ => rfl
      | 6, _ => rfl
    rw [a1, mean_week, hbit, if_pos rfl, a2 ea h1]
  have al1 : okW l day (.mk 7 0 0 [] [ea, .mk 2 0 0 [] []]) = true → okW l day ea = true → X (.mk 7 0 0 [] [ea, .mk 2 0 0 [] []]) = sansS (X ea) (inSpans [(0, 1440)]) := fun h h1 => by
    obtain ⟨env, a1, a2⟩ := hX.env _ h
    rw [a1, (mean_two ea _).2.1, a2 ea h1]
    rfl
  replace two6 := Lib.hid two6
  replace wk1 := Lib.hid wk1
  replace al1 := Lib.hid al1
  clear hX
  obtain ⟨b1, hb1⟩ : ∃ b, b = okW l day ea := ⟨_, rfl⟩
  obtain ⟨b2, hb2⟩ : ∃ b, b = okW l day eb := ⟨_, rfl⟩
  obtain ⟨b3, hb3⟩ : ∃ b, b = okW l day (.mk 6 0 0 [] [ea, eb]) := ⟨_, rfl⟩
  obtain ⟨b4, hb4⟩ : ∃ b, b = okW l day (.mk 7 0 0 [] [ea, eb]) := ⟨_, rfl⟩
  obtain ⟨b5, hb5⟩ : ∃ b, b = okW l day (.mk 8 0 0 [] [ea, eb]) := ⟨_, rfl⟩
  obtain ⟨b6, hb6⟩ : ∃ b, b = okW l day (.mk 4 127 0 [] [ea]) := ⟨_, rfl⟩
  obtain ⟨b7, hb7⟩ : ∃ b, b = okW l day (.mk 7 0 0 [] [ea, .mk 2 0 0 [] []]) := ⟨_, rfl⟩
  replace hb1 := Lib.hid hb1
  replace hb2 := Lib.hid hb2
  replace hb3 := Lib.hid hb3
  replace hb4 := Lib.hid hb4
  replace hb5 := Lib.hid hb5
  replace hb6 := Lib.hid hb6
  replace hb7 := Lib.hid hb7
  obtain ⟨A0, cap0, rfl⟩ : ∃ A c, v = .slice A l.length c := by
    obtain ⟨A, c, h, _⟩ := hr.at'
    exact ⟨A, c, h⟩
  obtain ⟨wA, hwA⟩ : ∃ W, W = (w.alloc (.cells #[.int .i64 ea.kind, .int .i64 ea.a, .int .i64 ea.b, strV ea.name, .slice A ea.kids.length cap] 38)).alloc (.cells #[.int .i64 eb.kind, .int .i64 eb.a, .int .i64 eb.b, strV eb.name, .slice A2 eb.kids.length cap2] 38) := ⟨_, rfl⟩
  have hbA : Below w.heap.size w wA := by rw [hwA]; exact ((Below.refl _ _).alloc (Nat.le_refl _) _).alloc (by simp) _
  have hzA : w.heap.size + 2 = wA.heap.size := by rw [hwA]; simp
  have BA : Blk wA w.heap.size 38 #[.int .i64 ea.kind, .int .i64 ea.a, .int .i64 ea.b, strV ea.name, .slice A ea.kids.length cap] := by rw [hwA]; exact (Blk.new w _ _).alloc _
  have BB : Blk wA (w.heap.size + 1) 38 #[.int .i64 eb.kind, .int .i64 eb.a, .int .i64 eb.b, strV eb.name, .slice A2 eb.kids.length cap2] := by
    have := Blk.new (w.alloc (.cells #[.int .i64 ea.kind, .int .i64 ea.a, .int .i64 ea.b, strV ea.name, .slice A ea.kids.length cap] 38)) 38 #[.int .i64 eb.kind, .int .i64 eb.a, .int .i64 eb.b, strV eb.name, .slice A2 eb.kids.length cap2]
    rw [World.size_alloc] at this
    rw [hwA]
    exact this
  have hF : ∀ W, Below wA.heap.size wA W → (W.cell? ⟨w.heap.size, 0, none⟩ = some (.int .i64 ea.kind) ∧ W.cell? ⟨w.heap.size, 1, none⟩ = some (.int .i64 ea.a) ∧ W.cell? ⟨w.heap.size, 2, none⟩ = some (.int .i64 ea.b) ∧ W.cell? ⟨w.heap.size, 3, none⟩ = some (strV ea.name) ∧ W.cell? ⟨w.heap.size, 4, none⟩ = some (.slice A ea.kids.length cap)) ∧ (W.cell? ⟨w.heap.size + 1, 0, none⟩ = some (.int .i64 eb.kind) ∧ W.cell? ⟨w.heap.size + 1, 1, none⟩ = some (.int .i64 eb.a) ∧ W.cell? ⟨w.heap.size + 1, 2, none⟩ = some (.int .i64 eb.b) ∧ W.cell? ⟨w.heap.size + 1, 3, none⟩ = some (strV eb.name) ∧ W.cell? ⟨w.heap.size + 1, 4, none⟩ = some (.slice A2 eb.kids.length cap2)) ∧ RulesIn W (.slice A0 l.length cap0) l ∧ EP W wA.heap.size ea A ∧ EP W wA.heap.size eb A2 ∧ wA.heap.size ≤ W.heap.size := fun W h =>
    ⟨(set_cells5 (BA.below h (by omega))).1, (set_cells5 (BB.below h (by omega))).1, (hr.below hbA (Nat.le_refl _)).below h (Nat.le_refl _), (hEA.below hbA (Nat.le_refl _) (by omega)).below h (Nat.le_refl _) (Nat.le_refl _), (hEB.below hbA (Nat.le_refl _) (by omega)).below h (Nat.le_refl _) (Nat.le_refl _), h.size⟩
  replace hF := Lib.hid hF
  have hzA1 : w.heap.size < wA.heap.size := by omega
  have hzA2 : w.heap.size + 1 < wA.heap.size := by omega
  replace hzA := Lib.hid hzA
  go_enter Try.func6, Try.ntmps6
  go_wp2_with fail
  rw [← hwA]
  replace hwA := Lib.hid hwA
  clear BA BB hEA hEB hr
  refine (hAl.out _).mono ?_
  rintro e1 w1 ⟨rfl, hw1⟩
  obtain ⟨⟨s0, s1, s2, s3, s4⟩, ⟨t0, t1, t2, t3, t4⟩, hR1, hE1, -, hz1⟩ := hF.out w1 hw1
  have c1 := Lib.hid (hC.out ea _ _ w1 hR1 ((hE1.below (Below.refl wA.heap.size w1) (Nat.le_refl _) hz1).val cap))
  rw [← hb1.out] at c1
  go_wp2_with fail
  refine c1.out.mono ?_
  rintro e2 w2 ⟨rfl, hw2⟩
  clear c1 hR1 hE1 s0 s1 s2 s3 s4 t0 t1 t2 t3 t4
  have hw2' : Below wA.heap.size wA w2 := hw1.trans (hw2.mono hz1)
  obtain ⟨f1, hf1⟩ : ∃ f, f = setW (X ea) := ⟨_, rfl⟩
  rw [← hf1]
  replace hf1 := Lib.hid hf1
  obtain ⟨⟨s0, s1, s2, s3, s4⟩, ⟨t0, t1, t2, t3, t4⟩, -, -, -, hz2⟩ := hF.out w2 hw2'
  have ne2a : ¬ w.heap.size = w2.heap.size := by omega
  have ne2b : ¬ w2.heap.size = w.heap.size := by omega
  have ne2c : ¬ w.heap.size + 1 = w2.heap.size := by omega
  have ne2d : ¬ w2.heap.size = w.heap.size + 1 := by omega
  have lt2a : w.heap.size < w2.heap.size := by omega
  have lt2b : w.heap.size + 1 < w2.heap.size := by omega
  obtain ⟨m2, hs2, zz2⟩ := stored w2 46 (fun _ => 0) f1
  go_wp2_with fail
  generalize (w2.alloc (.cells (maskA fun _ => 0) 46)).setRow w2.heap.size (maskA f1) = W2 at *
  have hW2 : Below wA.heap.size wA W2 := hw2'.trans (hs2.mono hz2)
  clear s0 s1 s2 s3 s4 t0 t1 t2 t3 t4 ne2a ne2b ne2c ne2d lt2a lt2b
  have k2_2 := m2
  obtain ⟨-, -, hR2, -, hB2, hZ2⟩ := hF.out W2 hW2
  have c2 := Lib.hid (hC.out eb _ _ W2 hR2 ((hB2.below (Below.refl wA.heap.size W2) (Nat.le_refl _) hZ2).val cap2))
  rw [← hb2.out] at c2
  refine c2.out.mono ?_
  rintro e3 w3 ⟨rfl, hw3⟩
  have hw3' : Below wA.heap.size wA w3 := hW2.trans (hw3.mono hZ2)
  have hx3 := hw3.size
  have k2_3w := (k2_2.below hw3 (by omega))
  clear c2 hR2 hB2
  obtain ⟨f2, hf2⟩ : ∃ f, f = setW (X eb) := ⟨_, rfl⟩
  rw [← hf2]
  replace hf2 := Lib.hid hf2
  obtain ⟨⟨s0, s1, s2, s3, s4⟩, ⟨t0, t1, t2, t3, t4⟩, -, -, -, hz3⟩ := hF.out w3 hw3'
  have ne3a : ¬ w.heap.size = w3.heap.size := by omega
  have ne3b : ¬ w3.heap.size = w.heap.size := by omega
  have ne3c : ¬ w.heap.size + 1 = w3.heap.size := by omega
  have ne3d : ¬ w3.heap.size = w.heap.size + 1 := by omega
  have lt3a : w.heap.size < w3.heap.size := by omega
  have lt3b : w.heap.size + 1 < w3.heap.size := by omega
  obtain ⟨m3, hs3, zz3⟩ := stored w3 46 (fun _ => 0) f2
  go_wp2_with fail
  generalize (w3.alloc (.cells (maskA fun _ => 0) 46)).setRow w3.heap.size (maskA f2) = W3 at *
  have hW3 : Below wA.heap.size wA W3 := hw3'.trans (hs3.mono hz3)
  clear s0 s1 s2 s3 s4 t0 t1 t2 t3 t4 ne3a ne3b ne3c ne3d lt3a lt3b
  have k2_3 := k2_3w.below hs3 (by omega)
  have k3_3 := m3
  obtain ⟨-, -, -, pa3, pb3, hZ3⟩ := hF.out W3 hW3
  refine (two_any 6 (by omega) (by omega) ea eb A A2 cap cap2 wA.heap.size W3 hZ3 pa3 pb3).mono ?_
  rintro e3t w3t ⟨⟨A3t, rfl, hE3t⟩, hw3t⟩
  have hw3t' : Below wA.heap.size wA w3t := hW3.trans (hw3t.mono hZ3)
  have hZ3t := hw3t.size
  have c3 := Lib.hid (hC.out (.mk 6 0 0 [] [ea, eb]) _ _ w3t (hF.out w3t hw3t').2.2.1 (hE3t.val 2))
  rw [← hb3.out] at c3
  have hx3 : exprA (.mk 6 0 0 [] [ea, eb]) A3t 2 = .agg #[.int .i64 6, .int .i64 0, .int .i64 0, .string ⟨#[]⟩, .slice A3t 2 2] := rfl
  rw [hx3] at c3 ⊢
  go_wp2_with fail
  refine c3.out.mono ?_
  rintro e4 w4 ⟨rfl, hw4⟩
  have hw4' : Below wA.heap.size wA w4 := hw3t'.trans (hw4.mono (by omega))
  have hx4 := hw4.size
  have k2_4w := ((k2_3.below hw3t (by omega)).below hw4 (by omega))
  have k3_4w := ((k3_3.below hw3t (by omega)).below hw4 (by omega))
  clear c3 hE3t pa3 pb3 hx3
  obtain ⟨f3, hf3⟩ : ∃ f, f = setW (X (.mk 6 0 0 [] [ea, eb])) := ⟨_, rfl⟩
  rw [← hf3]
  replace hf3 := Lib.hid hf3
  obtain ⟨⟨s0, s1, s2, s3, s4⟩, ⟨t0, t1, t2, t3, t4⟩, -, -, -, hz4⟩ := hF.out w4 hw4'
  have ne4a : ¬ w.heap.size = w4.heap.size := by omega
  have ne4b : ¬ w4.heap.size = w.heap.size := by omega
  have ne4c : ¬ w.heap.size + 1 = w4.heap.size := by omega
  have ne4d : ¬ w4.heap.size = w.heap.size + 1 := by omega
  have lt4a : w.heap.size < w4.heap.size := by omega
  have lt4b : w.heap.size + 1 < w4.heap.size := by omega
  obtain ⟨m4, hs4, zz4⟩ := stored w4 46 (fun _ => 0) f3
  have hend4 : Below w.heap.size w ((w4.alloc (.cells (maskA fun _ => 0) 46)).setRow w4.heap.size (maskA f3)) := hbA.trans ((hw4'.trans (hs4.mono hz4)).mono (by omega))
  by_cases hall : b1 = true ∧ b2 = true ∧ b3 = true
  case neg =>
    clear m4 hs4 zz4
    cases b1 <;> cases b2 <;> cases b3 <;> first
      | (exact absurd ⟨rfl, rfl, rfl⟩ hall)
      | (go_wp2
         go_ret
         exact ⟨rfl, hend4⟩)
  obtain ⟨rfl, rfl, rfl⟩ := hall
  obtain ⟨o7, o8, x6, x7, x8⟩ := two6.out hb3.out.symm hb1.out.symm hb2.out.symm
  obtain rfl : b4 = true := hb4.out.trans o7
  obtain rfl : b5 = true := hb5.out.trans o8
  clear o7 o8
  replace x6 := Lib.hid x6
  replace x7 := Lib.hid x7
  replace x8 := Lib.hid x8
  go_wp2_with fail
  generalize (w4.alloc (.cells (maskA fun _ => 0) 46)).setRow w4.heap.size (maskA f3) = W4 at *
  have hW4 : Below wA.heap.size wA W4 := hw4'.trans (hs4.mono hz4)
  clear s0 s1 s2 s3 s4 t0 t1 t2 t3 t4 ne4a ne4b ne4c ne4d lt4a lt4b
  have k2_4 := k2_4w.below hs4 (by omega)
  have k3_4 := k3_4w.below hs4 (by omega)
  have k4_4 := m4
  obtain ⟨-, -, -, pa4, pb4, hZ4⟩ := hF.out W4 hW4
  refine (two_any 7 (by omega) (by omega) ea eb A A2 cap cap2 wA.heap.size W4 hZ4 pa4 pb4).mono ?_
  rintro e4t w4t ⟨⟨A4t, rfl, hE4t⟩, hw4t⟩
  have hw4t' : Below wA.heap.size wA w4t := hW4.trans (hw4t.mono hZ4)
  have hZ4t := hw4t.size
  have c4 := Lib.hid (hC.out (.mk 7 0 0 [] [ea, eb]) _ _ w4t (hF.out w4t hw4t').2.2.1 (hE4t.val 2))
  rw [← hb4.out] at c4
  have hx4 : exprA (.mk 7 0 0 [] [ea, eb]) A4t 2 = .agg #[.int .i64 7, .int .i64 0, .int .i64 0, .string ⟨#[]⟩, .slice A4t 2 2] := rfl
  rw [hx4] at c4 ⊢
  go_wp2_with fail
  refine c4.out.mono ?_
  rintro e5 w5 ⟨rfl, hw5⟩
  have hw5' : Below wA.heap.size wA w5 := hw4t'.trans (hw5.mono (by omega))
  have hx5 := hw5.size
  have k2_5w := ((k2_4.below hw4t (by omega)).below hw5 (by omega))
  have k3_5w := ((k3_4.below hw4t (by omega)).below hw5 (by omega))
  have k4_5w := ((k4_4.below hw4t (by omega)).below hw5 (by omega))
  clear c4 hE4t pa4 pb4 hx4
  obtain ⟨f4, hf4⟩ : ∃ f, f = setW (X (.mk 7 0 0 [] [ea, eb])) := ⟨_, rfl⟩
  rw [← hf4]
  replace hf4 := Lib.hid hf4
  obtain ⟨⟨s0, s1, s2, s3, s4⟩, ⟨t0, t1, t2, t3, t4⟩, -, -, -, hz5⟩ := hF.out w5 hw5'
  have ne5a : ¬ w.heap.size = w5.heap.size := by omega
  have ne5b : ¬ w5.heap.size = w.heap.size := by omega
  have ne5c : ¬ w.heap.size + 1 = w5.heap.size := by omega
  have ne5d : ¬ w5.heap.size = w.heap.size + 1 := by omega
  have lt5a : w.heap.size < w5.heap.size := by omega
  have lt5b : w.heap.size + 1 < w5.heap.size := by omega
  obtain ⟨m5, hs5, zz5⟩ := stored w5 46 (fun _ => 0) f4
  go_wp2_with fail
  generalize (w5.alloc (.cells (maskA fun _ => 0) 46)).setRow w5.heap.size (maskA f4) = W5 at *
  have hW5 : Below wA.heap.size wA W5 := hw5'.trans (hs5.mono hz5)
  clear s0 s1 s2 s3 s4 t0 t1 t2 t3 t4 ne5a ne5b ne5c ne5d lt5a lt5b
  have k2_5 := k2_5w.below hs5 (by omega)
  have k3_5 := k3_5w.below hs5 (by omega)
  have k4_5 := k4_5w.below hs5 (by omega)
  have k5_5 := m5
  obtain ⟨-, -, -, pa5, pb5, hZ5⟩ := hF.out W5 hW5
  refine (two_any 8 (by omega) (by omega) ea eb A A2 cap cap2 wA.heap.size W5 hZ5 pa5 pb5).mono ?_
  rintro e5t w5t ⟨⟨A5t, rfl, hE5t⟩, hw5t⟩
  have hw5t' : Below wA.heap.size wA w5t := hW5.trans (hw5t.mono hZ5)
  have hZ5t := hw5t.size
  have c5 := Lib.hid (hC.out (.mk 8 0 0 [] [ea, eb]) _ _ w5t (hF.out w5t hw5t').2.2.1 (hE5t.val 2))
  rw [← hb5.out] at c5
  have hx5 : exprA (.mk 8 0 0 [] [ea, eb]) A5t 2 = .agg #[.int .i64 8, .int .i64 0, .int .i64 0, .string ⟨#[]⟩, .slice A5t 2 2] := rfl
  rw [hx5] at c5 ⊢
  go_wp2_with fail
  refine c5.out.mono ?_
  rintro e6 w6 ⟨rfl, hw6⟩
  have hw6' : Below wA.heap.size wA w6 := hw5t'.trans (hw6.mono (by omega))
  have hx6 := hw6.size
  have k2_6w := ((k2_5.below hw5t (by omega)).below hw6 (by omega))
  have k3_6w := ((k3_5.below hw5t (by omega)).below hw6 (by omega))
  have k4_6w := ((k4_5.below hw5t (by omega)).below hw6 (by omega))
  have k5_6w := ((k5_5.below hw5t (by omega)).below hw6 (by omega))
  clear c5 hE5t pa5 pb5 hx5
  obtain ⟨f5, hf5⟩ : ∃ f, f = setW (X (.mk 8 0 0 [] [ea, eb])) := ⟨_, rfl⟩
  rw [← hf5]
  replace hf5 := Lib.hid hf5
  obtain ⟨⟨s0, s1, s2, s3, s4⟩, ⟨t0, t1, t2, t3, t4⟩, -, -, -, hz6⟩ := hF.out w6 hw6'
  have ne6a : ¬ w.heap.size = w6.heap.size := by omega
  have ne6b : ¬ w6.heap.size = w.heap.size := by omega
  have ne6c : ¬ w.heap.size + 1 = w6.heap.size := by omega
  have ne6d : ¬ w6.heap.size = w.heap.size + 1 := by omega
  have lt6a : w.heap.size < w6.heap.size := by omega
  have lt6b : w.heap.size + 1 < w6.heap.size := by omega
  obtain ⟨m6, hs6, zz6⟩ := stored w6 46 (fun _ => 0) f5
  go_wp2_with fail
  generalize (w6.alloc (.cells (maskA fun _ => 0) 46)).setRow w6.heap.size (maskA f5) = W6 at *
  have hW6 : Below wA.heap.size wA W6 := hw6'.trans (hs6.mono hz6)
  clear s0 s1 s2 s3 s4 t0 t1 t2 t3 t4 ne6a ne6b ne6c ne6d lt6a lt6b
  have k2_6 := k2_6w.below hs6 (by omega)
  have k3_6 := k3_6w.below hs6 (by omega)
  have k4_6 := k4_6w.below hs6 (by omega)
  have k5_6 := k5_6w.below hs6 (by omega)
  have k6_6 := m6
  have hsame : ∀ (p q : Nat → Bool), (∀ i, i < 1440 → p i = q i) → sameW (setW p) (setW q) = true := fun p q h => by rw [sameW_set, sameS_all]; exact h
  have g3 : sameW f3 (setW fun i => has f1 i || has f2 i) = true := by
    rw [hf3.out, x6.out, hf1.out, hf2.out]
    exact hsame _ _ fun _ _ => rfl
  have g4 : sameW f4 (setW fun i => has f1 i && !has f2 i) = true := by
    rw [hf4.out, x7.out, hf1.out, hf2.out]
    exact hsame _ _ fun _ _ => rfl
  have g5 : sameW f5 (setW fun i => has f1 i && has f2 i) = true := by
    rw [hf5.out, x8.out, hf1.out, hf2.out]
    exact hsame _ _ fun _ _ => rfl
  have hUn := Lib.hid (fun W => show Calls Try.prog 24 #[.agg (maskA f1), .agg (maskA f2)] W (fun e w' => e = .returned (.agg (maskA (setW fun i => has f1 i || has f2 i))) ∧ Below W.heap.size W w') from by rw [hf1.out, hf2.out]; exact Union_any _ _ W (fun k _ => setW_lt _ k) (fun k _ => setW_lt _ k))
  have hDi := Lib.hid (fun W => show Calls Try.prog 25 #[.agg (maskA f1), .agg (maskA f2)] W (fun e w' => e = .returned (.agg (maskA (setW fun i => has f1 i && !has f2 i))) ∧ Below W.heap.size W w') from by rw [hf1.out, hf2.out]; exact Diff_any _ _ W (fun k _ => setW_lt _ k) (fun k _ => setW_lt _ k))
  have hBo := Lib.hid (fun W => show Calls Try.prog 26 #[.agg (maskA f1), .agg (maskA f2)] W (fun e w' => e = .returned (.agg (maskA (setW fun i => has f1 i && has f2 i))) ∧ Below W.heap.size W w') from by rw [hf1.out, hf2.out]; exact Both_any _ _ W (fun k _ => setW_lt _ k) (fun k _ => setW_lt _ k))
  generalize (setW fun i => has f1 i || has f2 i) = u3 at *
  generalize (setW fun i => has f1 i && !has f2 i) = u4 at *
  generalize (setW fun i => has f1 i && has f2 i) = u5 at *
  have cl : ∀ {W : World} {g : Nat} {f : Nat → Nat}, Blk W g 46 (maskA f) → cellsAt W g 0 23 = some (maskA f) := fun h => by have := h.cells; rwa [maskA_size] at this
  have l1 := cl k2_6
  have l2 := cl k3_6
  have l3 := cl k4_6
  have l4 := cl k5_6
  have l5 := cl k6_6
  have y1 : w2.heap.size < W6.heap.size := k2_6.lt
  have y2 : w3.heap.size < W6.heap.size := k3_6.lt
  have y3 : w4.heap.size < W6.heap.size := k4_6.lt
  have y4 : w5.heap.size < W6.heap.size := k5_6.lt
  have y5 : w6.heap.size < W6.heap.size := k6_6.lt
  refine wp_region_below (W6.heap.size) _ (Below.refl _ _) (by kernel_rfl) (by kernel_rfl) ?_
  repeat (go_big_quiet_step ((first | (go_at_call 24; exact quiet_below (Nat.le_refl _) (hUn.out _)) | (go_at_call 25; exact quiet_below (Nat.le_refl _) (hDi.out _)) | (go_at_call 26; exact quiet_below (Nat.le_refl _) (hBo.out _)))))
  refine wpQuiet_nil ?_
  rintro _ ⟨n7, rfl⟩
  have hn7 := n7.below
  have zn7 := n7.size
  have hz6' := hW6.size
  have hW7 : Below wA.heap.size wA n7.w := hW6.trans (hn7.mono hz6')
  have q2 := k2_6.after n7 y1
  clear l1 l2 l3 l4 l5 k2_6 k3_6 k4_6 k5_6 k6_6
  obtain ⟨⟨s0, s1, s2, s3, s4⟩, -, -, pa7, -, hZ7⟩ := hF.out n7.w hW7
  generalize n7.w = W7 at *
  go_wp2_with fail
  have ek7 := pa7.one (cap := cap) hZ7 (k := 4) (x := 127) (y := 0) (by omega) (by omega) 38
  have hk7 : Below W7.heap.size W7 (W7.alloc (.cells #[.int .i64 ea.kind, .int .i64 ea.a, .int .i64 ea.b, strV ea.name, .slice A ea.kids.length cap] 38)) := (Below.refl _ _).alloc (Nat.le_refl _) _
  obtain ⟨-, -, hR7, -, -, hY7⟩ := hF.out _ (hW7.trans (hk7.mono hZ7))
  have c7 := Lib.hid (hC.out (.mk 4 127 0 [] [ea]) _ _ _ hR7 (ek7.val 1))
  rw [← hb6.out] at c7
  have hx7 : exprA (.mk 4 127 0 [] [ea]) (some ⟨W7.heap.size, 0, none⟩) 1 = .agg #[.int .i64 4, .int .i64 127, .int .i64 0, .string ⟨#[]⟩, .slice (some ⟨W7.heap.size, 0, none⟩) 1 1] := rfl
  rw [hx7] at c7
  refine c7.out.mono ?_
  rintro e8 w8 ⟨rfl, hw8⟩
  have hw8' : Below wA.heap.size wA w8 := (hW7.trans (hk7.mono hZ7)).trans (hw8.mono hY7)
  have hx8 := hw8.size
  simp at hx8
  have yq2 := q2.lt
  have q2_8 := (q2.alloc (.cells #[.int .i64 ea.kind, .int .i64 ea.a, .int .i64 ea.b, strV ea.name, .slice A ea.kids.length cap] 38)).below hw8 (by simp; omega)
  clear c7 ek7 pa7 hR7 hx7 s0 s1 s2 s3 s4 q2
  obtain ⟨f6, hf6⟩ : ∃ f, f = setW (X (.mk 4 127 0 [] [ea])) := ⟨_, rfl⟩
  rw [← hf6]
  replace hf6 := Lib.hid hf6
  obtain ⟨⟨s0, s1, s2, s3, s4⟩, -, -, -, -, hz8⟩ := hF.out w8 hw8'
  have ne8a : ¬ w.heap.size = w8.heap.size := by omega
  have ne8b : ¬ w8.heap.size = w.heap.size := by omega
  have lt8a : w.heap.size < w8.heap.size := by omega
  obtain ⟨m8, hs8, zz8⟩ := stored w8 46 (fun _ => 0) f6
  go_wp2_with fail
  generalize (w8.alloc (.cells (maskA fun _ => 0) 46)).setRow w8.heap.size (maskA f6) = W8 at *
  have hW8 : Below wA.heap.size wA W8 := hw8'.trans (hs8.mono hz8)
  clear s0 s1 s2 s3 s4 ne8a ne8b lt8a
  have q2_8' := q2_8.below hs8 (by omega)
  obtain ⟨-, -, -, pa8, -, hZ8⟩ := hF.out W8 hW8
  refine (two_any 7 (by omega) (by omega) ea (.mk 2 0 0 [] []) A none cap 0 wA.heap.size W8 hZ8 pa8 (EP.leaf (by omega) (by omega))).mono ?_
  rintro e8t w8t ⟨⟨A8t, rfl, hE8t⟩, hw8t⟩
  have hw8t' : Below wA.heap.size wA w8t := hW8.trans (hw8t.mono hZ8)
  have hZ8t := hw8t.size
  have c8 := Lib.hid (hC.out (.mk 7 0 0 [] [ea, .mk 2 0 0 [] []]) _ _ w8t (hF.out w8t hw8t').2.2.1 (hE8t.val 2))
  rw [← hb7.out] at c8
  have hx9 : exprA (.mk 7 0 0 [] [ea, .mk 2 0 0 [] []]) A8t 2 = .agg #[.int .i64 7, .int .i64 0, .int .i64 0, .string ⟨#[]⟩, .slice A8t 2 2] := rfl
  rw [hx9] at c8 ⊢
  go_wp2_with fail
  refine c8.out.mono ?_
  rintro e9 w9 ⟨rfl, hw9⟩
  have hw9' : Below wA.heap.size wA w9 := hw8t'.trans (hw9.mono (by omega))
  have hx9' := hw9.size
  have r2_9 := (q2_8'.below hw8t (by omega)).below hw9 (by omega)
  have r8_9 := (m8.below hw8t (by omega)).below hw9 (by omega)
  clear c8 hE8t pa8 hx9
  obtain ⟨f7, hf7⟩ : ∃ f, f = setW (X (.mk 7 0 0 [] [ea, .mk 2 0 0 [] []])) := ⟨_, rfl⟩
  rw [← hf7]
  replace hf7 := Lib.hid hf7
  obtain ⟨m9, hs9, zz9⟩ := stored w9 46 (fun _ => 0) f7
  have hz9 := hw9'.size
  have hend9 : Below w.heap.size w ((w9.alloc (.cells (maskA fun _ => 0) 46)).setRow w9.heap.size (maskA f7)) := hbA.trans ((hw9'.trans (hs9.mono hz9)).mono (by omega))
  by_cases hall : b6 = true ∧ b7 = true
  case neg =>
    clear m9 hs9 zz9
    cases b6 <;> cases b7 <;> first
      | (exact absurd ⟨rfl, rfl⟩ hall)
      | (go_wp2
         go_ret
         exact ⟨rfl, hend9⟩)
  obtain ⟨rfl, rfl⟩ := hall
  have l1 := cl (r2_9.below hs9 (by omega))
  have l8 := cl (r8_9.below hs9 (by omega))
  have l9 := cl m9
  have g6 : sameW f6 f1 = true := by rw [hf6.out, wk1.out hb6.out.symm hb1.out.symm, hf1.out]; exact hsame _ _ fun _ _ => rfl
  have g7 : sameW f7 (fun _ => 0) = true := by
    rw [hf7.out, al1.out hb7.out.symm hb1.out.symm, ← setW_none]
    exact hsame _ _ fun i hi => by
      have h1 : has (setW (inSpans [(0, 1440)])) i = true := by rw [has_setW]; simp [inSpans, hi]; omega
      unfold sansS
      rw [h1]
      simp
  have y6 : w2.heap.size < w9.heap.size := r2_9.lt
  have y7 : w8.heap.size < w9.heap.size := r8_9.lt
  have y8 : ¬ w2.heap.size = w9.heap.size := by omega
  have y9 : ¬ w8.heap.size = w9.heap.size := by omega
  clear m9 hs9 zz9
  go_wp2
  go_ret
  exact ⟨rfl, hend9⟩

end Ru
end Go.Proofs.Ytfhedopfjgjffaa
