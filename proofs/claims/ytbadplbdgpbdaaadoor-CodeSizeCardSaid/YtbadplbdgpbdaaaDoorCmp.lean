/- What rules' code is, plainly: as it is emitted, one thing behind the other, and as it is put together from its parts. No walk. What the machine makes of the code of an expression: on each day what the expression means. No walk. How the code of an expression uses the stack: it is just so high, and takes just so many steps, as it says. No walk. All rules' code, plainly: there is such code; where it is not too much, the machine finds nothing wrong with it, and it is right. No walk. All rules' code: there is such; where none is too much, the machine finds nothing wrong with it, and leaves what the rules mean. No walk. How much code an expression makes at most. No walk. Compiling, plainly: whatever the order is in which rules are taken, behind those that they speak of. No walk. -/
import Derived.Test.YtbadplbdgpbdaaaDoorMea
import Derived.Test.YtbadplbdgpbdaaaDoorVmQ
namespace Go.Proofs.YtbadplbdgpbdaaaDoor
namespace Ru
open Msk Vm

mutual
/-- what an expression means on all days, if it hangs on none -/
def constE : Expr → Option (Nat → Bool)
  | .mk k a b _ kids => match constL kids with
    | none => none
    | some ms => if k = 4 ∨ k = 5 ∨ k = 10 then none else some (meanK 0 0 k a b noS ms)
def constL : List Expr → Option (List (Nat → Bool))
  | [] => some []
  | e :: l => match constE e with
    | none => none
    | some p => match constL l with
      | none => none
      | some ps => some (p :: ps)
end
theorem meanK_const {wd : Nat} {day k a b : Int} {p : Nat → Bool} {ms : List (Nat → Bool)} (h : ¬ (k = 4 ∨ k = 5 ∨ k = 10)) : meanK 0 0 k a b noS ms = meanK wd day k a b p ms := by
  have h4 : ¬ k = 4 := fun e => h (.inl e)
  have h5 : ¬ k = 5 := fun e => h (.inr (.inl e))
  have h10 : ¬ k = 10 := fun e => h (.inr (.inr e))
  unfold meanK
  simp only [if_neg h4, if_neg h5, if_neg h10]
mutual
/-- it means that on every day, whatever names stand for -/
theorem const_mean (wd : Nat) (day : Int) (env : List UInt8 → Nat → Bool) : ∀ (e : Expr) (p : Nat → Bool), constE e = some p → meanE wd day env e = p
  | .mk k a b nm kids, p, h => by
    rw [constE] at h
    cases hl : constL kids with
    | none => rw [hl] at h; cases h
    | some ms =>
      rw [hl] at h
      simp only at h
      split at h
      · cases h
      · rename_i hk
        rw [meanE, const_meanL wd day env kids ms hl, ← meanK_const hk]
        injection h
theorem const_meanL (wd : Nat) (day : Int) (env : List UInt8 → Nat → Bool) : ∀ (l : List Expr) (ps : List (Nat → Bool)), constL l = some ps → meanL wd day env l = ps
  | [], ps, h => by rw [constL] at h; cases h; rw [meanL]
  | e :: l, ps, h => by
    rw [constL] at h
    cases he : constE e with
    | none => rw [he] at h; cases h
    | some p =>
      rw [he] at h
      cases hl : constL l with
      | none => rw [hl] at h; cases h
      | some qs =>
        rw [hl] at h
        cases h
        rw [meanL, const_mean wd day env e p he, const_meanL wd day env l qs hl]
end
mutual
/-- it speaks of nothing -/
theorem const_names : ∀ (e : Expr), constE e ≠ none → namesE e = []
  | .mk k a b nm kids, h => by
    rw [constE] at h
    cases hl : constL kids with
    | none => rw [hl] at h; exact absurd rfl h
    | some ms =>
      rw [hl] at h
      simp only at h
      split at h
      · exact absurd rfl h
      · rename_i hk
        rw [namesE, if_neg (fun e => hk (.inr (.inr e))), const_namesL kids (by rw [hl]; simp)]
theorem const_namesL : ∀ (l : List Expr), constL l ≠ none → namesL l = []
  | [], _ => by rw [namesL]
  | e :: l, h => by
    rw [constL] at h
    cases he : constE e with
    | none => rw [he] at h; exact absurd rfl h
    | some p =>
      rw [he] at h
      cases hl : constL l with
      | none => rw [hl] at h; exact absurd rfl h
      | some qs => rw [namesL, const_names e (by rw [he]; simp), const_namesL l (by rw [hl]; simp)]; rfl
end

/-! ### emitted -/
def emitC (c : Vm.Code) (i : Vm.Ins) (high steps : Int) : Vm.Code := ⟨c.ins ++ [i], max c.high high, c.steps + steps⟩
def toI (t : Int) (i : Vm.Ins) : Vm.Ins := ⟨i.op, i.a, i.b, t, i.sp⟩
def setTo (k : Nat) (t : Int) (c : Vm.Code) : Vm.Code := ⟨c.ins.modify k (toI t), c.high, c.steps⟩
section
variable (spf : (Nat → Bool) → List (Int × Int)) (fi : List UInt8 → Int) (D : List UInt8 → Int × Int)
mutual
def codeE : Expr → Int → Vm.Code → Vm.Code
  | .mk k a b nm kids, high, c => match constE (.mk k a b nm kids) with
    | some p => emitC c ⟨1, 0, 0, 0, spf p⟩ (high + 1) 1
    | none =>
      if k = 4 ∨ k = 5 then
        setTo c.ins.length ((codeL kids high (emitC c ⟨if k = 4 then 6 else 7, a, if k = 4 then 0 else b, 0, []⟩ (high + 1) 1)).ins.length : Nat) (codeL kids high (emitC c ⟨if k = 4 then 6 else 7, a, if k = 4 then 0 else b, 0, []⟩ (high + 1) 1))
      else if k = 9 then emitC (codeL kids high c) ⟨5, a, 0, 0, []⟩ (high + 1) 1
      else if k = 10 then emitC c ⟨8, fi nm, 0, 0, []⟩ (high + (D nm).1) (1 + (D nm).2)
      else emitC (codeL kids high c) ⟨k - 4, 0, 0, 0, []⟩ (high + 2) 1
/-- one behind the other, each upon the one ahead of it -/
def codeL : List Expr → Int → Vm.Code → Vm.Code
  | [], _, c => c
  | e :: l, high, c => codeL l (high + 1) (codeE e high c)
end

/-! ### put together -/
def movI (by' : Int) (i : Vm.Ins) : Vm.Ins := if 0 < i.to then toI (i.to + by') i else i
def movL (by' : Int) (l : List Ins) : List Ins := l.map (movI by')
mutual
def partE : Expr → Vm.Code
  | .mk k a b nm kids => match constE (.mk k a b nm kids) with
    | some p => ⟨[⟨1, 0, 0, 0, spf p⟩], 1, 1⟩
    | none =>
      if k = 10 then ⟨[⟨8, fi nm, 0, 0, []⟩], max (D nm).1 0, 1 + (D nm).2⟩
      else if k = 4 ∨ k = 5 then ⟨⟨if k = 4 then 6 else 7, a, if k = 4 then 0 else b, (partL kids).ins.length + 1, []⟩ :: movL 1 (partL kids).ins, max 1 (partL kids).high, 1 + (partL kids).steps⟩
      else if k = 9 then ⟨(partL kids).ins ++ [⟨5, a, 0, 0, []⟩], max 1 (partL kids).high, 1 + (partL kids).steps⟩
      else ⟨(partL kids).ins ++ [⟨k - 4, 0, 0, 0, []⟩], max 2 (partL kids).high, 1 + (partL kids).steps⟩
/-- one behind the other, each upon the one ahead of it -/
def partL : List Expr → Vm.Code
  | [] => ⟨[], 0, 0⟩
  | [e] => partE e
  | e :: f :: l => ⟨(partE e).ins ++ movL (partE e).ins.length (partL (f :: l)).ins, max (partE e).high (1 + (partL (f :: l)).high), (partE e).steps + (partL (f :: l)).steps⟩
end
end

theorem toI_toI (a b : Int) (i : Vm.Ins) : toI a (toI b i) = toI a i := rfl
theorem movI_movI {a b : Int} (ha : 0 ≤ a) (i : Vm.Ins) : movI b (movI a i) = movI (a + b) i := by
  unfold movI
  by_cases h : 0 < i.to
  · rw [if_pos h, if_pos h]
    show (if 0 < i.to + a then toI (i.to + a + b) (toI (i.to + a) i) else toI (i.to + a) i) = _
    rw [if_pos (by omega), toI_toI, Int.add_assoc]
  · rw [if_neg h, if_neg h, if_neg h]
theorem movL_movL {a b : Int} (ha : 0 ≤ a) (l : List Ins) : movL b (movL a l) = movL (a + b) l := by
  unfold movL
  rw [List.map_map]
  exact List.map_congr_left fun i _ => movI_movI ha i
theorem movL_append (a : Int) (l m : List Ins) : movL a (l ++ m) = movL a l ++ movL a m := List.map_append
theorem movL_len (a : Int) (l : List Ins) : (movL a l).length = l.length := List.length_map _
theorem movI_zero (i : Vm.Ins) : movI 0 i = i := by
  unfold movI toI
  split
  · rw [Int.add_zero]
  · rfl
theorem movL_zero (l : List Ins) : movL 0 l = l := by
  unfold movL
  rw [List.map_congr_left (fun i _ => movI_zero i), List.map_id']
theorem modify_mid {α : Type} (l : List α) (x : α) (m : List α) (f : α → α) : (l ++ x :: m).modify l.length f = l ++ f x :: m := by
  induction l with
  | nil => rfl
  | cons y l ih => rw [List.cons_append, List.length_cons, List.modify_succ_cons, ih]; rfl

section
variable {spf : (Nat → Bool) → List (Int × Int)} {fi : List UInt8 → Int} {D : List UInt8 → Int × Int}
mutual
/-- what hangs on a day has kids, or is a name -/
def wfE : Expr → Prop
  | .mk k a b nm kids => (constE (.mk k a b nm kids) = none → k ≠ 10 → kids ≠ []) ∧ wfL kids
def wfL : List Expr → Prop
  | [] => True
  | e :: l => wfE e ∧ wfL l
end
/-- both are the same -/
def SameC (c : Vm.Code) (high : Int) (p c' : Vm.Code) : Prop := c'.ins = c.ins ++ movL c.ins.length p.ins ∧ c'.high = max c.high (high + p.high) ∧ c'.steps = c.steps + p.steps
mutual
theorem code_part (hD : ∀ nm, 0 ≤ (D nm).1) : ∀ (e : Expr) (high : Int) (c : Vm.Code), wfE e → SameC c high (partE spf fi D e) (codeE spf fi D e high c)
  | .mk k a b nm kids, high, c, hw => by
    rw [wfE] at hw
    rw [partE, codeE]
    cases hc : constE (.mk k a b nm kids) with
    | some p => exact ⟨rfl, rfl, rfl⟩
    | none =>
      have hne := hw.1 hc
      by_cases h45 : k = 4 ∨ k = 5
      · have h10 : ¬ k = 10 := by omega
        simp only [if_pos h45, if_neg h10]
        obtain ⟨x, hx⟩ : ∃ x : Vm.Ins, x = ⟨if k = 4 then 6 else 7, a, if k = 4 then 0 else b, 0, []⟩ := ⟨_, rfl⟩
        have hxx : (⟨if k = 4 then 6 else 7, a, if k = 4 then 0 else b, ((partL spf fi D kids).ins.length : Int) + 1, []⟩ : Vm.Ins) = toI (((partL spf fi D kids).ins.length : Int) + 1) x := by rw [hx]; rfl
        rw [← hx, hxx]
        clear hx hxx
        obtain ⟨i1, i2, i3⟩ := code_partL hD kids high (emitC c x (high + 1) 1) hw.2 (hne h10)
        generalize codeL spf fi D kids high (emitC c x (high + 1) 1) = c2 at *
        generalize partL spf fi D kids = p at *
        have e1 : (emitC c x (high + 1) 1).ins = c.ins ++ [x] := rfl
        have e2 : (emitC c x (high + 1) 1).high = max c.high (high + 1) := rfl
        have e3 : (emitC c x (high + 1) 1).steps = c.steps + 1 := rfl
        rw [e1] at i1
        rw [e2] at i2
        rw [e3] at i3
        refine ⟨?_, ?_, ?_⟩
        · show c2.ins.modify c.ins.length (toI ((c2.ins.length : Nat) : Int)) = _
          have hl : c2.ins.length = c.ins.length + (p.ins.length + 1) := by rw [i1, List.length_append, List.length_append, movL_len]; simp; omega
          rw [hl, i1, List.append_assoc]
          show (c.ins ++ x :: movL _ p.ins).modify _ _ = _
          rw [modify_mid]
          show _ = c.ins ++ movI _ (toI _ x) :: movL _ (movL 1 p.ins)
          rw [movL_movL (by omega)]
          have : movI (c.ins.length : Int) (toI ((p.ins.length : Int) + 1) x) = toI (((c.ins.length + (p.ins.length + 1) : Nat)) : Int) x := by
            have e5 : (toI ((p.ins.length : Int) + 1) x).to = (p.ins.length : Int) + 1 := rfl
            unfold movI
            rw [e5, if_pos (by omega), toI_toI]
            congr 1
            omega
          rw [this]
          have e4 : ((c.ins ++ [x]).length : Int) = 1 + (c.ins.length : Int) := by simp; omega
          rw [e4]
        · show c2.high = max c.high (high + max 1 p.high)
          rw [i2]
          omega
        · show c2.steps = c.steps + (1 + p.steps)
          rw [i3]
          omega
      · simp only [if_neg h45]
        by_cases h10 : k = 10
        · have h9 : ¬ k = 9 := by omega
          simp only [if_pos h10, if_neg h9]
          refine ⟨rfl, ?_, rfl⟩
          have := hD nm
          show max c.high (high + (D nm).1) = max c.high (high + max (D nm).1 0)
          rw [Int.max_eq_left this]
        · simp only [if_neg h10]
          obtain ⟨i1, i2, i3⟩ := code_partL hD kids high c hw.2 (hne h10)
          generalize codeL spf fi D kids high c = c2 at *
          generalize partL spf fi D kids = p at *
          by_cases h9 : k = 9
          · simp only [if_pos h9]
            refine ⟨?_, ?_, ?_⟩
            · show c2.ins ++ _ = _
              rw [i1, movL_append, List.append_assoc]
              rfl
            · show max c2.high (high + 1) = max c.high (high + max 1 p.high)
              rw [i2]
              omega
            · show c2.steps + 1 = c.steps + (1 + p.steps)
              rw [i3]
              omega
          · simp only [if_neg h9]
            refine ⟨?_, ?_, ?_⟩
            · show c2.ins ++ _ = _
              rw [i1, movL_append, List.append_assoc]
              rfl
            · show max c2.high (high + 2) = max c.high (high + max 2 p.high)
              rw [i2]
              omega
            · show c2.steps + 1 = c.steps + (1 + p.steps)
              rw [i3]
              omega
theorem code_partL (hD : ∀ nm, 0 ≤ (D nm).1) : ∀ (l : List Expr) (high : Int) (c : Vm.Code), wfL l → l ≠ [] → SameC c high (partL spf fi D l) (codeL spf fi D l high c)
  | [], _, _, _, h => absurd rfl h
  | [e], high, c, hw, _ => by
    rw [wfL] at hw
    rw [partL, codeL, codeL]
    exact code_part hD e high c hw.1
  | e :: f :: l, high, c, hw, _ => by
    rw [wfL] at hw
    rw [partL, codeL]
    obtain ⟨i1, i2, i3⟩ := code_part hD e high c hw.1
    obtain ⟨j1, j2, j3⟩ := code_partL hD (f :: l) (high + 1) (codeE spf fi D e high c) hw.2 (by simp)
    generalize codeL spf fi D (f :: l) (high + 1) (codeE spf fi D e high c) = c3 at *
    generalize codeE spf fi D e high c = c2 at *
    generalize partL spf fi D (f :: l) = q at *
    generalize partE spf fi D e = p at *
    refine ⟨?_, ?_, ?_⟩
    · show c3.ins = c.ins ++ movL _ (p.ins ++ movL _ q.ins)
      rw [j1, i1, movL_append, movL_movL (by omega), List.append_assoc]
      congr 2
      rw [List.length_append, movL_len]
      congr 1
      omega
    · show c3.high = max c.high (high + max p.high (1 + q.high))
      rw [j2, i2]
      omega
    · show c3.steps = c.steps + (p.steps + q.steps)
      rw [j3, i3]
      omega
end
end

end Ru
end Go.Proofs.YtbadplbdgpbdaaaDoor

namespace Go.Proofs.YtbadplbdgpbdaaaDoor
namespace Ru
open Msk Vm

section
variable (nm0 : List UInt8 → Bool)
mutual
/-- right but for how much it is -/
def okE : Expr → Prop
  | .mk k a b nm kids => ownErr nm0 (.mk k a b nm kids) = 0 ∧ okL kids
def okL : List Expr → Prop
  | [] => True
  | e :: l => okE e ∧ okL l
end
end
section
variable {nm0 : List UInt8 → Bool}
theorem own_kind {k a b : Int} {nm : List UInt8} {kids : List Expr} (h : ownErr nm0 (.mk k a b nm kids) = 0) : 1 ≤ k ∧ k ≤ 10 ∧ kids.length = kidsOf k := by
  rw [ownErr_mk] at h
  split at h
  · cases h
  · split at h
    · cases h
    · omega
mutual
theorem form_okE : ∀ (e : Expr) (deep n : Nat), (formE nm0 e deep n).1 = 0 → okE nm0 e
  | .mk k a b nm kids, deep, n, h => by
    rw [formE] at h
    rw [okE]
    split at h
    · cases h
    · split at h
      · rename_i ho; exact ⟨ho, form_okL kids _ _ h⟩
      · rename_i ho; exact absurd h ho
theorem form_okL : ∀ (l : List Expr) (deep n : Nat), (formL nm0 l deep n).1 = 0 → okL nm0 l
  | [], _, _, _ => by rw [okL]; trivial
  | e :: l, deep, n, h => by
    rw [formL] at h
    rw [okL]
    split at h
    · rename_i h0; exact ⟨form_okE e _ _ h0, form_okL l _ _ h⟩
    · rename_i h0; exact absurd h h0
end
theorem const_leaf {k a b : Int} {nm : List UInt8} (h : ¬ (k = 4 ∨ k = 5 ∨ k = 10)) : constE (.mk k a b nm []) ≠ none := by
  rw [constE, constL]
  simp only [if_neg h]
  simp
mutual
theorem ok_wf : ∀ (e : Expr), okE nm0 e → wfE e
  | .mk k a b nm kids, h => by
    rw [okE] at h
    rw [wfE]
    refine ⟨fun hc h10 hk => ?_, ok_wfL kids h.2⟩
    obtain ⟨h1, h2, h3⟩ := own_kind h.1
    subst hk
    refine const_leaf (k := k) (a := a) (b := b) (nm := nm) (fun h45 => ?_) hc
    unfold kidsOf at h3
    rcases h45 with rfl | rfl | rfl
    · cases h3
    · cases h3
    · exact h10 rfl
theorem ok_wfL : ∀ (l : List Expr), okL nm0 l → wfL l
  | [], _ => by rw [wfL]; trivial
  | e :: l, h => by
    rw [okL] at h
    rw [wfL]
    exact ⟨ok_wf e h.1, ok_wfL l h.2⟩
end
end

theorem eq_has {p q : Nat → Bool} (h : setW p = setW q) : has (setW p) = has (setW q) := by rw [h]
section
variable {spf : (Nat → Bool) → List (Int × Int)} {fi : List UInt8 → Int} {D : List UInt8 → Int × Int} {nm0 : List UInt8 → Bool}
/-- the code lies at a place -/
def Lies (code : List Vm.Ins) (base : Nat) (l : List Vm.Ins) : Prop := ∀ q x, (movL base l)[q]? = some x → code[base + q]? = some x
theorem Lies.left {code : List Vm.Ins} {base : Nat} {l m : List Vm.Ins} (h : Lies code base (l ++ m)) : Lies code base l := fun q x hx => h q x (by
  rw [movL_append, List.getElem?_append_left (List.getElem?_eq_some_iff.1 hx).1]; exact hx)
theorem Lies.right {code : List Vm.Ins} {base : Nat} {l m : List Vm.Ins} (h : Lies code base (l ++ movL l.length m)) : Lies code (base + l.length) m := fun q x hx => by
  have := h (l.length + q) x (by
    rw [movL_append, movL_movL (by omega), List.getElem?_append_right (by rw [movL_len]; omega), movL_len, show l.length + q - l.length = q by omega]
    rw [show ((l.length : Int) + base) = ((base + l.length : Nat) : Int) by omega]
    exact hx)
  rwa [Nat.add_assoc]
theorem Lies.last {code : List Vm.Ins} {base : Nat} {l : List Vm.Ins} {x : Vm.Ins} (h : Lies code base (l ++ [x])) (hx : x.to = 0) : code[base + l.length]? = some x := h l.length x (by
  rw [movL_append, List.getElem?_append_right (by rw [movL_len]; omega), movL_len, Nat.sub_self]
  show some (movI base x) = _
  unfold movI
  rw [hx, if_neg (by omega)])
theorem Lies.head {code : List Vm.Ins} {base : Nat} {l : List Vm.Ins} {x : Vm.Ins} (h : Lies code base (x :: movL 1 l)) : code[base]? = some (movI base x) ∧ Lies code (base + 1) l := by
  refine ⟨h 0 _ rfl, fun q y hy => ?_⟩
  have := h (q + 1) y (by
    show (movL base (movL 1 l))[q]? = _
    rw [movL_movL (by omega), show ((1 : Int) + base) = ((base + 1 : Nat) : Int) by omega]
    exact hy)
  rwa [show base + 1 + q = base + (q + 1) by omega]
variable {wd : Nat} {day : Int} {env : List UInt8 → Nat → Bool} {call : Int → Option ((Nat → Bool) × Nat)} {code : List Vm.Ins}
theorem next8 {a : Int} {i : Nat} {st : List (Nat → Bool)} : nextI wd day call ⟨8, a, 0, 0, []⟩ i st = match call a with | some (m, n) => some (i + 1, m :: st, n + 1) | none => none := by
  unfold nextI
  rw [if_neg (show ¬ (8 : Int) = 1 by decide), if_neg (show ¬ (8 : Int) = 2 by decide), if_neg (show ¬ (8 : Int) = 3 by decide), if_neg (show ¬ (8 : Int) = 4 by decide), if_neg (show ¬ (8 : Int) = 5 by decide), if_pos (show (8 : Int) = 8 by decide)]
  rfl
theorem next5 {a : Int} {i : Nat} {q : Nat → Bool} {st : List (Nat → Bool)} : nextI wd day call ⟨5, a, 0, 0, []⟩ i (q :: st) = some (i + 1, shS (has (setW q)) a :: st, 1) := by
  unfold nextI
  rw [if_neg (show ¬ (5 : Int) = 1 by decide), if_neg (show ¬ (5 : Int) = 2 by decide), if_neg (show ¬ (5 : Int) = 3 by decide), if_neg (show ¬ (5 : Int) = 4 by decide), if_pos (show (5 : Int) = 5 by decide)]
theorem nextG {x : Vm.Ins} (hx : x.op = 6 ∨ x.op = 7) {i : Nat} {st : List (Nat → Bool)} : nextI wd day call x i st = if goesI wd day x = true then some (i + 1, st, 1) else some (x.to.toNat, noS :: st, 1) := by
  unfold nextI
  rw [if_neg (by omega), if_neg (by omega), if_neg (by omega), if_neg (by omega), if_neg (by omega), if_neg (by omega)]
theorem run_step {k i : Nat} {st : List (Nat → Bool)} {n : Nat} {x : Vm.Ins} (h : code[i]? = some x) {i' n' : Nat} {st' : List (Nat → Bool)} (hn : nextI wd day call x i st = some (i', st', n')) : runIns wd day call code (k + 1) i st n = runIns wd day call code k i' st' (n + n') := by
  rw [runIns, h]
  simp only
  rw [hn]
/-- it goes from one place to another one, with masks upon the stack -/
def Goes (wd : Nat) (day : Int) (call : Int → Option ((Nat → Bool) × Nat)) (code : List Vm.Ins) (i len : Nat) (ms : List (Nat → Bool)) (steps : Int) : Prop :=
  ∀ (k : Nat) (st : List (Nat → Bool)) (n : Nat), len ≤ k → ∃ (qs : List (Nat → Bool)) (k' n' : Nat), qs.map setW = ms.map setW ∧ k ≤ k' + len ∧ runIns wd day call code k i st n = runIns wd day call code k' (i + len) (qs ++ st) (n + n') ∧ 1 ≤ n' ∧ (n' : Int) ≤ steps
theorem Goes.one {i : Nat} {x : Vm.Ins} (h : code[i]? = some x) {m p : Nat → Bool} {n' : Nat} {steps : Int} (hn : ∀ st, nextI wd day call x i st = some (i + 1, m :: st, n')) (hm : setW m = setW p) (h1 : 1 ≤ n') (h2 : (n' : Int) ≤ steps) : Goes wd day call code i 1 [p] steps := fun k st n hk => by
  obtain ⟨k, rfl⟩ : ∃ j, k = j + 1 := ⟨k - 1, by omega⟩
  exact ⟨[m], k, n', by simp [hm], by omega, run_step h (hn st), h1, h2⟩
theorem Goes.then {i a b : Nat} {ms ns : List (Nat → Bool)} {s t : Int} (h : Goes wd day call code i a ms s) (h2 : Goes wd day call code (i + a) b ns t) : Goes wd day call code i (a + b) (ns ++ ms) (s + t) := fun k st n hk => by
  obtain ⟨q1, k1, n1, e1, l1, r1, p1, u1⟩ := h k st n (by omega)
  obtain ⟨q2, k2, n2, e2, l2, r2, p2, u2⟩ := h2 k1 (q1 ++ st) (n + n1) (by omega)
  exact ⟨q2 ++ q1, k2, n1 + n2, by rw [List.map_append, List.map_append, e1, e2], by omega, by rw [r1, r2, List.append_assoc, Nat.add_assoc, Nat.add_assoc], by omega, by omega⟩
/-- .. and an instruction that takes what came -/
theorem Goes.take {i a : Nat} {ms : List (Nat → Bool)} {s : Int} (h : Goes wd day call code i a ms s) {x : Vm.Ins} (hx : code[i + a]? = some x) {p : Nat → Bool} (hn : ∀ qs st, qs.map setW = ms.map setW → ∃ m, nextI wd day call x (i + a) (qs ++ st) = some (i + a + 1, m :: st, 1) ∧ setW m = setW p) : Goes wd day call code i (a + 1) [p] (1 + s) := fun k st n hk => by
  obtain ⟨q1, k1, n1, e1, l1, r1, p1, u1⟩ := h k st n (by omega)
  obtain ⟨m, h1, h2⟩ := hn q1 st e1
  obtain ⟨k1, rfl⟩ : ∃ j, k1 = j + 1 := ⟨k1 - 1, by omega⟩
  exact ⟨[m], k1, n1 + 1, by simp [h2], by omega, by rw [r1, run_step hx h1]; rfl, by omega, by omega⟩

theorem map1 {qs : List (Nat → Bool)} {a : Nat → Bool} (h : qs.map setW = [a].map setW) : ∃ q, qs = [q] ∧ setW q = setW a := by
  have hl : qs.length = 1 := by have := congrArg List.length h; simpa using this
  obtain ⟨q, rfl⟩ := List.length_eq_one_iff.1 hl
  rw [List.map_cons, List.map_cons, List.cons.injEq] at h
  exact ⟨q, rfl, h.1⟩
theorem map2 {qs : List (Nat → Bool)} {a b : Nat → Bool} (h : qs.map setW = [b, a].map setW) : ∃ q1 q2, qs = [q2, q1] ∧ setW q2 = setW b ∧ setW q1 = setW a := by
  cases qs with
  | nil => have := congrArg List.length h; simp at this
  | cons q2 t =>
    rw [List.map_cons, List.map_cons, List.cons.injEq] at h
    obtain ⟨q1, rfl, h1⟩ := map1 h.2
    exact ⟨q1, q2, rfl, h.1, h1⟩
/-- what the kids mean, the last one first -/
def revL (wd : Nat) (day : Int) (env : List UInt8 → Nat → Bool) (l : List Expr) : List (Nat → Bool) := (meanL wd day env l).reverse
mutual
theorem run_part (hsp : ∀ p, setW (inSpans (spf p)) = setW p) : ∀ (e : Expr) (base : Nat), okE nm0 e → (∀ nm ∈ namesE e, ∃ m n, call (fi nm) = some (m, n) ∧ setW m = setW (env nm) ∧ (n : Int) ≤ (D nm).2) → Lies code base (partE spf fi D e).ins → Goes wd day call code base (partE spf fi D e).ins.length [meanE wd day env e] (partE spf fi D e).steps
  | .mk k a b nm kids, base, ho, hnm, hl => by
    have ho' := ho
    rw [okE] at ho
    obtain ⟨k1, k2, k3⟩ := own_kind ho.1
    have hown := ho.1
    rw [partE] at hl ⊢
    cases hc : constE (.mk k a b nm kids) with
    | some p =>
      rw [hc] at hl
      have hm := const_mean wd day env _ p hc
      rw [hm]
      have hx : code[base]? = some ⟨1, 0, 0, 0, spf p⟩ := hl 0 _ rfl
      exact Goes.one hx (m := inSpans (spf p)) (n' := 1) (fun st => by unfold nextI; rw [if_pos rfl]) (hsp p) (by omega) (by show ((1 : Nat) : Int) ≤ 1; omega)
    | none =>
      rw [hc] at hl
      simp only at hl ⊢
      rw [meanE]
      by_cases h10 : k = 10
      · simp only [if_pos h10] at hl ⊢
        have hx : code[base]? = some ⟨8, fi nm, 0, 0, []⟩ := hl 0 _ rfl
        rw [namesE, if_pos h10] at hnm
        obtain ⟨m, n, c1, c2, c3⟩ := hnm nm (by simp)
        rw [h10, meanK_ten]
        refine Goes.one hx (m := m) (n' := n + 1) (fun st => ?_) c2 (by omega) (by show ((n + 1 : Nat) : Int) ≤ 1 + (D nm).2; omega)
        rw [next8, c1]
      · rw [namesE, if_neg h10] at hnm
        simp only [if_neg h10] at hl ⊢
        have hne : kids ≠ [] := by
          intro hk
          have := (ok_wf _ ho')
          rw [wfE] at this
          exact this.1 hc h10 hk
        by_cases h45 : k = 4 ∨ k = 5
        · simp only [if_pos h45] at hl ⊢
          have hlen : kids.length = 1 := by rw [k3]; unfold kidsOf; rw [if_pos (by omega)]
          obtain ⟨kid, hkid⟩ : ∃ e, kids = [e] := by
            match kids, hlen with
            | [e], _ => exact ⟨e, rfl⟩
          obtain ⟨hx, hl2⟩ := hl.head
          have ih := run_partL hsp kids (base + 1) ho.2 hne hnm hl2
          subst hkid
          obtain ⟨x, hxx⟩ : ∃ x : Vm.Ins, x = movI base ⟨if k = 4 then 6 else 7, a, if k = 4 then 0 else b, ((partL spf fi D [kid]).ins.length : Int) + 1, []⟩ := ⟨_, rfl⟩
          rw [← hxx] at hx
          have hxe : x = ⟨if k = 4 then 6 else 7, a, if k = 4 then 0 else b, ((partL spf fi D [kid]).ins.length : Int) + 1 + base, []⟩ := by
            rw [hxx]
            unfold movI
            rw [if_pos (show 0 < ((partL spf fi D [kid]).ins.length : Int) + 1 by omega)]
            rfl
          have hop : x.op = 6 ∨ x.op = 7 := by
            rw [hxe]
            show (if k = 4 then (6 : Int) else 7) = 6 ∨ (if k = 4 then (6 : Int) else 7) = 7
            split
            · exact .inl rfl
            · exact .inr rfl
          have hmean : meanK wd day k a b (env nm) (meanL wd day env [kid]) = if goesI wd day x = true then meanE wd day env kid else noS := by
            rw [hxe, meanL, meanL]
            unfold meanK goesI
            rcases h45 with rfl | rfl
            · rw [if_neg (by decide), if_neg (by decide), if_pos rfl]
              simp only [if_true]
              rfl
            · rw [if_neg (by decide), if_neg (by decide), if_neg (by decide), if_pos rfl]
              rw [if_neg (show ¬ (5 : Int) = 4 by decide), if_neg (show ¬ (7 : Int) = 6 by decide), if_neg (show ¬ (5 : Int) = 4 by decide)]
              rfl
          rw [hmean]
          intro K st n hk
          rw [List.length_cons, movL_len] at hk ⊢
          obtain ⟨K, rfl⟩ : ∃ j, K = j + 1 := ⟨K - 1, by omega⟩
          by_cases hg : goesI wd day x = true
          · obtain ⟨qs, k', n', e1, l1, r1, p1, u1⟩ := ih K st (n + 1) (by omega)
            rw [if_pos hg]
            refine ⟨qs, k', n' + 1, ?_, by omega, ?_, by omega, by omega⟩
            · rw [e1]; unfold revL; rw [meanL, meanL]; rfl
            · rw [run_step hx (by rw [nextG hop, if_pos hg]), r1, show base + 1 + (partL spf fi D [kid]).ins.length = base + ((partL spf fi D [kid]).ins.length + 1) by omega, show n + 1 + n' = n + (n' + 1) by omega]
          · rw [if_neg hg]
            have hpos : 0 ≤ (partL spf fi D [kid]).steps := by
              obtain ⟨_, _, n', _, _, _, _, u1⟩ := ih (partL spf fi D [kid]).ins.length [] 0 (Nat.le_refl _)
              omega
            refine ⟨[noS], K, 1, rfl, by omega, ?_, by omega, by omega⟩
            rw [run_step hx (by rw [nextG hop, if_neg hg])]
            have hto : x.to.toNat = base + ((partL spf fi D [kid]).ins.length + 1) := by
              rw [hxe]
              show (((partL spf fi D [kid]).ins.length : Int) + 1 + base).toNat = _
              omega
            rw [hto]
            rfl
        · simp only [if_neg h45] at hl ⊢
          have hkk : k = 9 ∨ k = 6 ∨ k = 7 ∨ k = 8 ∨ k = 1 ∨ k = 2 ∨ k = 3 := by omega
          by_cases h9 : k = 9
          · simp only [if_pos h9] at hl ⊢
            have ih := run_partL hsp kids base ho.2 hne hnm hl.left
            have hx := hl.last rfl
            have hlen : kids.length = 1 := by rw [k3]; unfold kidsOf; rw [if_pos (by omega)]
            obtain ⟨kid, hkid⟩ : ∃ e, kids = [e] := by
              match kids, hlen with
              | [e], _ => exact ⟨e, rfl⟩
            subst hkid
            rw [List.length_append]
            refine ih.take hx fun qs st hq => ?_
            unfold revL at hq
            rw [meanL, meanL] at hq ⊢
            obtain ⟨q, rfl, e1⟩ := map1 (a := meanE wd day env kid) hq
            refine ⟨_, next5, ?_⟩
            rw [e1, h9]
            rfl
          · simp only [if_neg h9] at hl ⊢
            have ih := run_partL hsp kids base ho.2 hne hnm hl.left
            have hx := hl.last rfl
            have hk6 : k = 6 ∨ k = 7 ∨ k = 8 := by
              rcases hkk with h | h | h | h | h | h | h
              · exact absurd h h9
              · exact .inl h
              · exact .inr (.inl h)
              · exact .inr (.inr h)
              · exact absurd (List.length_eq_zero_iff.1 (by rw [k3, h]; rfl)) hne
              · exact absurd (List.length_eq_zero_iff.1 (by rw [k3, h]; rfl)) hne
              · exact absurd (List.length_eq_zero_iff.1 (by rw [k3, h]; rfl)) hne
            have hlen : kids.length = 2 := by rw [k3]; unfold kidsOf; rw [if_neg (by omega), if_pos (by omega)]
            obtain ⟨e1, e2, hkid⟩ : ∃ e f, kids = [e, f] := by
              match kids, hlen with
              | [e, f], _ => exact ⟨e, f, rfl⟩
            subst hkid
            rw [List.length_append]
            refine ih.take hx fun qs st hq => ?_
            unfold revL at hq
            rw [meanL, meanL, meanL] at hq ⊢
            obtain ⟨q1, q2, rfl, hq2, hq1⟩ := map2 (a := meanE wd day env e1) (b := meanE wd day env e2) hq
            rcases hk6 with h | h | h
            · subst h
              refine ⟨orS q1 q2, rfl, ?_⟩
              show setW (orS q1 q2) = setW (orS (meanE wd day env e1) (meanE wd day env e2))
              unfold orS
              rw [hq2, hq1]
            · subst h
              refine ⟨sansS q1 q2, rfl, ?_⟩
              show setW (sansS q1 q2) = setW (sansS (meanE wd day env e1) (meanE wd day env e2))
              unfold sansS
              rw [hq2, hq1]
            · subst h
              refine ⟨andS q1 q2, rfl, ?_⟩
              show setW (andS q1 q2) = setW (andS (meanE wd day env e1) (meanE wd day env e2))
              unfold andS
              rw [hq2, hq1]
theorem run_partL (hsp : ∀ p, setW (inSpans (spf p)) = setW p) : ∀ (l : List Expr) (base : Nat), okL nm0 l → l ≠ [] → (∀ nm ∈ namesL l, ∃ m n, call (fi nm) = some (m, n) ∧ setW m = setW (env nm) ∧ (n : Int) ≤ (D nm).2) → Lies code base (partL spf fi D l).ins → Goes wd day call code base (partL spf fi D l).ins.length (revL wd day env l) (partL spf fi D l).steps
  | [], _, _, h, _, _ => absurd rfl h
  | [e], base, ho, _, hnm, hl => by
    rw [okL] at ho
    rw [partL] at hl ⊢
    have := run_part hsp e base ho.1 (fun nm h => hnm nm (by rw [namesL]; exact List.mem_append_left _ h)) hl
    unfold revL
    rw [meanL, meanL]
    exact this
  | e :: f :: l, base, ho, _, hnm, hl => by
    rw [okL] at ho
    rw [partL] at hl ⊢
    have h1 := run_part hsp e base ho.1 (fun nm h => hnm nm (by rw [namesL]; exact List.mem_append_left _ h)) hl.left
    have h2 := run_partL hsp (f :: l) (base + (partE spf fi D e).ins.length) ho.2 (by simp) (fun nm h => hnm nm (by rw [namesL]; exact List.mem_append_right _ h)) hl.right
    have := h1.then h2
    unfold revL
    rw [meanL, List.reverse_cons]
    show Goes wd day call code base ((partE spf fi D e).ins ++ _).length _ ((partE spf fi D e).steps + (partL spf fi D (f :: l)).steps)
    rw [List.length_append, movL_len]
    exact this
end
end

end Ru
end Go.Proofs.YtbadplbdgpbdaaaDoor

namespace Go.Proofs.YtbadplbdgpbdaaaDoor
namespace Ru
open Msk Vm

section
variable {L : List Vm.Code} {F : Int → Option Int} {c : Nat}
/-- one more, if nothing is known there -/
def addF (F : Int → Option Int) (i : Int) : Nat := match F i with
  | none => 1
  | some _ => 0
theorem meet_put {i h : Int} (hF : F i = none ∨ F i = some h) : meetF F c i h = some (Vm.putF F i h, c + addF F i) := by
  unfold meetF addF
  rcases hF with e | e
  · rw [e]
  · rw [e]
    simp
theorem put_at (i h : Int) : Vm.putF F i h i = some h := by unfold Vm.putF; rw [if_pos rfl]
theorem put_off {i h j : Int} (hj : j ≠ i) : Vm.putF F i h j = F j := by unfold Vm.putF; rw [if_neg hj]
theorem stack_plain {x : Vm.Ins} {xs : List Vm.Ins} {i : Nat} {hi st h : Int} (hx : ¬ guardI x) (hF : F i = some h) (ht : takesI x.op ≤ h) (hN : F ((i : Int) + 1) = none ∨ F ((i : Int) + 1) = some (h - takesI x.op + 1)) :
    stackGo L (x :: xs) i F c hi st = stackGo L xs (i + 1) (Vm.putF F ((i : Int) + 1) (h - takesI x.op + 1)) (c + addF F ((i : Int) + 1)) (max (max hi (h - takesI x.op + upI L x)) h) (st + costI L x) := by
  rw [stackGo, hF]
  simp only
  rw [if_neg (by omega), if_neg hx]
  simp only
  rw [if_neg hx, meet_put hN]
theorem stack_guard {x : Vm.Ins} {xs : List Vm.Ins} {i : Nat} {hi st h : Int} (hx : guardI x) (hF : F i = some h) (h0 : 0 ≤ h) (hto : (i : Int) + 1 < x.to) (hT : F x.to = none ∨ F x.to = some (h + 1)) (hN : F ((i : Int) + 1) = none) :
    stackGo L (x :: xs) i F c hi st = stackGo L xs (i + 1) (Vm.putF (Vm.putF F x.to (h + 1)) ((i : Int) + 1) h) (c + addF F x.to + 1) (max hi (h + 1)) (st + 1) := by
  have hop : x.op = 6 ∨ x.op = 7 := hx
  have htk : takesI x.op = 0 := by unfold takesI; rw [if_neg (by omega), if_neg (by omega)]
  have hup : upI L x = 1 := by unfold upI; rw [if_neg (by omega)]
  have hco : costI L x = 1 := by unfold costI; rw [if_neg (by omega)]
  have hN1 : Vm.putF F x.to (h + 1) ((i : Int) + 1) = none := by rw [put_off (by omega)]; exact hN
  rw [stackGo, hF]
  simp only
  rw [htk, if_neg (by omega), if_pos hx, meet_put hT]
  simp only
  rw [if_pos hx, meet_put (.inl hN1), hup, hco]
  have ha : addF (Vm.putF F x.to (h + 1)) ((i : Int) + 1) = 1 := by unfold addF; rw [hN1]
  rw [ha]
  have : max (max hi (h - 0 + 1)) h = max hi (h + 1) := by omega
  rw [this]
end

section
variable {spf : (Nat → Bool) → List (Int × Int)} {fi : List UInt8 → Int} {D : List UInt8 → Int × Int} {nm0 : List UInt8 → Bool} {L : List Vm.Code}
theorem part_len : ∀ e : Expr, 1 ≤ (partE spf fi D e).ins.length
  | .mk k a b nm kids => by
    rw [partE]
    split
    · exact Nat.le_refl 1
    · split
      · exact Nat.le_refl 1
      · split
        · rw [List.length_cons]; omega
        · split <;> rw [List.length_append, List.length_singleton] <;> omega
theorem partL_len : ∀ l : List Expr, l ≠ [] → 1 ≤ (partL spf fi D l).ins.length
  | [], h => absurd rfl h
  | [e], _ => by rw [partL]; exact part_len e
  | e :: f :: l, _ => by
    rw [partL, List.length_append]
    have := part_len (spf := spf) (fi := fi) (D := D) e
    omega
/-- what comes of the stack's heights behind a part -/
structure Behind (F : Int → Option Int) (c : Nat) (base len : Nat) (top : Int) (F' : Int → Option Int) (c' : Nat) : Prop where
  at' : F' ((base + len : Nat) : Int) = some top
  on : ∀ j : Int, ((base + len : Nat) : Int) < j → F' j = F j
  cnt : c' + 1 = c + len + addF F ((base + len : Nat) : Int)
/-- a part may lie there -/
structure Ahead (F : Int → Option Int) (base len : Nat) (h top : Int) : Prop where
  at' : F (base : Int) = some h
  mid : ∀ j : Int, (base : Int) < j → j < ((base + len : Nat) : Int) → F j = none
  fin : F ((base + len : Nat) : Int) = none ∨ F ((base + len : Nat) : Int) = some top
def Heights (L : List Vm.Code) (l : List Vm.Ins) (base : Nat) (h top high steps : Int) : Prop := ∀ (F : Int → Option Int) (c : Nat) (hi st : Int) (rest : List Vm.Ins), Ahead F base l.length h top →
  ∃ F' c', stackGo L (movL base l ++ rest) base F c hi st = stackGo L rest (base + l.length) F' c' (max hi (h + high)) (st + steps) ∧ Behind F c base l.length top F' c'
theorem Heights.one {x : Vm.Ins} {base : Nat} {h top high steps : Int} (hx : ¬ guardI x) (h0 : x.to = 0) (ht : takesI x.op ≤ h) (htop : h - takesI x.op + 1 = top) (hup : max (h - takesI x.op + upI L x) h = h + high) (hco : costI L x = steps) : Heights L [x] base h top high steps := fun F c hi st rest ha => by
  have hm : movI base x = x := by unfold movI; rw [h0, if_neg (by omega)]
  refine ⟨Vm.putF F ((base : Int) + 1) (h - takesI x.op + 1), c + addF F ((base : Int) + 1), ?_, ?_⟩
  · show stackGo L (movI base x :: rest) base F c hi st = _
    rw [hm, stack_plain hx ha.at' ht (by have := ha.fin; rw [← htop] at this; exact this), hco]
    have : max (max hi (h - takesI x.op + upI L x)) h = max hi (h + high) := by omega
    rw [this]
    rfl
  · refine ⟨?_, fun j hj => ?_, by show c + addF F ((base : Int) + 1) + 1 = c + 1 + addF F ((base : Int) + 1); omega⟩
    · show Vm.putF F ((base : Int) + 1) _ ((base : Int) + 1) = _
      rw [put_at, htop]
    · exact put_off (by have : ((base : Int) + 1) < j := hj; omega)
theorem Heights.append {l m : List Vm.Ins} {base : Nat} {h h2 top a b s t : Int} (h1 : Heights L l base h h2 a s) (hm : 1 ≤ m.length) (hl : 1 ≤ l.length) (h3 : Heights L m (base + l.length) h2 top b t) {high : Int} (hh : max (h + a) (h2 + b) = h + high) : Heights L (l ++ movL l.length m) base h top high (s + t) := fun F c hi st rest ha => by
  rw [movL_append, movL_movL (by omega), List.append_assoc, show ((l.length : Int) + base) = ((base + l.length : Nat) : Int) by omega]
  have hlen : (l ++ movL l.length m).length = l.length + m.length := by rw [List.length_append, movL_len]
  rw [hlen] at ha ⊢
  obtain ⟨F1, c1, e1, b1⟩ := h1 F c hi st (movL ((base + l.length : Nat) : Int) m ++ rest) ⟨ha.at', fun j j1 j2 => ha.mid j j1 (by omega), .inl (ha.mid _ (by omega) (by omega))⟩
  have hon : ∀ j : Int, ((base + l.length : Nat) : Int) < j → F1 j = F j := b1.on
  obtain ⟨F2, c2, e2, b2⟩ := h3 F1 c1 (max hi (h + a)) (st + s) rest ⟨b1.at', fun j j1 j2 => by rw [hon j j1]; exact ha.mid j (by omega) (by omega), by rw [hon _ (by omega), show base + l.length + m.length = base + (l.length + m.length) by omega]; exact ha.fin⟩
  have e0 : addF F ((base + l.length : Nat) : Int) = 1 := by unfold addF; rw [ha.mid _ (by omega) (by omega)]
  have e3 : addF F1 ((base + l.length + m.length : Nat) : Int) = addF F ((base + (l.length + m.length) : Nat) : Int) := by
    unfold addF
    rw [hon _ (by omega), show base + l.length + m.length = base + (l.length + m.length) by omega]
  have k1 := b1.cnt
  have k2 := b2.cnt
  refine ⟨F2, c2, ?_, ?_, fun j hj => ?_, ?_⟩
  · rw [e1, e2]
    have : max (max hi (h + a)) (h2 + b) = max hi (h + high) := by omega
    rw [this, Int.add_assoc, Nat.add_assoc]
  · rw [← Nat.add_assoc]; exact b2.at'
  · rw [b2.on j (by omega), hon j (by omega)]
  · omega
theorem Heights.snoc {l : List Vm.Ins} {x : Vm.Ins} {base : Nat} {h h2 top a b s t : Int} (h1 : Heights L l base h h2 a s) (hl : 1 ≤ l.length) (hx : x.to = 0) (h3 : Heights L [x] (base + l.length) h2 top b t) {high : Int} (hh : max (h + a) (h2 + b) = h + high) : Heights L (l ++ [x]) base h top high (s + t) := by
  have := h1.append (m := [x]) (by simp) hl h3 hh
  have e : movL (l.length : Int) [x] = [x] := by
    show [movI _ x] = [x]
    unfold movI
    rw [hx, if_neg (by omega)]
  rwa [e] at this
theorem Heights.guard {x : Vm.Ins} {l : List Vm.Ins} {base : Nat} {h a s : Int} (hx : guardI x) (hto : x.to = (l.length : Int) + 1) (h0 : 0 ≤ h) (hl : 1 ≤ l.length) (h1 : Heights L l (base + 1) h (h + 1) a s) {high : Int} (hh : max (h + 1) (h + a) = h + high) : Heights L (x :: movL 1 l) base h (h + 1) high (1 + s) := fun F c hi st rest ha => by
  have hlen : (x :: movL 1 l).length = l.length + 1 := by rw [List.length_cons, movL_len]
  rw [hlen] at ha ⊢
  obtain ⟨y, hy⟩ : ∃ y, y = movI base x := ⟨_, rfl⟩
  have hyt : y.to = ((base + (l.length + 1) : Nat) : Int) := by
    rw [hy]
    unfold movI
    rw [if_pos (by omega)]
    show x.to + base = _
    omega
  have hyg : guardI y := by
    rw [hy]
    unfold movI
    rw [if_pos (by omega)]
    exact hx
  have hN : F ((base : Int) + 1) = none := ha.mid _ (by omega) (by omega)
  obtain ⟨F1, hF1⟩ : ∃ F1, F1 = Vm.putF (Vm.putF F y.to (h + 1)) ((base : Int) + 1) h := ⟨_, rfl⟩
  have p1 : F1 ((base + 1 : Nat) : Int) = some h := by rw [hF1]; exact put_at _ _
  have p2 : F1 ((base + (l.length + 1) : Nat) : Int) = some (h + 1) := by rw [hF1, put_off (by omega), hyt]; exact put_at _ _
  have p3 : ∀ j : Int, j ≠ (base : Int) + 1 → j ≠ ((base + (l.length + 1) : Nat) : Int) → F1 j = F j := fun j j1 j2 => by rw [hF1, put_off j1, put_off (by rw [hyt]; exact j2)]
  obtain ⟨F2, c2, e2, b2⟩ := h1 F1 (c + addF F y.to + 1) (max hi (h + 1)) (st + 1) rest ⟨p1, fun j j1 j2 => by rw [p3 j (by omega) (by omega)]; exact ha.mid j (by omega) (by omega), .inr (by rw [show base + 1 + l.length = base + (l.length + 1) by omega]; exact p2)⟩
  have k2 := b2.cnt
  have e3 : addF F1 ((base + 1 + l.length : Nat) : Int) = 0 := by unfold addF; rw [show base + 1 + l.length = base + (l.length + 1) by omega, p2]
  refine ⟨F2, c2, ?_, ?_, fun j hj => ?_, ?_⟩
  · show stackGo L (movI base x :: (movL base (movL 1 l) ++ rest)) base F c hi st = _
    rw [← hy, stack_guard hyg ha.at' h0 (by omega) (by rw [hyt]; exact ha.fin) hN, ← hF1, movL_movL (by omega), show ((1 : Int) + base) = ((base + 1 : Nat) : Int) by omega, e2]
    have : max (max hi (h + 1)) (h + a) = max hi (h + high) := by omega
    rw [this, show base + 1 + l.length = base + (l.length + 1) by omega, Int.add_assoc]
  · rw [show base + (l.length + 1) = base + 1 + l.length by omega]; exact b2.at'
  · rw [b2.on j (by omega), p3 j (by omega) (by omega)]
  · rw [e3, hyt] at k2
    omega

/-- what a name's code costs -/
def Costs (L : List Vm.Code) (fi : List UInt8 → Int) (D : List UInt8 → Int × Int) (nm : List UInt8) : Prop := upI L ⟨8, fi nm, 0, 0, []⟩ = (D nm).1 ∧ costI L ⟨8, fi nm, 0, 0, []⟩ = 1 + (D nm).2
mutual
theorem heights_part : ∀ (e : Expr) (base : Nat) (h : Int), okE nm0 e → 0 ≤ h → (∀ nm ∈ namesE e, Costs L fi D nm) → Heights L (partE spf fi D e).ins base h (h + 1) (partE spf fi D e).high (partE spf fi D e).steps
  | .mk k a b nm kids, base, h, ho, h0, hnm => by
    have ho' := ho
    rw [okE] at ho
    obtain ⟨k1, k2, k3⟩ := own_kind ho.1
    rw [partE]
    cases hc : constE (.mk k a b nm kids) with
    | some p =>
      have htk : takesI (1 : Int) = 0 := rfl
      exact Heights.one (x := ⟨1, 0, 0, 0, spf p⟩) (high := 1) (steps := 1) (by unfold guardI; show ¬ ((1 : Int) = 6 ∨ (1 : Int) = 7); decide) rfl (by rw [htk]; exact h0) (by rw [htk]; omega) (by unfold upI; rw [if_neg (show ¬ (1 : Int) = 8 by decide), htk]; omega) (by unfold costI; rw [if_neg (show ¬ (1 : Int) = 8 by decide)])
    | none =>
      simp only
      by_cases h10 : k = 10
      · simp only [if_pos h10]
        rw [namesE, if_pos h10] at hnm
        obtain ⟨u1, u2⟩ := hnm nm (by simp)
        have htk : takesI (8 : Int) = 0 := rfl
        refine Heights.one (by unfold guardI; show ¬ ((8 : Int) = 6 ∨ (8 : Int) = 7); decide) rfl (by rw [htk]; exact h0) (by rw [htk]; omega) ?_ u2
        rw [u1, htk]
        omega
      · rw [namesE, if_neg h10] at hnm
        simp only [if_neg h10]
        have hne : kids ≠ [] := by
          intro hk
          have := (ok_wf _ ho')
          rw [wfE] at this
          exact this.1 hc h10 hk
        have hpl := partL_len (spf := spf) (fi := fi) (D := D) kids hne
        by_cases h45 : k = 4 ∨ k = 5
        · simp only [if_pos h45]
          have hlen : kids.length = 1 := by rw [k3]; unfold kidsOf; rw [if_pos (by omega)]
          have ih := heights_partL kids (base + 1) h ho.2 hne h0 hnm
          rw [hlen] at ih
          refine Heights.guard ?_ rfl h0 hpl ih (by omega)
          unfold guardI
          show (if k = 4 then (6 : Int) else 7) = 6 ∨ (if k = 4 then (6 : Int) else 7) = 7
          split
          · exact .inl rfl
          · exact .inr rfl
        · simp only [if_neg h45]
          have ih := heights_partL kids base h ho.2 hne h0 hnm
          by_cases h9 : k = 9
          · simp only [if_pos h9]
            have hlen : kids.length = 1 := by rw [k3]; unfold kidsOf; rw [if_pos (by omega)]
            rw [hlen, show ((1 : Nat) : Int) = 1 from rfl] at ih
            have htk : takesI (5 : Int) = 1 := rfl
            have hx5 : Heights L [⟨5, a, 0, 0, []⟩] (base + (partL spf fi D kids).ins.length) (h + 1) (h + 1) 0 1 := Heights.one (by unfold guardI; show ¬ ((5 : Int) = 6 ∨ (5 : Int) = 7); decide) rfl (by rw [htk]; omega) (by rw [htk]; omega) (by unfold upI; rw [if_neg (show ¬ (5 : Int) = 8 by decide), htk]; omega) (by unfold costI; rw [if_neg (show ¬ (5 : Int) = 8 by decide)])
            rw [Int.add_comm 1]
            exact ih.snoc hpl rfl hx5 (by omega)
          · simp only [if_neg h9]
            have hk6 : k = 6 ∨ k = 7 ∨ k = 8 := by
              have hz : ∀ z, (k = z) → kidsOf z = 0 → False := fun z hz h0' => hne (List.length_eq_zero_iff.1 (by rw [k3, hz, h0']))
              have n1 : ¬ k = 1 := fun e => hz 1 e rfl
              have n2 : ¬ k = 2 := fun e => hz 2 e rfl
              have n3 : ¬ k = 3 := fun e => hz 3 e rfl
              omega
            have hlen : kids.length = 2 := by rw [k3]; unfold kidsOf; rw [if_neg (by omega), if_pos (by omega)]
            rw [hlen, show ((2 : Nat) : Int) = 2 from rfl] at ih
            rw [Int.add_comm 1]
            have htk : takesI (k - 4) = 2 := by unfold takesI; rw [if_pos (by omega)]
            have hup : ∀ x : Vm.Ins, x.op = k - 4 → upI L x = 1 ∧ costI L x = 1 := fun x hx => by unfold upI costI; rw [if_neg (by omega), if_neg (by omega)]; exact ⟨rfl, rfl⟩
            obtain ⟨u1, u2⟩ := hup ⟨k - 4, 0, 0, 0, []⟩ rfl
            have hx2 : Heights L [⟨k - 4, 0, 0, 0, []⟩] (base + (partL spf fi D kids).ins.length) (h + 2) (h + 1) 0 1 := Heights.one (by unfold guardI; show ¬ (k - 4 = 6 ∨ k - 4 = 7); omega) rfl (by rw [htk]; omega) (by rw [htk]; omega) (by rw [u1, htk]; omega) u2
            exact ih.snoc hpl rfl hx2 (by omega)
theorem heights_partL : ∀ (l : List Expr) (base : Nat) (h : Int), okL nm0 l → l ≠ [] → 0 ≤ h → (∀ nm ∈ namesL l, Costs L fi D nm) → Heights L (partL spf fi D l).ins base h (h + l.length) (partL spf fi D l).high (partL spf fi D l).steps
  | [], _, _, _, h, _, _ => absurd rfl h
  | [e], base, h, ho, _, h0, hnm => by
    rw [okL] at ho
    rw [partL]
    exact heights_part e base h ho.1 h0 (fun nm hn => hnm nm (by rw [namesL]; exact List.mem_append_left _ hn))
  | e :: f :: l, base, h, ho, _, h0, hnm => by
    rw [okL] at ho
    rw [partL]
    have h1 := heights_part e base h ho.1 h0 (fun nm hn => hnm nm (by rw [namesL]; exact List.mem_append_left _ hn))
    have h2 := heights_partL (f :: l) (base + (partE spf fi D e).ins.length) (h + 1) ho.2 (by simp) (by omega) (fun nm hn => hnm nm (by rw [namesL]; exact List.mem_append_right _ hn))
    have := h1.append (partL_len _ (by simp)) (part_len e) h2 (high := max (partE spf fi D e).high (1 + (partL spf fi D (f :: l)).high)) (by omega)
    rw [show h + 1 + ((f :: l).length : Int) = h + ((e :: f :: l).length : Int) by rw [List.length_cons (a := e)]; omega] at this
    exact this
end
/-- the stack of a rule's code -/
theorem stack_code (e : Expr) (ho : okE nm0 e) (hnm : ∀ nm ∈ namesE e, Costs L fi D nm) (hp : 0 ≤ (partE spf fi D e).high) : stackL L (partE spf fi D e) = ((partE spf fi D e).high, (partE spf fi D e).steps, true) := by
  obtain ⟨F', c', e1, b1⟩ := heights_part (spf := spf) e 0 0 ho (by omega) hnm (Vm.putF (fun _ => none) 0 0) 1 0 0 [] ⟨put_at _ _, fun j j1 _ => put_off (by omega), .inl (put_off (by have := part_len (spf := spf) (fi := fi) (D := D) e; omega))⟩
  unfold stackL
  rw [show ((0 : Nat) : Int) = 0 from rfl, movL_zero, List.append_nil] at e1
  rw [e1, stackGo, b1.at']
  have hc : c' = 0 + (partE spf fi D e).ins.length + 1 := by
    have hb := b1.cnt
    have : addF (Vm.putF (fun _ => none) 0 0) ((0 + (partE spf fi D e).ins.length : Nat) : Int) = 1 := by
      unfold addF
      rw [put_off (by have := part_len (spf := spf) (fi := fi) (D := D) e; omega)]
    omega
  rw [hc]
  simp
  omega
end

end Ru
end Go.Proofs.YtbadplbdgpbdaaaDoor

namespace Go.Proofs.YtbadplbdgpbdaaaDoor
namespace Ru
open Msk Vm

/-! ### spans -/
theorem spans_to (p : Nat → Bool) : ∀ i, i ≤ 1440 → ∃ l, SpansTo p i l
  | 0, _ => ⟨[], .zero p⟩
  | i + 1, h => by
    obtain ⟨l, hl⟩ := spans_to p i (by omega)
    cases hp : p i with
    | false => exact ⟨l, hl.skip (by omega) h fun j h1 h2 => by rw [show j = i by omega]; exact hp⟩
    | true =>
      by_cases hb : 0 < i ∧ p (i - 1) = true
      · obtain ⟨k, s, rfl, hs⟩ := hl.last hb.1 hb.2
        exact ⟨_, hl.grow (by omega) hs hp⟩
      · refine ⟨_, hl.push (a := i) (b := i + 1) (Nat.le_refl _) (by omega) h (fun j h1 h2 => by omega) (fun j h1 h2 => by rw [show j = i by omega]; exact hp) ?_⟩
        by_cases h0 : i = 0
        · exact .inl h0
        · right
          cases hq : p (i - 1) with
          | false => rfl
          | true => exact absurd ⟨by omega, hq⟩ hb
theorem spans_fun : ∃ spf : (Nat → Bool) → List (Int × Int), ∀ p, IsSpans (has (setW p)) (spf p) :=
  ⟨fun p => Classical.choose (spans_to (has (setW p)) 1440 (Nat.le_refl _)), fun p => Classical.choose_spec (spans_to (has (setW p)) 1440 (Nat.le_refl _))⟩
theorem spans_set {p : Nat → Bool} {l : List (Int × Int)} (h : IsSpans (has (setW p)) l) : setW (inSpans l) = setW p := by
  refine setW_congr fun i hi => ?_
  rw [h.mem, has_setW]
  simp [hi]
theorem chain_err : ∀ {l : List (Int × Int)} {lo : Int} {q : Option Int}, chain lo l → -1 ≤ lo → (∀ b, q = some b → b ≤ lo) → spansErr q l = 0
  | [], _, _, _, _, _ => rfl
  | s :: l, lo, q, h, h0, hq => by
    obtain ⟨h1, h2, h3, h4⟩ := h
    rw [spansErr, if_neg, chain_err h4 (by omega) (fun b hb => by cases hb; omega)]
    rintro (h | h | h | ⟨b, hb, h⟩)
    · omega
    · omega
    · omega
    · have := hq b hb; omega
theorem spans_err {p : Nat → Bool} {l : List (Int × Int)} (h : IsSpans p l) : spansErr none l = 0 := chain_err h.ch (by omega) (fun b hb => by cases hb)

/-! ### instructions -/
section
variable {spf : (Nat → Bool) → List (Int × Int)} {fi : List UInt8 → Int} {D : List UInt8 → Int × Int} {nm0 : List UInt8 → Bool}
theorem mov_ins {a : Int} {x : Vm.Ins} : (movI a x).op = x.op ∧ (movI a x).a = x.a ∧ (movI a x).b = x.b ∧ (movI a x).sp = x.sp := by
  unfold movI
  split <;> exact ⟨rfl, rfl, rfl, rfl⟩
/-- what is right with each instruction of a part that lies somewhere in code -/
def InsOk (rules n : Nat) (base : Nat) (l : List Vm.Ins) : Prop := ∀ q x, (movL base l)[q]? = some x → insErr rules n (base + q) x = 0
theorem InsOk.append {rules n base : Nat} {l m : List Vm.Ins} (h : InsOk rules n base l) (h2 : InsOk rules n (base + l.length) m) : InsOk rules n base (l ++ movL l.length m) := fun q x hx => by
  rw [movL_append, movL_movL (by omega), show ((l.length : Int) + base) = ((base + l.length : Nat) : Int) by omega] at hx
  rcases Nat.lt_or_ge q l.length with hq | hq
  · rw [List.getElem?_append_left (by rw [movL_len]; exact hq)] at hx
    exact h q x hx
  · rw [List.getElem?_append_right (by rw [movL_len]; exact hq), movL_len] at hx
    have := h2 (q - l.length) x hx
    rwa [show base + l.length + (q - l.length) = base + q by omega] at this
theorem InsOk.one {rules n base : Nat} {x : Vm.Ins} (h0 : x.to = 0) (h : ∀ k, insErr rules n k x = 0) : InsOk rules n base [x] := fun q y hy => by
  have hm : movI base x = x := by unfold movI; rw [h0, if_neg (by omega)]
  cases q with
  | zero =>
    have : some (movI base x) = some y := hy
    rw [hm] at this
    cases this
    exact h _
  | succ q => cases hy
theorem InsOk.snoc {rules n base : Nat} {l : List Vm.Ins} {x : Vm.Ins} (h : InsOk rules n base l) (h0 : x.to = 0) (hx : ∀ k, insErr rules n k x = 0) : InsOk rules n base (l ++ [x]) := by
  have := h.append (InsOk.one (base := base + l.length) h0 hx)
  have e : movL (l.length : Int) [x] = [x] := by
    show [movI _ x] = [x]
    unfold movI
    rw [h0, if_neg (by omega)]
  rwa [e] at this
theorem InsOk.guard {rules n base : Nat} {l : List Vm.Ins} {x : Vm.Ins} (h : InsOk rules n (base + 1) l) (hl : 1 ≤ l.length) (hto : x.to = (l.length : Int) + 1) (hn : base + (l.length + 1) ≤ n) (hx : (x.op = 6 ∧ 1 ≤ x.a ∧ x.a ≤ 127) ∨ (x.op = 7 ∧ 0 ≤ x.a ∧ x.b < 146097 ∧ x.a ≤ x.b)) : InsOk rules n base (x :: movL 1 l) := fun q y hy => by
  cases q with
  | zero =>
    have hy : some (movI base x) = some y := hy
    cases hy
    obtain ⟨m1, m2, m3, _⟩ := mov_ins (a := (base : Int)) (x := x)
    have mt : (movI base x).to = (l.length : Int) + 1 + base := by
      unfold movI
      rw [if_pos (by omega)]
      show x.to + base = _
      omega
    unfold insErr
    rw [m1, m2, m3, mt]
    rcases hx with ⟨h1, h2, h3⟩ | ⟨h1, h2, h3, h4⟩
    · rw [if_neg (by omega), if_neg (by omega), if_neg (by omega), if_pos (by omega), if_neg (by omega), if_neg (by omega)]
    · rw [if_neg (by omega), if_neg (by omega), if_neg (by omega), if_pos (by omega), if_neg (by omega), if_neg (by omega)]
  | succ q =>
    have := h q y (by
      have hy : (movL base (movL 1 l))[q]? = some y := hy
      rwa [movL_movL (by omega), show ((1 : Int) + base) = ((base + 1 : Nat) : Int) by omega] at hy)
    rwa [show base + 1 + q = base + (q + 1) by omega] at this
mutual
theorem part_ins (hsp : ∀ p, spansErr none (spf p) = 0) {rules : Nat} : ∀ (e : Expr) (n base : Nat), okE nm0 e → (∀ nm ∈ namesE e, 0 ≤ fi nm ∧ fi nm < rules) → base + (partE spf fi D e).ins.length ≤ n → InsOk rules n base (partE spf fi D e).ins
  | .mk k a b nm kids, n, base, ho, hnm, hn => by
    have ho' := ho
    rw [okE] at ho
    obtain ⟨k1, k2, k3⟩ := own_kind ho.1
    have hown := ho.1
    rw [ownErr_mk, if_neg (by omega), if_neg (by omega)] at hown
    rw [partE] at hn ⊢
    cases hc : constE (.mk k a b nm kids) with
    | some p =>
      refine InsOk.one rfl fun i => ?_
      unfold insErr
      rw [if_pos rfl]
      exact hsp p
    | none =>
      rw [hc] at hn
      simp only at hn ⊢
      by_cases h10 : k = 10
      · simp only [if_pos h10]
        rw [namesE, if_pos h10] at hnm
        obtain ⟨u1, u2⟩ := hnm nm (by simp)
        refine InsOk.one rfl fun i => ?_
        unfold insErr
        rw [if_neg (show ¬ (8 : Int) = 1 by decide), if_neg (show ¬ ((8 : Int) = 2 ∨ (8 : Int) = 3 ∨ (8 : Int) = 4) by decide), if_neg (show ¬ (8 : Int) = 5 by decide), if_neg (show ¬ ((8 : Int) = 6 ∨ (8 : Int) = 7) by decide), if_pos (show (8 : Int) = 8 by decide), if_neg]
        show ¬ (fi nm < 0 ∨ (rules : Int) ≤ fi nm)
        omega
      · rw [namesE, if_neg h10] at hnm
        simp only [if_neg h10] at hn ⊢
        have hne : kids ≠ [] := by
          intro hk
          have := (ok_wf _ ho')
          rw [wfE] at this
          exact this.1 hc h10 hk
        have hpl := partL_len (spf := spf) (fi := fi) (D := D) kids hne
        by_cases h45 : k = 4 ∨ k = 5
        · simp only [if_pos h45] at hn ⊢
          rw [List.length_cons, movL_len] at hn
          have ih := part_insL hsp kids n (base + 1) ho.2 hne hnm (by omega)
          refine ih.guard hpl rfl (by omega) ?_
          rcases h45 with h4 | h5
          · left
            rw [if_neg (by omega), if_pos h4] at hown
            have : ¬ (a < 1 ∨ 127 < a) := fun h => by rw [if_pos h] at hown; cases hown
            exact ⟨if_pos h4, by show 1 ≤ a; omega, by show a ≤ 127; omega⟩
          · right
            have h4 : ¬ k = 4 := by omega
            rw [if_neg (by omega), if_neg h4, if_pos h5] at hown
            have : ¬ (a < 0 ∨ 146097 ≤ b ∨ b < a) := fun h => by rw [if_pos h] at hown; cases hown
            refine ⟨if_neg h4, by show 0 ≤ a; omega, ?_, ?_⟩
            · show (if k = 4 then 0 else b) < 146097
              rw [if_neg h4]; omega
            · show a ≤ (if k = 4 then 0 else b)
              rw [if_neg h4]; omega
        · simp only [if_neg h45] at hn ⊢
          by_cases h9 : k = 9
          · simp only [if_pos h9] at hn ⊢
            rw [List.length_append, List.length_singleton] at hn
            have ih := part_insL hsp kids n base ho.2 hne hnm (by omega)
            rw [if_neg (by omega), if_neg (by omega), if_neg (by omega), if_pos h9] at hown
            refine ih.snoc rfl fun i => ?_
            unfold insErr
            rw [if_neg (show ¬ (5 : Int) = 1 by decide), if_neg (show ¬ ((5 : Int) = 2 ∨ (5 : Int) = 3 ∨ (5 : Int) = 4) by decide), if_pos (show (5 : Int) = 5 by decide)]
            exact hown
          · simp only [if_neg h9] at hn ⊢
            rw [List.length_append, List.length_singleton] at hn
            have ih := part_insL hsp kids n base ho.2 hne hnm (by omega)
            have hk6 : k = 6 ∨ k = 7 ∨ k = 8 := by
              have hz : ∀ z, (k = z) → kidsOf z = 0 → False := fun z hz h0' => hne (List.length_eq_zero_iff.1 (by rw [k3, hz, h0']))
              have n1 : ¬ k = 1 := fun e => hz 1 e rfl
              have n2 : ¬ k = 2 := fun e => hz 2 e rfl
              have n3 : ¬ k = 3 := fun e => hz 3 e rfl
              omega
            refine ih.snoc rfl fun i => ?_
            unfold insErr
            rw [if_neg (show ¬ k - 4 = 1 by omega), if_pos (show k - 4 = 2 ∨ k - 4 = 3 ∨ k - 4 = 4 by omega)]
theorem part_insL (hsp : ∀ p, spansErr none (spf p) = 0) {rules : Nat} : ∀ (l : List Expr) (n base : Nat), okL nm0 l → l ≠ [] → (∀ nm ∈ namesL l, 0 ≤ fi nm ∧ fi nm < rules) → base + (partL spf fi D l).ins.length ≤ n → InsOk rules n base (partL spf fi D l).ins
  | [], _, _, _, h, _, _ => absurd rfl h
  | [e], n, base, ho, _, hnm, hn => by
    rw [okL] at ho
    rw [partL] at hn ⊢
    exact part_ins hsp e n base ho.1 (fun nm h => hnm nm (by rw [namesL]; exact List.mem_append_left _ h)) hn
  | e :: f :: l, n, base, ho, _, hnm, hn => by
    rw [okL] at ho
    rw [partL] at hn ⊢
    rw [List.length_append, movL_len] at hn
    have h1 := part_ins hsp e n base ho.1 (fun nm h => hnm nm (by rw [namesL]; exact List.mem_append_left _ h)) (by omega)
    have h2 := part_insL hsp (f :: l) n (base + (partE spf fi D e).ins.length) ho.2 (by simp) (fun nm h => hnm nm (by rw [namesL]; exact List.mem_append_right _ h)) (by omega)
    exact h1.append h2
end
/-! ### calls, sizes -/
theorem mem_mov {a : Int} {l : List Vm.Ins} {x : Vm.Ins} (h : x ∈ movL a l) : ∃ y ∈ l, x.op = y.op ∧ x.a = y.a := by
  unfold movL at h
  obtain ⟨y, hy, rfl⟩ := List.mem_map.1 h
  exact ⟨y, hy, mov_ins.1, mov_ins.2.1⟩
mutual
theorem part_calls : ∀ (e : Expr) (x : Vm.Ins), okE nm0 e → x ∈ (partE spf fi D e).ins → x.op = 8 → ∃ nm ∈ namesE e, x.a = fi nm
  | .mk k a b nm kids, x, ho, hx, h8 => by
    have ho' := ho
    rw [okE] at ho
    obtain ⟨k1, k2, k3⟩ := own_kind ho.1
    rw [partE] at hx
    rw [namesE]
    cases hc : constE (.mk k a b nm kids) with
    | some p =>
      rw [hc] at hx
      have : x = ⟨1, 0, 0, 0, spf p⟩ := by simpa using hx
      rw [this] at h8
      exact absurd (show (1 : Int) = 8 from h8) (by decide)
    | none =>
      rw [hc] at hx
      simp only at hx
      by_cases h10 : k = 10
      · simp only [if_pos h10] at hx ⊢
        have : x = ⟨8, fi nm, 0, 0, []⟩ := by simpa using hx
        rw [this]
        exact ⟨nm, by simp, rfl⟩
      · simp only [if_neg h10] at hx ⊢
        by_cases h45 : k = 4 ∨ k = 5
        · simp only [if_pos h45] at hx
          rcases List.mem_cons.1 hx with rfl | hx
          · have h8 : (if k = 4 then (6 : Int) else 7) = 8 := h8
            split at h8
            · exact absurd h8 (by decide)
            · exact absurd h8 (by decide)
          · obtain ⟨y, hy, e1, e2⟩ := mem_mov hx
            rw [e2]
            exact part_callsL kids y ho.2 hy (by rw [← e1]; exact h8)
        · simp only [if_neg h45] at hx
          by_cases h9 : k = 9
          · simp only [if_pos h9] at hx
            rcases List.mem_append.1 hx with hx | hx
            · exact part_callsL kids x ho.2 hx h8
            · have : x = ⟨5, a, 0, 0, []⟩ := by simpa using hx
              rw [this] at h8
              exact absurd (show (5 : Int) = 8 from h8) (by decide)
          · simp only [if_neg h9] at hx
            rcases List.mem_append.1 hx with hx | hx
            · exact part_callsL kids x ho.2 hx h8
            · have : x = ⟨k - 4, 0, 0, 0, []⟩ := by simpa using hx
              rw [this] at h8
              have h8 : k - 4 = 8 := h8
              omega
theorem part_callsL : ∀ (l : List Expr) (x : Vm.Ins), okL nm0 l → x ∈ (partL spf fi D l).ins → x.op = 8 → ∃ nm ∈ namesL l, x.a = fi nm
  | [], x, _, hx, _ => by rw [partL] at hx; cases hx
  | [e], x, ho, hx, h8 => by
    rw [okL] at ho
    rw [partL] at hx
    obtain ⟨nm, h1, h2⟩ := part_calls e x ho.1 hx h8
    exact ⟨nm, by rw [namesL]; exact List.mem_append_left _ h1, h2⟩
  | e :: f :: l, x, ho, hx, h8 => by
    rw [okL] at ho
    rw [partL] at hx
    rcases List.mem_append.1 hx with hx | hx
    · obtain ⟨nm, h1, h2⟩ := part_calls e x ho.1 hx h8
      exact ⟨nm, by rw [namesL]; exact List.mem_append_left _ h1, h2⟩
    · obtain ⟨y, hy, e1, e2⟩ := mem_mov hx
      obtain ⟨nm, h1, h2⟩ := part_callsL (f :: l) y ho.2 hy (by rw [← e1]; exact h8)
      exact ⟨nm, by rw [namesL]; exact List.mem_append_right _ h1, by rw [e2]; exact h2⟩
end
mutual
/-- so high at least; no more instructions than nodes; a step for each at least; and the steps of all that it speaks of -/
theorem part_size : ∀ (e : Expr), (∀ nm ∈ namesE e, 1 ≤ (D nm).1 ∧ 0 ≤ (D nm).2) → 1 ≤ (partE spf fi D e).high ∧ (partE spf fi D e).ins.length ≤ nodesE e ∧ ((partE spf fi D e).ins.length : Int) ≤ (partE spf fi D e).steps ∧ ∀ nm ∈ namesE e, (D nm).2 < (partE spf fi D e).steps
  | .mk k a b nm kids, hD => by
    have hcn := const_names (.mk k a b nm kids)
    rw [partE]
    rw [nodesE]
    cases hc : constE (.mk k a b nm kids) with
    | some p =>
      rw [hcn (by rw [hc]; simp)]
      exact ⟨by show (1 : Int) ≤ 1; omega, by show 1 ≤ _; omega, by show ((1 : Nat) : Int) ≤ 1; omega, fun nm h => by cases h⟩
    | none =>
      simp only
      rw [namesE] at hD ⊢
      by_cases h10 : k = 10
      · simp only [if_pos h10] at hD ⊢
        have := hD nm (by simp)
        refine ⟨by show (1 : Int) ≤ max (D nm).1 0; omega, by show 1 ≤ _; omega, by show ((1 : Nat) : Int) ≤ 1 + (D nm).2; omega, fun x hx => ?_⟩
        have : x = nm := by simpa using hx
        subst this
        show (D x).2 < 1 + (D x).2
        omega
      · simp only [if_neg h10] at hD ⊢
        obtain ⟨i2, i3, i4⟩ := part_sizeL kids hD
        by_cases h45 : k = 4 ∨ k = 5
        · simp only [if_pos h45]
          refine ⟨by show (1 : Int) ≤ max 1 _; omega, by rw [List.length_cons, movL_len]; omega, ?_, fun x hx => ?_⟩
          · rw [List.length_cons, movL_len]
            show _ ≤ 1 + (partL spf fi D kids).steps
            omega
          · have := i4 x hx
            show _ < 1 + (partL spf fi D kids).steps
            omega
        · simp only [if_neg h45]
          by_cases h9 : k = 9
          · simp only [if_pos h9]
            refine ⟨by show (1 : Int) ≤ max 1 _; omega, by rw [List.length_append, List.length_singleton]; omega, ?_, fun x hx => ?_⟩
            · rw [List.length_append, List.length_singleton]
              show _ ≤ 1 + (partL spf fi D kids).steps
              omega
            · have := i4 x hx
              show _ < 1 + (partL spf fi D kids).steps
              omega
          · simp only [if_neg h9]
            refine ⟨by show (1 : Int) ≤ max 2 _; omega, by rw [List.length_append, List.length_singleton]; omega, ?_, fun x hx => ?_⟩
            · rw [List.length_append, List.length_singleton]
              show _ ≤ 1 + (partL spf fi D kids).steps
              omega
            · have := i4 x hx
              show _ < 1 + (partL spf fi D kids).steps
              omega
theorem part_sizeL : ∀ (l : List Expr), (∀ nm ∈ namesL l, 1 ≤ (D nm).1 ∧ 0 ≤ (D nm).2) → (partL spf fi D l).ins.length ≤ nodesL l ∧ ((partL spf fi D l).ins.length : Int) ≤ (partL spf fi D l).steps ∧ ∀ nm ∈ namesL l, (D nm).2 < (partL spf fi D l).steps
  | [], _ => by rw [partL, namesL]; exact ⟨Nat.zero_le _, Int.le_refl 0, fun nm h => by cases h⟩
  | [e], hD => by
    rw [partL, nodesL, nodesL]
    obtain ⟨_, i2, i3, i4⟩ := part_size e (fun nm h => hD nm (by rw [namesL]; exact List.mem_append_left _ h))
    refine ⟨by omega, i3, fun nm h => ?_⟩
    rw [namesL, namesL, List.append_nil] at h
    exact i4 nm h
  | e :: f :: l, hD => by
    rw [partL, nodesL]
    obtain ⟨_, i2, i3, i4⟩ := part_size e (fun nm h => hD nm (by rw [namesL]; exact List.mem_append_left _ h))
    obtain ⟨j2, j3, j4⟩ := part_sizeL (f :: l) (fun nm h => hD nm (by rw [namesL]; exact List.mem_append_right _ h))
    have p1 := part_len (spf := spf) (fi := fi) (D := D) e
    have p2 := partL_len (spf := spf) (fi := fi) (D := D) (f :: l) (by simp)
    refine ⟨by rw [List.length_append, movL_len]; omega, ?_, fun nm h => ?_⟩
    · rw [List.length_append, movL_len]
      show _ ≤ (partE spf fi D e).steps + (partL spf fi D (f :: l)).steps
      omega
    · show _ < (partE spf fi D e).steps + (partL spf fi D (f :: l)).steps
      rw [namesL] at h
      rcases List.mem_append.1 h with h | h
      · have := i4 nm h; omega
      · have := j4 nm h; omega
end
end

end Ru
end Go.Proofs.YtbadplbdgpbdaaaDoor

namespace Go.Proofs.YtbadplbdgpbdaaaDoor
namespace Ru
open Msk Vm

def codeD (l : List Rule) (C : Nat → Vm.Code) (nm : List UInt8) : Int × Int := if placeR l nm < l.length then ((C (placeR l nm)).high, (C (placeR l nm)).steps) else (0, 0)
def ownC (spf : (Nat → Bool) → List (Int × Int)) (l : List Rule) (C : Nat → Vm.Code) (i : Nat) : Vm.Code := match l[i]? with
  | some r => partE spf (findI l) (codeD l C) r.expr
  | none => ⟨[], 0, 0⟩
/-- too much -/
def muchC (c : Vm.Code) : Bool := decide (100 < c.high) || (decide (20000 < c.steps) || decide (2000 < c.ins.length))
def keepC (c : Vm.Code) : Vm.Code := if muchC c = true then ⟨c.ins, c.high, 20001⟩ else c
/-- each rule's code, out of what those have that it speaks of -/
def CodesR (spf : (Nat → Bool) → List (Int × Int)) (l : List Rule) (C : Nat → Vm.Code) : Prop := ∀ i, i < l.length → C i = keepC (ownC spf l C i)

section
variable {spf : (Nat → Bool) → List (Int × Int)} {fi : List UInt8 → Int} {D D' : List UInt8 → Int × Int}
mutual
theorem part_loc : ∀ (e : Expr), (∀ nm ∈ namesE e, D nm = D' nm) → partE spf fi D e = partE spf fi D' e
  | .mk k a b nm kids, h => by
    rw [partE, partE]
    rw [namesE] at h
    by_cases h10 : k = 10
    · rw [if_pos h10] at h
      rw [h nm (by simp)]
      cases constE (.mk k a b nm kids) with
      | some p => rfl
      | none => simp only [if_pos h10]
    · rw [if_neg h10] at h
      rw [part_locL kids h]
      cases constE (.mk k a b nm kids) with
      | some p => rfl
      | none => simp only [if_neg h10]
theorem part_locL : ∀ (l : List Expr), (∀ nm ∈ namesL l, D nm = D' nm) → partL spf fi D l = partL spf fi D' l
  | [], _ => by rw [partL, partL]
  | [e], h => by
    rw [partL, partL]
    exact part_loc e fun nm hn => h nm (by rw [namesL]; exact List.mem_append_left _ hn)
  | e :: f :: l, h => by
    rw [partL, partL]
    rw [part_loc e fun nm hn => h nm (by rw [namesL]; exact List.mem_append_left _ hn), part_locL (f :: l) fun nm hn => h nm (by rw [namesL]; exact List.mem_append_right _ hn)]
end
end
section
variable {spf : (Nat → Bool) → List (Int × Int)} {l : List Rule} {C : Nat → Vm.Code}
theorem step_name (hR : RightR l) {i : Nat} {r : Rule} (hi : l[i]? = some r) {nm : List UInt8} (hn : nm ∈ namesE r.expr) : stepB (directR l) i (placeR l nm) = true ∧ placeR l nm < l.length ∧ findI l nm = (placeR l nm : Nat) := by
  have hk := hR.known i r hi nm hn
  refine ⟨?_, hk, findI_nat hk⟩
  unfold stepB
  rw [directR_at2 hi, List.contains_iff_mem]
  exact List.mem_map.2 ⟨nm, hn, findI_nat hk⟩
theorem codes_exist (spf : (Nat → Bool) → List (Int × Int)) (hR : RightR l) : ∃ C, CodesR spf l C := by
  obtain ⟨E, hE⟩ := fix_exists (r := stepB (directR l)) (n := l.length) (fun i k h => stepB_lt h) hR.noring
    (fun (E : Nat → Vm.Code) i => keepC (ownC spf l E i))
    (fun E E' i h => by
      have : ownC spf l E i = ownC spf l E' i := by
        unfold ownC
        cases hi : l[i]? with
        | none => rfl
        | some r =>
          refine part_loc r.expr fun nm hn => ?_
          obtain ⟨h1, h2, _⟩ := step_name hR hi hn
          unfold codeD
          rw [if_pos h2, if_pos h2, h _ h1]
      rw [this]) ⟨[], 0, 0⟩
  exact ⟨E, hE⟩
/-- what holds of all that a rule speaks of, holds of the rule: then of all rules -/
theorem ring_up (hR : RightR l) (P : Nat → Prop) (step : ∀ i, i < l.length → (∀ k, stepB (directR l) i k = true → P k) → P i) : ∀ i, i < l.length → P i := by
  intro i hi
  apply Classical.byContradiction
  intro hn
  have hcl : ∀ k, Decidable (¬ P k) := fun k => Classical.propDecidable _
  obtain ⟨k, hk, hU, hs⟩ := last_one (r := stepB (directR l)) (n := l.length) (fun i k h => stepB_lt h) hR.noring (fun k => @decide (¬ P k) (hcl k)) hi (by simpa using hn)
  have hU' : ¬ P k := by simpa using hU
  exact hU' (step k hk fun j hj => by have := hs j hj; simpa using this)
theorem keep_high (c : Vm.Code) : (keepC c).high = c.high ∧ (keepC c).ins = c.ins ∧ (muchC c = false → keepC c = c) := by
  unfold keepC
  split
  · rename_i h; exact ⟨rfl, rfl, fun h' => by rw [h] at h'; cases h'⟩
  · exact ⟨rfl, rfl, fun _ => rfl⟩
theorem codes_pos (hR : RightR l) (hC : CodesR spf l C) : ∀ i, i < l.length → 1 ≤ (C i).high ∧ 1 ≤ (C i).steps := ring_up hR _ fun i hi ih => by
  obtain ⟨r, hr⟩ : ∃ r, l[i]? = some r := ⟨_, List.getElem?_eq_getElem hi⟩
  have hD : ∀ nm ∈ namesE r.expr, 1 ≤ (codeD l C nm).1 ∧ 0 ≤ (codeD l C nm).2 := fun nm hn => by
    obtain ⟨h1, h2, _⟩ := step_name hR hr hn
    have := ih _ h1
    unfold codeD
    rw [if_pos h2]
    exact ⟨this.1, by show 0 ≤ (C _).steps; omega⟩
  have hown : ownC spf l C i = partE spf (findI l) (codeD l C) r.expr := by unfold ownC; rw [hr]
  obtain ⟨s1, s2, s3, s4⟩ := part_size (spf := spf) (fi := findI l) r.expr hD
  have pl := part_len (spf := spf) (fi := findI l) (D := codeD l C) r.expr
  rw [hC i hi, hown]
  refine ⟨by rw [(keep_high _).1]; exact s1, ?_⟩
  unfold keepC
  split
  · show (1 : Int) ≤ 20001; omega
  · omega
theorem codes_D (hR : RightR l) (hC : CodesR spf l C) {i : Nat} {r : Rule} (hr : l[i]? = some r) : ∀ nm ∈ namesE r.expr, 1 ≤ (codeD l C nm).1 ∧ 0 ≤ (codeD l C nm).2 := fun nm hn => by
  obtain ⟨h1, h2, _⟩ := step_name hR hr hn
  have := codes_pos hR hC _ h2
  unfold codeD
  rw [if_pos h2]
  exact ⟨this.1, by show 0 ≤ (C _).steps; omega⟩
/-- what speaks of what is too much is too much -/
theorem much_up (hR : RightR l) (hC : CodesR spf l C) {i k : Nat} (hi : i < l.length) (hs : stepB (directR l) i k = true) (hk : muchC (ownC spf l C k) = true) : muchC (ownC spf l C i) = true := by
  obtain ⟨r, hr⟩ : ∃ r, l[i]? = some r := ⟨_, List.getElem?_eq_getElem hi⟩
  unfold stepB at hs
  rw [directR_at2 hr, List.contains_iff_mem] at hs
  obtain ⟨nm, hn, e⟩ := List.mem_map.1 hs
  obtain ⟨h1, h2, h3⟩ := step_name hR hr hn
  have hkk : placeR l nm = k := by omega
  obtain ⟨_, _, _, s4⟩ := part_size (spf := spf) (fi := findI l) r.expr (codes_D hR hC hr)
  have := s4 nm hn
  have hd : (codeD l C nm).2 = 20001 := by
    unfold codeD
    rw [if_pos h2]
    show (C _).steps = _
    rw [hkk, hC k (by omega)]
    unfold keepC
    rw [if_pos hk]
  have hown : ownC spf l C i = partE spf (findI l) (codeD l C) r.expr := by unfold ownC; rw [hr]
  unfold muchC
  rw [hown]
  have : 20000 < (partE spf (findI l) (codeD l C) r.expr).steps := by omega
  simp [this]

/-- all rules' code as a list -/
def codesL (l : List Rule) (C : Nat → Vm.Code) : List Vm.Code := (List.range l.length).map C
theorem codesL_len : (codesL l C).length = l.length := by unfold codesL; simp
theorem codesL_at {i : Nat} (hi : i < l.length) : (codesL l C)[i]? = some (C i) := by unfold codesL; simp [hi]
theorem codesL_out {i : Nat} {c : Vm.Code} (h : (codesL l C)[i]? = some c) : i < l.length ∧ c = C i := by
  have hi : i < l.length := by have := (List.getElem?_eq_some_iff.1 h).1; rwa [codesL_len] at this
  rw [codesL_at hi] at h
  cases h
  exact ⟨hi, rfl⟩
/-- none is too much -/
def Fits (spf : (Nat → Bool) → List (Int × Int)) (l : List Rule) (C : Nat → Vm.Code) : Prop := ∀ i, i < l.length → muchC (ownC spf l C i) = false
theorem fits_own (hC : CodesR spf l C) (hF : Fits spf l C) {i : Nat} {r : Rule} (hr : l[i]? = some r) : C i = partE spf (findI l) (codeD l C) r.expr ∧ (C i).high ≤ 100 ∧ (C i).steps ≤ 20000 ∧ (C i).ins.length ≤ 2000 := by
  have hi := (List.getElem?_eq_some_iff.1 hr).1
  have hf := hF i hi
  have hown : ownC spf l C i = partE spf (findI l) (codeD l C) r.expr := by unfold ownC; rw [hr]
  have hc : C i = ownC spf l C i := by rw [hC i hi]; exact (keep_high _).2.2 hf
  unfold muchC at hf
  rw [← hc] at hf
  simp only [Bool.or_eq_false_iff, decide_eq_false_iff_not] at hf
  exact ⟨hc.trans hown, by omega, by omega, by omega⟩
theorem fits_costs (hR : RightR l) {i : Nat} {r : Rule} (hr : l[i]? = some r) : ∀ nm ∈ namesE r.expr, Costs (codesL l C) (findI l) (codeD l C) nm := fun nm hn => by
  obtain ⟨h1, h2, h3⟩ := step_name hR hr hn
  unfold Costs upI costI codeD
  rw [if_pos h2, h3]
  show (if (8 : Int) = 8 then _ else _) = _ ∧ (if (8 : Int) = 8 then _ else _) = _
  rw [if_pos rfl, if_pos rfl]
  have : (codesL l C)[((placeR l nm : Nat) : Int).toNat]? = some (C (placeR l nm)) := codesL_at h2
  show (((codesL l C)[((placeR l nm : Nat) : Int).toNat]?).map Vm.Code.high).getD 0 = _ ∧ (((codesL l C)[((placeR l nm : Nat) : Int).toNat]?).map Vm.Code.steps).getD 0 + 1 = _
  rw [this]
  exact ⟨rfl, Int.add_comm _ _⟩

/-! ### no rings -/
theorem scan_none {rule : Int} : ∀ (xs : List Vm.Ins) (s t : List Int), scan rule xs s t = none → ∃ x ∈ xs, x.op = 8 ∧ x.a = rule
  | [], s, t, h => by cases h
  | x :: xs, s, t, h => by
    rw [scan] at h
    by_cases h8 : x.op = 8
    · rw [if_pos h8] at h
      by_cases hr : x.a = rule
      · exact ⟨x, by simp, h8, hr⟩
      · rw [if_neg hr] at h
        split at h
        · obtain ⟨y, hy, h1⟩ := scan_none xs _ _ h; exact ⟨y, by simp [hy], h1⟩
        · obtain ⟨y, hy, h1⟩ := scan_none xs _ _ h; exact ⟨y, by simp [hy], h1⟩
    · rw [if_neg h8] at h
      obtain ⟨y, hy, h1⟩ := scan_none xs _ _ h
      exact ⟨y, by simp [hy], h1⟩
theorem scan_mem {rule : Int} : ∀ (xs : List Vm.Ins) (s t s' t' : List Int), scan rule xs s t = some (s', t') → ∀ y ∈ t', y ∈ t ∨ ∃ x ∈ xs, x.op = 8 ∧ x.a = y
  | [], s, t, s', t', h => by cases h; exact fun y hy => .inl hy
  | x :: xs, s, t, s', t', h => by
    rw [scan] at h
    have up : ∀ {y : Int} {t2 : List Int}, (y ∈ t2 ∨ ∃ x ∈ xs, x.op = 8 ∧ x.a = y) → (y ∈ t2 ∨ ∃ z ∈ x :: xs, z.op = 8 ∧ z.a = y) := fun h => h.imp id fun ⟨z, hz, h1⟩ => ⟨z, by simp [hz], h1⟩
    by_cases h8 : x.op = 8
    · rw [if_pos h8] at h
      split at h
      · cases h
      · split at h
        · exact fun y hy => up (scan_mem xs _ _ _ _ h y hy)
        · intro y hy
          rcases scan_mem xs _ _ _ _ h y hy with h1 | ⟨z, hz, h1⟩
          · rcases List.mem_append.1 h1 with h1 | h1
            · exact .inl h1
            · exact .inr ⟨x, by simp, h8, (List.mem_singleton.1 h1).symm⟩
          · exact .inr ⟨z, by simp [hz], h1⟩
    · rw [if_neg h8] at h
      exact fun y hy => up (scan_mem xs _ _ _ _ h y hy)
theorem Reach.snoc {L : List Vm.Code} {a b c : Int} (h : Vm.Reach L a b) (h2 : calls L b c) : Vm.Reach L a c := by
  induction h with
  | one h1 => exact .more h1 (.one h2)
  | more h1 _ ih => exact .more h1 (ih h2)
theorem bfs_true {L : List Vm.Code} {rule : Int} : ∀ (f : Nat) (s t : List Int), (∀ y ∈ t, y = rule ∨ Vm.Reach L rule y) → bfs L rule f s t = true → Vm.Reach L rule rule
  | 0, s, t, _, h => by cases h
  | f + 1, s, [], _, h => by cases h
  | f + 1, s, t0 :: ts, ht, h => by
    have step : ∀ y, calls L t0 y → Vm.Reach L rule y := fun y hy => by
      rcases ht t0 (by simp) with e | e
      · rw [← e]; exact .one hy
      · exact Reach.snoc e hy
    rw [bfs] at h
    cases hs : scan rule (insOf L t0) s ts with
    | none =>
      obtain ⟨x, hx, h8, ha⟩ := scan_none _ _ _ hs
      exact step rule ⟨x, hx, h8, ha⟩
    | some q =>
      obtain ⟨s', t'⟩ := q
      rw [hs] at h
      refine bfs_true f s' t' (fun y hy => ?_) h
      rcases scan_mem _ _ _ _ _ hs y hy with h1 | ⟨x, hx, h8, ha⟩
      · exact ht y (by simp [h1])
      · exact .inr (step y ⟨x, hx, h8, ha⟩)

theorem insOf_at {i : Nat} (hi : i < l.length) : insOf (codesL l C) (i : Nat) = (C i).ins := by
  unfold insOf
  have : (codesL l C)[((i : Nat) : Int).toNat]? = some (C i) := codesL_at hi
  rw [this]
  rfl
theorem ok_own {nm0 : List UInt8 → Bool} (hR : RightR l) (hC : CodesR spf l C) (hok : ∀ (i : Nat) (r : Rule), l[i]? = some r → okE nm0 r.expr) {i : Nat} {y : Int} (hi : i < l.length) (h : calls (codesL l C) (i : Nat) y) : ∃ k : Nat, y = k ∧ k < l.length ∧ stepB (directR l) i k = true := by
  obtain ⟨r, hr⟩ : ∃ r, l[i]? = some r := ⟨_, List.getElem?_eq_getElem hi⟩
  obtain ⟨x, hx, h8, ha⟩ := h
  rw [insOf_at hi, hC i hi, (keep_high _).2.1] at hx
  have hown : ownC spf l C i = partE spf (findI l) (codeD l C) r.expr := by unfold ownC; rw [hr]
  rw [hown] at hx
  obtain ⟨nm, hn, e⟩ := part_calls r.expr x (hok i r hr) hx h8
  obtain ⟨h1, h2, h3⟩ := step_name hR hr hn
  exact ⟨placeR l nm, by omega, h2, h1⟩
theorem no_reach {nm0 : List UInt8 → Bool} (hR : RightR l) (hC : CodesR spf l C) (hok : ∀ (i : Nat) (r : Rule), l[i]? = some r → okE nm0 r.expr) : ∀ (a b : Int), Vm.Reach (codesL l C) a b → ∀ i : Nat, a = i → i < l.length → ∃ k : Nat, b = k ∧ k < l.length ∧ Wal.Way (stepB (directR l)) l.length i k := by
  intro a b h
  induction h with
  | one hc =>
    intro i e hi
    subst e
    obtain ⟨k, h1, h2, h3⟩ := ok_own hR hC hok hi hc
    exact ⟨k, h1, h2, .one h3⟩
  | more hc _ ih =>
    intro i e hi
    subst e
    obtain ⟨k, h1, h2, h3⟩ := ok_own hR hC hok hi hc
    obtain ⟨m, m1, m2, m3⟩ := ih k h1 h2
    exact ⟨m, m1, m2, .cons h3 h2 m3⟩

/-- the machine finds nothing wrong -/
theorem codes_well {nm0 : List UInt8 → Bool} (hsp : ∀ p, IsSpans (has (setW p)) (spf p)) (hR : RightR l) (h40 : l.length ≤ 40) (hC : CodesR spf l C) (hF : Fits spf l C) (hok : ∀ (i : Nat) (r : Rule), l[i]? = some r → okE nm0 r.expr) : wrongL (codesL l C) = (0, 0) := by
  have hcode : ∀ (i : Nat) (c : Vm.Code), (codesL l C)[i]? = some c → codeErr (codesL l C).length c = 0 ∧ fitErr (codesL l C) i c = 0 := fun i c hc => by
    obtain ⟨hi, rfl⟩ := codesL_out hc
    obtain ⟨r, hr⟩ : ∃ r, l[i]? = some r := ⟨_, List.getElem?_eq_getElem hi⟩
    obtain ⟨f1, f2, f3, f4⟩ := fits_own hC hF hr
    have hp := codes_pos hR hC i hi
    have pl := part_len (spf := spf) (fi := findI l) (D := codeD l C) r.expr
    rw [← f1] at pl
    constructor
    · unfold codeErr
      rw [if_neg (by omega), if_neg (by omega)]
      have hio : InsOk (codesL l C).length (C i).ins.length 0 (C i).ins := by
        have := part_ins (spf := spf) (fi := findI l) (D := codeD l C) (fun p => spans_err (hsp p)) (rules := (codesL l C).length) r.expr (C i).ins.length 0 (hok i r hr) (fun nm hn => by
          obtain ⟨h1, h2, h3⟩ := step_name hR hr hn
          rw [codesL_len]
          omega) (by rw [← f1]; omega)
        rwa [← f1] at this
      have key : ∀ (xs : List Vm.Ins) (k : Nat), (∀ q x, xs[q]? = some x → insErr (codesL l C).length (C i).ins.length (k + q) x = 0) → (firstErr (insErr (codesL l C).length (C i).ins.length) k xs).1 = 0 := by
        intro xs
        induction xs with
        | nil => intro k _; rfl
        | cons x xs ih =>
          intro k h
          have h0 := h 0 x rfl
          rw [Nat.add_zero] at h0
          rw [firstErr, if_pos h0]
          exact ih (k + 1) fun q y hy => by have := h (q + 1) y hy; rwa [show k + (q + 1) = k + 1 + q by omega] at this
      refine key _ 0 fun q x hx => ?_
      refine hio q x ?_
      rw [show ((0 : Nat) : Int) = 0 from rfl, movL_zero]
      exact hx
    · unfold fitErr
      have hrg : ringsL (codesL l C) (i : Nat) = false := by
        cases hq : ringsL (codesL l C) (i : Nat) with
        | false => rfl
        | true =>
          have hre := bfs_true _ _ _ (fun y hy => .inl (by simpa using hy)) hq
          obtain ⟨k, h1, h2, h3⟩ := no_reach hR hC hok _ _ hre i rfl hi
          obtain rfl : i = k := by omega
          exact absurd h3 (hR.noring i hi)
      rw [hrg, if_neg (by decide)]
      have hst := stack_code (spf := spf) (fi := findI l) (D := codeD l C) (L := codesL l C) r.expr (hok i r hr) (fits_costs hR hr) (by rw [← f1]; omega)
      rw [← f1] at hst
      rw [hst, if_pos rfl]
  have key : ∀ (f : Nat → Vm.Code → Int) (cs : List Vm.Code) (k : Nat), (∀ q c, cs[q]? = some c → f (k + q) c = 0) → firstErr f k cs = (0, 0) := by
    intro f cs
    induction cs with
    | nil => intro k _; rfl
    | cons c cs ih =>
      intro k h
      have h0 := h 0 c rfl
      rw [Nat.add_zero] at h0
      rw [firstErr, if_pos h0]
      exact ih (k + 1) fun q y hy => by have := h (q + 1) y hy; rwa [show k + (q + 1) = k + 1 + q by omega] at this
  unfold wrongL
  rw [codesL_len, if_neg (by omega), ← codesL_len (l := l) (C := C), key (fun _ => codeErr (codesL l C).length) _ 0 (fun q c h => (hcode q c h).1), if_pos rfl]
  exact key (fitErr (codesL l C)) _ 0 (fun q c h => by rw [Nat.zero_add]; exact (hcode q c h).2)

/-- the machine leaves what the rules mean -/
theorem codes_run {nm0 : List UInt8 → Bool} (hsp : ∀ p, IsSpans (has (setW p)) (spf p)) (hR : RightR l) (hC : CodesR spf l C) (hF : Fits spf l C) (hok : ∀ (i : Nat) (r : Rule), l[i]? = some r → okE nm0 r.expr) {wd : Nat} {day : Int} {env : List UInt8 → Nat → Bool} (hM : Means wd day l env) : ∀ i, i < l.length → ∃ d m n, runR (codesL l C) wd day d (i : Nat) = some (m, n) ∧ (∀ r, l[i]? = some r → setW m = setW (env r.name)) ∧ 1 ≤ n ∧ (n : Int) ≤ (C i).steps := ring_up hR _ fun i hi ih => by
  obtain ⟨r, hr⟩ : ∃ r, l[i]? = some r := ⟨_, List.getElem?_eq_getElem hi⟩
  obtain ⟨f1, f2, f3, f4⟩ := fits_own hC hF hr
  obtain ⟨d, hd⟩ := all_deep (P := fun k => stepB (directR l) i k = true) (Q := fun d k => ∃ m n, runR (codesL l C) wd day d (k : Nat) = some (m, n) ∧ (∀ r, l[k]? = some r → setW m = setW (env r.name)) ∧ 1 ≤ n ∧ (n : Int) ≤ (C k).steps)
    (fun d d' k hdd ⟨m, n, h1, h2⟩ => ⟨m, n, runR_mono hdd h1, h2⟩) l.length (fun k hk hs => ih k hs)
  have hG := run_part (nm0 := nm0) (spf := spf) (fi := findI l) (D := codeD l C) (wd := wd) (day := day) (env := env) (call := runR (codesL l C) wd day d) (code := (C i).ins) (fun p => spans_set (hsp p)) r.expr 0 (hok i r hr) (fun nm hn => by
    obtain ⟨h1, h2, h3⟩ := step_name hR hr hn
    obtain ⟨m, n, c1, c2, c3, c4⟩ := hd _ h2 h1
    obtain ⟨rk, hrk⟩ : ∃ r, l[placeR l nm]? = some r := ⟨_, List.getElem?_eq_getElem h2⟩
    refine ⟨m, n, by rw [h3]; exact c1, ?_, ?_⟩
    · rw [c2 rk hrk, placeR_name hrk]
    · unfold codeD; rw [if_pos h2]; exact c4) (by
    rw [← f1]
    intro q x hx
    rw [show ((0 : Nat) : Int) = 0 from rfl, movL_zero] at hx
    rwa [Nat.zero_add])
  rw [← f1] at hG
  obtain ⟨qs, k', n', e1, l1, r1, p1, u1⟩ := hG ((C i).ins.length + 1) [] 0 (by omega)
  obtain ⟨m, rfl, hm⟩ := map1 e1
  refine ⟨d + 1, m, n', ?_, fun r' hr' => ?_, p1, u1⟩
  · rw [runR]
    have hL : (codesL l C)[((i : Nat) : Int).toNat]? = some (C i) := codesL_at hi
    rw [hL]
    simp only
    rw [r1]
    obtain ⟨k', rfl⟩ : ∃ j, k' = j + 1 := ⟨k' - 1, by omega⟩
    rw [runIns, List.getElem?_eq_none (by omega)]
    simp
  · rw [hr] at hr'
    cases hr'
    rw [hm, hM i r hr]
end

end Ru
end Go.Proofs.YtbadplbdgpbdaaaDoor

namespace Go.Proofs.YtbadplbdgpbdaaaDoor
namespace Ru
open Msk Vm

/-- a code grown from another one, by so many nodes -/
def RoomC (M high : Int) (n : Nat) (c c' : Vm.Code) : Prop := c.ins.length ≤ c'.ins.length ∧ c'.ins.length ≤ c.ins.length + n ∧ c.steps ≤ c'.steps ∧ c'.steps ≤ c.steps + n * 20002 ∧ c'.high ≤ max c.high (high + n + 1 + M)
theorem RoomC.refl (M high : Int) (c : Vm.Code) : RoomC M high 0 c c := ⟨Nat.le_refl _, Nat.le_refl _, Int.le_refl _, by omega, by omega⟩
theorem RoomC.emit {M high h s : Int} {n : Nat} {c c' : Vm.Code} {x : Vm.Ins} (hc : RoomC M high n c c') (hh : h ≤ high + n + 2 + M) (hs : 0 ≤ s) (hs2 : s ≤ 20002) : RoomC M high (1 + n) c (emitC c' x h s) := by
  obtain ⟨h1, h2, h3, h4, h5⟩ := hc
  have e1 : (emitC c' x h s).ins.length = c'.ins.length + 1 := by unfold emitC; simp
  have e2 : (emitC c' x h s).steps = c'.steps + s := rfl
  have e3 : (emitC c' x h s).high = max c'.high h := rfl
  refine ⟨by omega, by omega, by omega, ?_, ?_⟩
  · rw [e2]; push_cast; omega
  · rw [e3]; push_cast; omega
theorem RoomC.mono {M high : Int} {n m : Nat} {c c' : Vm.Code} (hc : RoomC M high n c c') (h : n ≤ m) : RoomC M high m c c' := by
  obtain ⟨a1, a2, a3, a4, a5⟩ := hc
  exact ⟨a1, by omega, a3, by omega, by omega⟩
theorem RoomC.then {M high : Int} {n m : Nat} {c c' c2 : Vm.Code} (hc : RoomC M high n c c') (h2 : RoomC M (high + 1) m c' c2) (hn : 1 ≤ n) : RoomC M high (n + m) c c2 := by
  obtain ⟨a1, a2, a3, a4, a5⟩ := hc
  obtain ⟨b1, b2, b3, b4, b5⟩ := h2
  refine ⟨by omega, by omega, by omega, ?_, ?_⟩
  · push_cast; omega
  · push_cast; omega
section
variable {spf : (Nat → Bool) → List (Int × Int)} {fi : List UInt8 → Int} {D : List UInt8 → Int × Int} {M : Int}
mutual
theorem code_room (h0 : 0 ≤ M) (hD : ∀ nm, (D nm).1 ≤ M ∧ 0 ≤ (D nm).2 ∧ (D nm).2 ≤ 20001) : ∀ (e : Expr) (high : Int) (c : Vm.Code), RoomC M high (nodesE e) c (codeE spf fi D e high c)
  | .mk k a b nm kids, high, c => by
    rw [codeE, nodesE]
    cases hc : constE (.mk k a b nm kids) with
    | some p =>
      have := (RoomC.refl M high c).emit (x := ⟨1, 0, 0, 0, spf p⟩) (h := high + 1) (s := 1) (by omega) (by omega) (by omega)
      exact this.mono (by omega)
    | none =>
      simp only
      by_cases h45 : k = 4 ∨ k = 5
      · rw [if_pos h45]
        have h1 := (RoomC.refl M high c).emit (x := ⟨if k = 4 then 6 else 7, a, if k = 4 then 0 else b, 0, []⟩) (h := high + 1) (s := 1) (by omega) (by omega) (by omega)
        generalize emitC c ⟨if k = 4 then 6 else 7, a, if k = 4 then 0 else b, 0, []⟩ (high + 1) 1 = c1 at *
        have h2 := code_roomL h0 hD kids high c1
        generalize codeL spf fi D kids high c1 = c2 at *
        obtain ⟨a1, a2, a3, a4, a5⟩ := h1
        obtain ⟨b1, b2, b3, b4, b5⟩ := h2
        refine ⟨?_, ?_, ?_, ?_, ?_⟩
        · show _ ≤ (c2.ins.modify _ _).length
          rw [List.length_modify]; omega
        · show (c2.ins.modify _ _).length ≤ _
          rw [List.length_modify]; omega
        · show _ ≤ c2.steps
          omega
        · show c2.steps ≤ _
          push_cast at *; omega
        · show c2.high ≤ _
          push_cast at *; omega
      · rw [if_neg h45]
        by_cases h9 : k = 9
        · rw [if_pos h9]
          exact (code_roomL h0 hD kids high c).emit (by omega) (by omega) (by omega)
        · rw [if_neg h9]
          by_cases h10 : k = 10
          · rw [if_pos h10]
            obtain ⟨d1, d2, d3⟩ := hD nm
            have := (RoomC.refl M high c).emit (x := ⟨8, fi nm, 0, 0, []⟩) (h := high + (D nm).1) (s := 1 + (D nm).2) (by omega) (by omega) (by omega)
            exact this.mono (by omega)
          · rw [if_neg h10]
            exact (code_roomL h0 hD kids high c).emit (by omega) (by omega) (by omega)
theorem code_roomL (h0 : 0 ≤ M) (hD : ∀ nm, (D nm).1 ≤ M ∧ 0 ≤ (D nm).2 ∧ (D nm).2 ≤ 20001) : ∀ (l : List Expr) (high : Int) (c : Vm.Code), RoomC M high (nodesL l) c (codeL spf fi D l high c)
  | [], high, c => by rw [codeL, nodesL]; exact RoomC.refl M high c
  | e :: l, high, c => by
    rw [codeL, nodesL]
    exact (code_room h0 hD e high c).then (code_roomL h0 hD l (high + 1) (codeE spf fi D e high c)) (nodesE_pos e)
end
end

end Ru
end Go.Proofs.YtbadplbdgpbdaaaDoor

namespace Go.Proofs.YtbadplbdgpbdaaaDoor
namespace Ru
open Msk Vm

section
variable {spf : (Nat → Bool) → List (Int × Int)} {l : List Rule} {C : Nat → Vm.Code}
theorem own_agree (hR : RightR l) {out : Nat → Vm.Code} {i : Nat} (h : ∀ k, stepB (directR l) i k = true → out k = C k) : ownC spf l out i = ownC spf l C i := by
  unfold ownC
  cases hi : l[i]? with
  | none => rfl
  | some r =>
    refine part_loc r.expr fun nm hn => ?_
    obtain ⟨h1, h2, _⟩ := step_name hR hi hn
    unfold codeD
    rw [if_pos h2, if_pos h2, h _ h1]
theorem way_much (hR : RightR l) (hC : CodesR spf l C) : ∀ {i k : Nat}, Wal.Way (stepB (directR l)) l.length i k → i < l.length → muchC (ownC spf l C k) = true → muchC (ownC spf l C i) = true := by
  intro i k h
  induction h with
  | one hs => exact fun hi hk => much_up hR hC hi hs hk
  | cons hs hlt _ ih => exact fun hi hk => much_up hR hC hi hs (ih hlt hk)
/-- what is told of compiling -/
def compR (spf : (Nat → Bool) → List (Int × Int)) (l : List Rule) (C : Nat → Vm.Code) : List Vm.Code × Int × Int :=
  match (List.range l.length).find? fun i => muchC (ownC spf l C i) with
  | some i => ([], 4, ((i : Nat) : Int))
  | none => (codesL l C, 0, 0)
theorem comp_much {i : Nat} (hi : i < l.length) (hm : muchC (ownC spf l C i) = true) (hmin : ∀ k, k < i → muchC (ownC spf l C k) = false) : compR spf l C = ([], 4, ((i : Nat) : Int)) := by
  have : (List.range l.length).find? (fun i => muchC (ownC spf l C i)) = some i := by
    rw [List.find?_range_eq_some]
    exact ⟨hm, by simpa using hi, fun j hj => by rw [hmin j hj]; rfl⟩
  unfold compR
  rw [this]
theorem comp_fits (hF : Fits spf l C) : compR spf l C = (codesL l C, 0, 0) := by
  have : (List.range l.length).find? (fun i => muchC (ownC spf l C i)) = none := by
    rw [List.find?_eq_none]
    intro x hx
    rw [hF x (by simpa using hx)]
    decide
  unfold compR
  rw [this]
theorem comp_cases : (∃ i, i < l.length ∧ muchC (ownC spf l C i) = true ∧ (∀ k, k < i → muchC (ownC spf l C k) = false) ∧ compR spf l C = ([], 4, ((i : Nat) : Int))) ∨ (Fits spf l C ∧ compR spf l C = (codesL l C, 0, 0)) := by
  cases h : (List.range l.length).find? (fun i => muchC (ownC spf l C i)) with
  | none =>
    right
    rw [List.find?_eq_none] at h
    have hF : Fits spf l C := fun i hi => by have := h i (by simpa using hi); simpa using this
    exact ⟨hF, comp_fits hF⟩
  | some i =>
    left
    rw [List.find?_range_eq_some] at h
    obtain ⟨h1, h2, h3⟩ := h
    have hi : i < l.length := by simpa using h2
    have hmin : ∀ k, k < i → muchC (ownC spf l C k) = false := fun k hk => by have := h3 k hk; simpa using this
    exact ⟨i, hi, h1, hmin, comp_much hi h1 hmin⟩
/-- between two rules -/
structure CompI (spf : (Nat → Bool) → List (Int × Int)) (l : List Rule) (C : Nat → Vm.Code) (done bad : Nat → Bool) (out : Nat → Vm.Code) : Prop where
  bad' : ∀ i, i < l.length → done i = true → bad i = muchC (ownC spf l C i)
  out' : ∀ i, i < l.length → done i = true → muchC (ownC spf l C i) = false → out i = C i
theorem CompI.step {done bad : Nat → Bool} {out : Nat → Vm.Code} (hR : RightR l) (hC : CompI spf l C done bad out) (hCo : CodesR spf l C) {i : Nat} (hi : i < l.length) (hready : ∀ k, k < l.length → Wal.Way (stepB (directR l)) l.length i k → done k = true) :
    ((∃ k, k < l.length ∧ Wal.Way (stepB (directR l)) l.length i k ∧ bad k = true) → muchC (ownC spf l C i) = true) ∧ ((¬ ∃ k, k < l.length ∧ Wal.Way (stepB (directR l)) l.length i k ∧ bad k = true) → ownC spf l out i = ownC spf l C i) := by
  constructor
  · rintro ⟨k, hk, hw, hb⟩
    rw [hC.bad' k hk (hready k hk hw)] at hb
    exact way_much hR hCo hw hi hb
  · intro hno
    refine own_agree hR fun k hs => ?_
    have hk := stepB_lt hs
    have hw : Wal.Way (stepB (directR l)) l.length i k := .one hs
    have hd := hready k hk hw
    refine hC.out' k hk hd ?_
    cases hm : muchC (ownC spf l C k) with
    | false => rfl
    | true => exact absurd ⟨k, hk, hw, by rw [hC.bad' k hk hd, hm]⟩ hno
end

end Ru
end Go.Proofs.YtbadplbdgpbdaaaDoor
