/- What the document's walk over tokens makes of them, plainly, in every state, good or bad; and that it is what parsing makes of them. No walk. How far the document's walk over tokens goes, and how many nodes it counts, plainly. No walk. What parsing makes of tokens has the right form, but perhaps for its depth; the document's walk, whole, makes what parsing makes. No walk. -/
import Derived.Test.YtfhedopfjgjffaaParP
namespace Go.Proofs.Ytfhedopfjgjffaa
namespace Ru
open Lx

/-- where the document's walk stands: the next token, how many nodes, the first fault and its place -/
structure St where
  i : Nat
  nd : Nat
  err : Int
  po : Int
def G (i nd : Nat) : St := ⟨i, nd, 0, 0⟩
def goodS (s : St) : Bool := s.err == 0
def incS (s : St) : St := ⟨s.i + 1, s.nd, s.err, s.po⟩
def stopS (e p : Int) (s : St) : St := if goodS s = true then ⟨s.i, s.nd, e, p⟩ else s

section
variable (l : List Tok) (en : Int)
def nextS (s : St) : Tok := (l[s.i]?).getD (0, 0, en, [])
def onS (k : Int) (text : List UInt8) (s : St) : Bool := goodS s && (nextS l en s).1 == k && (nextS l en s).2.2.2 == text
def needS (text : List UInt8) (s : St) : St := if onS l en 3 text s = true then incS s else stopS 2 (nextS l en s).2.2.1 s
def getS (k : Int) (s : St) : St := if (!goodS s || (nextS l en s).1 != k) = true then stopS 2 (nextS l en s).2.2.1 s else incS s
def madeS (s : St) : St := if 600 < s.nd + 1 then stopS 4 (nextS l en s).2.2.1 ⟨s.i, s.nd + 1, s.err, s.po⟩ else ⟨s.i, s.nd + 1, s.err, s.po⟩
/-- a fault, if all was well and something is not -/
def faultS (c : Bool) (e p : Int) (s : St) : St := if (goodS s && c) = true then stopS e p s else s
/-- behind a sign that may stand here -/
def optS (text : List UInt8) (s : St) : St := if onS l en 3 text s = true then incS s else s
def offN (t : Tok) : Bool := t.2.1 == 0 || decide (1439 < t.2.1)
def numS (s : St) : St := faultS (offN (nextS l en s)) 3 (nextS l en s).2.2.1 (getS l en 6 s)
def sgS (s : St) : Int := if onS l en 3 [45] s = true then -1 else 1
def shiftsS : Nat → Expr → St → Expr × St
  | 0, e, s => (e, s)
  | f + 1, e, s =>
    if onS l en 2 shiftT s = true then
      if goodS (numS l en (optS l en [45] (incS s))) = true then shiftsS f (.mk 9 (sgS l en (incS s) * (nextS l en (optS l en [45] (incS s))).2.1) 0 [] [e]) (madeS l en (numS l en (optS l en [45] (incS s))))
      else (e, numS l en (optS l en [45] (incS s)))
    else (e, s)
def signsS (op : St → Int) (sub : St → Expr × St) : Nat → Expr → St → Expr × St
  | 0, e, s => (e, s)
  | f + 1, e, s =>
    if op s = 0 then (e, s)
    else if goodS (sub (incS s)).2 = true then signsS op sub f (.mk (op s) 0 0 [] [e, (sub (incS s)).1]) (madeS l en (sub (incS s)).2)
    else (e, (sub (incS s)).2)
def plusS (s : St) : Int := if onS l en 3 [43] s = true then 6 else if onS l en 3 [45] s = true then 7 else 0
def andS (s : St) : Int := if onS l en 3 [38] s = true then 8 else 0
def factorS (th : St → Expr × St) (s : St) : Expr × St := shiftsS l en (l.length + 1) (th s).1 (th s).2
def termS (fa : St → Expr × St) (s : St) : Expr × St := signsS l en (andS l en) fa (l.length + 1) (fa s).1 (fa s).2
def sumS (te : St → Expr × St) (s : St) : Expr × St := signsS l en (plusS l en) te (l.length + 1) (te s).1 (te s).2
def exprS (th : St → Expr × St) : St → Expr × St := sumS l en (termS l en (factorS l en th))
def guardS (fa : St → Expr × St) (k a b : Int) (s : St) : Expr × St :=
  if goodS (fa (needS l en [58] s)).2 = true then (.mk k a b [] [(fa (needS l en [58] s)).1], madeS l en (fa (needS l en [58] s)).2) else (.mk k a b [] [], (fa (needS l en [58] s)).2)
def dayB (s : List UInt8) : Nat := if dayT s < 7 then 2 ^ dayT s else 0
def dayS (s : St) : St := faultS (dayB (nextS l en s).2.2.2 == 0) 2 (nextS l en s).2.2.1 (getS l en 2 s)
def weekS : Nat → Nat → St → Nat × St
  | 0, set, s => (set, s)
  | f + 1, set, s =>
    if goodS s = true then
      if onS l en 3 [44] (dayS l en s) = true then weekS f (set ||| dayB (nextS l en s).2.2.2) (incS (dayS l en s)) else (set ||| dayB (nextS l en s).2.2.2, dayS l en s)
    else (set, s)
def weeklyS (fa : St → Expr × St) (s : St) : Expr × St := guardS l en fa 4 (weekS l en (l.length + 1) 0 s).1 0 (weekS l en (l.length + 1) 0 s).2
def toS (a : Tok) (s : St) : St := faultS (decide ((nextS l en s).2.1 < a.2.1)) 3 (nextS l en s).2.2.1 (getS l en 5 s)
def datesS (fa : St → Expr × St) (s : St) : Expr × St :=
  if onS l en 3 [46, 46] (getS l en 5 s) = true then guardS l en fa 5 (nextS l en s).2.1 (nextS l en (incS (getS l en 5 s))).2.1 (toS l en (nextS l en s) (incS (getS l en 5 s)))
  else guardS l en fa 5 (nextS l en s).2.1 (nextS l en s).2.1 (getS l en 5 s)
def nilE : Expr := .mk 0 0 0 [] []
def untilS (a : Tok) (s : St) : St := faultS (decide ((nextS l en s).2.1 ≤ a.2.1)) 3 (nextS l en s).2.2.1 (getS l en 4 s)
def spanS (s : St) : Expr × St :=
  if goodS (untilS l en (nextS l en s) (needS l en [45] (getS l en 4 s))) = true then (.mk 3 (nextS l en s).2.1 (nextS l en (needS l en [45] (getS l en 4 s))).2.1 [] [], madeS l en (untilS l en (nextS l en s) (needS l en [45] (getS l en 4 s))))
  else (nilE, untilS l en (nextS l en s) (needS l en [45] (getS l en 4 s)))
def wordS (s : St) (text : List UInt8) : Bool := (nextS l en s).1 == 2 && (nextS l en s).2.2.2 == text
def thingS : Nat → St → Expr × St
  | 0, s => (nilE, stopS 4 (nextS l en s).2.2.1 s)
  | d + 1, s =>
    if goodS s = false then (nilE, s)
    else if onS l en 3 [40] s = true then ((exprS l en (thingS d) (incS s)).1, needS l en [41] (exprS l en (thingS d) (incS s)).2)
    else if wordS l en s neverT = true then (.mk 1 0 0 [] [], madeS l en (incS s))
    else if wordS l en s alwaysT = true then (.mk 2 0 0 [] [], madeS l en (incS s))
    else if wordS l en s weeklyT = true then weeklyS l en (factorS l en (thingS d)) (incS s)
    else if wordS l en s datesT = true then datesS l en (factorS l en (thingS d)) (incS s)
    else if (nextS l en s).1 = 1 then (.mk 10 0 0 (nextS l en s).2.2.2 [], madeS l en (incS s))
    else spanS l en s
mutual
def deepE : Expr → Nat
  | .mk _ _ _ _ kids => deepK kids + 1
def deepK : List Expr → Nat
  | [] => 0
  | e :: l => max (deepE e) (deepK l)
end
def zeroS (s : St) : St := ⟨s.i, 0, s.err, s.po⟩
/-- where a rule's expression begins -/
def headS (n : Nat) (s : St) : St := if 40 ≤ n then stopS 5 (nextS l en s).2.2.1 s else s
def bodyS (n : Nat) (s : St) : Expr × St := exprS l en (thingS l en 40) (zeroS (needS l en [61] (getS l en 1 (headS l en n s))))
def tailS (r : Expr × St) : St := needS l en [59] (faultS (decide (40 < deepE r.1)) 4 (nextS l en r.2).2.2.1 r.2)
def rulesS : Nat → List Rule → St → List Rule × St
  | 0, out, s => (out, s)
  | f + 1, out, s =>
    if (goodS s && decide (s.i < l.length)) = true then
      if onS l en 2 ruleT s = true then rulesS f (out ++ [⟨(nextS l en (headS l en out.length (incS s))).2.2.2, (bodyS l en out.length (incS s)).1⟩]) (tailS l en (bodyS l en out.length (incS s)))
      else (out, stopS 2 (nextS l en s).2.2.1 s)
    else (out, s)
end

/-! ### a fault stays -/
section
variable {l : List Tok} {en : Int}
/-- the same fault -/
def Keep (s s' : St) : Prop := s'.err = s.err ∧ s'.po = s.po
theorem Keep.refl (s : St) : Keep s s := ⟨rfl, rfl⟩
theorem Keep.trans {a b c : St} (h : Keep a b) (h2 : Keep b c) : Keep a c := ⟨h2.1.trans h.1, h2.2.trans h.2⟩
theorem Keep.bad {a b : St} (h : Keep a b) (ha : goodS a = false) : goodS b = false := by
  unfold goodS at ha ⊢
  rw [h.1]; exact ha
theorem stop_keep {e p : Int} {s : St} (h : goodS s = false) : stopS e p s = s := by unfold stopS; rw [if_neg (by simp [h])]
theorem stop_good {e p : Int} {s : St} (h : goodS s = true) : stopS e p s = ⟨s.i, s.nd, e, p⟩ := by unfold stopS; rw [if_pos h]
theorem on_bad {k : Int} {t : List UInt8} {s : St} (h : goodS s = false) : onS l en k t s = false := by unfold onS; rw [h]; rfl
theorem need_keep {t : List UInt8} {s : St} (h : goodS s = false) : needS l en t s = s := by
  unfold needS
  rw [if_neg (by simp [on_bad h]), stop_keep h]
theorem get_keep {k : Int} {s : St} (h : goodS s = false) : getS l en k s = s := by
  unfold getS
  rw [if_pos (by simp [h]), stop_keep h]
theorem fault_keep {c : Bool} {e p : Int} {s : St} (h : goodS s = false) : faultS c e p s = s := by
  unfold faultS
  rw [if_neg (by simp [h])]
theorem shifts_keep {f : Nat} {e : Expr} {s : St} (h : goodS s = false) : shiftsS l en f e s = (e, s) := by
  cases f with
  | zero => rfl
  | succ f => rw [shiftsS, if_neg (by simp [on_bad h])]
/-- an operator stands only where all is well -/
def OpOk (op : St → Int) : Prop := ∀ s, goodS s = false → op s = 0
theorem plus_ok : OpOk (plusS l en) := fun s h => by unfold plusS; simp [on_bad h]
theorem and_ok : OpOk (andS l en) := fun s h => by unfold andS; simp [on_bad h]
theorem signs_keep {op : St → Int} (ho : OpOk op) {sub : St → Expr × St} {f : Nat} {e : Expr} {s : St} (h : goodS s = false) : signsS l en op sub f e s = (e, s) := by
  cases f with
  | zero => rfl
  | succ f => rw [signsS, if_pos (ho s h)]
/-- what is wrong stays as it was -/
def Stuck {α : Type} (f : St → α × St) : Prop := ∀ s, goodS s = false → (f s).2 = s
theorem factor_stuck {th : St → Expr × St} (h : Stuck th) : Stuck (factorS l en th) := fun s hs => by
  unfold factorS
  rw [h s hs, shifts_keep hs]
theorem term_stuck {th : St → Expr × St} (h : Stuck th) : Stuck (termS l en th) := fun s hs => by
  unfold termS
  rw [h s hs, signs_keep and_ok hs]
theorem sum_stuck {th : St → Expr × St} (h : Stuck th) : Stuck (sumS l en th) := fun s hs => by
  unfold sumS
  rw [h s hs, signs_keep plus_ok hs]
theorem expr_stuck {th : St → Expr × St} (h : Stuck th) : Stuck (exprS l en th) := sum_stuck (term_stuck (factor_stuck h))
theorem guard_stuck {fa : St → Expr × St} (h : Stuck fa) (k a b : Int) : Stuck (guardS l en fa k a b) := fun s hs => by
  unfold guardS
  rw [need_keep hs, h s hs, if_neg (by simp [hs])]
theorem thing_stuck : ∀ (d : Nat), Stuck (thingS l en d)
  | 0 => fun s hs => by rw [thingS, stop_keep hs]
  | d + 1 => fun s hs => by rw [thingS, if_pos hs]

/-! ### it is what parsing makes of them -/
def Sim {α : Type} (v : α) (s : St) (p : Res α) : Prop := match p with
  | .ok x j nj => v = x ∧ s = G j nj
  | .bad e q => s.err = e ∧ s.po = q ∧ e ≠ 0
theorem good_G (i nd : Nat) : goodS (G i nd) = true := rfl
theorem here_next (i nd : Nat) : (nextS l en (G i nd)).2.2.1 = hereP l en i := by
  unfold nextS hereP G
  cases l[i]? <;> rfl
theorem on_is {i nd : Nat} {k : Int} {t : List UInt8} (hk : k ≠ 0) : onS l en k t (G i nd) = isP l i k t := by
  unfold onS isP nextS
  rw [good_G]
  show (true && ((l[i]?).getD (0, 0, en, [])).1 == k && ((l[i]?).getD (0, 0, en, [])).2.2.2 == t) = _
  cases l[i]? with
  | none =>
    show (true && ((0 : Int) == k) && _) = false
    rw [show ((0 : Int) == k) = false from by simp; omega]
    rfl
  | some x => rfl
theorem word_is {i nd : Nat} {t : List UInt8} : wordS l en (G i nd) t = isP l i 2 t := by
  have := on_is (l := l) (en := en) (i := i) (nd := nd) (k := 2) (t := t) (by decide)
  unfold onS at this
  rw [good_G, Bool.true_and] at this
  exact this
theorem inc_G (i nd : Nat) : incS (G i nd) = G (i + 1) nd := rfl
theorem need_sim (t : List UInt8) (i nd : Nat) : Sim () (needS l en t (G i nd)) (mustP l en t i nd) := by
  unfold needS mustP
  rw [on_is (by decide)]
  cases h : isP l i 3 t with
  | true => exact ⟨rfl, rfl⟩
  | false =>
    simp only [Bool.false_eq_true, if_false]
    rw [stop_good (good_G _ _), here_next]
    exact ⟨rfl, rfl, by decide⟩
theorem get_sim (k : Int) (hk : k ≠ 0) (i nd : Nat) : Sim (nextS l en (G i nd)) (getS l en k (G i nd)) (takeP l en k i nd) := by
  unfold getS takeP
  rw [good_G, here_next]
  unfold nextS failP
  show Sim ((l[i]?).getD (0, 0, en, [])) (if (!true || ((l[i]?).getD (0, 0, en, [])).1 != k) = true then _ else _) _
  cases hl : l[i]? with
  | none =>
    rw [if_pos (by show (!true || ((0 : Int) != k)) = true; simp; omega), stop_good (good_G _ _)]
    exact ⟨rfl, rfl, by decide⟩
  | some t =>
    show Sim t (if (!true || (t.1 != k)) = true then _ else _) (if t.1 = k then _ else _)
    by_cases h : t.1 = k
    · rw [if_pos h, if_neg (by simp [h])]
      exact ⟨rfl, rfl⟩
    · rw [if_neg h, if_pos (by simp [h]), stop_good (good_G _ _)]
      exact ⟨rfl, rfl, by decide⟩
theorem made_sim (e : Expr) (i nd : Nat) : Sim e (madeS l en (G i nd)) (nodeP l en e i nd) := by
  unfold madeS nodeP failP
  rw [here_next]
  by_cases h : 600 < nd + 1
  · rw [if_pos h, if_pos (show 600 < (G i nd).nd + 1 from h), stop_good rfl]
    exact ⟨rfl, rfl, by decide⟩
  · rw [if_neg h, if_neg (show ¬ 600 < (G i nd).nd + 1 from h)]
    exact ⟨rfl, rfl⟩
/-- the same, in a good state -/
def SimF {α : Type} (f : St → α × St) (p : Nat → Nat → Res α) : Prop := ∀ i nd, Sim (f (G i nd)).1 (f (G i nd)).2 (p i nd)
/-- one thing behind the other -/
theorem Sim.bad_of {α : Type} {v : α} {s : St} {e q : Int} (h : Sim v s (.bad e q)) : goodS s = false := by
  obtain ⟨h1, _, h2⟩ := h
  unfold goodS
  rw [h1]; simpa using h2
theorem Sim.bind {α β : Type} {v : α} {s : St} {p : Res α} (h : Sim v s p) {u : β} {s' : St} {g : α → Nat → Nat → Res β} (hb : goodS s = false → s' = s) (hg : ∀ i nd, s = G i nd → Sim u s' (g v i nd)) : Sim u s' (p.bind g) := by
  cases p with
  | ok x j nj =>
    obtain ⟨rfl, rfl⟩ := h
    exact hg j nj rfl
  | bad e q =>
    rw [hb h.bad_of]
    exact h

/-- words that the lexer tells: numbers are not below nought -/
def NumOk (l : List Tok) : Prop := ∀ (i : Nat) (t : Tok), l[i]? = some t → 0 ≤ t.2.1
theorem NumOk.next (h : NumOk l) (s : St) : 0 ≤ (nextS l en s).2.1 := by
  unfold nextS
  cases hl : l[s.i]? with
  | none => exact Int.le_refl 0
  | some t => exact h _ _ hl
theorem fault_good {c : Bool} {e p : Int} {s : St} (h : goodS s = true) : faultS c e p s = if c = true then ⟨s.i, s.nd, e, p⟩ else s := by
  unfold faultS
  rw [h, Bool.true_and]
  cases c with
  | true => simp only [if_true]; exact stop_good h
  | false => rfl
theorem shifts_sim (hN : NumOk l) : ∀ (f : Nat) (e : Expr), SimF (shiftsS l en f e) (shiftsP l en f e)
  | 0, e => fun i nd => ⟨rfl, rfl⟩
  | f + 1, e => fun i nd => by
    rw [shiftsS, shiftsP, on_is (by decide)]
    cases h : isP l i 2 shiftT with
    | false => simp only [Bool.false_eq_true, if_false]; exact ⟨rfl, rfl⟩
    | true =>
      simp only [if_true]
      obtain ⟨j, hj⟩ : ∃ j, j = (if isP l (i + 1) 3 [45] = true then i + 2 else i + 1) := ⟨_, rfl⟩
      have e1 : optS l en [45] (incS (G i nd)) = G j nd := by
        unfold optS
        rw [inc_G, on_is (by decide), hj]
        split <;> rfl
      have e2 : sgS l en (incS (G i nd)) = if isP l (i + 1) 3 [45] = true then -1 else 1 := by
        unfold sgS
        rw [inc_G, on_is (by decide)]
      rw [e1, e2, ← hj]
      have hn := hN.next (en := en) (G j nd)
      refine (get_sim 6 (by decide) j nd).bind (fun hb => ?_) fun k nk hk => ?_
      · have : numS l en (G j nd) = getS l en 6 (G j nd) := by unfold numS; exact fault_keep hb
        rw [this, if_neg (by simp [hb])]
      · have e3 : numS l en (G j nd) = if offN (nextS l en (G j nd)) = true then ⟨k, nk, 3, hereP l en j⟩ else G k nk := by
          unfold numS
          rw [hk, fault_good (good_G _ _), here_next]
          rfl
        rw [e3]
        by_cases h0 : (nextS l en (G j nd)).2.1 < 1 ∨ 1440 ≤ (nextS l en (G j nd)).2.1
        · have h1 : offN (nextS l en (G j nd)) = true := by unfold offN; simp; omega
          rw [if_pos h0, if_pos h1, if_neg (by show ¬ ((3 : Int) == 0) = true; decide)]
          exact ⟨rfl, rfl, by decide⟩
        · have h1 : ¬ offN (nextS l en (G j nd)) = true := by unfold offN; simp; omega
          rw [if_neg h0, if_neg h1, if_pos (good_G _ _)]
          refine (made_sim _ k nk).bind (fun hb => ?_) fun k2 nk2 hk2 => ?_
          · rw [shifts_keep hb]
          · rw [hk2]; exact shifts_sim hN f _ k2 nk2
theorem signs_sim {op : St → Int} (ho : OpOk op) {opP : Nat → Int} (hop : ∀ i nd, op (G i nd) = opP i) {sub : St → Expr × St} {subP : Nat → Nat → Res Expr} (hs : SimF sub subP) : ∀ (f : Nat) (e : Expr), SimF (signsS l en op sub f e) (signsP l en opP subP f e)
  | 0, e => fun i nd => ⟨rfl, rfl⟩
  | f + 1, e => fun i nd => by
    rw [signsS, signsP, hop, inc_G]
    by_cases h : opP i = 0
    · rw [if_pos h, if_pos h]; exact ⟨rfl, rfl⟩
    · rw [if_neg h, if_neg h]
      refine (hs (i + 1) nd).bind (fun hb => ?_) fun k nk hk => ?_
      · rw [if_neg (by simp [hb])]
      · rw [hk, if_pos (good_G _ _)]
        refine (made_sim _ k nk).bind (fun hb => ?_) fun k2 nk2 hk2 => ?_
        · rw [signs_keep ho hb]
        · rw [hk2]; exact signs_sim ho hop hs f _ k2 nk2
theorem plus_sim (i nd : Nat) : plusS l en (G i nd) = plusP l i := by unfold plusS plusP; rw [on_is (by decide), on_is (by decide)]
theorem and_sim (i nd : Nat) : andS l en (G i nd) = andP l i := by unfold andS andP; rw [on_is (by decide)]
theorem factor_sim (hN : NumOk l) {th : St → Expr × St} {thP : Nat → Nat → Res Expr} (h : SimF th thP) : SimF (factorS l en th) (factorP l en thP) := fun i nd => by
  unfold factorS factorP
  refine (h i nd).bind (fun hb => by rw [shifts_keep hb]) fun k nk hk => ?_
  rw [hk]; exact shifts_sim hN _ _ k nk
theorem expr_sim (hN : NumOk l) {th : St → Expr × St} {thP : Nat → Nat → Res Expr} (h : SimF th thP) : SimF (exprS l en th) (exprP l en thP) := by
  have hf := factor_sim (en := en) hN h
  have ht : SimF (termS l en (factorS l en th)) (termP l en thP) := fun i nd => by
    unfold termS termP
    refine (hf i nd).bind (fun hb => by rw [signs_keep and_ok hb]) fun k nk hk => ?_
    rw [hk]; exact signs_sim and_ok and_sim hf _ _ k nk
  intro i nd
  unfold exprS sumS exprP
  refine (ht i nd).bind (fun hb => by rw [signs_keep plus_ok hb]) fun k nk hk => ?_
  rw [hk]; exact signs_sim plus_ok plus_sim ht _ _ k nk
theorem guard_sim {fa : St → Expr × St} {faP : Nat → Nat → Res Expr} (hst : Stuck fa) (h : SimF fa faP) (k a b : Int) (i nd : Nat) : Sim (guardS l en fa k a b (G i nd)).1 (guardS l en fa k a b (G i nd)).2 ((mustP l en [58] i nd).bind fun _ j nd => (faP j nd).bind fun e j nd => nodeP l en (.mk k a b [] [e]) j nd) := by
  unfold guardS
  refine (need_sim [58] i nd).bind (fun hb => ?_) fun j nj hj => ?_
  · rw [hst _ hb, if_neg (by simp [hb])]
  · rw [hj]
    refine (h j nj).bind (fun hb => ?_) fun j2 nj2 hj2 => ?_
    · rw [if_neg (by simp [hb])]
    · rw [hj2, if_pos (good_G _ _)]
      exact made_sim _ j2 nj2
theorem guard_stuck2 {fa : St → Expr × St} (h : Stuck fa) (k a b : Int) {s : St} (hs : goodS s = false) : (guardS l en fa k a b s).2 = s := guard_stuck h k a b s hs
theorem week_sim : ∀ (f set : Nat), SimF (weekS l en f set) (weekP l en f set)
  | 0, set => fun i nd => ⟨rfl, rfl⟩
  | f + 1, set => fun i nd => by
    rw [weekS, weekP, if_pos (good_G _ _)]
    refine (get_sim 2 (by decide) i nd).bind (fun hb => ?_) fun j nj hj => ?_
    · have : dayS l en (G i nd) = getS l en 2 (G i nd) := by unfold dayS; exact fault_keep hb
      rw [this, if_neg (by simp [on_bad hb])]
    · have e3 : dayS l en (G i nd) = if (dayB (nextS l en (G i nd)).2.2.2 == 0) = true then ⟨j, nj, 2, hereP l en i⟩ else G j nj := by
        unfold dayS
        rw [hj, fault_good (good_G _ _), here_next]
        rfl
      rw [e3]
      by_cases h : dayT (nextS l en (G i nd)).2.2.2 < 7
      · have e4 : dayB (nextS l en (G i nd)).2.2.2 = 2 ^ dayT (nextS l en (G i nd)).2.2.2 := by unfold dayB; rw [if_pos h]
        have e5 : ¬ (2 ^ dayT (nextS l en (G i nd)).2.2.2 == 0) = true := by
          have : 0 < 2 ^ dayT (nextS l en (G i nd)).2.2.2 := Nat.two_pow_pos _
          simp
        rw [if_pos h, e4, if_neg e5, on_is (by decide)]
        cases isP l j 3 [44] with
        | true => simp only [if_true]; exact week_sim f _ (j + 1) nj
        | false => simp only [Bool.false_eq_true, if_false]; exact ⟨rfl, rfl⟩
      · have e4 : dayB (nextS l en (G i nd)).2.2.2 = 0 := by unfold dayB; rw [if_neg h]
        rw [if_neg h, e4, if_pos (show ((0 : Nat) == 0) = true from rfl), if_neg (by rw [on_bad (show goodS ⟨j, nj, 2, hereP l en i⟩ = false from rfl)]; decide)]
        exact ⟨rfl, rfl, by decide⟩
theorem weekly_sim {fa : St → Expr × St} {faP : Nat → Nat → Res Expr} (hst : Stuck fa) (h : SimF fa faP) : SimF (weeklyS l en fa) (weeklyP l en faP) := fun i nd => by
  unfold weeklyS weeklyP
  refine (week_sim (l.length + 1) 0 i nd).bind (fun hb => guard_stuck2 hst _ _ _ hb) fun j nj hj => ?_
  rw [hj]; exact guard_sim hst h _ _ _ j nj
theorem dates_sim {fa : St → Expr × St} {faP : Nat → Nat → Res Expr} (hst : Stuck fa) (h : SimF fa faP) : SimF (datesS l en fa) (datesP l en faP) := fun i nd => by
  unfold datesS datesP
  refine (get_sim 5 (by decide) i nd).bind (fun hb => ?_) fun j nj hj => ?_
  · rw [if_neg (by simp [on_bad hb])]; exact guard_stuck2 hst _ _ _ hb
  · rw [hj, on_is (by decide)]
    cases isP l j 3 [46, 46] with
    | false =>
      simp only [Bool.false_eq_true, if_false]
      exact guard_sim hst h _ _ _ j nj
    | true =>
      simp only [if_true, inc_G]
      have key : Sim (nextS l en (G (j + 1) nj)).2.1 (toS l en (nextS l en (G i nd)) (G (j + 1) nj)) ((takeP l en 5 (j + 1) nj).bind fun b k nd2 => if b.2.1 < (nextS l en (G i nd)).2.1 then failP l en 3 (j + 1) else .ok b.2.1 k nd2) := by
        refine (get_sim 5 (by decide) (j + 1) nj).bind (fun hb => by unfold toS; exact fault_keep hb) fun k nk hk => ?_
        unfold toS
        rw [hk, fault_good (good_G _ _), here_next]
        by_cases h0 : (nextS l en (G (j + 1) nj)).2.1 < (nextS l en (G i nd)).2.1
        · rw [if_pos h0, if_pos (by simpa using h0)]; exact ⟨rfl, rfl, by decide⟩
        · rw [if_neg h0, if_neg (by simpa using h0)]; exact ⟨rfl, rfl⟩
      refine key.bind (fun hb => guard_stuck2 hst _ _ _ hb) fun k nk hk => ?_
      rw [hk]; exact guard_sim hst h _ _ _ k nk
theorem span_sim : SimF (spanS l en) (spanP l en) := fun i nd => by
  have kn : ∀ {a : Tok} {s : St}, goodS s = false → untilS l en a s = s := fun {a s} hb => by
    unfold untilS
    rw [get_keep hb, fault_keep hb]
  unfold spanS spanP
  refine (get_sim 4 (by decide) i nd).bind (fun hb => ?_) fun j nj hj => ?_
  · rw [need_keep hb, kn hb, if_neg (by simp [hb])]
  · rw [hj]
    refine (need_sim [45] j nj).bind (fun hb => ?_) fun j2 nj2 hj2 => ?_
    · rw [kn hb, if_neg (by simp [hb])]
    · rw [hj2]
      refine (get_sim 4 (by decide) j2 nj2).bind (fun hb => ?_) fun j3 nj3 hj3 => ?_
      · have : untilS l en (nextS l en (G i nd)) (G j2 nj2) = getS l en 4 (G j2 nj2) := by unfold untilS; exact fault_keep hb
        rw [this, if_neg (by simp [hb])]
      · have e3 : untilS l en (nextS l en (G i nd)) (G j2 nj2) = if decide ((nextS l en (G j2 nj2)).2.1 ≤ (nextS l en (G i nd)).2.1) = true then ⟨j3, nj3, 3, hereP l en j2⟩ else G j3 nj3 := by
          unfold untilS
          rw [hj3, fault_good (good_G _ _), here_next]
          rfl
        rw [e3]
        by_cases h0 : (nextS l en (G j2 nj2)).2.1 ≤ (nextS l en (G i nd)).2.1
        · have h1 : decide ((nextS l en (G j2 nj2)).2.1 ≤ (nextS l en (G i nd)).2.1) = true := by simpa using h0
          rw [if_pos h0, if_pos h1, if_neg (by show ¬ ((3 : Int) == 0) = true; decide)]; exact ⟨rfl, rfl, by decide⟩
        · have h1 : ¬ decide ((nextS l en (G j2 nj2)).2.1 ≤ (nextS l en (G i nd)).2.1) = true := by simpa using h0
          rw [if_neg h0, if_neg h1, if_pos (good_G _ _)]; exact made_sim _ j3 nj3
theorem thing_sim (hN : NumOk l) : ∀ (d : Nat), SimF (thingS l en d) (thingP l en d)
  | 0 => fun i nd => by
    rw [thingS, thingP, stop_good (good_G _ _), here_next]
    exact ⟨rfl, rfl, by decide⟩
  | d + 1 => fun i nd => by
    have ih := thing_sim hN d
    have hfs := factor_stuck (l := l) (en := en) (thing_stuck (l := l) (en := en) d)
    have hf := factor_sim (en := en) hN ih
    rw [thingS, thingP, if_neg (by rw [good_G]; decide), on_is (by decide), word_is, word_is, word_is, word_is, inc_G]
    split
    · refine (expr_sim hN ih (i + 1) nd).bind (fun hb => need_keep hb) fun j nj hj => ?_
      show Sim _ _ ((mustP l en [41] j nj).bind _)
      rw [hj]
      exact (need_sim [41] j nj).bind (fun _ => rfl) fun k nk hk => ⟨rfl, hk⟩
    split
    · exact made_sim _ (i + 1) nd
    split
    · exact made_sim _ (i + 1) nd
    split
    · exact weekly_sim hfs hf (i + 1) nd
    split
    · exact dates_sim hfs hf (i + 1) nd
    by_cases hk : kindP l i 1 = true
    · obtain ⟨t, ht, ht1⟩ : ∃ t, l[i]? = some t ∧ t.1 = 1 := by
        unfold kindP at hk
        cases ht : l[i]? with
        | none => rw [ht] at hk; cases hk
        | some t => rw [ht] at hk; exact ⟨t, rfl, by simpa using hk⟩
      have hx : nextS l en (G i nd) = t := by unfold nextS G; rw [ht]; rfl
      rw [if_pos hk, hx, if_pos ht1]
      have : takeP l en 1 i nd = .ok t (i + 1) nd := by unfold takeP; rw [ht]; show (if t.1 = 1 then _ else _) = _; rw [if_pos ht1]
      rw [this]
      exact made_sim _ (i + 1) nd
    · have : ¬ (nextS l en (G i nd)).1 = 1 := fun h => hk (by
        unfold nextS G at h
        unfold kindP
        cases ht : l[i]? with
        | none => rw [ht] at h; cases h
        | some t => rw [ht] at h; simpa using h)
      rw [if_neg hk, if_neg this]
      exact span_sim i nd
end

end Ru
end Go.Proofs.Ytfhedopfjgjffaa

namespace Go.Proofs.Ytfhedopfjgjffaa
namespace Ru
open Lx

section
variable {l : List Tok} {en : Int}
theorem next_lt {s : St} {k : Int} (hk : k ≠ 0) (h : (nextS l en s).1 = k) : s.i < l.length := by
  rcases Nat.lt_or_ge s.i l.length with h2 | h2
  · exact h2
  · unfold nextS at h
    rw [List.getElem?_eq_none h2] at h
    exact absurd h.symm hk
theorem on_lt {s : St} {k : Int} {t : List UInt8} (hk : k ≠ 0) (h : onS l en k t s = true) : s.i < l.length ∧ goodS s = true ∧ (nextS l en s).1 = k ∧ (nextS l en s).2.2.2 = t := by
  unfold onS at h
  simp only [Bool.and_eq_true, beq_iff_eq] at h
  exact ⟨next_lt hk h.1.2, h.1.1, h.1.2, h.2⟩

/-- within its tokens, and its nodes not too many, if all is well -/
structure Inb (l : List Tok) (s : St) : Prop where
  i : s.i ≤ l.length
  nd : goodS s = true → s.nd ≤ 600
structure On (l : List Tok) (s s' : St) : Prop where
  lo : s.i ≤ s'.i
  inb : Inb l s'
theorem On.refl {s : St} (h : Inb l s) : On l s s := ⟨Nat.le_refl _, h⟩
theorem On.trans {a b c : St} (h : On l a b) (h2 : On l b c) : On l a c := ⟨Nat.le_trans h.lo h2.lo, h2.inb⟩
theorem stop_onS {e p : Int} (he : e ≠ 0) {s : St} (h : Inb l s) : On l s (stopS e p s) := by
  unfold stopS
  split
  · exact ⟨Nat.le_refl _, h.i, fun hg => absurd hg (by unfold goodS; simpa using he)⟩
  · exact On.refl h
theorem inc_onS {s : St} (h : Inb l s) (hi : s.i < l.length) : On l s (incS s) := ⟨Nat.le_succ _, hi, h.nd⟩
theorem fault_onS {c : Bool} {e p : Int} (he : e ≠ 0) {s : St} (h : Inb l s) : On l s (faultS c e p s) := by
  unfold faultS
  split
  · exact stop_onS he h
  · exact On.refl h
theorem need_onS {t : List UInt8} {s : St} (h : Inb l s) : On l s (needS l en t s) := by
  unfold needS
  split
  · rename_i hq; exact inc_onS h (on_lt (by decide) hq).1
  · exact stop_onS (by decide) h
theorem opt_onS {t : List UInt8} {s : St} (h : Inb l s) : On l s (optS l en t s) := by
  unfold optS
  split
  · rename_i hq; exact inc_onS h (on_lt (by decide) hq).1
  · exact On.refl h
theorem get_onS {k : Int} (hk : k ≠ 0) {s : St} (h : Inb l s) : On l s (getS l en k s) := by
  unfold getS
  split
  · exact stop_onS (by decide) h
  · rename_i hq
    simp only [Bool.or_eq_true, Bool.not_eq_true', bne_iff_ne, ne_eq, not_or, Decidable.not_not] at hq
    exact inc_onS h (next_lt hk hq.2)
theorem made_onS {s : St} (h : Inb l s) : On l s (madeS l en s) := by
  unfold madeS
  split
  · unfold stopS
    split
    · exact ⟨Nat.le_refl _, h.i, fun hg => absurd hg (by unfold goodS; simp)⟩
    · rename_i hq; exact ⟨Nat.le_refl _, h.i, fun hg => absurd hg hq⟩
  · exact ⟨Nat.le_refl _, h.i, fun _ => by show s.nd + 1 ≤ 600; omega⟩
theorem num_onS {s : St} (h : Inb l s) : On l s (numS l en s) := by
  unfold numS
  exact (get_onS (by decide) h).trans (fault_onS (by decide) (get_onS (by decide) h).inb)
def OnF (l : List Tok) (f : St → Expr × St) : Prop := ∀ s, Inb l s → On l s (f s).2
theorem shifts_onS : ∀ (f : Nat) (e : Expr), OnF l (shiftsS l en f e)
  | 0, e => fun s h => On.refl h
  | f + 1, e => fun s h => by
    rw [shiftsS]
    split
    · rename_i hq
      have h1 := inc_onS h (on_lt (by decide) hq).1
      have h2 := (h1.trans (opt_onS (en := en) (t := [45]) h1.inb))
      have h3 := h2.trans (num_onS (en := en) h2.inb)
      split
      · have h4 := h3.trans (made_onS (en := en) h3.inb)
        exact h4.trans (shifts_onS f _ _ h4.inb)
      · exact h3
    · exact On.refl h
theorem signs_onS {op : St → Int} (hop : ∀ s, op s ≠ 0 → s.i < l.length) {sub : St → Expr × St} (hs : OnF l sub) : ∀ (f : Nat) (e : Expr), OnF l (signsS l en op sub f e)
  | 0, e => fun s h => On.refl h
  | f + 1, e => fun s h => by
    rw [signsS]
    split
    · exact On.refl h
    · rename_i hq
      have h1 := inc_onS h (hop s hq)
      have h2 := h1.trans (hs _ h1.inb)
      split
      · have h4 := h2.trans (made_onS (en := en) h2.inb)
        exact h4.trans (signs_onS hop hs f _ _ h4.inb)
      · exact h2
theorem plus_ltS (s : St) (h : plusS l en s ≠ 0) : s.i < l.length := by
  unfold plusS at h
  split at h
  · rename_i hq; exact (on_lt (by decide) hq).1
  · split at h
    · rename_i hq; exact (on_lt (by decide) hq).1
    · exact absurd rfl h
theorem and_ltS (s : St) (h : andS l en s ≠ 0) : s.i < l.length := by
  unfold andS at h
  split at h
  · rename_i hq; exact (on_lt (by decide) hq).1
  · exact absurd rfl h
theorem factor_onS {th : St → Expr × St} (h : OnF l th) : OnF l (factorS l en th) := fun s hs => (h s hs).trans (shifts_onS _ _ _ (h s hs).inb)
theorem term_onS {fa : St → Expr × St} (h : OnF l fa) : OnF l (termS l en fa) := fun s hs => (h s hs).trans (signs_onS and_ltS h _ _ _ (h s hs).inb)
theorem sum_onS {te : St → Expr × St} (h : OnF l te) : OnF l (sumS l en te) := fun s hs => (h s hs).trans (signs_onS plus_ltS h _ _ _ (h s hs).inb)
theorem expr_onS {th : St → Expr × St} (h : OnF l th) : OnF l (exprS l en th) := sum_onS (term_onS (factor_onS h))
theorem guard_onS {fa : St → Expr × St} (h : OnF l fa) (k a b : Int) : OnF l (guardS l en fa k a b) := fun s hs => by
  have h1 := need_onS (en := en) (t := [58]) hs
  have h2 := h1.trans (h _ h1.inb)
  unfold guardS
  split
  · exact h2.trans (made_onS h2.inb)
  · exact h2
theorem day_onS {s : St} (h : Inb l s) : On l s (dayS l en s) := (get_onS (by decide) h).trans (fault_onS (by decide) (get_onS (by decide) h).inb)
theorem week_onS : ∀ (f set : Nat) (s : St), Inb l s → On l s (weekS l en f set s).2
  | 0, set => fun s h => On.refl h
  | f + 1, set => fun s h => by
    rw [weekS]
    split
    · split
      · rename_i hq
        have h1 := (day_onS (en := en) h)
        have h2 := h1.trans (inc_onS h1.inb (on_lt (by decide) hq).1)
        exact h2.trans (week_onS f _ _ h2.inb)
      · exact day_onS h
    · exact On.refl h
theorem weekly_onS {fa : St → Expr × St} (h : OnF l fa) : OnF l (weeklyS l en fa) := fun _ hs => (week_onS _ _ _ hs).trans (guard_onS h _ _ _ _ (week_onS _ _ _ hs).inb)
theorem to_onS {a : Tok} {s : St} (h : Inb l s) : On l s (toS l en a s) := (get_onS (by decide) h).trans (fault_onS (by decide) (get_onS (by decide) h).inb)
theorem dates_onS {fa : St → Expr × St} (h : OnF l fa) : OnF l (datesS l en fa) := fun s hs => by
  have h1 := get_onS (en := en) (k := 5) (by decide) hs
  unfold datesS
  split
  · rename_i hq
    have h2 := h1.trans (inc_onS h1.inb (on_lt (by decide) hq).1)
    have h3 := h2.trans (to_onS (en := en) (a := nextS l en s) h2.inb)
    exact h3.trans (guard_onS h _ _ _ _ h3.inb)
  · exact h1.trans (guard_onS h _ _ _ _ h1.inb)
theorem until_onS {a : Tok} {s : St} (h : Inb l s) : On l s (untilS l en a s) := (get_onS (by decide) h).trans (fault_onS (by decide) (get_onS (by decide) h).inb)
theorem span_onS : OnF l (spanS l en) := fun s hs => by
  have h1 := get_onS (en := en) (k := 4) (by decide) hs
  have h2 := h1.trans (need_onS (en := en) (t := [45]) h1.inb)
  have h3 := h2.trans (until_onS (en := en) (a := nextS l en s) h2.inb)
  unfold spanS
  split
  · exact h3.trans (made_onS h3.inb)
  · exact h3
theorem word_ltS {s : St} {t : List UInt8} (h : wordS l en s t = true) : s.i < l.length := by
  unfold wordS at h
  simp only [Bool.and_eq_true, beq_iff_eq] at h
  exact next_lt (by decide) h.1
theorem thing_onS : ∀ (d : Nat), OnF l (thingS l en d)
  | 0 => fun s h => stop_onS (by decide) h
  | d + 1 => fun s h => by
    have hd := thing_onS d
    have hf := factor_onS (en := en) hd
    rw [thingS]
    split
    · exact On.refl h
    split
    · rename_i hq
      have h1 := inc_onS h (on_lt (by decide) hq).1
      have h2 := h1.trans (expr_onS (en := en) hd _ h1.inb)
      exact h2.trans (need_onS h2.inb)
    split
    · rename_i hq; have h1 := inc_onS h (word_ltS hq); exact h1.trans (made_onS h1.inb)
    split
    · rename_i hq; have h1 := inc_onS h (word_ltS hq); exact h1.trans (made_onS h1.inb)
    split
    · rename_i hq; have h1 := inc_onS h (word_ltS hq); exact h1.trans (weekly_onS hf _ h1.inb)
    split
    · rename_i hq; have h1 := inc_onS h (word_ltS hq); exact h1.trans (dates_onS hf _ h1.inb)
    split
    · rename_i hq; have h1 := inc_onS h (next_lt (by decide) hq); exact h1.trans (made_onS h1.inb)
    · exact span_onS _ h
end

end Ru
end Go.Proofs.Ytfhedopfjgjffaa

namespace Go.Proofs.Ytfhedopfjgjffaa
namespace Ru
open Lx

/-! ### what the lexer's tokens tell -/
structure TokG (t : Tok) : Prop where
  nm : t.1 = 1 → isName t.2.2.2 = true
  ti : t.1 = 4 → t.2.1 ≤ 1440
  da : t.1 = 5 → t.2.1 < 146097
  po : 0 ≤ t.2.1
theorem one_good (s : List UInt8) (h : (one s).2.2 = 0) : TokG (one s).1 := by
  unfold one at h ⊢
  split
  · rename_i h1
    rw [if_pos h1] at h
    simp only at h ⊢
    unfold dayOf at h ⊢
    split
    · rename_i h2
      have := Civ.num_range (y := num (s.take 4)) (m := num ((s.take 7).drop 5)) (d := num ((s.take 10).drop 8)) h2
      exact ⟨fun h => absurd (show (5 : Int) = 1 from h) (by decide), fun h => absurd (show (5 : Int) = 4 from h) (by decide), fun _ => this.2, this.1⟩
    · rename_i h2
      rw [if_neg h2] at h
      cases h
  · rename_i h1
    rw [if_neg h1] at h
    split
    · rename_i h2
      rw [if_pos h2] at h
      split
      · rename_i h3; rw [if_pos h3] at h; cases h
      · rename_i h3
        refine ⟨fun h => absurd (show (4 : Int) = 1 from h) (by decide), fun _ => ?_, fun h => absurd (show (4 : Int) = 5 from h) (by decide), ?_⟩
        · show 60 * num (s.take 2) + num ((s.take 5).drop 3) ≤ 1440
          omega
        · show 0 ≤ 60 * num (s.take 2) + num ((s.take 5).drop 3)
          match s, h2 with
          | c0 :: c1 :: c2 :: c3 :: c4 :: r, h2 =>
            have a0 := (shapeGo_iff.1 h2).2 0 c0 100 rfl rfl
            have a1 := (shapeGo_iff.1 h2).2 1 c1 100 rfl rfl
            have a3 := (shapeGo_iff.1 h2).2 3 c3 100 rfl rfl
            have a4 := (shapeGo_iff.1 h2).2 4 c4 100 rfl rfl
            unfold okAt at a0 a1 a3 a4
            rw [if_pos rfl] at a0 a1 a3 a4
            rw [digit_iff] at a0 a1 a3 a4
            show 0 ≤ 60 * num [c0, c1] + num [c3, c4]
            have e : ∀ a b : UInt8, num [a, b] = 10 * (10 * 0 + ((a.toNat : Int) - 48)) + ((b.toNat : Int) - 48) := fun a b => rfl
            rw [e, e]
            omega
          | [], h2 => cases h2
          | [_], h2 => have := shapeGo_len h2; simp [timeS] at this
          | [_, _], h2 => have := shapeGo_len h2; simp [timeS] at this
          | [_, _, _], h2 => have := shapeGo_len h2; simp [timeS] at this
          | [_, _, _, _], h2 => have := shapeGo_len h2; simp [timeS] at this
    · rename_i h2
      rw [if_neg h2] at h
      cases s with
      | nil => cases h
      | cons c r =>
        simp only at h ⊢
        split
        · rename_i h3
          rw [if_pos h3] at h
          split
          · rename_i h4; rw [if_pos h4] at h; cases h
          · refine ⟨fun h => absurd (show (6 : Int) = 1 from h) (by decide), fun h => absurd (show (6 : Int) = 4 from h) (by decide), fun h => absurd (show (6 : Int) = 5 from h) (by decide), ?_⟩
            show 0 ≤ num ((c :: r).take (run digit (c :: r)))
            have := num_bd (run_take digit (c :: r)) (run digit (c :: r)) (by rw [List.length_take]; have := run_le digit (c :: r); omega)
            rw [List.take_take, Nat.min_self] at this
            exact this.1
        · rename_i h3
          rw [if_neg h3] at h
          split
          · rename_i h4
            rw [if_pos h4] at h
            split
            · rename_i h5; rw [if_pos h5] at h; cases h
            · rename_i h5
              refine ⟨fun hk => ?_, fun hk => ?_, fun hk => ?_, Int.le_refl 0⟩
              · show isName ((c :: r).take (run nameC (c :: r))) = true
                have hw : wordsL.contains ((c :: r).take (run nameC (c :: r))) = false := by
                  cases hc : wordsL.contains ((c :: r).take (run nameC (c :: r))) with
                  | false => rfl
                  | true => rw [hc, if_pos rfl] at hk; exact absurd (show (2 : Int) = 1 from hk) (by decide)
                have hn : nameC c.toNat = true := by unfold nameC; rw [h4]; rfl
                have hr : run nameC (c :: r) = run nameC r + 1 := by rw [run, if_pos hn]
                have h0 : ((c :: r).take (run nameC (c :: r)))[0]? = some c := by rw [hr]; rfl
                rw [isName_at h0, hw, h4]
                have ha : ((c :: r).take (run nameC (c :: r))).all (fun c => nameC c.toNat) = true := by
                  rw [List.all_eq_true]
                  exact run_take nameC (c :: r)
                rw [ha]
                have : ((c :: r).take (run nameC (c :: r))).length ≤ 20 := by rw [List.length_take]; omega
                simp only [this, decide_true, Bool.not_false, Bool.and_self]
              · exfalso
                simp only at hk
                split at hk <;> exact absurd hk (by decide)
              · exfalso
                simp only at hk
                split at hk <;> exact absurd hk (by decide)
          · rename_i h4
            rw [if_neg h4] at h
            split
            · exact ⟨fun h => absurd (show (3 : Int) = 1 from h) (by decide), fun h => absurd (show (3 : Int) = 4 from h) (by decide), fun h => absurd (show (3 : Int) = 5 from h) (by decide), Int.le_refl 0⟩
            · rename_i h5
              rw [if_neg h5] at h
              split
              · exact ⟨fun h => absurd (show (3 : Int) = 1 from h) (by decide), fun h => absurd (show (3 : Int) = 4 from h) (by decide), fun h => absurd (show (3 : Int) = 5 from h) (by decide), Int.le_refl 0⟩
              · rename_i h6; rw [if_neg h6] at h; cases h
theorem lexR_good : ∀ (f : Nat) (r : List UInt8) (a : Nat), ∀ t ∈ (lexR f r a).1, TokG t
  | 0, _, _ => by simp [lexR]
  | _ + 1, [], _ => by simp [lexR]
  | f + 1, c :: r, a => by
    unfold lexR
    split
    · exact lexR_good f _ _
    · split
      · exact lexR_good f _ _
      · split
        · rename_i h
          have hg := one_good _ h
          unfold fin
          split
          · intro t ht
            simp only [List.cons_append, List.nil_append, List.mem_cons] at ht
            rcases ht with rfl | ht
            · exact ⟨hg.nm, hg.ti, hg.da, hg.po⟩
            · exact lexR_good f _ _ t ht
          · intro t ht; cases ht
        · intro t ht; cases ht
theorem lexV_good (s : List UInt8) : ∀ t ∈ (lexV s).1, TokG t := by
  unfold lexV
  split
  · intro t ht; cases ht
  · exact lexR_good _ _ _

/-! ### right but for its depth -/
/-- what its form is found to be, so deep, so many nodes behind -/
def FE (e : Expr) : Prop := ∀ deep n, n + nodesE e ≤ 600 → (deep + deepE e ≤ 41 → formE isName e deep n = (0, n + nodesE e)) ∧ (41 < deep + deepE e → (formE isName e deep n).1 ≠ 0)
def FL (l : List Expr) : Prop := ∀ deep n, deep ≤ 41 → n + nodesL l ≤ 600 → (deep + deepK l ≤ 41 → formL isName l deep n = (0, n + nodesL l)) ∧ (41 < deep + deepK l → (formL isName l deep n).1 ≠ 0)
theorem FL.nil : FL [] := fun deep n hd hn => ⟨fun _ => by rw [formL, nodesL]; rfl, fun h => by rw [deepK] at h; omega⟩
theorem deepE_pos (e : Expr) : 1 ≤ deepE e := by cases e; rw [deepE]; omega
theorem FL.cons {e : Expr} {l : List Expr} (he : FE e) (hl : FL l) : FL (e :: l) := fun deep n hd hn => by
  rw [nodesL] at hn
  rw [deepK, formL, nodesL]
  have h1 := he deep n (by omega)
  by_cases hc : deep + deepE e ≤ 41
  · have h2 := h1.1 hc
    rw [h2, if_pos rfl]
    have h3 := hl deep (n + nodesE e) hd (by omega)
    exact ⟨fun h => by rw [h3.1 (by omega)]; congr 1; omega, fun h => h3.2 (by omega)⟩
  · have h2 := h1.2 (by omega)
    rw [if_neg h2]
    exact ⟨fun h => by omega, fun _ => h2⟩
theorem FE.mk {k x y : Int} {nm : List UInt8} {kids : List Expr} (ho : ownErr isName (.mk k x y nm kids) = 0) (hk : FL kids) : FE (.mk k x y nm kids) := fun deep n hn => by
  rw [nodesE] at hn
  rw [deepE, formE, nodesE]
  by_cases hd : 40 < deep
  · rw [if_pos (.inr hd)]
    exact ⟨fun h => by omega, fun _ => by simp⟩
  · rw [if_neg (by omega), if_pos ho]
    have h3 := hk (deep + 1) (n + 1) (by omega) (by omega)
    exact ⟨fun h => by rw [h3.1 (by omega)]; congr 1; omega, fun h => h3.2 (by omega)⟩
/-- too deep is just what is wrong -/
theorem FE.deep {e : Expr} (h : FE e) (hn : nodesE e ≤ 600) : (formE isName e 1 0).1 ≠ 0 ↔ 40 < deepE e := by
  have h1 := h 1 0 (by omega)
  constructor
  · intro hf
    rcases Nat.lt_or_ge 40 (deepE e) with h2 | h2
    · exact h2
    · rw [h1.1 (by omega)] at hf; exact absurd rfl hf
  · intro h2; exact h1.2 (by omega)

section
variable {l : List Tok} {en : Int}
/-- what a parser's function makes is right -/
def GP (p : Nat → Nat → Res Expr) : Prop := ∀ i nd e j nj, nd ≤ 600 → p i nd = .ok e j nj → FE e ∧ nd + nodesE e = nj ∧ nj ≤ 600
theorem take_g (hG : ∀ t ∈ l, TokG t) {kind : Int} {i nd j nj : Nat} {t : Tok} (h : takeP l en kind i nd = .ok t j nj) : TokG t ∧ t.1 = kind ∧ nj = nd := by
  obtain ⟨_, _, h3, h4, h5⟩ := take_ok h
  exact ⟨hG t (List.mem_of_getElem? h4), h5, h3⟩
theorem fl1 {e : Expr} (h : FE e) : FL [e] := h |> fun h => FL.cons h FL.nil
theorem nodes1 (k x y : Int) (nm : List UInt8) (e : Expr) : nodesE (.mk k x y nm [e]) = nodesE e + 1 := by rw [nodesE, nodesL, nodesL]; omega
theorem nodes2 (k x y : Int) (nm : List UInt8) (e f : Expr) : nodesE (.mk k x y nm [e, f]) = nodesE e + nodesE f + 1 := by rw [nodesE, nodesL, nodesL, nodesL]; omega
theorem nodes0 (k x y : Int) (nm : List UInt8) : nodesE (.mk k x y nm []) = 1 := by rw [nodesE, nodesL]
theorem shifts_g (hG : ∀ t ∈ l, TokG t) : ∀ (f : Nat) (e : Expr) (i nd : Nat) (x : Expr) (j nj : Nat), FE e → nd ≤ 600 → shiftsP l en f e i nd = .ok x j nj → FE x ∧ nd + nodesE x = nj + nodesE e ∧ nj ≤ 600
  | 0, e, i, nd, x, j, nj, he, hn, h => by rw [shiftsP] at h; cases h; exact ⟨he, rfl, hn⟩
  | f + 1, e, i, nd, x, j, nj, he, hn, h => by
    rw [shiftsP] at h
    split at h
    · obtain ⟨t, k, nk, h1, h2⟩ := Res.bind_ok h
      obtain ⟨a1, a2, a3⟩ := take_g hG h1
      split at h2
      · cases h2
      · rename_i hr
        obtain ⟨e2, k2, nk2, h3, h4⟩ := Res.bind_ok h2
        obtain ⟨rfl, b2, b3, b4⟩ := node_ok h3
        have hfe : FE (.mk 9 ((if isP l (i + 1) 3 [45] = true then -1 else 1) * t.2.1) 0 [] [e]) := FE.mk (by
          have hne : ¬ ((if isP l (i + 1) 3 [45] = true then (-1 : Int) else 1) * t.2.1 = 0 ∨ (if isP l (i + 1) 3 [45] = true then (-1 : Int) else 1) * t.2.1 ≤ -1440 ∨ 1440 ≤ (if isP l (i + 1) 3 [45] = true then (-1 : Int) else 1) * t.2.1) := by split <;> omega
          rw [ownErr_mk, if_neg (by decide), if_neg (show ¬ [e].length ≠ kidsOf 9 from fun h => h rfl), if_neg (by decide), if_neg (by decide), if_neg (by decide), if_pos rfl, if_neg hne]) (fl1 he)
        have := shifts_g hG f _ k2 nk2 x j nj hfe b4 h4
        rw [nodes1] at this
        exact ⟨this.1, by omega, this.2.2⟩
    · cases h; exact ⟨he, rfl, hn⟩
theorem signs_g {op : Nat → Int} (hop : ∀ i, op i ≠ 0 → op i = 6 ∨ op i = 7 ∨ op i = 8) {sub : Nat → Nat → Res Expr} (hs : GP sub) : ∀ (f : Nat) (e : Expr) (i nd : Nat) (x : Expr) (j nj : Nat), FE e → nd ≤ 600 → signsP l en op sub f e i nd = .ok x j nj → FE x ∧ nd + nodesE x = nj + nodesE e ∧ nj ≤ 600
  | 0, e, i, nd, x, j, nj, he, hn, h => by rw [signsP] at h; cases h; exact ⟨he, rfl, hn⟩
  | f + 1, e, i, nd, x, j, nj, he, hn, h => by
    rw [signsP] at h
    split at h
    · cases h; exact ⟨he, rfl, hn⟩
    · rename_i h0
      obtain ⟨e2, k, nk, h1, h2⟩ := Res.bind_ok h
      obtain ⟨a1, a2, a3⟩ := hs _ _ _ _ _ hn h1
      obtain ⟨e3, k3, nk3, h3, h4⟩ := Res.bind_ok h2
      obtain ⟨rfl, b2, b3, b4⟩ := node_ok h3
      have hfe : FE (.mk (op i) 0 0 [] [e, e2]) := by
        rcases hop i h0 with hq | hq | hq <;> rw [hq] <;> exact FE.mk (by rw [ownErr_mk]; rfl) (FL.cons he (fl1 a1))
      have := signs_g hop hs f _ k3 nk3 x j nj hfe b4 h4
      rw [nodes2] at this
      exact ⟨this.1, by omega, this.2.2⟩
theorem plus_k (i : Nat) (h : plusP l i ≠ 0) : plusP l i = 6 ∨ plusP l i = 7 ∨ plusP l i = 8 := by
  unfold plusP at h ⊢
  split
  · exact .inl rfl
  · rename_i h1
    rw [if_neg h1] at h
    split
    · exact .inr (.inl rfl)
    · rename_i h2; rw [if_neg h2] at h; exact absurd rfl h
theorem and_k (i : Nat) (h : andP l i ≠ 0) : andP l i = 6 ∨ andP l i = 7 ∨ andP l i = 8 := by
  unfold andP at h ⊢
  split
  · exact .inr (.inr rfl)
  · rename_i h2; rw [if_neg h2] at h; exact absurd rfl h
theorem factor_g (hG : ∀ t ∈ l, TokG t) {th : Nat → Nat → Res Expr} (h : GP th) : GP (factorP l en th) := fun i nd e j nj hn h0 => by
  obtain ⟨x, k, nk, h1, h2⟩ := Res.bind_ok h0
  obtain ⟨a1, a2, a3⟩ := h _ _ _ _ _ hn h1
  obtain ⟨b1, b2, b3⟩ := shifts_g hG _ _ _ _ _ _ _ a1 a3 h2
  exact ⟨b1, by omega, b3⟩
theorem signs_gp {op : Nat → Int} (hop : ∀ i, op i ≠ 0 → op i = 6 ∨ op i = 7 ∨ op i = 8) {sub : Nat → Nat → Res Expr} (hs : GP sub) (f : Nat) : GP (fun i nd => (sub i nd).bind (signsP l en op sub f)) := fun i nd e j nj hn h0 => by
  obtain ⟨x, k, nk, h1, h2⟩ := Res.bind_ok h0
  obtain ⟨a1, a2, a3⟩ := hs _ _ _ _ _ hn h1
  obtain ⟨b1, b2, b3⟩ := signs_g hop hs _ _ _ _ _ _ _ a1 a3 h2
  exact ⟨b1, by omega, b3⟩
theorem expr_g (hG : ∀ t ∈ l, TokG t) {th : Nat → Nat → Res Expr} (h : GP th) : GP (exprP l en th) :=
  signs_gp plus_k (signs_gp and_k (factor_g hG h) _) _
theorem guard_g {fa : Nat → Nat → Res Expr} (h : GP fa) {k a b : Int} (hk : ∀ e, ownErr isName (.mk k a b [] [e]) = 0) : GP (fun i nd => (mustP l en [58] i nd).bind fun _ j nd => (fa j nd).bind fun e j nd => nodeP l en (.mk k a b [] [e]) j nd) := fun i nd e j nj hn h0 => by
  obtain ⟨_, k1, nk1, h1, h2⟩ := Res.bind_ok h0
  have m := must_ok h1
  obtain ⟨e2, k2, nk2, h3, h4⟩ := Res.bind_ok h2
  obtain ⟨a1, a2, a3⟩ := h _ _ _ _ _ (by omega) h3
  obtain ⟨rfl, b2, b3, b4⟩ := node_ok h4
  exact ⟨FE.mk (hk e2) (fl1 a1), by rw [nodes1]; omega, b4⟩
theorem or_fin : ∀ set : Fin 128, ∀ d : Fin 7, 1 ≤ (set.val ||| 2 ^ d.val) ∧ (set.val ||| 2 ^ d.val) < 128 := by decide +kernel
theorem week_g : ∀ (f set i nd x j nj : Nat), set < 128 → 1 ≤ f → weekP l en f set i nd = .ok x j nj → 1 ≤ x ∧ x < 128 ∧ nj = nd
  | 0, _, _, _, _, _, _, _, hf, _ => absurd hf (by omega)
  | f + 1, set, i, nd, x, j, nj, hs, _, h => by
    rw [weekP] at h
    obtain ⟨t, k, nk, h1, h2⟩ := Res.bind_ok h
    have ht := (take_ok h1).2.2.1
    split at h2
    · rename_i hd
      have ho := or_fin ⟨set, hs⟩ ⟨dayT t.2.2.2, hd⟩
      split at h2
      · cases f with
        | zero => rw [weekP] at h2; cases h2; exact ⟨ho.1, ho.2, by omega⟩
        | succ f =>
          have := week_g (f + 1) _ _ _ _ _ _ ho.2 (by omega) h2
          exact ⟨this.1, this.2.1, by omega⟩
      · cases h2; exact ⟨ho.1, ho.2, by omega⟩
    · cases h2
theorem thing_g (hG : ∀ t ∈ l, TokG t) : ∀ d, GP (thingP l en d)
  | 0 => fun i nd e j nj hn h => by rw [thingP] at h; cases h
  | d + 1 => fun i nd e j nj hn h => by
    have ih := thing_g hG d
    rw [thingP] at h
    have leaf : ∀ {k x y : Int} {nm : List UInt8} {i : Nat}, ownErr isName (.mk k x y nm []) = 0 → nodeP l en (.mk k x y nm []) i nd = .ok e j nj → FE e ∧ nd + nodesE e = nj ∧ nj ≤ 600 := fun ho hq => by
      obtain ⟨rfl, b2, b3, b4⟩ := node_ok hq
      exact ⟨FE.mk ho FL.nil, by rw [nodes0]; omega, b4⟩
    split at h
    · obtain ⟨e2, k, nk, h1, h2⟩ := Res.bind_ok h
      obtain ⟨a1, a2, a3⟩ := expr_g (en := en) hG ih _ _ _ _ _ hn h1
      obtain ⟨_, k3, nk3, h3, h4⟩ := Res.bind_ok h2
      have m := must_ok h3
      cases h4
      exact ⟨a1, by omega, by omega⟩
    split at h
    · exact leaf rfl h
    split at h
    · exact leaf rfl h
    split at h
    · obtain ⟨set, k, nk, h1, h2⟩ := Res.bind_ok h
      obtain ⟨s1, s2, s3⟩ := week_g _ _ _ _ _ _ _ (by omega) (by omega) h1
      have := guard_g (l := l) (en := en) (factor_g (en := en) hG ih) (k := 4) (a := set) (b := 0) (fun e => by rw [ownErr_mk, if_neg (by decide), if_neg (show ¬ [e].length ≠ kidsOf 4 from fun h => h rfl), if_neg (by decide), if_pos rfl, if_neg (by omega)]) k nk e j nj (by omega) h2
      exact ⟨this.1, by omega, this.2.2⟩
    split at h
    · obtain ⟨a, k, nk, h1, h2⟩ := Res.bind_ok h
      obtain ⟨g1, g2, g3⟩ := take_g hG h1
      obtain ⟨b, k2, nk2, h3, h4⟩ := Res.bind_ok h2
      have hb : a.2.1 ≤ b ∧ b < 146097 ∧ nk2 = nk := by
        split at h3
        · obtain ⟨c, k3, nk3, h5, h6⟩ := Res.bind_ok h3
          obtain ⟨c1, c2, c3⟩ := take_g hG h5
          have := c1.da c2
          split at h6
          · cases h6
          · cases h6; omega
        · cases h3
          have := g1.da g2
          omega
      have hp := g1.po
      have := guard_g (l := l) (en := en) (factor_g (en := en) hG ih) (k := 5) (a := a.2.1) (b := b) (fun e => by rw [ownErr_mk, if_neg (by decide), if_neg (show ¬ [e].length ≠ kidsOf 5 from fun h => h rfl), if_neg (by decide), if_neg (by decide), if_pos rfl, if_neg (by omega)]) k2 nk2 e j nj (by omega) h4
      exact ⟨this.1, by omega, this.2.2⟩
    split at h
    · obtain ⟨t, k, nk, h1, h2⟩ := Res.bind_ok h
      obtain ⟨g1, g2, g3⟩ := take_g hG h1
      subst g3
      exact leaf (by rw [ownErr_mk, if_neg (by decide), if_neg (by decide), if_neg (by decide), if_neg (by decide), if_neg (by decide), if_neg (by decide), if_pos rfl, if_pos (g1.nm g2)]) h2
    · obtain ⟨a, k, nk, h1, h2⟩ := Res.bind_ok h
      obtain ⟨g1, g2, g3⟩ := take_g hG h1
      obtain ⟨_, k2, nk2, h3, h4⟩ := Res.bind_ok h2
      have m := must_ok h3
      obtain ⟨b, k3, nk3, h5, h6⟩ := Res.bind_ok h4
      obtain ⟨c1, c2, c3⟩ := take_g hG h5
      split at h6
      · cases h6
      · rename_i hle
        have hp := g1.po
        have ht := c1.ti c2
        have e3 : nk3 = nd := by omega
        subst e3
        exact leaf (by rw [ownErr_mk, if_neg (by decide), if_neg (by decide), if_pos rfl, if_neg (by omega)]) h6

/-! ### whole texts -/
theorem zero_get (k : Int) (s : St) : zeroS (getS l en k s) = getS l en k (zeroS s) := by
  unfold getS stopS
  show zeroS (if (!goodS s || (nextS l en s).1 != k) = true then (if goodS s = true then _ else s) else incS s) = if (!goodS s || (nextS l en s).1 != k) = true then (if goodS s = true then _ else zeroS s) else incS (zeroS s)
  split
  · split <;> rfl
  · rfl
theorem zero_need (t : List UInt8) (s : St) : zeroS (needS l en t s) = needS l en t (zeroS s) := by
  unfold needS stopS
  show zeroS (if onS l en 3 t s = true then incS s else (if goodS s = true then _ else s)) = if onS l en 3 t s = true then incS (zeroS s) else (if goodS s = true then _ else zeroS s)
  split
  · rfl
  · split <;> rfl
theorem zero_head (n : Nat) (s : St) : zeroS (headS l en n s) = headS l en n (zeroS s) := by
  unfold headS stopS
  split
  · show zeroS (if goodS s = true then _ else s) = if goodS s = true then _ else zeroS s
    split <;> rfl
  · rfl
theorem body_eq (n : Nat) (s : St) : bodyS l en n s = exprS l en (thingS l en 40) (needS l en [61] (getS l en 1 (headS l en n (zeroS s)))) := by
  unfold bodyS
  rw [zero_need, zero_get, zero_head]
theorem rules_bad {f : Nat} {out : List Rule} {s : St} (h : goodS s = false) : rulesS l en f out s = (out, s) := by
  cases f with
  | zero => rfl
  | succ f => rw [rulesS, if_neg (by rw [h, Bool.false_and]; decide)]
/-- the walk comes to what parsing comes to -/
def RSim (r : List Rule × St) (p : Res (List Rule)) : Prop := match p with
  | .ok x _ _ => r.1 = x ∧ goodS r.2 = true
  | .bad e q => r.2.err = e ∧ r.2.po = q ∧ e ≠ 0
theorem RSim.bind {α : Type} {v : α} {s : St} {p : Res α} (h : Sim v s p) {r : List Rule × St} {g : α → Nat → Nat → Res (List Rule)} (hb : goodS s = false → r.2 = s) (hg : ∀ i nd, s = G i nd → RSim r (g v i nd)) : RSim r (p.bind g) := by
  cases p with
  | ok x j nj =>
    obtain ⟨rfl, rfl⟩ := h
    exact hg j nj rfl
  | bad e q =>
    have := hb h.bad_of
    show r.2.err = e ∧ r.2.po = q ∧ e ≠ 0
    rw [this]
    exact h
theorem bind_assoc {α β γ : Type} (r : Res α) (f : α → Nat → Nat → Res β) (g : β → Nat → Nat → Res γ) : (r.bind f).bind g = r.bind fun x i nd => (f x i nd).bind g := by cases r <;> rfl
theorem tail_bad {r : Expr × St} (h : goodS r.2 = false) : tailS l en r = r.2 := by
  unfold tailS
  rw [fault_keep h, need_keep h]
theorem rules_sim (hG : ∀ t ∈ l, TokG t) : ∀ (f : Nat) (out : List Rule) (i nd : Nat), out.length ≤ 40 → RSim (rulesS l en f out (G i nd)) (rulesP l en f out i)
  | 0, out, i, nd, _ => ⟨rfl, rfl⟩
  | f + 1, out, i, nd, ho => by
    have hN : NumOk l := fun i t h => (hG t (List.mem_of_getElem? h)).po
    have hst : Stuck (exprS l en (thingS l en 40)) := expr_stuck (thing_stuck 40)
    rw [rulesS, rulesP]
    by_cases hi : i < l.length
    · rw [if_pos (by rw [good_G, Bool.true_and]; exact decide_eq_true hi), if_pos hi, on_is (by decide)]
      cases hr : isP l i 2 ruleT with
      | false =>
        rw [if_neg (by decide), if_neg (by decide), stop_good (good_G _ _), here_next]
        exact ⟨rfl, rfl, by decide⟩
      | true =>
        rw [if_pos rfl, if_pos rfl, inc_G, body_eq]
        have hz : zeroS (G (i + 1) nd) = G (i + 1) 0 := rfl
        rw [hz]
        by_cases h40 : out.length = 40
        · rw [if_pos h40]
          have hh : ∀ k, headS l en out.length (G (i + 1) k) = ⟨i + 1, k, 5, hereP l en (i + 1)⟩ := fun k => by
            unfold headS
            rw [if_pos (by omega), stop_good (good_G _ _), here_next]
            rfl
          have hb : goodS (⟨i + 1, 0, 5, hereP l en (i + 1)⟩ : St) = false := rfl
          rw [hh, hh, get_keep hb, need_keep hb]
          have hb2 : goodS (exprS l en (thingS l en 40) ⟨i + 1, 0, 5, hereP l en (i + 1)⟩).2 = false := by rw [hst _ hb]; rfl
          rw [tail_bad hb2, rules_bad hb2, hst _ hb]
          exact ⟨rfl, rfl, by decide⟩
        · rw [if_neg h40]
          have hh : ∀ k, headS l en out.length (G (i + 1) k) = G (i + 1) k := fun k => by unfold headS; rw [if_neg (by omega)]
          rw [hh, hh]
          have hnx : nextS l en (G (i + 1) nd) = nextS l en (G (i + 1) 0) := rfl
          rw [hnx]
          unfold ruleP
          rw [bind_assoc]
          refine RSim.bind (get_sim 1 (by decide) (i + 1) 0) (fun hb => ?_) fun j nj hj => ?_
          · have hb2 : goodS (exprS l en (thingS l en 40) (needS l en [61] (getS l en 1 (G (i + 1) 0)))).2 = false := by rw [need_keep hb, hst _ hb]; exact hb
            rw [tail_bad hb2, rules_bad hb2, need_keep hb, hst _ hb]
          · rw [hj, bind_assoc]
            have hj0 : nj = 0 := by
              have : (getS l en 1 (G (i + 1) 0)).nd = 0 := by
                unfold getS stopS
                split
                · split <;> rfl
                · rfl
              rw [hj] at this; exact this
            subst hj0
            refine RSim.bind (need_sim [61] j 0) (fun hb => ?_) fun j2 nj2 hj2 => ?_
            · have hb2 : goodS (exprS l en (thingS l en 40) (needS l en [61] (G j 0))).2 = false := by rw [hst _ hb]; exact hb
              rw [tail_bad hb2, rules_bad hb2, hst _ hb]
            · rw [hj2, bind_assoc]
              have hj0 : nj2 = 0 := by
                have : (needS l en [61] (G j 0)).nd = 0 := by
                  unfold needS stopS
                  split
                  · rfl
                  · split <;> rfl
                rw [hj2] at this; exact this
              subst hj0
              have hs := expr_sim (en := en) hN (thing_sim (en := en) hN 40) j2 0
              obtain ⟨r, hr1⟩ : ∃ r, exprS l en (thingS l en 40) (G j2 0) = r := ⟨_, rfl⟩
              have hgp := expr_g (en := en) hG (thing_g (en := en) hG 40) j2 0
              rw [hr1] at hs ⊢
              cases hp : exprP l en (thingP l en 40) j2 0 with
              | bad e q =>
                rw [hp] at hs
                have hb := hs.bad_of
                show RSim _ (.bad e q)
                rw [tail_bad hb, rules_bad hb]
                exact hs
              | ok x j3 nj3 =>
                rw [hp] at hs
                obtain ⟨hx, hs2⟩ := hs
                obtain ⟨g1, g2, g3⟩ := hgp x j3 nj3 (by omega) hp
                have hd := g1.deep (by omega)
                show RSim _ ((if (formE isName x 1 0).1 ≠ 0 then failP l en 4 j3 else (mustP l en [59] j3 nj3).bind fun _ j nd => .ok ⟨(nextS l en (G (i + 1) 0)).2.2.2, x⟩ j nd).bind fun r j _ => rulesP l en f (out ++ [r]) j)
                rw [← hx] at hd ⊢
                unfold tailS
                rw [hs2]
                by_cases h41 : 40 < deepE r.1
                · rw [if_pos (hd.2 h41)]
                  have hq : faultS (decide (40 < deepE r.1)) 4 (nextS l en (G j3 nj3)).2.2.1 (G j3 nj3) = ⟨j3, nj3, 4, hereP l en j3⟩ := by
                    rw [fault_good (good_G _ _), if_pos (by simpa using h41), here_next]
                    rfl
                  have hb : goodS (⟨j3, nj3, 4, hereP l en j3⟩ : St) = false := rfl
                  rw [hq, need_keep hb, rules_bad hb]
                  exact ⟨rfl, rfl, by decide⟩
                · rw [if_neg (fun h => h41 (hd.1 h))]
                  have hq : faultS (decide (40 < deepE r.1)) 4 (nextS l en (G j3 nj3)).2.2.1 (G j3 nj3) = G j3 nj3 := by
                    rw [fault_good (good_G _ _), if_neg (by simpa using h41)]
                  rw [hq, bind_assoc]
                  refine RSim.bind (need_sim [59] j3 nj3) (fun hb => by rw [rules_bad hb]) fun j4 nj4 hj4 => ?_
                  rw [hj4]
                  exact rules_sim hG f _ j4 nj4 (by simp; omega)
    · rw [if_neg (by rw [good_G, Bool.true_and]; exact fun h => hi (of_decide_eq_true h)), if_neg hi]
      exact ⟨rfl, rfl⟩
end

end Ru
end Go.Proofs.Ytfhedopfjgjffaa
