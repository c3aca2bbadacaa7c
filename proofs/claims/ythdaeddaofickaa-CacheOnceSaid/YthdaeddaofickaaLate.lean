/- A region that draws its order, some of whose stores may come ahead of operations that only hand values on: one walk in the order of the text serves every order. -/
import Derived.Test.YthdaeddaofickaaFree
namespace Go.Proofs.Ythdaeddaofickaa
open Go.RowKit
namespace Fr

/-- it hands a value on -/
def hands (o : Oper) : Bool := o.guard.isNone && match o.op with | .extract _ _ => true | .move _ => true | _ => false

section
variable {P : Program} {ops : Array Oper} {Q : Exit → Act → World → Prop} {md md' : Region.Mode}

theorem stuck_no {o : Oper} {a : Act} {w : World} {K : Act → World → Prop} {s : String} (h : (execOp a.eval o) = stuck s) : ¬ (o.wp P a w K Q ∨ (o.asks P a w ∧ LetsOut Q)) := by
  rintro (h1 | ⟨⟨h1, _⟩, _⟩)
  · unfold Oper.wp at h1
    rw [h] at h1
    exact h1
  · rw [h] at h1
    have e : (Sem.runT P (stuck s : Sem Next) w #[]).2 = #[] := rfl
    rw [e] at h1
    simp at h1
theorem hands_yields {o : Oper} {a : Act} {w : World} {K : Act → World → Prop} (h : hands o = true) (hw : o.wp P a w K Q ∨ (o.asks P a w ∧ LetsOut Q)) : (∃ v, Go.Yields P ops o v a ∧ K (a.put o.dst v) w) := by
  unfold hands at h
  simp only [Bool.and_eq_true, Option.isNone_iff_eq_none] at h
  obtain ⟨h0, h1⟩ := h
  have hwt : Region.wanted o (yielded ops a.tmps) = true := by simp [Region.wanted, h0]
  have hok : ∀ v, execOp a.eval o = pure (.value v) → ∃ v, Go.Yields P ops o v a ∧ K (a.put o.dst v) w := fun v hv => by
    refine ⟨v, .inl ⟨hwt, fun w => by rw [hv]; rfl⟩, ?_⟩
    rcases hw with h2 | ⟨⟨h2, _⟩, _⟩
    · unfold Oper.wp at h2
      rw [hv] at h2
      exact h2
    · rw [hv] at h2
      have e : (Sem.runT P (pure (Next.value v) : Sem Next) w #[]).2 = #[] := rfl
      rw [e] at h2
      simp at h2
  split at h1
  · rename_i x k hx
    have e : execOp a.eval o = (do pure (.value (← Instr.extract (a.eval x) k))) := by simp only [execOp, hx]
    unfold Instr.extract at e
    split at e
    · split at e
      · exact hok _ e
      · exact absurd hw (stuck_no (s := "Extract: no such component") (e.trans rfl))
    · exact absurd hw (stuck_no (s := "Extract: tuple expected") (e.trans rfl))
  · rename_i x hx
    exact hok (a.eval x) (by simp only [execOp, hx])
  · cases h1
/-- those that operation i waits for -/
def ahead (md : Region.Mode) (ops : Array Oper) (i : Nat) : Array Bool := ((List.range ops.size).map fun j => Region.waitsFor md ops i j).toArray
/-- what waits in one mode alone waits for what only hands values on, and is behind all that this waits for -/
def lateOK (md md' : Region.Mode) (ops : Array Oper) (late : List Nat) : Bool :=
  (List.range ops.size).all (fun t => match ops[t]? with
    | some o => o.after.all fun e => (!Region.binds md e || Region.binds md' e) && (!Region.binds md' e || (Region.binds md e || (late.contains e.on && match ops[e.on]? with
        | some o2 => hands o2 && o2.after.all fun f => !Region.binds md' f || o.after.any fun e' => Region.binds md e' && e'.on == f.on
        | none => false)))
    | none => true) &&
  late.all fun i => (match ops[i]? with | some o2 => hands o2 | none => false) && Region.free md ops (ahead md ops i) i

theorem late_edge {late : List Nat} (h : lateOK md md' ops late = true) {t : Nat} {o : Oper} (ho : ops[t]? = some o) {e : Edge} (he : e ∈ o.after) :
    (Region.binds md e = true → Region.binds md' e = true) ∧ (Region.binds md' e = true → Region.binds md e = true ∨ e.on ∈ late ∧ ∃ o2, ops[e.on]? = some o2 ∧ hands o2 = true ∧ ∀ f ∈ o2.after, Region.binds md' f = true → ∃ e' ∈ o.after, Region.binds md e' = true ∧ e'.on = f.on) := by
  unfold lateOK at h
  rw [Bool.and_eq_true] at h
  have h1 := List.all_eq_true.1 h.1 t (List.mem_range.2 (Array.getElem?_eq_some_iff.1 ho).1)
  simp only [ho] at h1
  have h2 := (Array.all_eq_true_iff_forall_mem).1 h1 e he
  rw [Bool.and_eq_true] at h2
  constructor
  · intro hb
    have := h2.1
    rw [hb] at this
    simpa using this
  · intro hb
    have h3 := h2.2
    rw [hb] at h3
    simp only [Bool.not_true, Bool.false_or, Bool.or_eq_true, Bool.and_eq_true] at h3
    rcases h3 with h3 | ⟨h3, h4⟩
    · exact .inl h3
    · right
      refine ⟨by simpa using h3, ?_⟩
      cases h5 : ops[e.on]? with
      | none => simp [h5] at h4
      | some o2 =>
        simp only [h5, Bool.and_eq_true] at h4
        refine ⟨o2, rfl, h4.1, fun f hf hb' => ?_⟩
        have h6 := (Array.all_eq_true_iff_forall_mem).1 h4.2 f hf
        rw [hb'] at h6
        simp only [Bool.not_true, Bool.false_or] at h6
        obtain ⟨e', he', h7⟩ := Array.any_eq_true'.1 h6
        simp only [Bool.and_eq_true, beq_iff_eq] at h7
        exact ⟨e', he', h7⟩
theorem late_free {late : List Nat} (h : lateOK md md' ops late = true) {i : Nat} (hi : i ∈ late) {listed : Array Bool} (hs : listed.size = ops.size) (hr : i ∈ Region.ready md ops listed) : (∃ o, ops[i]? = some o ∧ hands o = true) ∧ Region.free md ops listed i = true := by
  unfold lateOK at h
  rw [Bool.and_eq_true] at h
  have h1 := List.all_eq_true.1 h.2 i hi
  rw [Bool.and_eq_true] at h1
  constructor
  · have h2 := h1.1
    cases h3 : ops[i]? with
    | none => simp [h3] at h2
    | some o => exact ⟨o, rfl, by simpa [h3] using h2⟩
  · have h2 := h1.2
    unfold Region.free at h2 ⊢
    cases h3 : ops[i]? with
    | none => simp [h3] at h2
    | some oi =>
      simp only [h3] at h2 ⊢
      rw [List.all_eq_true] at h2 ⊢
      intro j hj
      have h4 := h2 j hj
      have hjs := List.mem_range.1 hj
      rw [Bool.or_eq_true] at h4 ⊢
      rcases h4 with h4 | h4
      · rw [Bool.or_eq_true] at h4
        rcases h4 with h4 | h4
        · exact .inl (by rw [h4]; rfl)
        · left
          have h5 : Region.waitsFor md ops i j = true := by
            unfold ahead at h4
            simpa [hjs] using h4
          obtain ⟨oj, hoj, e, he, hb, hej⟩ := Region.waitsFor_spec h5
          obtain ⟨_, o', ho', hall⟩ := mem_ready.1 hr
          rw [hoj] at ho'
          cases ho'
          have h6 := hall e he hb
          rw [hej] at h6
          have h7 : listed.getD j true = true := by
            have hlt : j < listed.size := by omega
            simp [hlt] at h6 ⊢
            exact h6
          rw [h7, Bool.or_true]
      · exact .inr h4
theorem ready_sub {late : List Nat} (h : lateOK md md' ops late = true) {listed : Array Bool} {i : Nat} (hi : i ∈ Region.ready md' ops listed) : i ∈ Region.ready md ops listed := by
  obtain ⟨h1, o, ho, h2⟩ := mem_ready.1 hi
  exact mem_ready.2 ⟨h1, o, ho, fun e he hb => h2 e he ((late_edge h ho he).1 hb)⟩
theorem ready_late {late : List Nat} (h : lateOK md md' ops late = true) {listed : Array Bool} (hs : listed.size = ops.size) {i : Nat} (hi : i ∈ Region.ready md ops listed) (hn : i ∉ Region.ready md' ops listed) : ∃ t ∈ late, t ∈ Region.ready md' ops listed := by
  obtain ⟨h1, o, ho, h2⟩ := mem_ready.1 hi
  have h3 : ∃ e, e ∈ o.after ∧ Region.binds md' e = true ∧ listed.getD e.on false ≠ true := by
    refine Classical.byContradiction fun h4 => hn (mem_ready.2 ⟨h1, o, ho, fun e he hb => Classical.byContradiction fun h5 => h4 ⟨e, he, hb, h5⟩⟩)
  obtain ⟨e, he, hb, hu⟩ := h3
  rcases (late_edge h ho he).2 hb with h4 | ⟨h4, o2, ho2, _, h5⟩
  · exact absurd (h2 e he h4) hu
  · refine ⟨e.on, h4, mem_ready.2 ⟨?_, o2, ho2, fun f hf hbf => ?_⟩⟩
    · have hlt : e.on < listed.size := by rw [hs]; exact (Array.getElem?_eq_some_iff.1 ho2).1
      simp [hlt] at hu ⊢
      exact hu
    · obtain ⟨e', he', hb', heq⟩ := h5 f hf hbf
      rw [← heq]
      exact h2 e' he' hb'

theorem wpAny_late {late : List Nat} (h : lateOK md md' ops late = true) (hsel : Region.noSelect ops = true) (hQ : ∀ c a (d : Option Tmp) v w, Q (.panic c) (a.put d v) w → Q (.panic c) a w) :
    ∀ (fuel : Nat) (listed : Array Bool) (a : Act) (w : World), listed.size = ops.size → wpAny P md' ops Q fuel listed a w → wpAny P md ops Q fuel listed a w := by
  intro fuel
  induction fuel with
  | zero =>
    intro listed a w hs ⟨h1, h2⟩
    refine ⟨?_, h2⟩
    refine List.eq_nil_iff_forall_not_mem.2 fun i hi => ?_
    obtain ⟨t, _, ht⟩ := ready_late h hs hi (by rw [h1]; simp)
    rw [h1] at ht
    cases ht
  | succ fuel ih =>
    intro listed a w hs ⟨h1, h2⟩
    by_cases hl : ∃ t ∈ late, t ∈ Region.ready md' ops listed
    · obtain ⟨t, ht, htr⟩ := hl
      obtain ⟨⟨o, ho, hh⟩, hf⟩ := late_free h ht hs (ready_sub h htr)
      have h3 := h2 t htr
      unfold wpOp at h3
      simp only [ho] at h3
      have hg : o.guard = none := by
        unfold hands at hh
        simp only [Bool.and_eq_true, Option.isNone_iff_eq_none] at hh
        exact hh.1
      have hw : Region.wanted o (yielded ops a.tmps) = true := by simp [Region.wanted, hg]
      rw [if_pos hw] at h3
      obtain ⟨v, hy, hk⟩ := hands_yields hh h3
      exact wpAny_take ho hsel hf (by simpa using ready_sub h htr) (fun c a w hq => hQ c a _ v w hq) hy (ih _ _ _ (by simpa using hs) hk)
    · refine ⟨fun h3 => h1 (List.eq_nil_iff_forall_not_mem.2 fun i hi => by have := ready_sub h hi; rw [h3] at this; cases this), fun i hi => ?_⟩
      have hi' : i ∈ Region.ready md' ops listed := Classical.byContradiction fun hn => hl (ready_late h hs hi hn)
      exact wpOp_mono (fun a' w' hk => ih _ _ _ (by simpa using hs) hk) (h2 i hi')
end

section
variable {P : Program} {C : World → Prop} {G : World → World → Prop}
/-- one walk in the order of the text serves every order, though a store may come ahead of what only hands values on -/
theorem wp_region_late {id : Nat} {Q : Exit → Act → World → Prop} {a : Act} {w : World} {l : List Oper} (late : List Nat) (evs : List (Nat × Spec)) (n B : Nat) (w0 : World) (hw : Below B w0 w) (hB0 : B ≤ w0.heap.size) (hm : P.follows .mixedOrders = true) (hL : lateOK .any .text l.toArray late = true) (hB : Region.lexTailB .text l.toArray n = true)
    (hQ : ∀ c a (d : Option Tmp) v w, Q (.panic c) (a.put d v) w → Q (.panic c) a w)
    (h : wpFree P l.toArray (fun w' => ∃ m : After B w0, w' = m.w) Gr (wtR .text l.toArray) (evOf evs) (fun past a' => ∀ w', Bd (fun w' => ∃ m : After B w0, w' = m.w) Gr past w' → Lin Gr past → wpList P l.toArray Q (l.drop n) a' w') (l.take n) 0 (fun _ => False) a) : (Code.region id l.toArray true).wp P Q a w := by
  have gr := grow_below (w0 := w0) (B := B) hB0
  have hwt : WtOK .text l.toArray (wtR .text l.toArray) := wtR_ok
  have hC : (fun w' => ∃ m : After B w0, w' = m.w) { w with drawn := w.drawn + 1 } := class_drew hw
  simp only [Region.lexTailB, Bool.and_eq_true, decide_eq_true_eq] at hB
  obtain ⟨⟨⟨⟨hsel, hn⟩, hs⟩, hc⟩, hlex⟩ := hB
  have htl : (l.take n).length = n := by simp at hn ⊢; omega
  have inv0 : HeadInv .text l.toArray n (Array.replicate l.toArray.size false) :=
    ⟨by simp, fun j oj _ hl => (by rw [getD_replicate_false] at hl; cases hl), fun t _ ht => getD_in (by simpa using ht) (getD_replicate_false _ _)⟩
  have hb : Bd (fun w' => ∃ m : After B w0, w' = m.w) Gr (fun _ => False) { w with drawn := w.drawn + 1 } := ⟨hC, fun _ h => h.elim⟩
  have H := headF_lex (md := .text) (g := l.toArray.size - n) gr hwt hsel hs hc hn (l.take n) 0 _ _ a _ (fun j hj => by rw [htl] at hj; simp [hj]) (by simpa using htl) inv0 (by rw [htl]; exact hlex) hb h
  rw [htl] at H
  refine wp_region_any hm ?_
  have h2 := headF_wp (R := Q) (g := l.toArray.size - n) gr (fun listed past a' w' hb' hl' hL => by
    have h3 := wpAny_of_seq (md := .text) (Q' := Q) (l.drop n) n listed a' w' (fun j => by simp [List.getElem?_drop]) (by simpa using hL.1) (hL.2 w' hb' hl')
    simpa using h3) n _ _ a _ (fun _ h => h.elim) (by simp) hb (fun _ _ h => h.elim) H
  rw [show n + (l.toArray.size - n) = l.toArray.size by omega] at h2
  exact wpAny_late hL hsel hQ _ _ _ _ (by simp) h2
end
end Fr
end Go.Proofs.Ythdaeddaofickaa
