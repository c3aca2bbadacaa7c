/- A region that draws its order and whose operations make memory: each event (a call, a new block) is met in whatever world comes after what it waits for; one walk in the order of the text serves every order. A region that draws its order, some of whose stores may come ahead of operations that only hand values on: one walk in the order of the text serves every order. -/
import Derived.Test.YtbadplbdgpbdaaaDoorApp
import Derived.StillTail
namespace Go.Proofs.YtbadplbdgpbdaaaDoor
open Go.RowKit
namespace Fr

/-- what an event was: its operation, the world that it got, the world that it left -/
structure Ev where
  ix : Nat
  pre : World
  post : World

/-- one event more -/
def ins (e : Ev) (past : Ev → Prop) : Ev → Prop := fun x => x = e ∨ past x
def insO (d : Option Ev) (past : Ev → Prop) : Ev → Prop :=
  match d with
  | none => past
  | some e => ins e past

theorem ins_all {e : Ev} {past R : Ev → Prop} : (∀ x, ins e past x → R x) ↔ R e ∧ ∀ x, past x → R x :=
  ⟨fun h => ⟨h e (Or.inl rfl), fun x hx => h x (Or.inr hx)⟩, fun h x hx => hx.elim (fun hx => hx ▸ h.1) (h.2 x)⟩
theorem none_all {R : Ev → Prop} : (∀ x, (fun _ : Ev => False) x → R x) ↔ True := ⟨fun _ => trivial, fun _ _ h => h.elim⟩
theorem ins_comm (e f : Ev) (past : Ev → Prop) : ins e (ins f past) = ins f (ins e past) := by
  funext x
  exact propext ⟨fun h => h.elim (fun h => .inr (.inl h)) (fun h => h.elim .inl (fun h => .inr (.inr h))), fun h => h.elim (fun h => .inr (.inl h)) (fun h => h.elim .inl (fun h => .inr (.inr h)))⟩
theorem insO_comm (d f : Option Ev) (past : Ev → Prop) : insO d (insO f past) = insO f (insO d past) := by
  cases d <;> cases f <;> first | rfl | exact ins_comm _ _ _

abbrev Spec := Value → World → World → Prop

section
variable (C : World → Prop) (G : World → World → Prop) (wt : Nat → Nat → Bool)
/-- the worlds in which operation i may come up -/
def Valid (past : Ev → Prop) (i : Nat) (w : World) : Prop := C w ∧ ∀ e, past e → wt e.ix i = true → G e.post w
/-- a world behind all events -/
def Bd (past : Ev → Prop) (w : World) : Prop := C w ∧ ∀ e, past e → G e.post w
/-- of two events one came first -/
def Lin (past : Ev → Prop) : Prop := ∀ e f, past e → past f → e.ix ≠ f.ix → G e.post f.pre ∨ G f.post e.pre
end

/-- what an event's result must be -/
def evUpon (P : Program) (G : World → World → Prop) (T : Spec) (w : World) : Result Next → Prop
  | .ok (.value v) w' => G w w' ∧ T v w w'
  | .ok .skip w' => G w w' ∧ T undef w w'
  | .ok (.enter f args) w1 => Calls P f args w1 fun e w' => ∃ v, e = .returned v ∧ G w w' ∧ T v w w'
  | .ok (.row row args) w1 => Rows P row args w1 fun v w' => G w w' ∧ T v w w'
  | _ => False

def evAt (P : Program) (ops : Array Oper) (G : World → World → Prop) (T : Spec) (o : Oper) (a : Act) (w : World) : Prop :=
  (Region.wanted o (yielded ops a.tmps) = true ∧ evUpon P G T w ((execOp a.eval o).run P w)) ∨ (Region.wanted o (yielded ops a.tmps) = false ∧ G w w ∧ T undef w w)

/-- the operation leaves the world alone and yields v, in every world of the class -/
def pureAt (P : Program) (C : World → Prop) (o : Oper) (a : Act) (v : Value) : Prop :=
  ∀ w, C w → (execOp a.eval o).run P w = .ok (.value v) w ∨ ((execOp a.eval o).run P w = .ok .skip w ∧ v = undef)
def Yields (P : Program) (ops : Array Oper) (C : World → Prop) (o : Oper) (a : Act) (v : Value) : Prop :=
  (Region.wanted o (yielded ops a.tmps) = true ∧ pureAt P C o a v) ∨ (Region.wanted o (yielded ops a.tmps) = false ∧ v = undef)

section
variable {P : Program} {ops : Array Oper} {md : Region.Mode} {C : World → Prop} {G : World → World → Prop} {wt : Nat → Nat → Bool} {evT : Nat → Option Spec}

theorem Act.put_defers_len (a : Act) (d : Option Tmp) (v : Value) : (a.put d v).defers = a.defers := by cases d <;> rfl

theorem Yields.put {o : Oper} {a : Act} {v u : Value} {d : Option Tmp} (hs : ∀ cs b, o.op ≠ .select cs b) (h : ∀ t, d = some t → t ∉ o.looksAt ops) : Yields P ops C o (a.put d u) v ↔ Yields P ops C o a v := by
  unfold Yields pureAt
  rw [execOp_put o hs a d u h, wanted_put o a d u h]

theorem evAt_put {T : Spec} {o : Oper} {a : Act} {u : Value} {d : Option Tmp} {w : World} (hs : ∀ cs b, o.op ≠ .select cs b) (h : ∀ t, d = some t → t ∉ o.looksAt ops) : evAt P ops G T o (a.put d u) w ↔ evAt P ops G T o a w := by
  unfold evAt
  rw [execOp_put o hs a d u h, wanted_put o a d u h]

theorem Yields.unique {o : Oper} {a : Act} {v u : Value} {w : World} (hw : C w) (h : Yields P ops C o a v) (h' : Yields P ops C o a u) : v = u := by
  rcases h with ⟨h1, h2⟩ | ⟨h1, h2⟩ <;> rcases h' with ⟨h3, h4⟩ | ⟨h3, h4⟩
  · rcases h2 w hw with h5 | ⟨h5, h6⟩ <;> rcases h4 w hw with h7 | ⟨h7, h8⟩ <;> rw [h5] at h7
    · injection h7 with h7 _; injection h7
    · injection h7 with h7 _; cases h7
    · injection h7 with h7 _; cases h7
    · rw [h6, h8]
  · rw [h1] at h3; cases h3
  · rw [h1] at h3; cases h3
  · rw [h2, h4]

variable (P ops C G wt evT) in
/-- what operation i may have done -/
def StepD (i : Nat) (o : Oper) (past : Ev → Prop) (a : Act) (v : Value) (d : Option Ev) : Prop :=
  match evT i with
  | none => d = none ∧ Yields P ops C o a v
  | some T => ∃ w w', d = some ⟨i, w, w'⟩ ∧ Valid C G wt past i w ∧ G w w' ∧ T v w w'
variable (P ops C G wt evT) in
def Fine (i : Nat) (o : Oper) (past : Ev → Prop) (a : Act) : Prop :=
  match evT i with
  | none => ∃ v, Yields P ops C o a v
  | some T => ∀ w, Valid C G wt past i w → evAt P ops G T o a w
variable (P ops C G wt evT) in
def opF (i : Nat) (past : Ev → Prop) (K : (Ev → Prop) → Act → Prop) (a : Act) : Prop :=
  ∀ o, ops[i]? = some o → Fine P ops C G wt evT i o past a ∧ ∀ v d, StepD P ops C G wt evT i o past a v d → K (insO d past) (a.put o.dst v)

theorem Valid_insO {past : Ev → Prop} {d : Option Ev} {i j : Nat} {w : World} (hd : ∀ e, d = some e → e.ix = j) (h : wt j i = false) : Valid C G wt (insO d past) i w ↔ Valid C G wt past i w := by
  cases d with
  | none => rfl
  | some e =>
    have he := hd e rfl
    refine ⟨fun hv => ⟨hv.1, fun x hx => hv.2 x (Or.inr hx)⟩, fun hv => ⟨hv.1, fun x hx hw => ?_⟩⟩
    rcases hx with hx | hx
    · rw [hx, he, h] at hw; cases hw
    · exact hv.2 x hx hw

theorem StepD.ix {i : Nat} {o : Oper} {past : Ev → Prop} {a : Act} {v : Value} {d : Option Ev} (h : StepD P ops C G wt evT i o past a v d) : ∀ e, d = some e → e.ix = i := by
  unfold StepD at h
  split at h
  · intro e he; rw [h.1] at he; cases he
  · obtain ⟨w, w', hd, _⟩ := h
    intro e he; rw [hd] at he; injection he with he; rw [← he]

theorem StepD_move {i j : Nat} {o : Oper} {past : Ev → Prop} {a : Act} {v u : Value} {d f : Option Ev} {t : Option Tmp} (hs : ∀ cs b, o.op ≠ .select cs b) (h : ∀ x, t = some x → x ∉ o.looksAt ops) (hf : ∀ e, f = some e → e.ix = j) (hw : wt j i = false) :
    StepD P ops C G wt evT i o (insO f past) (a.put t u) v d ↔ StepD P ops C G wt evT i o past a v d := by
  unfold StepD
  split
  · rw [Yields.put hs h]
  · simp only [Valid_insO hf hw]

theorem Fine_move {i j : Nat} {o : Oper} {past : Ev → Prop} {a : Act} {u : Value} {f : Option Ev} {t : Option Tmp} (hs : ∀ cs b, o.op ≠ .select cs b) (h : ∀ x, t = some x → x ∉ o.looksAt ops) (hf : ∀ e, f = some e → e.ix = j) (hw : wt j i = false) :
    Fine P ops C G wt evT i o (insO f past) (a.put t u) ↔ Fine P ops C G wt evT i o past a := by
  unfold Fine
  split
  · simp only [Yields.put hs h]
  · simp only [Valid_insO hf hw, evAt_put hs h]

/-- the worlds grow, and stay in the class -/
structure Grow (C : World → Prop) (G : World → World → Prop) : Prop where
  refl : ∀ w, G w w
  trans : ∀ a b c, G a b → G b c → G a c
  stay : ∀ w w', C w → G w w' → C w'

theorem Bd.more (gr : Grow C G) {past : Ev → Prop} {i : Nat} {w w' : World} (hb : Bd C G past w) (hg : G w w') : Bd C G (ins ⟨i, w, w'⟩ past) w' :=
  ⟨gr.stay _ _ hb.1 hg, ins_all.2 ⟨gr.refl _, fun e he => gr.trans _ _ _ (hb.2 e he) hg⟩⟩

/-- there is an instance -/
theorem Fine.inst (gr : Grow C G) {i : Nat} {o : Oper} {past : Ev → Prop} {a : Act} {top : World} (hb : Bd C G past top) (h : Fine P ops C G wt evT i o past a) :
    ∃ v d top', StepD P ops C G wt evT i o past a v d ∧ Bd C G (insO d past) top' := by
  unfold Fine at h
  unfold StepD
  split at h
  · obtain ⟨v, hv⟩ := h
    exact ⟨v, none, top, ⟨rfl, hv⟩, hb⟩
  · rename_i T _
    have hv : Valid C G wt past i top := ⟨hb.1, fun e he _ => hb.2 e he⟩
    have key : ∃ v w', G top w' ∧ T v top w' := by
      rcases h top hv with ⟨_, h1⟩ | ⟨_, h1, h2⟩
      · generalize (execOp a.eval o).run P top = r at h1
        cases r with
        | halt x w' => exact h1.elim
        | ok n w' =>
          cases n <;> simp only [evUpon] at h1
          · exact ⟨_, _, h1⟩
          · exact ⟨_, _, h1⟩
          · obtain ⟨e, w'', _, ⟨v, _, h2⟩, _⟩ := h1 []
            exact ⟨v, w'', h2⟩
          · obtain ⟨v, w'', h2, _⟩ := h1 (Frame.ofRow P "" #[] .normal) []
            exact ⟨v, w'', h2⟩
      · exact ⟨_, _, h1, h2⟩
    obtain ⟨v, w', h1, h2⟩ := key
    exact ⟨v, some ⟨i, top, w'⟩, w', ⟨top, w', rfl, hv, h1, h2⟩, hb.more gr h1⟩

/-- the real run: one operation -/
theorem wpOp_of_opF (gr : Grow C G) {Q : Exit → Act → World → Prop} {i : Nat} {past : Ev → Prop} {K : (Ev → Prop) → Act → Prop} {K' : Act → World → Prop} {a : Act} {w : World} (hb : Bd C G past w) (hl : Lin G past)
    (hi : ∃ o, ops[i]? = some o) (h : opF P ops C G wt evT i past K a) (hK : ∀ past' a' w', Bd C G past' w' → Lin G past' → (∀ e, past' e → past e ∨ e.ix = i) → K past' a' → K' a' w') : wpOp P ops Q i K' a w := by
  obtain ⟨o, ho⟩ := hi
  obtain ⟨h1, h2⟩ := h o ho
  unfold wpOp
  simp only [ho]
  unfold Fine at h1
  unfold StepD at h2
  cases hT : evT i with
  | none =>
    simp only [hT] at h1 h2
    obtain ⟨v, hv⟩ := h1
    have h3 := h2 v none ⟨rfl, hv⟩
    have h4 := hK past _ w hb hl (fun e he => .inl he) h3
    rcases hv with ⟨hw, hp⟩ | ⟨hw, hp⟩
    · rw [if_pos hw]
      refine .inl ?_
      unfold Oper.wp
      rcases hp w hb.1 with h5 | ⟨h5, h6⟩ <;> rw [h5]
      · exact h4
      · rw [h6] at h4; exact h4
    · rw [if_neg (by rw [hw]; exact Bool.false_ne_true)]
      rw [hp] at h4; exact h4
  | some T =>
    simp only [hT] at h1 h2
    have hv : Valid C G wt past i w := ⟨hb.1, fun e he _ => hb.2 e he⟩
    have go : ∀ v w', G w w' → T v w w' → K' (a.put o.dst v) w' := fun v w' hg ht => by
      refine hK _ _ _ (hb.more gr hg) ?_ ?_ (h2 v (some ⟨i, w, w'⟩) ⟨w, w', rfl, hv, hg, ht⟩)
      · intro e f he hf hne
        rcases he with he | he <;> rcases hf with hf | hf
        · rw [he, hf] at hne; exact absurd rfl hne
        · rw [he]; exact .inr (hb.2 f hf)
        · rw [hf]; exact .inl (hb.2 e he)
        · exact hl e f he hf hne
      · intro e he
        rcases he with he | he
        · rw [he]; exact .inr rfl
        · exact .inl he
    rcases h1 w hv with ⟨hw, h3⟩ | ⟨hw, h3, h4⟩
    · rw [if_pos hw]
      refine .inl ?_
      unfold Oper.wp
      generalize (execOp a.eval o).run P w = r at h3
      cases r with
      | halt x w' => exact h3.elim
      | ok n w' =>
        cases n <;> simp only [evUpon] at h3
        · exact go _ _ h3.1 h3.2
        · exact go _ _ h3.1 h3.2
        · exact h3.mono fun e w'' ⟨v, he, hg, ht⟩ => by rw [he]; exact go _ _ hg ht
        · exact h3.mono fun v w'' ⟨hg, ht⟩ => go _ _ hg ht
    · rw [if_neg (by rw [hw]; exact Bool.false_ne_true)]
      exact go _ _ h3 h4

/-- what i waits for, through others too: the table is right -/
def WtOK (md : Region.Mode) (ops : Array Oper) (wt : Nat → Nat → Bool) : Prop :=
  ∀ i oi j, ops[i]? = some oi → wt j i = true → ∃ e ∈ oi.after, Region.binds md e = true ∧ e.on < i ∧ (e.on = j ∨ wt j e.on = true)

theorem wt_listed {n : Nat} {listed : Array Bool} (hw : WtOK md ops wt) (inv : HeadInv md ops n listed) : ∀ (m : Nat), listed.getD m false = true → ∀ j, wt j m = true → listed.getD j false = true := by
  intro m
  induction m using Nat.strongRecOn with
  | _ m ih =>
    intro hm j hj
    have hlt : m < ops.size := by
      rw [← inv.size]
      rcases Nat.lt_or_ge m listed.size with h | h
      · exact h
      · simp [Array.getElem?_eq_none h] at hm
    obtain ⟨e, he, hb, hl, h1⟩ := hw m ops[m] j (Array.getElem?_eq_getElem hlt) hj
    have h2 := inv.closed m ops[m] (Array.getElem?_eq_getElem hlt) hm e he hb
    rcases h1 with h1 | h1
    · rw [← h1]; exact h2
    · exact ih _ hl h2 j h1

theorem wt_ready {n i j : Nat} {listed : Array Bool} (hw : WtOK md ops wt) (inv : HeadInv md ops n listed) (hr : i ∈ Region.ready md ops listed) (hj : listed.getD j true = false) : wt j i = false := by
  obtain ⟨_, oi, hoi, hall⟩ := mem_ready.1 hr
  cases h : wt j i with
  | false => rfl
  | true =>
    obtain ⟨e, he, hb, _, h1⟩ := hw i oi j hoi h
    have h2 := hall e he hb
    have h3 := getD_both hj
    rcases h1 with h1 | h1
    · rw [h1, h3] at h2; cases h2
    · rw [wt_listed hw inv _ h2 j h1] at h3; cases h3

variable (P ops md C G wt evT) in
/-- whatever order is picked, so many operations from here on, all ahead of operation n -/
def headF (n : Nat) (L : Array Bool → (Ev → Prop) → Act → Prop) : Nat → Array Bool → (Ev → Prop) → Act → World → Prop
  | 0, listed, past, a, _ => L listed past a
  | k + 1, listed, past, a, _ => Region.ready md ops listed ≠ [] ∧ ∀ i ∈ Region.ready md ops listed, i < n ∧
      opF P ops C G wt evT i past (fun past' a' => ∀ top', Bd C G past' top' → headF n L k (listed.setIfInBounds i true) past' a' top') a

theorem headF_wp (gr : Grow C G) {n g : Nat} {L : Array Bool → (Ev → Prop) → Act → Prop} {R : Exit → Act → World → Prop} (hL : ∀ listed past a w, Bd C G past w → Lin G past → L listed past a → wpAny P md ops R g listed a w) :
    ∀ (k : Nat) (listed : Array Bool) (past : Ev → Prop) (a : Act) (w : World), (∀ e, past e → listed.getD e.ix false = true) → listed.size = ops.size → Bd C G past w → Lin G past → headF P ops md C G wt evT n L k listed past a w → wpAny P md ops R (k + g) listed a w := by
  intro k
  induction k with
  | zero => intro listed past a w _ _ hb hl h; rw [Nat.zero_add]; exact hL _ _ _ _ hb hl h
  | succ k ih =>
    intro listed past a w hp hsz hb hl h
    rw [Nat.add_right_comm]
    refine ⟨fun h0 => absurd h0 h.1, fun i hi => ?_⟩
    obtain ⟨hun, oi, hoi, _⟩ := mem_ready.1 hi
    refine wpOp_of_opF gr hb hl ⟨oi, hoi⟩ (h.2 i hi).2 fun past' a' w' hb' hl' hs hK => ih _ past' a' w' (fun e he => ?_) (by simpa using hsz) hb' hl' (hK w' hb')
    · rcases hs e he with h1 | h1
      · exact getD_set_true (hp e h1)
      · have hlt : i < listed.size := by rw [hsz]; exact (Array.getElem?_eq_some_iff.1 hoi).1
        rw [h1]; simp [hlt]

theorem headF_first (gr : Grow C G) (hwt : WtOK md ops wt) {n i : Nat} {oi : Oper} {L : Array Bool → (Ev → Prop) → Act → Prop} (hi : ops[i]? = some oi) (hsel : ∀ (j : Nat) (o : Oper) cs b, ops[j]? = some o → o.op ≠ .select cs b)
    (hs : Region.sinkB md ops n = true) (hc : Region.chainB md ops n = true) (hn : n < ops.size) (hin : i < n) (hdone : ∀ listed past a, L listed past a → ∀ j ∈ Region.ready md ops listed, n ≤ j) :
    ∀ (k : Nat) (listed : Array Bool) (past : Ev → Prop) (a : Act) (top : World), HeadInv md ops n listed →
      (∀ j oj, ops[j]? = some oj → j ≠ i → listed.getD j true = false → (∀ e ∈ oj.after, Region.binds md e = true → e.on ≠ i) → oi.apart ops oj = true) →
      i ∈ Region.ready md ops listed → Bd C G past top → opF P ops C G wt evT i past (fun past' a' => ∀ top', Bd C G past' top' → headF P ops md C G wt evT n L k (listed.setIfInBounds i true) past' a' top') a →
      headF P ops md C G wt evT n L (k + 1) listed past a top := by
  intro k
  induction k with
  | zero =>
    intro listed past a top inv _ hr hb H
    have hun := (mem_ready.1 hr).1
    refine ⟨fun h => (by rw [h] at hr; cases hr), fun j hj => ?_⟩
    have hjn : j < n := Decidable.byContradiction fun h => absurd hj (tail_waits hs hc hn inv _ i rfl hin hun j (by omega))
    refine ⟨hjn, ?_⟩
    rcases Decidable.em (j = i) with rfl | hji
    · exact H
    · obtain ⟨v, d, top', hst, hb'⟩ := (H oi hi).1.inst gr hb
      have h1 := (H oi hi).2 v d hst top' hb'
      have := hdone _ _ _ h1 j (ready_mono hj hji)
      omega
  | succ k ih =>
    intro listed past a top inv hfree hr hb H
    have hun := (mem_ready.1 hr).1
    refine ⟨fun h => (by rw [h] at hr; cases hr), fun j hj => ?_⟩
    have hjn : j < n := Decidable.byContradiction fun h => absurd hj (tail_waits hs hc hn inv _ i rfl hin hun j (by omega))
    refine ⟨hjn, ?_⟩
    rcases Decidable.em (j = i) with rfl | hji
    · exact H
    · obtain ⟨hjun, oj, hoj, hall⟩ := mem_ready.1 hj
      have hnot : ∀ e ∈ oj.after, Region.binds md e = true → e.on ≠ i := fun e he hb heq => by
        have h3 := hall e he hb
        rw [heq, getD_both hun] at h3
        cases h3
      obtain ⟨ap1, ap2, ap3⟩ := Oper.apart_spec (hfree j oj hoj hji hjun hnot)
      have w1 : wt i j = false := wt_ready hwt inv hj hun
      have w2 : wt j i = false := wt_ready hwt inv hr hjun
      have si := fun cs b => hsel i oi cs b hi
      have sj := fun cs b => hsel j oj cs b hoj
      have hjr : j ∈ Region.ready md ops (listed.setIfInBounds i true) := ready_mono hj hji
      intro o ho
      obtain rfl : oj = o := Option.some.inj (hoj.symm.trans ho)
      constructor
      · obtain ⟨v, d, top', hst, hb'⟩ := (H oi hi).1.inst gr hb
        have h1 := (((H oi hi).2 v d hst top' hb').2 j hjr).2 oj hoj
        exact (Fine_move sj ap1 hst.ix w1).1 h1.1
      · intro vj dj hstj top1 hb1
        refine ih (listed.setIfInBounds j true) _ _ top1 (inv.set hj hjn) (fun m om hm hmi hmun hno => hfree m om hm hmi ?_ hno) (ready_mono hr (Ne.symm hji)) hb1 ?_
        · rcases Decidable.em (j = m) with rfl | hjm
          · exact hjun
          · rwa [getD_set_ne true hjm] at hmun
        · intro o' ho'
          obtain rfl : oi = o' := Option.some.inj (hi.symm.trans ho')
          refine ⟨(Fine_move si ap3 hstj.ix w2).2 (H oi hi).1, fun vi di hsti top2 hb2 => ?_⟩
          have hsti' := (StepD_move si ap3 hstj.ix w2).1 hsti
          have hb3 : Bd C G (insO di past) top2 := by
            refine ⟨hb2.1, fun e he => hb2.2 e ?_⟩
            cases di with
            | none => cases dj with
              | none => exact he
              | some f => exact Or.inr he
            | some g => cases dj with
              | none => exact he
              | some f => exact he.elim Or.inl (fun h => Or.inr (Or.inr h))
          have h1 := (((H oi hi).2 vi di hsti' top2 hb3).2 j hjr).2 oj hoj
          have h2 := h1.2 vj dj ((StepD_move sj ap1 hsti'.ix w1).2 hstj) top2 (by rw [insO_comm]; exact hb2)
          rw [Array.setIfInBounds_comm _ _ (Ne.symm hji), insO_comm dj di, Act.put_comm a vi vj ap2] at h2
          exact h2

/-! ### The walk in the order of the text -/

/-- no call: it enters no function -/
def notCall (o : Oper) : Bool := match o.op with
  | .call c => (match c.callee with | .builtin .len => true | .builtin .append => true | _ => false)
  | .go _ | .defer _ | .send _ _ | .recv _ _ _ | .select _ _ => false
  | _ => true

variable (P ops C G wt evT) in
def wpFree (Lq : (Ev → Prop) → Act → Prop) : List Oper → Nat → (Ev → Prop) → Act → Prop
  | [], _, past, a => Lq past a
  | o :: l, k, past, a => Fine P ops C G wt evT k o past a ∧ ∀ v d, StepD P ops C G wt evT k o past a v d → wpFree Lq l (k + 1) (insO d past) (a.put o.dst v)

theorem headF_lex (gr : Grow C G) (hwt : WtOK md ops wt) {n g : Nat} {Lq : (Ev → Prop) → Act → Prop} (hsel : Region.noSelect ops = true) (hs : Region.sinkB md ops n = true) (hc : Region.chainB md ops n = true) (hn : n < ops.size) :
    ∀ (l : List Oper) (k : Nat) (listed : Array Bool) (past : Ev → Prop) (a : Act) (top : World), (∀ j, j < l.length → l[j]? = ops[k + j]?) → k + l.length = n → HeadInv md ops n listed → Region.lexHead md ops g l.length k listed = true → Bd C G past top →
    wpFree P ops C G wt evT Lq l k past a →
    headF P ops md C G wt evT n (fun listed' past' a' => Region.seqB md ops g n listed' = true ∧ Lq past' a') l.length listed past a top := by
  intro l
  induction l with
  | nil =>
    intro k listed past a top _ hk _ hB _ h
    obtain rfl : k = n := by simpa using hk
    exact ⟨by simpa [Region.lexHead] using hB, h⟩
  | cons o l ih =>
    intro k listed past a top hl hk inv hB hb h
    have h0 : ops[k]? = some o := by have := hl 0 (by simp); simpa using this.symm
    rw [List.length_cons] at hk hB
    simp only [Region.lexHead, Bool.and_eq_true] at hB
    have hr : k ∈ Region.ready md ops listed := by simpa using hB.1.1
    refine headF_first gr hwt h0 (Region.noSelect_spec hsel) hs hc hn (by omega) (fun _ _ _ hL => seqB_ready hL.1) l.length listed past a top inv (Region.free_spec h0 hB.1.2) hr hb ?_
    intro o' ho'
    obtain rfl : o = o' := Option.some.inj (h0.symm.trans ho')
    refine ⟨h.1, fun v d hst top' hb' => ih (k + 1) _ _ _ top' (fun j hj => ?_) (by omega) (inv.set hr (by omega)) hB.2 hb' (h.2 v d hst)⟩
    have := hl (j + 1) (by rw [List.length_cons]; omega)
    rw [List.getElem?_cons_succ] at this
    rw [this, Nat.add_right_comm]; rfl

/-- those that wait for j, through others too, ahead of n -/
def reach (md : Region.Mode) (ops : Array Oper) (j : Nat) : Nat → List Nat
  | 0 => []
  | n + 1 => match ops[n]? with
    | some o => if o.after.any (fun e => Region.binds md e && decide (e.on < n) && (e.on == j || (reach md ops j n).contains e.on)) then n :: reach md ops j n else reach md ops j n
    | none => reach md ops j n
def wtR (md : Region.Mode) (ops : Array Oper) (j i : Nat) : Bool := (reach md ops j ops.size).contains i

theorem reach_spec (j : Nat) : ∀ (n i : Nat), i ∈ reach md ops j n → i < n ∧ ∃ oi, ops[i]? = some oi ∧ ∃ e ∈ oi.after, Region.binds md e = true ∧ e.on < i ∧ (e.on = j ∨ e.on ∈ reach md ops j n) := by
  intro n
  induction n with
  | zero => intro i h; cases h
  | succ n ih =>
    intro i h
    have up : ∀ i, i ∈ reach md ops j n → i ∈ reach md ops j (n + 1) := fun i hi => by
      unfold reach
      split
      · split
        · exact List.mem_cons_of_mem _ hi
        · exact hi
      · exact hi
    have old : i ∈ reach md ops j n → i < n + 1 ∧ ∃ oi, ops[i]? = some oi ∧ ∃ e ∈ oi.after, Region.binds md e = true ∧ e.on < i ∧ (e.on = j ∨ e.on ∈ reach md ops j (n + 1)) := fun hi => by
      obtain ⟨h1, oi, h2, e, h3, h4, h5, h6⟩ := ih i hi
      exact ⟨by omega, oi, h2, e, h3, h4, h5, h6.imp id (up _)⟩
    unfold reach at h
    split at h
    · rename_i o ho
      split at h
      · rename_i hany
        rcases List.mem_cons.1 h with h | h
        · obtain ⟨e, he, hb⟩ := Array.any_eq_true'.1 hany
          simp only [Bool.and_eq_true, decide_eq_true_eq, Bool.or_eq_true, beq_iff_eq, List.contains_iff_mem] at hb
          subst h
          exact ⟨by omega, o, ho, e, he, hb.1.1, hb.1.2, hb.2.imp id (up _)⟩
        · exact old h
      · exact old h
    · exact old h

theorem wtR_ok : WtOK md ops (wtR md ops) := fun i oi j hoi h => by
  unfold wtR at h ⊢
  simp only [List.contains_iff_mem] at h ⊢
  obtain ⟨_, oi', h2, e, h3, h4, h5, h6⟩ := reach_spec j _ i h
  obtain rfl : oi = oi' := Option.some.inj (hoi.symm.trans h2)
  exact ⟨e, h3, h4, h5, h6⟩

/-- what an operation that is no call may come to -/
def plainNext : Result Next → Prop
  | .ok (.enter _ _) _ => False
  | .ok (.defer _) _ => False
  | .ok (.row _ _) _ => False
  | _ => True

theorem plain_v (s : Sem Value) (w : World) : plainNext ((do pure (Next.value (← s)) : Sem Next).run P w) := by
  rw [Sem.run_bind]
  cases s.run P w <;> exact trivial
theorem plain_u (s : Sem Unit) (w : World) : plainNext ((do s; pure Next.skip : Sem Next).run P w) := by
  rw [Sem.run_bind]
  cases s.run P w <;> exact trivial

theorem plain_op {ρ : Operand → Value} {o : Oper} (h : notCall o = true) (w : World) : plainNext ((execOp ρ o).run P w) := by
  unfold notCall at h
  unfold execOp
  cases ho : o.op <;> simp only [ho] at h ⊢
  all_goals first
    | exact trivial
    | exact plain_v _ w
    | exact plain_u _ w
    | skip
  case pick c x y =>
    rw [Sem.run_bind]
    cases (asBool (ρ c)).run P w <;> exact trivial
  case nilCheck x =>
    split
    case h_4 =>
      split
      · exact trivial
      · simp only [Sem.run_bind]
        cases (program).run P w with
        | halt x w' => exact trivial
        | ok p w' =>
          simp only [Result.andThen_ok]
          generalize (nilAhead _ _ _ _).run P w' = r
          cases r with
          | halt x w' => exact trivial
          | ok p w' =>
            simp only [Result.andThen_ok]
            split <;> exact trivial
      · exact trivial
    all_goals exact trivial
  case call c =>
    unfold resolve
    cases hc : c.callee <;> simp only [hc] at h ⊢
    case builtin b =>
      cases b <;> simp only at h ⊢
      all_goals first
        | exact plain_v _ w
        | cases h
    all_goals cases h
  all_goals cases h

/-- a part whose operations only read -/
theorem free_seg {Lq : (Ev → Prop) → Act → Prop} {past : Ev → Prop} (hne : ∃ w, C w) : ∀ (l rest : List Oper) (k : Nat) (a : Act), (List.range l.length).all (fun i => (evT (k + i)).isNone) = true → l.all notCall = true →
    wpQuiet P ops C (fun a' => wpFree P ops C G wt evT Lq rest (k + l.length) past a') l a → wpFree P ops C G wt evT Lq (l ++ rest) k past a := by
  intro l
  induction l with
  | nil => intro rest k a _ _ h; exact h
  | cons o l ih =>
    intro rest k a he hn h
    have hk : evT k = none := by
      have := List.all_eq_true.1 he 0 (by simp)
      simpa using this
    simp only [List.all_cons, Bool.and_eq_true] at hn
    have next : ∀ v, wpQuiet P ops C (fun a' => wpFree P ops C G wt evT Lq rest (k + (o :: l).length) past a') l (a.put o.dst v) → wpFree P ops C G wt evT Lq (l ++ rest) (k + 1) past (a.put o.dst v) := fun v hv => by
      refine ih rest (k + 1) _ (List.all_eq_true.2 fun i hi => ?_) hn.2 ?_
      · have := List.all_eq_true.1 he (i + 1) (by simp at hi ⊢; omega)
        rwa [show k + 1 + i = k + (i + 1) by omega]
      · rwa [show k + 1 + l.length = k + (o :: l).length by simp; omega]
    have fin : ∀ v, Yields P ops C o a v → wpQuiet P ops C (fun a' => wpFree P ops C G wt evT Lq rest (k + (o :: l).length) past a') l (a.put o.dst v) → wpFree P ops C G wt evT Lq ((o :: l) ++ rest) k past a := fun v hy hv => by
      refine ⟨by unfold Fine; simp only [hk]; exact ⟨v, hy⟩, fun u d hst => ?_⟩
      unfold StepD at hst
      simp only [hk] at hst
      obtain ⟨w, hw⟩ := hne
      rw [hst.1, hst.2.unique hw hy]
      exact next v hv
    unfold wpQuiet at h
    by_cases hw : Region.wanted o (yielded ops a.tmps) = true
    · rw [if_pos hw] at h
      obtain ⟨v, h1, h2⟩ := h
      refine fin v (.inl ⟨hw, fun w hC => ?_⟩) h2
      have h3 := h1 w hC
      unfold Oper.quietAt at h3
      have h4 := plain_op (P := P) (ρ := a.eval) hn.1 w
      generalize (execOp a.eval o).run P w = r at h3 h4
      cases r with
      | halt x w' => exact h3.elim
      | ok n w' =>
        cases n <;> simp only [Oper.quietUpon] at h3
        · rw [h3.1, h3.2]; exact .inl rfl
        · rw [h3.1]; exact .inr ⟨rfl, h3.2⟩
        · exact h4.elim
    · rw [if_neg hw] at h
      exact fin undef (.inr ⟨by simpa using hw, rfl⟩) h

theorem free_take {Lq : (Ev → Prop) → Act → Prop} {past : Ev → Prop} {l : List Oper} {k : Nat} {a : Act} (n : Nat) (hne : ∃ w, C w) (he : (List.range (l.take n).length).all (fun i => (evT (k + i)).isNone) = true) (hn : (l.take n).all notCall = true)
    (h : wpQuiet P ops C (fun a' => wpFree P ops C G wt evT Lq (l.drop n) (k + (l.take n).length) past a') (l.take n) a) : wpFree P ops C G wt evT Lq l k past a := by
  have := free_seg hne (l.take n) (l.drop n) k a he hn h
  rwa [List.take_append_drop] at this

theorem free_skip {Lq : (Ev → Prop) → Act → Prop} {past : Ev → Prop} {l : List Oper} {o : Oper} {k : Nat} {a : Act} (he : evT k = none) (hw : Region.wanted o (yielded ops a.tmps) = false) (h : wpFree P ops C G wt evT Lq l (k + 1) past (a.put o.dst undef)) :
    wpFree P ops C G wt evT Lq (o :: l) k past a := by
  have hy : Yields P ops C o a undef := .inr ⟨hw, rfl⟩
  refine ⟨by unfold Fine; simp only [he]; exact ⟨_, hy⟩, fun u d hst => ?_⟩
  unfold StepD at hst
  simp only [he] at hst
  have hu : u = undef := by
    rcases hst.2 with ⟨h1, _⟩ | ⟨_, h1⟩
    · rw [hw] at h1; cases h1
    · exact h1
  rw [hst.1, hu]
  exact h

/-- an event -/
theorem free_ev {Lq : (Ev → Prop) → Act → Prop} {past : Ev → Prop} {l : List Oper} {o : Oper} {k d : Nat} {a : Act} {T : Spec} (he : evT k = some T) (hd : o.dst = some d) (hlt : d < a.tmps.size)
    (h1 : ∀ w, Valid C G wt past k w → wpList P ops (fun ex a' w' => ex = .normal ∧ a'.defers = a.defers ∧ G w w' ∧ T (a'.tmps.getD d undef) w w') [o] a w)
    (h2 : ∀ v w w', Valid C G wt past k w → G w w' → T v w w' → wpFree P ops C G wt evT Lq l (k + 1) (ins ⟨k, w, w'⟩ past) (a.put (some d) v)) :
    wpFree P ops C G wt evT Lq (o :: l) k past a := by
  have get : ∀ v, ((a.put o.dst v).tmps.getD d undef) = v := fun v => by
    rw [hd]
    show (a.tmps.setIfInBounds d v).getD d undef = v
    simp [hlt]
  have nl : ∀ w : World, ¬ LetsOut (fun (ex : Exit) (a' : Act) (w' : World) => ex = .normal ∧ a'.defers = a.defers ∧ G w w' ∧ T (a'.tmps.getD d undef) w w') := fun w ⟨a', w', h, _⟩ => by cases h
  refine ⟨?_, fun v dd hst => ?_⟩
  · unfold Fine
    simp only [he]
    intro w hv
    have h3 := h1 w hv
    unfold wpList at h3
    by_cases hw : Region.wanted o (yielded ops a.tmps) = true
    · rw [if_pos hw] at h3
      refine .inl ⟨hw, ?_⟩
      rcases h3 with h3 | h3
      · unfold Oper.wp at h3
        generalize (execOp a.eval o).run P w = r at h3
        cases r with
        | halt x w' => cases x <;> simp only [Oper.upon] at h3; cases h3.1
        | ok n w' =>
          cases n <;> simp only [Oper.upon] at h3
          case value v => have := h3.2.2; rw [get] at this; exact this
          case skip => have := h3.2.2; rw [get] at this; exact this
          case defer dd => have := congrArg List.length h3.2.1; simp [Act.put_defers_len] at this
          case row row args => refine h3.mono fun v w'' h4 => ?_; have := h4.2.2; rw [get] at this; exact this
          case enter f args =>
            refine h3.mono fun e w'' he' => ?_
            cases e with
            | returned v => have := he'.2.2; rw [get] at this; exact ⟨v, rfl, this⟩
            | panicked c => cases he'.1
            | outgrown => exact absurd he' (nl w)
      · exact absurd h3.2 (nl w)
    · rw [if_neg hw] at h3
      have := h3.2.2; rw [get] at this
      exact .inr ⟨by simpa using hw, this⟩
  · unfold StepD at hst
    simp only [he] at hst
    obtain ⟨w, w', hdd, hv, hg, ht⟩ := hst
    rw [hdd, hd]
    exact h2 v w w' hv hg ht

theorem free_nil {Lq : (Ev → Prop) → Act → Prop} {past : Ev → Prop} {k : Nat} {a : Act} (h : Lq past a) : wpFree P ops C G wt evT Lq [] k past a := h

/-- the events that were told -/
def evOf (evs : List (Nat × Spec)) (i : Nat) : Option Spec := (evs.find? (fun e => e.1 == i)).map (·.2)

/-- **One walk in the order of the text serves every order.** -/
theorem wp_region_free {id : Nat} {Q : Exit → Act → World → Prop} {a : Act} {w : World} {l : List Oper} (evT : Nat → Option Spec) (wt : Nat → Nat → Bool) (n : Nat) (gr : Grow C G) (hwt : WtOK .any l.toArray wt) (hm : P.follows .mixedOrders = true) (hB : Region.lexTailB .any l.toArray n = true) (hC : C { w with drawn := w.drawn + 1 })
    (h : wpFree P l.toArray C G wt evT (fun past a' => ∀ w', Bd C G past w' → Lin G past → wpList P l.toArray Q (l.drop n) a' w') (l.take n) 0 (fun _ => False) a) : (Code.region id l.toArray true).wp P Q a w := by
  simp only [Region.lexTailB, Bool.and_eq_true, decide_eq_true_eq] at hB
  obtain ⟨⟨⟨⟨hsel, hn⟩, hs⟩, hc⟩, hlex⟩ := hB
  have htl : (l.take n).length = n := by simp at hn ⊢; omega
  have inv0 : HeadInv .any l.toArray n (Array.replicate l.toArray.size false) :=
    ⟨by simp, fun j oj _ hl => (by rw [getD_replicate_false] at hl; cases hl), fun t _ ht => getD_in (by simpa using ht) (getD_replicate_false _ _)⟩
  have hb : Bd C G (fun _ => False) { w with drawn := w.drawn + 1 } := ⟨hC, fun _ h => h.elim⟩
  have H := headF_lex (md := .any) (g := l.toArray.size - n) gr hwt hsel hs hc hn (l.take n) 0 _ _ a _ (fun j hj => by rw [htl] at hj; simp [hj]) (by simpa using htl) inv0 (by rw [htl]; exact hlex) hb h
  rw [htl] at H
  refine wp_region_any hm ?_
  have h2 := headF_wp (R := Q) (g := l.toArray.size - n) gr (fun listed past a' w' hb' hl' hL => by
    have h3 := wpAny_of_seq (md := .any) (Q' := Q) (l.drop n) n listed a' w' (fun j => by simp [List.getElem?_drop]) (by simpa using hL.1) (hL.2 w' hb' hl')
    simpa using h3) n _ _ a _ (fun _ h => h.elim) (by simp) hb (fun _ _ h => h.elim) H
  rwa [show n + (l.toArray.size - n) = l.toArray.size by omega] at h2

/-! ### The worlds that come after one, and grow -/
def Gr (w w' : World) : Prop := Below w.heap.size w w'
theorem grow_below {B : Nat} {w0 : World} (hB : B ≤ w0.heap.size) : Grow (fun w' => ∃ m : After B w0, w' = m.w) Gr where
  refl := fun _ => Below.refl _ _
  trans := fun _ _ _ h k => h.trans (k.mono h.size)
  stay := fun _ w' ⟨m, hm⟩ h => ⟨⟨w', m.below.trans ((hm ▸ h : Below m.w.heap.size m.w w').mono (Nat.le_trans hB m.size))⟩, rfl⟩

theorem class_drew {B : Nat} {w0 w : World} (hw : Below B w0 w) : ∃ m : After B w0, { w with drawn := w.drawn + 1 } = m.w := ⟨⟨{ w with drawn := w.drawn + 1 }, hw.trans ⟨rfl, rfl, rfl, Nat.le_refl _, fun _ _ => rfl⟩⟩, rfl⟩

theorem class_ne (B : Nat) (w0 : World) : ∃ w, ∃ m : After B w0, w = m.w := ⟨w0, ⟨w0, Below.refl _ _⟩, rfl⟩
theorem Valid.hd {e : Ev} {past : Ev → Prop} {i : Nat} {w : World} (h : Valid C G wt (ins e past) i w) (hw : wt e.ix i = true) : G e.post w := h.2 e (Or.inl rfl) hw
theorem Valid.tl {e : Ev} {past : Ev → Prop} {i : Nat} {w : World} (h : Valid C G wt (ins e past) i w) : Valid C G wt past i w := ⟨h.1, fun x hx => h.2 x (Or.inr hx)⟩
theorem Bd.hd {e : Ev} {past : Ev → Prop} {w : World} (h : Bd C G (ins e past) w) : G e.post w := h.2 e (Or.inl rfl)
theorem Bd.tl {e : Ev} {past : Ev → Prop} {w : World} (h : Bd C G (ins e past) w) : Bd C G past w := ⟨h.1, fun x hx => h.2 x (Or.inr hx)⟩

/-- the same, at the class of the worlds that are as one was below a block -/
theorem wp_region_made {id : Nat} {Q : Exit → Act → World → Prop} {a : Act} {w : World} {l : List Oper} (evs : List (Nat × Spec)) (n B : Nat) (w0 : World) (hw : Below B w0 w) (hB0 : B ≤ w0.heap.size) (hm : P.follows .mixedOrders = true) (hB : Region.lexTailB .any l.toArray n = true)
    (h : wpFree P l.toArray (fun w' => ∃ m : After B w0, w' = m.w) Gr (wtR .any l.toArray) (evOf evs) (fun past a' => ∀ w', Bd (fun w' => ∃ m : After B w0, w' = m.w) Gr past w' → Lin Gr past → wpList P l.toArray Q (l.drop n) a' w') (l.take n) 0 (fun _ => False) a) : (Code.region id l.toArray true).wp P Q a w :=
  wp_region_free (evOf evs) _ n (grow_below hB0) wtR_ok hm hB (class_drew hw) h
end

end Fr
end Go.Proofs.YtbadplbdgpbdaaaDoor

namespace Go.Proofs.YtbadplbdgpbdaaaDoor
open Go.RowKit
namespace Fr

/-- it hands a value on -/
def hands (o : Oper) : Bool := o.guard.isNone && match o.op with | .extract _ _ => true | .move _ => true | _ => false

section
variable {P : Program} {ops : Array Oper} {Q : Exit → Act → World → Prop} {md md' : Region.Mode}

theorem stuck_no {o : Oper} {a : Act} {w : World} {K : Act → World → Prop} {s : String} (h : (execOp a.eval o) = stuck s) : ¬ (o.wp P a w K Q ∨ (o.asks P a w ∧ LetsOut Q)) := by
  rintro (h1 | ⟨⟨h1, _⟩, _⟩)
  · unfold Oper.wp at h1
    rw [h] at h1
    exact h1
  · rw [h] at h1
    have e : (Sem.runT P (stuck s : Sem Next) w #[]).2 = #[] := rfl
    rw [e] at h1
    simp at h1
theorem hands_yields {o : Oper} {a : Act} {w : World} {K : Act → World → Prop} (h : hands o = true) (hw : o.wp P a w K Q ∨ (o.asks P a w ∧ LetsOut Q)) : (∃ v, Go.Yields P ops o v a ∧ K (a.put o.dst v) w) := by
  unfold hands at h
  simp only [Bool.and_eq_true, Option.isNone_iff_eq_none] at h
  obtain ⟨h0, h1⟩ := h
  have hwt : Region.wanted o (yielded ops a.tmps) = true := by simp [Region.wanted, h0]
  have hok : ∀ v, execOp a.eval o = pure (.value v) → ∃ v, Go.Yields P ops o v a ∧ K (a.put o.dst v) w := fun v hv => by
    refine ⟨v, .inl ⟨hwt, fun w => by rw [hv]; rfl⟩, ?_⟩
    rcases hw with h2 | ⟨⟨h2, _⟩, _⟩
    · unfold Oper.wp at h2
      rw [hv] at h2
      exact h2
    · rw [hv] at h2
      have e : (Sem.runT P (pure (Next.value v) : Sem Next) w #[]).2 = #[] := rfl
      rw [e] at h2
      simp at h2
  split at h1
  · rename_i x k hx
    have e : execOp a.eval o = (do pure (.value (← Instr.extract (a.eval x) k))) := by simp only [execOp, hx]
    unfold Instr.extract at e
    split at e
    · split at e
      · exact hok _ e
      · exact absurd hw (stuck_no (s := "Extract: no such component") (e.trans rfl))
    · exact absurd hw (stuck_no (s := "Extract: tuple expected") (e.trans rfl))
  · rename_i x hx
    exact hok (a.eval x) (by simp only [execOp, hx])
  · cases h1
/-- those that operation i waits for -/
def ahead (md : Region.Mode) (ops : Array Oper) (i : Nat) : Array Bool := ((List.range ops.size).map fun j => Region.waitsFor md ops i j).toArray
/-- what waits in one mode alone waits for what only hands values on, and is behind all that this waits for -/
def lateOK (md md' : Region.Mode) (ops : Array Oper) (late : List Nat) : Bool :=
  (List.range ops.size).all (fun t => match ops[t]? with
    | some o => o.after.all fun e => (!Region.binds md e || Region.binds md' e) && (!Region.binds md' e || (Region.binds md e || (late.contains e.on && match ops[e.on]? with
        | some o2 => hands o2 && o2.after.all fun f => !Region.binds md' f || o.after.any fun e' => Region.binds md e' && e'.on == f.on
        | none => false)))
    | none => true) &&
  late.all fun i => (match ops[i]? with | some o2 => hands o2 | none => false) && Region.free md ops (ahead md ops i) i

theorem late_edge {late : List Nat} (h : lateOK md md' ops late = true) {t : Nat} {o : Oper} (ho : ops[t]? = some o) {e : Edge} (he : e ∈ o.after) :
    (Region.binds md e = true → Region.binds md' e = true) ∧ (Region.binds md' e = true → Region.binds md e = true ∨ e.on ∈ late ∧ ∃ o2, ops[e.on]? = some o2 ∧ hands o2 = true ∧ ∀ f ∈ o2.after, Region.binds md' f = true → ∃ e' ∈ o.after, Region.binds md e' = true ∧ e'.on = f.on) := by
  unfold lateOK at h
  rw [Bool.and_eq_true] at h
  have h1 := List.all_eq_true.1 h.1 t (List.mem_range.2 (Array.getElem?_eq_some_iff.1 ho).1)
  simp only [ho] at h1
  have h2 := (Array.all_eq_true_iff_forall_mem).1 h1 e he
  rw [Bool.and_eq_true] at h2
  constructor
  · intro hb
    have := h2.1
    rw [hb] at this
    simpa using this
  · intro hb
    have h3 := h2.2
    rw [hb] at h3
    simp only [Bool.not_true, Bool.false_or, Bool.or_eq_true, Bool.and_eq_true] at h3
    rcases h3 with h3 | ⟨h3, h4⟩
    · exact .inl h3
    · right
      refine ⟨by simpa using h3, ?_⟩
      cases h5 : ops[e.on]? with
      | none => simp [h5] at h4
      | some o2 =>
        simp only [h5, Bool.and_eq_true] at h4
        refine ⟨o2, rfl, h4.1, fun f hf hb' => ?_⟩
        have h6 := (Array.all_eq_true_iff_forall_mem).1 h4.2 f hf
        rw [hb'] at h6
        simp only [Bool.not_true, Bool.false_or] at h6
        obtain ⟨e', he', h7⟩ := Array.any_eq_true'.1 h6
        simp only [Bool.and_eq_true, beq_iff_eq] at h7
        exact ⟨e', he', h7⟩
theorem late_free {late : List Nat} (h : lateOK md md' ops late = true) {i : Nat} (hi : i ∈ late) {listed : Array Bool} (hs : listed.size = ops.size) (hr : i ∈ Region.ready md ops listed) : (∃ o, ops[i]? = some o ∧ hands o = true) ∧ Region.free md ops listed i = true := by
  unfold lateOK at h
  rw [Bool.and_eq_true] at h
  have h1 := List.all_eq_true.1 h.2 i hi
  rw [Bool.and_eq_true] at h1
  constructor
  · have h2 := h1.1
    cases h3 : ops[i]? with
    | none => simp [h3] at h2
    | some o => exact ⟨o, rfl, by simpa [h3] using h2⟩
  · have h2 := h1.2
    unfold Region.free at h2 ⊢
    cases h3 : ops[i]? with
    | none => simp [h3] at h2
    | some oi =>
      simp only [h3] at h2 ⊢
      rw [List.all_eq_true] at h2 ⊢
      intro j hj
      have h4 := h2 j hj
      have hjs := List.mem_range.1 hj
      rw [Bool.or_eq_true] at h4 ⊢
      rcases h4 with h4 | h4
      · rw [Bool.or_eq_true] at h4
        rcases h4 with h4 | h4
        · exact .inl (by rw [h4]; rfl)
        · left
          have h5 : Region.waitsFor md ops i j = true := by
            unfold ahead at h4
            simpa [hjs] using h4
          obtain ⟨oj, hoj, e, he, hb, hej⟩ := Region.waitsFor_spec h5
          obtain ⟨_, o', ho', hall⟩ := mem_ready.1 hr
          rw [hoj] at ho'
          cases ho'
          have h6 := hall e he hb
          rw [hej] at h6
          have h7 : listed.getD j true = true := by
            have hlt : j < listed.size := by omega
            simp [hlt] at h6 ⊢
            exact h6
          rw [h7, Bool.or_true]
      · exact .inr h4
theorem ready_sub {late : List Nat} (h : lateOK md md' ops late = true) {listed : Array Bool} {i : Nat} (hi : i ∈ Region.ready md' ops listed) : i ∈ Region.ready md ops listed := by
  obtain ⟨h1, o, ho, h2⟩ := mem_ready.1 hi
  exact mem_ready.2 ⟨h1, o, ho, fun e he hb => h2 e he ((late_edge h ho he).1 hb)⟩
theorem ready_late {late : List Nat} (h : lateOK md md' ops late = true) {listed : Array Bool} (hs : listed.size = ops.size) {i : Nat} (hi : i ∈ Region.ready md ops listed) (hn : i ∉ Region.ready md' ops listed) : ∃ t ∈ late, t ∈ Region.ready md' ops listed := by
  obtain ⟨h1, o, ho, h2⟩ := mem_ready.1 hi
  have h3 : ∃ e, e ∈ o.after ∧ Region.binds md' e = true ∧ listed.getD e.on false ≠ true := by
    refine Classical.byContradiction fun h4 => hn (mem_ready.2 ⟨h1, o, ho, fun e he hb => Classical.byContradiction fun h5 => h4 ⟨e, he, hb, h5⟩⟩)
  obtain ⟨e, he, hb, hu⟩ := h3
  rcases (late_edge h ho he).2 hb with h4 | ⟨h4, o2, ho2, _, h5⟩
  · exact absurd (h2 e he h4) hu
  · refine ⟨e.on, h4, mem_ready.2 ⟨?_, o2, ho2, fun f hf hbf => ?_⟩⟩
    · have hlt : e.on < listed.size := by rw [hs]; exact (Array.getElem?_eq_some_iff.1 ho2).1
      simp [hlt] at hu ⊢
      exact hu
    · obtain ⟨e', he', hb', heq⟩ := h5 f hf hbf
      rw [← heq]
      exact h2 e' he' hb'

theorem wpAny_late {late : List Nat} (h : lateOK md md' ops late = true) (hsel : Region.noSelect ops = true) (hQ : ∀ c a (d : Option Tmp) v w, Q (.panic c) (a.put d v) w → Q (.panic c) a w) :
    ∀ (fuel : Nat) (listed : Array Bool) (a : Act) (w : World), listed.size = ops.size → wpAny P md' ops Q fuel listed a w → wpAny P md ops Q fuel listed a w := by
  intro fuel
  induction fuel with
  | zero =>
    intro listed a w hs ⟨h1, h2⟩
    refine ⟨?_, h2⟩
    refine List.eq_nil_iff_forall_not_mem.2 fun i hi => ?_
    obtain ⟨t, _, ht⟩ := ready_late h hs hi (by rw [h1]; simp)
    rw [h1] at ht
    cases ht
  | succ fuel ih =>
    intro listed a w hs ⟨h1, h2⟩
    by_cases hl : ∃ t ∈ late, t ∈ Region.ready md' ops listed
    · obtain ⟨t, ht, htr⟩ := hl
      obtain ⟨⟨o, ho, hh⟩, hf⟩ := late_free h ht hs (ready_sub h htr)
      have h3 := h2 t htr
      unfold wpOp at h3
      simp only [ho] at h3
      have hg : o.guard = none := by
        unfold hands at hh
        simp only [Bool.and_eq_true, Option.isNone_iff_eq_none] at hh
        exact hh.1
      have hw : Region.wanted o (yielded ops a.tmps) = true := by simp [Region.wanted, hg]
      rw [if_pos hw] at h3
      obtain ⟨v, hy, hk⟩ := hands_yields hh h3
      exact wpAny_take ho hsel hf (by simpa using ready_sub h htr) (fun c a w hq => hQ c a _ v w hq) hy (ih _ _ _ (by simpa using hs) hk)
    · refine ⟨fun h3 => h1 (List.eq_nil_iff_forall_not_mem.2 fun i hi => by have := ready_sub h hi; rw [h3] at this; cases this), fun i hi => ?_⟩
      have hi' : i ∈ Region.ready md' ops listed := Classical.byContradiction fun hn => hl (ready_late h hs hi hn)
      exact wpOp_mono (fun a' w' hk => ih _ _ _ (by simpa using hs) hk) (h2 i hi')
end

section
variable {P : Program} {C : World → Prop} {G : World → World → Prop}
/-- one walk in the order of the text serves every order, though a store may come ahead of what only hands values on -/
theorem wp_region_late {id : Nat} {Q : Exit → Act → World → Prop} {a : Act} {w : World} {l : List Oper} (late : List Nat) (evs : List (Nat × Spec)) (n B : Nat) (w0 : World) (hw : Below B w0 w) (hB0 : B ≤ w0.heap.size) (hm : P.follows .mixedOrders = true) (hL : lateOK .any .text l.toArray late = true) (hB : Region.lexTailB .text l.toArray n = true)
    (hQ : ∀ c a (d : Option Tmp) v w, Q (.panic c) (a.put d v) w → Q (.panic c) a w)
    (h : wpFree P l.toArray (fun w' => ∃ m : After B w0, w' = m.w) Gr (wtR .text l.toArray) (evOf evs) (fun past a' => ∀ w', Bd (fun w' => ∃ m : After B w0, w' = m.w) Gr past w' → Lin Gr past → wpList P l.toArray Q (l.drop n) a' w') (l.take n) 0 (fun _ => False) a) : (Code.region id l.toArray true).wp P Q a w := by
  have gr := grow_below (w0 := w0) (B := B) hB0
  have hwt : WtOK .text l.toArray (wtR .text l.toArray) := wtR_ok
  have hC : (fun w' => ∃ m : After B w0, w' = m.w) { w with drawn := w.drawn + 1 } := class_drew hw
  simp only [Region.lexTailB, Bool.and_eq_true, decide_eq_true_eq] at hB
  obtain ⟨⟨⟨⟨hsel, hn⟩, hs⟩, hc⟩, hlex⟩ := hB
  have htl : (l.take n).length = n := by simp at hn ⊢; omega
  have inv0 : HeadInv .text l.toArray n (Array.replicate l.toArray.size false) :=
    ⟨by simp, fun j oj _ hl => (by rw [getD_replicate_false] at hl; cases hl), fun t _ ht => getD_in (by simpa using ht) (getD_replicate_false _ _)⟩
  have hb : Bd (fun w' => ∃ m : After B w0, w' = m.w) Gr (fun _ => False) { w with drawn := w.drawn + 1 } := ⟨hC, fun _ h => h.elim⟩
  have H := headF_lex (md := .text) (g := l.toArray.size - n) gr hwt hsel hs hc hn (l.take n) 0 _ _ a _ (fun j hj => by rw [htl] at hj; simp [hj]) (by simpa using htl) inv0 (by rw [htl]; exact hlex) hb h
  rw [htl] at H
  refine wp_region_any hm ?_
  have h2 := headF_wp (R := Q) (g := l.toArray.size - n) gr (fun listed past a' w' hb' hl' hL => by
    have h3 := wpAny_of_seq (md := .text) (Q' := Q) (l.drop n) n listed a' w' (fun j => by simp [List.getElem?_drop]) (by simpa using hL.1) (hL.2 w' hb' hl')
    simpa using h3) n _ _ a _ (fun _ h => h.elim) (by simp) hb (fun _ _ h => h.elim) H
  rw [show n + (l.toArray.size - n) = l.toArray.size by omega] at h2
  exact wpAny_late hL hsel hQ _ _ _ _ (by simp) h2
end
end Fr
end Go.Proofs.YtbadplbdgpbdaaaDoor
