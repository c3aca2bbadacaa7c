/- (*code.coder).expr, walked: the code of an expression. -/
import Derived.Test.YtbadplbdgpbdaaaDoorEmt
import Derived.Test.YtbadplbdgpbdaaaDoorCmp
import Derived.Test.YtbadplbdgpbdaaaDoorShp
namespace Go.Proofs.YtbadplbdgpbdaaaDoor
open Go.RowKit Go.Maps Go.ChangeShapes
namespace Ru
open Msk Vm
open Sl (strV Reads)

theorem ops_made (w : World) : ∃ w1 w2 w3 : World, (Instr.mapUpdate 102 (.map (some w.heap.size)) (.int .i64 6) (.int .i64 2)).run Tryd.prog (w.alloc (.map #[] 0)) = .ok () w1 ∧
    (Instr.mapUpdate 102 (.map (some w.heap.size)) (.int .i64 7) (.int .i64 3)).run Tryd.prog w1 = .ok () w2 ∧
    (Instr.mapUpdate 102 (.map (some w.heap.size)) (.int .i64 8) (.int .i64 4)).run Tryd.prog w2 = .ok () w3 ∧
    Below w.heap.size w w3 ∧ ∀ k : Int, k = 6 ∨ k = 7 ∨ k = 8 → (Instr.lookup 102 (.map (some w.heap.size)) (.int .i64 k) false).run Tryd.prog w3 = .ok (.int .i64 (k - 4)) w3 := by
  have e0 : (fun _ => none : Lit → Option Value) = litF (fun _ => none) := by funext x; unfold litF; split <;> rfl
  have I0 := Mp.Is.made w Tryd.prog 3
  rw [e0] at I0
  have B0 : Below w.heap.size w (w.alloc (.map #[] 0)) := (Below.refl w.heap.size w).alloc (Nat.le_refl _) (.map #[] 0)
  have z0 : w.heap.size < (w.alloc (.map #[] 0)).heap.size := by simp
  obtain ⟨w1, r1, I1, g1⟩ := store_int (i := 6) (h := 2) I0 (by omega) (by omega) (by omega)
  have B1 := below_row B0 g1 (Nat.le_refl _) (by omega)
  have z1 : w.heap.size < w1.heap.size := by have := g1.size; omega
  obtain ⟨w2, r2, I2, g2⟩ := store_int (i := 7) (h := 3) I1 (by omega) (by omega) (by omega)
  have B2 := below_row B1 g2 (Nat.le_refl _) (by omega)
  have z2 : w.heap.size < w2.heap.size := by have := g2.size; omega
  obtain ⟨w3, r3, I3, g3⟩ := store_int (i := 8) (h := 4) I2 (by omega) (by omega) (by omega)
  have B3 := below_row B2 g3 (Nat.le_refl _) (by omega)
  refine ⟨w1, w2, w3, r1, r2, r3, B3, fun k hk => ?_⟩
  rw [look_int0 I3 (by omega) (by omega)]
  rcases hk with rfl | rfl | rfl <;> rfl

/-- what the coder reads of rules that are done -/
def DoneV (w : World) (B : Nat) (v : Value) (cs : List Vm.Code) : Prop := Reads B v cs fun b o i c => w.cell? ⟨b, o + i * 3 + 1, none⟩ = some (.int .i64 c.high) ∧ w.cell? ⟨b, o + i * 3 + 2, none⟩ = some (.int .i64 c.steps)
theorem DoneV.below {w w' : World} {B B' : Nat} {v : Value} {cs : List Vm.Code} (h : DoneV w B v cs) (hb : Below B' w w') (hB : B ≤ B') : DoneV w' B v cs :=
  Reads.mono h (Nat.le_refl _) fun b o i c hlt _ h1 => ⟨(hb.cell (p := ⟨b, _, none⟩) (by show b < B'; omega)).trans h1.1, (hb.cell (p := ⟨b, _, none⟩) (by show b < B'; omega)).trans h1.2⟩

theorem okL_at {nm0 : List UInt8 → Bool} {e1 : Expr} : ∀ {l : List Expr} {i : Nat}, okL nm0 l → l[i]? = some e1 → okE nm0 e1
  | [], i, _, h => by simp at h
  | z :: l, i, ho, h => by
    rw [okL] at ho
    cases i with
    | zero => simp at h; subst h; exact ho.1
    | succ i => exact okL_at ho.2 (by simpa using h)
theorem namesL_at {e1 : Expr} {nm : List UInt8} : ∀ {l : List Expr} {i : Nat}, l[i]? = some e1 → nm ∈ namesE e1 → nm ∈ namesL l
  | [], i, h, _ => by simp at h
  | z :: l, i, h, hn => by
    rw [namesL]
    cases i with
    | zero => simp at h; subst h; exact List.mem_append_left _ hn
    | succ i => exact List.mem_append_right _ (namesL_at (l := l) (i := i) (by simpa using h) hn)

/-- all that code's making wants to know of the rules -/
structure Want (spf : (Nat → Bool) → List (Int × Int)) (rs : List Rule) (C : Nat → Vm.Code) : Prop where
  sp : ∀ p, IsSpans (has (setW p)) (spf p)
  len : rs.length ≤ 40
  ok : ∀ i, i < rs.length → 0 ≤ (C i).high ∧ (C i).high ≤ 100000 ∧ 0 ≤ (C i).steps ∧ (C i).steps ≤ 20001
theorem Want.D {spf : (Nat → Bool) → List (Int × Int)} {rs : List Rule} {C : Nat → Vm.Code} (h : Want spf rs C) : ∀ nm, (codeD rs C nm).1 ≤ 100000 ∧ 0 ≤ (codeD rs C nm).2 ∧ (codeD rs C nm).2 ≤ 20001 := fun nm => by
  unfold codeD
  split
  · rename_i hp
    have := h.ok _ hp
    exact ⟨this.2.1, this.2.2⟩
  · exact ⟨by show (0 : Int) ≤ 100000; omega, Int.le_refl 0, by show (0 : Int) ≤ 20001; omega⟩

/-- what holds while a rule's code is made -/
structure CoI (w : World) (cb gs : Nat) (rv dv : Value) (rs : List Rule) (C : Nat → Vm.Code) (c : Vm.Code) : Prop where
  at' : CoderAt w cb rv dv c
  lo : gs ≤ cb
  rules : RulesV w gs rv rs
  done : DoneV w cb dv (codesL rs C)
  tab : Tab w
  tabLo : 0 < cb
theorem CoI.lt {w : World} {cb gs : Nat} {rv dv : Value} {rs : List Rule} {C : Nat → Vm.Code} {c : Vm.Code} (h : CoI w cb gs rv dv rs C c) : cb < w.heap.size := h.at'.lt
theorem CoI.next {w w' : World} {cb gs : Nat} {rv dv : Value} {rs : List Rule} {C : Nat → Vm.Code} {c c' : Vm.Code} (h : CoI w cb gs rv dv rs C c) (hb : Below cb w w') (hc : CoderAt w' cb rv dv c') : CoI w' cb gs rv dv rs C c' :=
  ⟨hc, h.lo, h.rules.below hb h.lo (Nat.le_refl _), h.done.below hb (Nat.le_refl _), h.tab.below hb h.tabLo, h.tabLo⟩
theorem CoI.below {w w' : World} {cb gs : Nat} {rv dv : Value} {rs : List Rule} {C : Nat → Vm.Code} {c : Vm.Code} (h : CoI w cb gs rv dv rs C c) (hb : Below w.heap.size w w') : CoI w' cb gs rv dv rs C c :=
  h.next (hb.mono (Nat.le_of_lt h.lt)) (h.at'.below hb)
/-- room for so many nodes -/
def RoomFor (high : Int) (c : Vm.Code) (n : Nat) : Prop := 0 ≤ high ∧ high + n ≤ 1000000 ∧ c.ins.length + n ≤ 100000 ∧ 0 ≤ c.steps ∧ c.steps + n * 20002 ≤ 8000000000
def ExprPost (w : World) (cb gs : Nat) (rv dv : Value) (rs : List Rule) (C : Nat → Vm.Code) (c' : Vm.Code) (r : Ending) (w' : World) : Prop := r = .returned (.tuple #[]) ∧ CoI w' cb gs rv dv rs C c' ∧ Below cb w w'
theorem RoomFor.emit {high : Int} {c : Vm.Code} {n : Nat} (h : RoomFor high c n) {M h' : Int} {m : Nat} {c' : Vm.Code} (hr : RoomC M h' m c c') (hm : m ≤ n) : RoomFor high c' (n - m) := by
  obtain ⟨a1, a2, a3, a4, a5⟩ := h
  obtain ⟨b1, b2, b3, b4, b5⟩ := hr
  refine ⟨a1, by omega, by omega, by omega, ?_⟩
  have e : ((n - m : Nat) : Int) = (n : Int) - m := by omega
  rw [e]
  omega

set_option maxRecDepth 100000 in
set_option maxHeartbeats 16000000 in
theorem cexpr_any {spf : (Nat → Bool) → List (Int × Int)} {rs : List Rule} {C : Nat → Vm.Code} (hW : Want spf rs C) {nm0 : List UInt8 → Bool} : ∀ (N : Nat) (e : Expr) (w : World) (gs b o cb : Nat) (rv dv : Value) (high : Int) (c : Vm.Code), nodesE e ≤ N → okE nm0 e → ExprAt w gs b o e → b < gs → CoI w cb gs rv dv rs C c → (∀ nm ∈ namesE e, placeR rs nm < rs.length) → RoomFor high c (nodesE e) →
    Calls Tryd.prog 19 #[.pointer (some ⟨cb, 0, none⟩), .pointer (some ⟨b, o, none⟩), .int .i64 high] w (ExprPost w cb gs rv dv rs C (codeE spf (findI rs) (codeD rs C) e high c)) := by
  intro N
  induction N with
  | zero => intro e w gs b o cb rv dv high c hN; have := nodesE_pos e; omega
  | succ N ih =>
    intro e w gs b o cb rv dv high c hN hok he hb hC hnm hrm
    have hlo := hC.lo
    have hlt := hC.lt
    have hK := Lib.hid (constant_any (nodesE e) e w gs b o (Nat.le_refl _) hok he hb (by omega))
    unfold ConstPost at hK
    obtain ⟨k0, k1, k2, k3, hnl, A, cap, k4, hkl, hkv⟩ := he.out
    have hnod : nodesL e.kids ≤ N := by cases e; rw [nodesE] at hN; simp only [Expr.kids]; omega
    obtain ⟨k, x, y, nm, kids⟩ := e
    simp only [Expr.kind, Expr.a, Expr.b, Expr.name, Expr.kids] at k0 k1 k2 k3 k4 hnl hkl hkv hnod
    have hok' := Lib.hid hok
    rw [okE] at hok
    obtain ⟨h1, h2, h3⟩ := own_kind hok.1
    replace h3 := Lib.hid h3
    have hok2 := Lib.hid hok.2
    replace ih := Lib.hid ih
    replace hkv := Lib.hid hkv
    replace hnm := Lib.hid hnm
    have cells : ∀ wr, Below cb w wr → wr.cell? ⟨b, o, none⟩ = some (.int .i64 k) ∧ wr.cell? ⟨b, o + 1, none⟩ = some (.int .i64 x) ∧ wr.cell? ⟨b, o + 2, none⟩ = some (.int .i64 y) ∧ wr.cell? ⟨b, o + 3, none⟩ = some (strV nm) ∧ wr.cell? ⟨b, o + 4, none⟩ = some (.slice A kids.length cap) := fun wr h => ⟨(h.cell (p := ⟨b, _, none⟩) (by show b < cb; omega)).trans k0, (h.cell (p := ⟨b, _, none⟩) (by show b < cb; omega)).trans k1, (h.cell (p := ⟨b, _, none⟩) (by show b < cb; omega)).trans k2, (h.cell (p := ⟨b, _, none⟩) (by show b < cb; omega)).trans k3, (h.cell (p := ⟨b, _, none⟩) (by show b < cb; omega)).trans k4⟩
    replace cells := Lib.hid cells
    have hEA := Lib.hid he
    clear hok he k0 k1 k2 k3 k4
    obtain ⟨c', hc'⟩ : ∃ c', c' = codeE spf (findI rs) (codeD rs C) (.mk k x y nm kids) high c := ⟨_, rfl⟩
    rw [← hc']
    rw [codeE] at hc'
    unfold ExprPost
    replace hC := Lib.hid hC
    replace hW := Lib.hid hW
    replace hrm := Lib.hid hrm
    go_enter Tryd.func19, Tryd.ntmps19
    go_wp2_with fail
    refine hK.out.mono ?_
    rintro e1 w1 ⟨rfl, hb1⟩
    have z1 := hb1.size
    have hbm := Below.setRow ((Below.refl w1.heap.size w1).alloc (Nat.le_refl _) (.cells (maskA fun _ => 0) 38)) (Nat.le_refl _) (maskA (setW (constV (.mk k x y nm kids))))
    have Tm := (Blk.new w1 38 (maskA fun _ => 0)).setRow (maskA (setW (constV (.mk k x y nm kids))))
    have hb2 := hb1.trans (hbm.mono z1)
    obtain ⟨w2, hw2⟩ : ∃ W, W = (w1.alloc (.cells (maskA fun _ => 0) 38)).setRow w1.heap.size (maskA (setW (constV (.mk k x y nm kids)))) := ⟨_, rfl⟩
    cases hc1 : constE (.mk k x y nm kids) with
    | some p =>
      rw [hc1] at hc'
      simp only at hc'
      have hv : constV (.mk k x y nm kids) = p := by unfold constV; rw [hc1]; rfl
      rw [hv] at Tm hb2 hw2 hbm
      replace hc' := Lib.hid hc'
      replace hv := Lib.hid hv
      go_upto_region 2 with fail
      rw [hv.out]
      rw [← hw2] at Tm hb2 hbm ⊢
      clear hw2
      have z2 := hb2.size
      have k5 := blk_cells Tm
      have hC2 := hC.out.below hb2
      have hSp := Lib.hid (Spans_any (setW p) w2 (fun k _ => setW_lt p k) hC2.tab)
      replace hC2 := Lib.hid hC2
      obtain ⟨r1, r2, r3, r4, r5⟩ := hrm.out
      have hpos := nodesE_pos (.mk k x y nm kids)
      have q1 : IntKind.i64.wrap (high + 1) = high + 1 := IntWalk.i64_in _ ⟨by omega, by omega⟩
      go_wp2_with fail
      refine hSp.out.mono ?_
      rintro e3 w3 ⟨v3, l3, rfl, hb3, hl3, ho3⟩
      obtain rfl := spans_uni hl3 (hW.out.sp p)
      obtain ⟨A3, cap3, rfl⟩ := own_slice ho3
      have hC3 := hC2.out.below hb3
      have hE := Lib.hid (emit_any ⟨1, 0, 0, 0, spf p⟩ _ (high + 1) 1 w3 cb rv dv c hC3.at' (own_mono ho3 (by have := hb2.size; omega)) (by omega) (by omega) (by omega))
      have hb4 := (hb2.trans (hb3.mono z2)).mono (Nat.le_of_lt hlt)
      replace ho3 := trivial
      replace hC3 := Lib.hid hC3
      go_wp2_with fail
      refine hE.out.mono ?_
      rintro e5 w5 ⟨rfl, hC5, hb5⟩
      go_wp2
      refine bodyPost_ret (results_none rfl _ _ _) rfl ?_
      rw [hc'.out]
      exact ⟨rfl, hC3.out.next hb5 hC5, hb4.trans hb5⟩
    | none =>
      rw [hc1] at hc'
      simp only at hc'
      have hkk : k = 4 ∨ k = 5 ∨ k = 6 ∨ k = 7 ∨ k = 8 ∨ k = 9 ∨ k = 10 := by
        have hz : ∀ z, k = z → kidsOf z = 0 → ¬ (z = 4 ∨ z = 5 ∨ z = 10) → False := fun z hz h0' hz2 => by
          have : kids = [] := List.length_eq_zero_iff.1 (by rw [h3.out, hz, h0'])
          subst this
          subst hz
          exact const_leaf hz2 hc1
        have n1 : ¬ k = 1 := fun e => hz 1 e rfl (by decide)
        have n2 : ¬ k = 2 := fun e => hz 2 e rfl (by decide)
        have n3 : ¬ k = 3 := fun e => hz 3 e rfl (by decide)
        omega
      go_upto_region 3 with fail
      rw [← hw2] at Tm hb2 hbm ⊢
      clear hw2 Tm hbm hK
      have z2 := hb2.size
      have hC2 := hC.out.below hb2
      have hbc := hb2.mono (Nat.le_of_lt hlt)
      replace hC2 := Lib.hid hC2
      obtain ⟨r1, r2, r3, r4, r5⟩ := hrm.out
      have hnn : nodesE (.mk k x y nm kids) = 1 + nodesL kids := by rw [nodesE]
      rw [hnn] at r2 r3 r5
      obtain ⟨k0, k1, k2, k3, k4⟩ := cells.out _ hbc
      have q1 : IntKind.i64.wrap (high + 1) = high + 1 := IntWalk.i64_in _ ⟨by omega, by omega⟩
      have q2 : IntKind.i64.wrap (high + 2) = high + 2 := IntWalk.i64_in _ ⟨by omega, by omega⟩
      rcases hkk with h | h | h | h | h | h | h
      · subst h
        have hlen : kids.length = 1 := by rw [h3.out]; rfl
        obtain ⟨e1, hx⟩ : ∃ d, kids[0]? = some d := ⟨_, List.getElem?_eq_getElem (by omega)⟩
        have hkids : kids = [e1] := by
          match kids, hlen, hx with
          | [d], _, hx => simp at hx; rw [hx]
        obtain ⟨kb, ko, rfl, hkb, hke⟩ := hkv.out.at' hx
        have hn1 : nodesL kids = nodesE e1 := by rw [hkids, nodesL, nodesL]; rfl
        have hcl : ∀ c0, codeL spf (findI rs) (codeD rs C) kids high c0 = codeE spf (findI rs) (codeD rs C) e1 high c0 := fun c0 => by rw [hkids, codeL, codeL]
        rw [if_pos (by decide), hcl] at hc'
        simp only [if_true] at hc'
        have hroom := code_room (spf := spf) (fi := findI rs) (D := codeD rs C) (M := 100000) (by omega) hW.out.D e1 high (emitC c ⟨6, x, 0, 0, []⟩ (high + 1) 1)
        have hroom0 := (RoomC.refl 100000 high c).emit (x := ⟨6, x, 0, 0, []⟩) (h := high + 1) (s := 1) (by omega) (by omega) (by omega)
        obtain ⟨u1, u2, u3, u4, u5⟩ := hroom0
        have hl0 : (emitC c ⟨6, x, 0, 0, []⟩ (high + 1) 1).ins.length = c.ins.length + 1 := by unfold emitC; simp
        obtain ⟨c0, hc0⟩ : ∃ c0, c0 = emitC c ⟨6, x, 0, 0, []⟩ (high + 1) 1 := ⟨_, rfl⟩
        rw [← hc0] at hc' hroom u1 u2 u3 u4 u5 hl0
        obtain ⟨c1, hc1e⟩ : ∃ c1, c1 = codeE spf (findI rs) (codeD rs C) e1 high c0 := ⟨_, rfl⟩
        rw [← hc1e] at hc' hroom
        obtain ⟨y1, y2, y3, y4, y5⟩ := hroom
        replace hkids := trivial
        replace hcl := trivial
        replace hc1e := Lib.hid hc1e
        replace hc0 := Lib.hid hc0
        have w2c := hC2.out.at'
        go_upto_region 12 with fail
        have hb3 := hbc.trans (((Below.refl w2.heap.size w2).alloc (Nat.le_refl _) (.cells #[.int .i64 6, .int .i64 x, .int .i64 0, .int .i64 0, .slice none 0 0] 55)).mono (by omega))
        have B3 := Blk.new w2 55 #[.int .i64 6, .int .i64 x, .int .i64 0, .int .i64 0, .slice none 0 0]
        have hbA := (Below.refl w2.heap.size w2).alloc (Nat.le_refl _) (.cells #[.int .i64 6, .int .i64 x, .int .i64 0, .int .i64 0, .slice none 0 0] 55)
        obtain ⟨w3, hw3⟩ : ∃ W, W = w2.alloc (.cells #[.int .i64 6, .int .i64 x, .int .i64 0, .int .i64 0, .slice none 0 0] 55) := ⟨_, rfl⟩
        rw [← hw3] at hb3 B3 hbA ⊢
        clear hw3
        have hC3 := hC2.out.below hbA
        have t0 : w3.cell? ⟨w2.heap.size, 0, none⟩ = some (.int .i64 6) := B3.cell 0
        have t1 : w3.cell? ⟨w2.heap.size, 1, none⟩ = some (.int .i64 x) := B3.cell 1
        have t2 : w3.cell? ⟨w2.heap.size, 2, none⟩ = some (.int .i64 0) := B3.cell 2
        have t3 : w3.cell? ⟨w2.heap.size, 3, none⟩ = some (.int .i64 0) := B3.cell 3
        have t4 : w3.cell? ⟨w2.heap.size, 4, none⟩ = some (.slice none 0 0) := B3.cell 4
        have hE := Lib.hid (emit_any ⟨6, x, 0, 0, []⟩ (.slice none 0 0) (high + 1) 1 w3 cb rv dv c hC3.at' (World.ownsRow_nil _ _ _ _) (by omega) (by omega) (by omega))
        replace hC3 := Lib.hid hC3
        have z3 := hb3.size
        clear k0 k1 k2 k3 k4 w2c
        go_wp2_with fail
        refine hE.out.mono ?_
        rintro e4 w4 ⟨rfl, hC4, hb4⟩
        rw [← hc0.out] at hC4
        have hC4' := hC3.out.next hb4 hC4
        have hb5 := hb3.trans hb4
        have z4 := hb5.size
        obtain ⟨m0, m1, m2, m3, m4⟩ := cells.out _ hb5
        have hI := Lib.hid (ih.out e1 w4 gs kb (ko + 0 * 5) cb rv dv high c0 (by omega) (okL_at hok2.out hx) (hke.below hb5 hlo (Nat.le_refl _) (by omega)) hkb hC4' (fun n hn => hnm.out n (by rw [namesE, if_neg (by decide)]; exact namesL_at hx hn)) ⟨r1, by omega, by omega, by omega, by omega⟩)
        unfold ExprPost at hI
        rw [← hc1e.out] at hI
        clear hC4
        replace hC4' := Lib.hid hC4'
        clear hE
        go_wp2_with fail
        refine hI.out.mono ?_
        rintro e6 w6 ⟨rfl, hC6, hb6⟩
        have hb7 := hb5.trans hb6
        obtain ⟨cv, cxs, hcB, hcR⟩ := hC6.at'
        obtain ⟨A6, cap6, rfl⟩ := hcR.val
        obtain ⟨g6, rfl, hg6⟩ : ∃ g, A6 = some ⟨g, 0, none⟩ ∧ ∀ j, w6.frozen? ⟨g, j, none⟩ = false := by
          rcases hcR.own.2 with ⟨h0, h1⟩ | ⟨g, cp, cur, h1, _⟩
          · have := hcR.len; omega
          · have hA : A6 = some ⟨g, 0, none⟩ := by injection h1
            subst hA
            have hln := hcR.len
            refine ⟨g, rfl, fun j => ?_⟩
            have ho := hcR.own
            rw [← hln] at ho
            exact ho.frozenAt j
        obtain ⟨ys, hcR2, hgl⟩ := hcR.setTo c.ins.length (c1.ins.length : Nat)
        have q5 := hcB.cell 2
        simp at q5
        have q6 := hg6 (c.ins.length * 5 + 3)
        have f1 : decide ((c.ins.length : Int) < (c1.ins.length : Int)) = true := by simp; omega
        have f2 : decide ((c.ins.length : Int) < 0) = false := by simp
        have f3 : decide (c.ins.length < c1.ins.length) = true := by simp; omega
        have hln := hcR.len
        obtain ⟨xk, hxk⟩ : ∃ d, cxs[c.ins.length]? = some d := ⟨_, List.getElem?_eq_getElem (by omega)⟩
        obtain ⟨g', cp', hge, _, zg6, hcc⟩ := own_at (F := insC) hcR.own (fun _ => rfl) hxk
        have hgg : g6 = g' := by injection hge with hge; injection hge with hge; injection hge
        subst hgg
        have q7 : w6.cell? ⟨g6, c.ins.length * 5 + 3, none⟩ = some (.int .i64 xk.1.to) := hcc 3 _ rfl
        clear hI q1 q2 r1 r2 r3 r4 r5 m0 m1 m2 m3 m4 hge hcc
        replace hcR := trivial
        replace hcR2 := Lib.hid hcR2
        replace hc0 := trivial
        replace hc1e := trivial
        replace hg6 := trivial
        have hC6l := hC6.lt
        replace hC6 := Lib.hid hC6
        go_wp2_with fail
        go_region
        simp only [Exit.inBlock]
        go_end0
        rw [hc']
        have hb9 := (hb7.setCell (p := ⟨g6, c.ins.length * 5 + 3, none⟩) (by show cb ≤ g6; omega) (.int .i64 (c1.ins.length : Nat))).drew
        have hb10 := (hb6.setCell (p := ⟨g6, c.ins.length * 5 + 3, none⟩) (by show cb ≤ g6; omega) (.int .i64 (c1.ins.length : Nat))).drew
        have hC9 := hC6.out
        refine ⟨rfl, ⟨⟨_, ys, hcB.far (p := ⟨g6, c.ins.length * 5 + 3, none⟩) (by show cb ≠ g6; omega) _, hcR2.out.keep (fun _ _ _ => rfl)⟩, hC9.lo, ?_, ?_, ?_, hC9.tabLo⟩, hb9⟩
        · exact hC4'.out.rules.below hb10 hlo (Nat.le_refl _)
        · exact hC4'.out.done.below hb10 (Nat.le_refl _)
        · exact hC4'.out.tab.below hb10 hC9.tabLo
      · subst h
        have hlen : kids.length = 1 := by rw [h3.out]; rfl
        obtain ⟨e1, hx⟩ : ∃ d, kids[0]? = some d := ⟨_, List.getElem?_eq_getElem (by omega)⟩
        have hkids : kids = [e1] := by
          match kids, hlen, hx with
          | [d], _, hx => simp at hx; rw [hx]
        obtain ⟨kb, ko, rfl, hkb, hke⟩ := hkv.out.at' hx
        have hn1 : nodesL kids = nodesE e1 := by rw [hkids, nodesL, nodesL]; rfl
        have hcl : ∀ c0, codeL spf (findI rs) (codeD rs C) kids high c0 = codeE spf (findI rs) (codeD rs C) e1 high c0 := fun c0 => by rw [hkids, codeL, codeL]
        rw [if_pos (by decide), hcl] at hc'
        rw [if_neg (show ¬ (5 : Int) = 4 by decide), if_neg (show ¬ (5 : Int) = 4 by decide)] at hc'
        have hroom := code_room (spf := spf) (fi := findI rs) (D := codeD rs C) (M := 100000) (by omega) hW.out.D e1 high (emitC c ⟨7, x, y, 0, []⟩ (high + 1) 1)
        have hroom0 := (RoomC.refl 100000 high c).emit (x := ⟨7, x, y, 0, []⟩) (h := high + 1) (s := 1) (by omega) (by omega) (by omega)
        obtain ⟨u1, u2, u3, u4, u5⟩ := hroom0
        have hl0 : (emitC c ⟨7, x, y, 0, []⟩ (high + 1) 1).ins.length = c.ins.length + 1 := by unfold emitC; simp
        obtain ⟨c0, hc0⟩ : ∃ c0, c0 = emitC c ⟨7, x, y, 0, []⟩ (high + 1) 1 := ⟨_, rfl⟩
        rw [← hc0] at hc' hroom u1 u2 u3 u4 u5 hl0
        obtain ⟨c1, hc1e⟩ : ∃ c1, c1 = codeE spf (findI rs) (codeD rs C) e1 high c0 := ⟨_, rfl⟩
        rw [← hc1e] at hc' hroom
        obtain ⟨y1, y2, y3, y4, y5⟩ := hroom
        replace hkids := trivial
        replace hcl := trivial
        replace hc1e := Lib.hid hc1e
        replace hc0 := Lib.hid hc0
        have w2c := hC2.out.at'
        go_upto_region 11 with fail
        have hb3 := hbc.trans (((Below.refl w2.heap.size w2).alloc (Nat.le_refl _) (.cells #[.int .i64 6, .int .i64 x, .int .i64 0, .int .i64 0, .slice none 0 0] 55)).mono (by omega))
        have B3 := Blk.new w2 55 #[.int .i64 6, .int .i64 x, .int .i64 0, .int .i64 0, .slice none 0 0]
        have hbA := (Below.refl w2.heap.size w2).alloc (Nat.le_refl _) (.cells #[.int .i64 6, .int .i64 x, .int .i64 0, .int .i64 0, .slice none 0 0] 55)
        obtain ⟨wA, hw3⟩ : ∃ W, W = w2.alloc (.cells #[.int .i64 6, .int .i64 x, .int .i64 0, .int .i64 0, .slice none 0 0] 55) := ⟨_, rfl⟩
        rw [← hw3] at hb3 B3 hbA ⊢
        clear hw3
        have z3 := hb3.size
        have zb : b < wA.heap.size := by omega
        clear k0 k1 k2 k3 k4 w2c
        obtain ⟨k0, k1, k2, k3, k4⟩ := cells.out _ hb3
        refine wp_region_below_tail 9 (wA.heap.size) _ (Below.refl _ _) (by kernel_rfl) (by kernel_rfl) ?_
        simp only [List.take_succ_cons, List.take_zero, List.drop_succ_cons, List.drop_zero]
        iterate 9 (go_big_quiet_step ((fail)))
        refine wpQuiet_nil ?_
        rintro _ ⟨n1, rfl⟩
        change wpList _ _ _ _ _ _
        have B4 := B3.after n1 B3.lt
        have hb4 := hbA.trans (n1.below.mono hbA.size)
        obtain ⟨wq, hwq⟩ : ∃ W, W = n1.w := ⟨_, rfl⟩
        rw [← hwq] at B4 hb4 ⊢
        clear hwq k0 k1 k2 k3 k4 hb3 B3
        have j0 : wq.cell? ⟨w2.heap.size, 0, none⟩ = some (.int .i64 6) := B4.cell 0
        have j1 : wq.cell? ⟨w2.heap.size, 1, none⟩ = some (.int .i64 x) := B4.cell 1
        have j2 : wq.cell? ⟨w2.heap.size, 2, none⟩ = some (.int .i64 0) := B4.cell 2
        have j3 : wq.cell? ⟨w2.heap.size, 3, none⟩ = some (.int .i64 0) := B4.cell 3
        have j4 : wq.cell? ⟨w2.heap.size, 4, none⟩ = some (.slice none 0 0) := B4.cell 4
        have i0 := B4.frozen 0
        have i1 := B4.frozen 1
        have i2 := B4.frozen 2
        have i3 := B4.frozen 3
        have i4 := B4.frozen 4
        have zq := B4.lt
        go_upto_region 12 with fail
        clear j0 j1 j2 j3 j4 i0 i1 i2 i3 i4
        replace hbA := trivial
        have hbA := ((((hb4.setCell (p := ⟨w2.heap.size, 0, none⟩) (Nat.le_refl _) (.int .i64 7)).setCell (p := ⟨w2.heap.size, 1, none⟩) (Nat.le_refl _) (.int .i64 x)).setCell (p := ⟨w2.heap.size, 2, none⟩) (Nat.le_refl _) (.int .i64 y)).setCell (p := ⟨w2.heap.size, 3, none⟩) (Nat.le_refl _) (.int .i64 0)).setCell (p := ⟨w2.heap.size, 4, none⟩) (Nat.le_refl _) (.slice none 0 0)
        have B3 := ((((B4.set 0 (.int .i64 7)).set 1 (.int .i64 x)).set 2 (.int .i64 y)).set 3 (.int .i64 0)).set 4 (.slice none 0 0)
        have hb3 := hbc.trans (hbA.mono (by omega))
        obtain ⟨w3, hwp⟩ : ∃ W, W = ((((wq.setCell ⟨w2.heap.size, 0, none⟩ (.int .i64 7)).setCell ⟨w2.heap.size, 1, none⟩ (.int .i64 x)).setCell ⟨w2.heap.size, 2, none⟩ (.int .i64 y)).setCell ⟨w2.heap.size, 3, none⟩ (.int .i64 0)).setCell ⟨w2.heap.size, 4, none⟩ (.slice none 0 0) := ⟨_, rfl⟩
        rw [← hwp] at hb3 B3 hbA ⊢
        clear hwp zb z3 hb4 B4 zq
        have hC3 := hC2.out.below hbA
        have t0 : w3.cell? ⟨w2.heap.size, 0, none⟩ = some (.int .i64 7) := B3.cell 0
        have t1 : w3.cell? ⟨w2.heap.size, 1, none⟩ = some (.int .i64 x) := B3.cell 1
        have t2 : w3.cell? ⟨w2.heap.size, 2, none⟩ = some (.int .i64 y) := B3.cell 2
        have t3 : w3.cell? ⟨w2.heap.size, 3, none⟩ = some (.int .i64 0) := B3.cell 3
        have t4 : w3.cell? ⟨w2.heap.size, 4, none⟩ = some (.slice none 0 0) := B3.cell 4
        have hE := Lib.hid (emit_any ⟨7, x, y, 0, []⟩ (.slice none 0 0) (high + 1) 1 w3 cb rv dv c hC3.at' (World.ownsRow_nil _ _ _ _) (by omega) (by omega) (by omega))
        replace hC3 := Lib.hid hC3
        have z3 := hb3.size
        go_wp2_with fail
        refine hE.out.mono ?_
        rintro e4 w4 ⟨rfl, hC4, hb4⟩
        rw [← hc0.out] at hC4
        have hC4' := hC3.out.next hb4 hC4
        have hb5 := hb3.trans hb4
        have z4 := hb5.size
        obtain ⟨m0, m1, m2, m3, m4⟩ := cells.out _ hb5
        have hI := Lib.hid (ih.out e1 w4 gs kb (ko + 0 * 5) cb rv dv high c0 (by omega) (okL_at hok2.out hx) (hke.below hb5 hlo (Nat.le_refl _) (by omega)) hkb hC4' (fun n hn => hnm.out n (by rw [namesE, if_neg (by decide)]; exact namesL_at hx hn)) ⟨r1, by omega, by omega, by omega, by omega⟩)
        unfold ExprPost at hI
        rw [← hc1e.out] at hI
        clear hC4
        replace hC4' := Lib.hid hC4'
        clear hE
        go_wp2_with fail
        refine hI.out.mono ?_
        rintro e6 w6 ⟨rfl, hC6, hb6⟩
        have hb7 := hb5.trans hb6
        obtain ⟨cv, cxs, hcB, hcR⟩ := hC6.at'
        obtain ⟨A6, cap6, rfl⟩ := hcR.val
        obtain ⟨g6, rfl, hg6⟩ : ∃ g, A6 = some ⟨g, 0, none⟩ ∧ ∀ j, w6.frozen? ⟨g, j, none⟩ = false := by
          rcases hcR.own.2 with ⟨h0, h1⟩ | ⟨g, cp, cur, h1, _⟩
          · have := hcR.len; omega
          · have hA : A6 = some ⟨g, 0, none⟩ := by injection h1
            subst hA
            have hln := hcR.len
            refine ⟨g, rfl, fun j => ?_⟩
            have ho := hcR.own
            rw [← hln] at ho
            exact ho.frozenAt j
        obtain ⟨ys, hcR2, hgl⟩ := hcR.setTo c.ins.length (c1.ins.length : Nat)
        have q5 := hcB.cell 2
        simp at q5
        have q6 := hg6 (c.ins.length * 5 + 3)
        have f1 : decide ((c.ins.length : Int) < (c1.ins.length : Int)) = true := by simp; omega
        have f2 : decide ((c.ins.length : Int) < 0) = false := by simp
        have f3 : decide (c.ins.length < c1.ins.length) = true := by simp; omega
        have hln := hcR.len
        obtain ⟨xk, hxk⟩ : ∃ d, cxs[c.ins.length]? = some d := ⟨_, List.getElem?_eq_getElem (by omega)⟩
        obtain ⟨g', cp', hge, _, zg6, hcc⟩ := own_at (F := insC) hcR.own (fun _ => rfl) hxk
        have hgg : g6 = g' := by injection hge with hge; injection hge with hge; injection hge
        subst hgg
        have q7 : w6.cell? ⟨g6, c.ins.length * 5 + 3, none⟩ = some (.int .i64 xk.1.to) := hcc 3 _ rfl
        clear hI q1 q2 r1 r2 r3 r4 r5 m0 m1 m2 m3 m4 hge hcc
        replace hcR := trivial
        replace hcR2 := Lib.hid hcR2
        replace hc0 := trivial
        replace hc1e := trivial
        replace hg6 := trivial
        have hC6l := hC6.lt
        replace hC6 := Lib.hid hC6
        go_wp2_with fail
        go_region
        simp only [Exit.inBlock]
        go_end0
        rw [hc']
        have hb9 := (hb7.setCell (p := ⟨g6, c.ins.length * 5 + 3, none⟩) (by show cb ≤ g6; omega) (.int .i64 (c1.ins.length : Nat))).drew
        have hb10 := (hb6.setCell (p := ⟨g6, c.ins.length * 5 + 3, none⟩) (by show cb ≤ g6; omega) (.int .i64 (c1.ins.length : Nat))).drew
        have hC9 := hC6.out
        refine ⟨rfl, ⟨⟨_, ys, hcB.far (p := ⟨g6, c.ins.length * 5 + 3, none⟩) (by show cb ≠ g6; omega) _, hcR2.out.keep (fun _ _ _ => rfl)⟩, hC9.lo, ?_, ?_, ?_, hC9.tabLo⟩, hb9⟩
        · exact hC4'.out.rules.below hb10 hlo (Nat.le_refl _)
        · exact hC4'.out.done.below hb10 (Nat.le_refl _)
        · exact hC4'.out.tab.below hb10 hC9.tabLo
      · subst h
        have hlen : kids.length = 2 := by rw [h3.out]; rfl
        obtain ⟨e1, e2, hkids⟩ := two_of hlen
        have hx1 : kids[0]? = some e1 := by rw [hkids]; rfl
        have hx2 : kids[1]? = some e2 := by rw [hkids]; rfl
        obtain ⟨kb, ko, rfl, hkb, hke⟩ := hkv.out.at' hx1
        obtain ⟨kb', ko', hkk', _, hke2⟩ := hkv.out.at' hx2
        cases hkk'
        have hn1 : nodesL kids = nodesE e1 + nodesE e2 := by rw [hkids, nodesL, nodesL, nodesL]; rfl
        have hp1 := nodesE_pos e1
        have hp2 := nodesE_pos e2
        have hI := Lib.hid (ih.out e1 w2 gs kb (ko + 0 * 5) cb rv dv high c (by omega) (okL_at hok2.out hx1) (hke.below hbc hlo (Nat.le_refl _) (by omega)) hkb hC2.out (fun n hn => hnm.out n (by rw [namesE, if_neg (by decide)]; exact namesL_at hx1 hn)) ⟨r1, by omega, by omega, r4, by omega⟩)
        unfold ExprPost at hI
        have hcl : codeL spf (findI rs) (codeD rs C) kids high c = codeE spf (findI rs) (codeD rs C) e2 (high + 1) (codeE spf (findI rs) (codeD rs C) e1 high c) := by rw [hkids, codeL, codeL, codeL]
        rw [hcl, if_neg (by decide), if_neg (by decide), if_neg (by decide)] at hc'
        have hroom := code_room (spf := spf) (fi := findI rs) (D := codeD rs C) (M := 100000) (by omega) hW.out.D e1 high c
        generalize codeE spf (findI rs) (codeD rs C) e1 high c = c1 at *
        obtain ⟨u1, u2, u3, u4, u5⟩ := hroom
        have hroom2 := code_room (spf := spf) (fi := findI rs) (D := codeD rs C) (M := 100000) (by omega) hW.out.D e2 (high + 1) c1
        obtain ⟨c2, hc2⟩ : ∃ c2, c2 = codeE spf (findI rs) (codeD rs C) e2 (high + 1) c1 := ⟨_, rfl⟩
        rw [← hc2] at hroom2 hc'
        obtain ⟨y1, y2, y3, y4, y5⟩ := hroom2
        replace hkids := trivial
        replace hc2 := Lib.hid hc2
        go_wp2_with fail
        refine hI.out.mono ?_
        rintro e3 w3 ⟨rfl, hC3, hb3⟩
        have hb4 := hbc.trans hb3
        obtain ⟨m0, m1, m2, m3, m4⟩ := cells.out _ hb4
        have z3 := hb4.size
        have hI2 := Lib.hid (ih.out e2 w3 gs kb (ko + 1 * 5) cb rv dv (high + 1) c1 (by omega) (okL_at hok2.out hx2) (hke2.below hb4 hlo (Nat.le_refl _) (by omega)) hkb hC3 (fun n hn => hnm.out n (by rw [namesE, if_neg (by decide)]; exact namesL_at hx2 hn)) ⟨by omega, by omega, by omega, by omega, by omega⟩)
        unfold ExprPost at hI2
        rw [← hc2.out] at hI2
        replace hC3 := Lib.hid hC3
        clear k0 k1 k2 k3 k4 hI
        go_wp2_with fail
        refine hI2.out.mono ?_
        rintro e5 w5 ⟨rfl, hC5, hb5⟩
        have hb6 := hb4.trans hb5
        obtain ⟨v0, v1, v2, v3, v4⟩ := cells.out _ hb6
        have z5 := hb6.size
        have hC5l := hC5.lt
        clear m0 m1 m2 m3 m4 hI2
        obtain ⟨x1, x2, W6, p1, p2, p3, hbw, hlook⟩ := ops_made w5
        have hlk := hlook 6 (by decide)
        clear hlook
        have hmm := @run_makeMap Tryd.prog
        have hC6 := hC5.below hbw
        have hb7 := hb6.trans (hbw.mono (Nat.le_of_lt hC5l))
        obtain ⟨v0, v1, v2, v3, v4⟩ := cells.out _ hb7
        have hE := Lib.hid (emit_any ⟨6 - 4, 0, 0, 0, []⟩ (.slice none 0 0) (high + 2) 1 W6 cb rv dv c2 hC6.at' (World.ownsRow_nil _ _ _ _) (by omega) (by omega) (by omega))
        replace hC5 := Lib.hid hC5
        replace hC6 := Lib.hid hC6
        replace hbw := Lib.hid hbw
        go_wp2_with fail
        refine hE.out.mono ?_
        rintro e7 w7 ⟨rfl, hC7, hb8⟩
        go_wp2
        refine bodyPost_end (results_none rfl _ _ _) rfl ?_
        rw [hc']
        exact ⟨rfl, hC6.out.next hb8 hC7, hb7.trans hb8⟩
      · subst h
        have hlen : kids.length = 2 := by rw [h3.out]; rfl
        obtain ⟨e1, e2, hkids⟩ := two_of hlen
        have hx1 : kids[0]? = some e1 := by rw [hkids]; rfl
        have hx2 : kids[1]? = some e2 := by rw [hkids]; rfl
        obtain ⟨kb, ko, rfl, hkb, hke⟩ := hkv.out.at' hx1
        obtain ⟨kb', ko', hkk', _, hke2⟩ := hkv.out.at' hx2
        cases hkk'
        have hn1 : nodesL kids = nodesE e1 + nodesE e2 := by rw [hkids, nodesL, nodesL, nodesL]; rfl
        have hp1 := nodesE_pos e1
        have hp2 := nodesE_pos e2
        have hI := Lib.hid (ih.out e1 w2 gs kb (ko + 0 * 5) cb rv dv high c (by omega) (okL_at hok2.out hx1) (hke.below hbc hlo (Nat.le_refl _) (by omega)) hkb hC2.out (fun n hn => hnm.out n (by rw [namesE, if_neg (by decide)]; exact namesL_at hx1 hn)) ⟨r1, by omega, by omega, r4, by omega⟩)
        unfold ExprPost at hI
        have hcl : codeL spf (findI rs) (codeD rs C) kids high c = codeE spf (findI rs) (codeD rs C) e2 (high + 1) (codeE spf (findI rs) (codeD rs C) e1 high c) := by rw [hkids, codeL, codeL, codeL]
        rw [hcl, if_neg (by decide), if_neg (by decide), if_neg (by decide)] at hc'
        have hroom := code_room (spf := spf) (fi := findI rs) (D := codeD rs C) (M := 100000) (by omega) hW.out.D e1 high c
        generalize codeE spf (findI rs) (codeD rs C) e1 high c = c1 at *
        obtain ⟨u1, u2, u3, u4, u5⟩ := hroom
        have hroom2 := code_room (spf := spf) (fi := findI rs) (D := codeD rs C) (M := 100000) (by omega) hW.out.D e2 (high + 1) c1
        obtain ⟨c2, hc2⟩ : ∃ c2, c2 = codeE spf (findI rs) (codeD rs C) e2 (high + 1) c1 := ⟨_, rfl⟩
        rw [← hc2] at hroom2 hc'
        obtain ⟨y1, y2, y3, y4, y5⟩ := hroom2
        replace hkids := trivial
        replace hc2 := Lib.hid hc2
        go_wp2_with fail
        refine hI.out.mono ?_
        rintro e3 w3 ⟨rfl, hC3, hb3⟩
        have hb4 := hbc.trans hb3
        obtain ⟨m0, m1, m2, m3, m4⟩ := cells.out _ hb4
        have z3 := hb4.size
        have hI2 := Lib.hid (ih.out e2 w3 gs kb (ko + 1 * 5) cb rv dv (high + 1) c1 (by omega) (okL_at hok2.out hx2) (hke2.below hb4 hlo (Nat.le_refl _) (by omega)) hkb hC3 (fun n hn => hnm.out n (by rw [namesE, if_neg (by decide)]; exact namesL_at hx2 hn)) ⟨by omega, by omega, by omega, by omega, by omega⟩)
        unfold ExprPost at hI2
        rw [← hc2.out] at hI2
        replace hC3 := Lib.hid hC3
        clear k0 k1 k2 k3 k4 hI
        go_wp2_with fail
        refine hI2.out.mono ?_
        rintro e5 w5 ⟨rfl, hC5, hb5⟩
        have hb6 := hb4.trans hb5
        obtain ⟨v0, v1, v2, v3, v4⟩ := cells.out _ hb6
        have z5 := hb6.size
        have hC5l := hC5.lt
        clear m0 m1 m2 m3 m4 hI2
        obtain ⟨x1, x2, W6, p1, p2, p3, hbw, hlook⟩ := ops_made w5
        have hlk := hlook 7 (by decide)
        clear hlook
        have hmm := @run_makeMap Tryd.prog
        have hC6 := hC5.below hbw
        have hb7 := hb6.trans (hbw.mono (Nat.le_of_lt hC5l))
        obtain ⟨v0, v1, v2, v3, v4⟩ := cells.out _ hb7
        have hE := Lib.hid (emit_any ⟨7 - 4, 0, 0, 0, []⟩ (.slice none 0 0) (high + 2) 1 W6 cb rv dv c2 hC6.at' (World.ownsRow_nil _ _ _ _) (by omega) (by omega) (by omega))
        replace hC5 := Lib.hid hC5
        replace hC6 := Lib.hid hC6
        replace hbw := Lib.hid hbw
        go_wp2_with fail
        refine hE.out.mono ?_
        rintro e7 w7 ⟨rfl, hC7, hb8⟩
        go_wp2
        refine bodyPost_end (results_none rfl _ _ _) rfl ?_
        rw [hc']
        exact ⟨rfl, hC6.out.next hb8 hC7, hb7.trans hb8⟩
      · subst h
        have hlen : kids.length = 2 := by rw [h3.out]; rfl
        obtain ⟨e1, e2, hkids⟩ := two_of hlen
        have hx1 : kids[0]? = some e1 := by rw [hkids]; rfl
        have hx2 : kids[1]? = some e2 := by rw [hkids]; rfl
        obtain ⟨kb, ko, rfl, hkb, hke⟩ := hkv.out.at' hx1
        obtain ⟨kb', ko', hkk', _, hke2⟩ := hkv.out.at' hx2
        cases hkk'
        have hn1 : nodesL kids = nodesE e1 + nodesE e2 := by rw [hkids, nodesL, nodesL, nodesL]; rfl
        have hp1 := nodesE_pos e1
        have hp2 := nodesE_pos e2
        have hI := Lib.hid (ih.out e1 w2 gs kb (ko + 0 * 5) cb rv dv high c (by omega) (okL_at hok2.out hx1) (hke.below hbc hlo (Nat.le_refl _) (by omega)) hkb hC2.out (fun n hn => hnm.out n (by rw [namesE, if_neg (by decide)]; exact namesL_at hx1 hn)) ⟨r1, by omega, by omega, r4, by omega⟩)
        unfold ExprPost at hI
        have hcl : codeL spf (findI rs) (codeD rs C) kids high c = codeE spf (findI rs) (codeD rs C) e2 (high + 1) (codeE spf (findI rs) (codeD rs C) e1 high c) := by rw [hkids, codeL, codeL, codeL]
        rw [hcl, if_neg (by decide), if_neg (by decide), if_neg (by decide)] at hc'
        have hroom := code_room (spf := spf) (fi := findI rs) (D := codeD rs C) (M := 100000) (by omega) hW.out.D e1 high c
        generalize codeE spf (findI rs) (codeD rs C) e1 high c = c1 at *
        obtain ⟨u1, u2, u3, u4, u5⟩ := hroom
        have hroom2 := code_room (spf := spf) (fi := findI rs) (D := codeD rs C) (M := 100000) (by omega) hW.out.D e2 (high + 1) c1
        obtain ⟨c2, hc2⟩ : ∃ c2, c2 = codeE spf (findI rs) (codeD rs C) e2 (high + 1) c1 := ⟨_, rfl⟩
        rw [← hc2] at hroom2 hc'
        obtain ⟨y1, y2, y3, y4, y5⟩ := hroom2
        replace hkids := trivial
        replace hc2 := Lib.hid hc2
        go_wp2_with fail
        refine hI.out.mono ?_
        rintro e3 w3 ⟨rfl, hC3, hb3⟩
        have hb4 := hbc.trans hb3
        obtain ⟨m0, m1, m2, m3, m4⟩ := cells.out _ hb4
        have z3 := hb4.size
        have hI2 := Lib.hid (ih.out e2 w3 gs kb (ko + 1 * 5) cb rv dv (high + 1) c1 (by omega) (okL_at hok2.out hx2) (hke2.below hb4 hlo (Nat.le_refl _) (by omega)) hkb hC3 (fun n hn => hnm.out n (by rw [namesE, if_neg (by decide)]; exact namesL_at hx2 hn)) ⟨by omega, by omega, by omega, by omega, by omega⟩)
        unfold ExprPost at hI2
        rw [← hc2.out] at hI2
        replace hC3 := Lib.hid hC3
        clear k0 k1 k2 k3 k4 hI
        go_wp2_with fail
        refine hI2.out.mono ?_
        rintro e5 w5 ⟨rfl, hC5, hb5⟩
        have hb6 := hb4.trans hb5
        obtain ⟨v0, v1, v2, v3, v4⟩ := cells.out _ hb6
        have z5 := hb6.size
        have hC5l := hC5.lt
        clear m0 m1 m2 m3 m4 hI2
        obtain ⟨x1, x2, W6, p1, p2, p3, hbw, hlook⟩ := ops_made w5
        have hlk := hlook 8 (by decide)
        clear hlook
        have hmm := @run_makeMap Tryd.prog
        have hC6 := hC5.below hbw
        have hb7 := hb6.trans (hbw.mono (Nat.le_of_lt hC5l))
        obtain ⟨v0, v1, v2, v3, v4⟩ := cells.out _ hb7
        have hE := Lib.hid (emit_any ⟨8 - 4, 0, 0, 0, []⟩ (.slice none 0 0) (high + 2) 1 W6 cb rv dv c2 hC6.at' (World.ownsRow_nil _ _ _ _) (by omega) (by omega) (by omega))
        replace hC5 := Lib.hid hC5
        replace hC6 := Lib.hid hC6
        replace hbw := Lib.hid hbw
        go_wp2_with fail
        refine hE.out.mono ?_
        rintro e7 w7 ⟨rfl, hC7, hb8⟩
        go_wp2
        refine bodyPost_end (results_none rfl _ _ _) rfl ?_
        rw [hc']
        exact ⟨rfl, hC6.out.next hb8 hC7, hb7.trans hb8⟩
      · subst h
        have hlen : kids.length = 1 := by rw [h3.out]; rfl
        obtain ⟨e1, hx⟩ : ∃ d, kids[0]? = some d := ⟨_, List.getElem?_eq_getElem (by omega)⟩
        have hkids : kids = [e1] := by
          match kids, hlen, hx with
          | [d], _, hx => simp at hx; rw [hx]
        obtain ⟨kb, ko, rfl, hkb, hke⟩ := hkv.out.at' hx
        have hn1 : nodesL kids = nodesE e1 := by rw [hkids, nodesL, nodesL]; rfl
        have hI := Lib.hid (ih.out e1 w2 gs kb (ko + 0 * 5) cb rv dv high c (by omega) (okL_at hok2.out hx) (hke.below hbc hlo (Nat.le_refl _) (by omega)) hkb hC2.out (fun n hn => hnm.out n (by rw [namesE, if_neg (by decide)]; exact namesL_at hx hn)) ⟨r1, by omega, by omega, r4, by omega⟩)
        unfold ExprPost at hI
        have hcl : codeL spf (findI rs) (codeD rs C) kids high c = codeE spf (findI rs) (codeD rs C) e1 high c := by rw [hkids, codeL, codeL]
        rw [hcl, if_neg (by decide), if_pos rfl] at hc'
        have hroom := code_room (spf := spf) (fi := findI rs) (D := codeD rs C) (M := 100000) (by omega) hW.out.D e1 high c
        generalize codeE spf (findI rs) (codeD rs C) e1 high c = c1 at *
        go_wp2_with fail
        refine hI.out.mono ?_
        rintro e3 w3 ⟨rfl, hC3, hb3⟩
        have hb4 := hbc.trans hb3
        obtain ⟨m0, m1, m2, m3, m4⟩ := cells.out _ hb4
        have z3 := hb4.size
        obtain ⟨u1, u2, u3, u4, u5⟩ := hroom
        have hE := Lib.hid (emit_any ⟨5, x, 0, 0, []⟩ (.slice none 0 0) (high + 1) 1 w3 cb rv dv c1 hC3.at' (World.ownsRow_nil _ _ _ _) (by omega) (by omega) (by omega))
        replace hC3 := Lib.hid hC3
        clear k0 k1 k2 k3 k4
        go_wp2_with fail
        refine hE.out.mono ?_
        rintro e5 w5 ⟨rfl, hC5, hb5⟩
        go_wp2
        refine bodyPost_end (results_none rfl _ _ _) rfl ?_
        rw [hc']
        exact ⟨rfl, hC3.out.next hb5 hC5, hb4.trans hb5⟩
      · subst h
        have hpl := hnm.out nm (by rw [namesE, if_pos rfl]; simp)
        obtain ⟨P, hP⟩ : ∃ P, P = placeR rs nm := ⟨_, rfl⟩
        rw [← hP] at hpl
        have hfi : findI rs nm = ((P : Nat) : Int) := by unfold findI; rw [← hP, if_pos hpl]
        have hDD : codeD rs C nm = ((C P).high, (C P).steps) := by unfold codeD; rw [← hP, if_pos hpl]
        obtain ⟨d1, d2, d3, d4⟩ := hW.out.ok P hpl
        have hl40 := hW.out.len
        rw [if_neg (by decide), if_neg (by decide), if_pos rfl, hfi, hDD] at hc'
        simp only at hc'
        have hF := Lib.hid (fun (W : World) (h : Below cb w W) => Find_any rv rs nm W ((hC.out.rules).below (h.mono hlo) (Nat.le_refl _) (by have := h.size; omega)))
        rw [hfi] at hF
        have hdone := hC.out.done
        obtain ⟨dA, dcap, hdv, hdl, hdc⟩ := hdone
        obtain ⟨db, dof, rfl, hdb, d5, d6⟩ := hdc _ _ (codesL_at hpl)
        have e5 : ∀ W, Below cb w W → W.cell? ⟨db, dof + P * 3 + 1, none⟩ = some (.int .i64 (C P).high) := fun W h => (h.cell (p := ⟨db, _, none⟩) hdb).trans d5
        have e6 : ∀ W, Below cb w W → W.cell? ⟨db, dof + P * 3 + 2, none⟩ = some (.int .i64 (C P).steps) := fun W h => (h.cell (p := ⟨db, _, none⟩) hdb).trans d6
        rw [codesL_len] at hdv
        obtain ⟨cv, cxs, hcB, _⟩ := hC2.out.at'
        rw [hdv] at hcB
        generalize (C P).high = dh at *
        generalize (C P).steps = ds at *
        have g0 : w2.cell? ⟨cb, 0, none⟩ = some rv := hcB.cell 0
        have hcl := hcB.lt
        replace hdc := trivial
        replace e5 := Lib.hid e5
        replace e6 := Lib.hid e6
        replace hDD := trivial
        replace hfi := trivial
        replace hdv := trivial
        clear hP
        clear d5 d6 q1 q2
        go_wp2_with fail
        refine wp_region_below_tail 8 (w2.heap.size) _ (Below.refl _ _) (by kernel_rfl) (by kernel_rfl) ?_
        simp only [List.take_succ_cons, List.take_zero, List.drop_succ_cons, List.drop_zero]
        iterate 8 (go_big_quiet_step ((fail)))
        refine wpQuiet_nil ?_
        rintro _ ⟨n1, rfl⟩
        change wpList _ _ _ _ _ _
        have s1 := n1.size
        have hb3 := hbc.trans (n1.below.mono (by omega))
        have hcB1 := hcB.after n1 hcl
        go_wp2_with fail
        refine (hF.out _ hb3).mono ?_
        rintro e4 w4 ⟨rfl, hb4⟩
        have s4 := hb4.size
        have hb5 := hb3.trans (hb4.mono (by omega))
        have hcB4 := hcB1.below hb4 (by omega)
        have hC4 := hC2.out.below (n1.below.trans (hb4.mono (by omega)))
        have g1 : w4.cell? ⟨cb, 1, none⟩ = some (.slice (some ⟨db, dof, none⟩) rs.length dcap) := hcB4.cell 1
        have g2 := e5.out _ hb5
        have g3 := e6.out _ hb5
        have f1 : decide ((P : Int) < (rs.length : Int)) = true := by simpa using hpl
        have f2 : decide ((P : Int) < 0) = false := by simp
        have f3 : decide (P < rs.length) = true := by simpa using hpl
        have q1 : IntKind.i64.wrap (high + dh) = high + dh := IntWalk.i64_in _ ⟨by omega, by omega⟩
        have q2 : IntKind.i64.wrap (1 + ds) = 1 + ds := IntWalk.i64_in _ ⟨by omega, by omega⟩
        have hC4l := hC4.lt
        replace hC4 := Lib.hid hC4
        go_wp2_with fail
        refine wp_region_below_tail 22 (w4.heap.size) _ (Below.refl _ _) (by kernel_rfl) (by kernel_rfl) ?_
        simp only [List.take_succ_cons, List.take_zero, List.drop_succ_cons, List.drop_zero]
        iterate 22 (go_big_quiet_step ((fail)))
        refine wpQuiet_nil ?_
        rintro _ ⟨n2, rfl⟩
        change wpList _ _ _ _ _ _
        have hb6 := hb5.trans (n2.below.mono (by omega))
        have hC6 := hC4.out.below n2.below
        have hE := Lib.hid (emit_any ⟨8, (P : Nat), 0, 0, []⟩ (.slice none 0 0) (high + dh) (1 + ds) n2.w cb rv dv c hC6.at' (World.ownsRow_nil _ _ _ _) (by omega) (by omega) (by omega))
        go_wp2_with fail
        refine hE.out.mono ?_
        rintro e7 w7 ⟨rfl, hC7, hb8⟩
        go_wp2
        refine bodyPost_end (results_none rfl _ _ _) rfl ?_
        rw [hc']
        exact ⟨rfl, hC6.next hb8 hC7, hb6.trans hb8⟩

end Ru
end Go.Proofs.YtbadplbdgpbdaaaDoor
