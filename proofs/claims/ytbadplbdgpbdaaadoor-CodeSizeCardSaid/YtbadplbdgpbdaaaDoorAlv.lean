/- The closure that parse.Parse defers. A row of rules of the parser's own. parse.Parse, walked. parse.Parse, walked whole. What the closed facts of chapters 5 and 6 read: rules out of literals. -/
import Derived.Test.YtbadplbdgpbdaaaDoorThg
import Derived.Defers
import Derived.Recover
import Derived.Test.YtbadplbdgpbdaaaDoorLexA
import Derived.Test.YtbadplbdgpbdaaaDoorApp
import Derived.Test.YtbadplbdgpbdaaaDoorUsC
import Derived.KernelRfl
namespace Go.Proofs.YtbadplbdgpbdaaaDoor
open Go.RowKit
namespace Ru
open Lx
open Sl (strV Reads)

set_option maxRecDepth 20000 in
set_option maxHeartbeats 1000000 in
theorem catch_oops (po pf : Nat) (err pos : Int) (older : List PanicEntry) (w : World) (v0 v1 v2 : Value) (hpo : po < w.heap.size) (hpf : pf < w.heap.size) (hne : ¬ po = pf) (c0 : w.cell? ⟨po, 0, none⟩ = some v0) (f0 : w.frozen? ⟨po, 0, none⟩ = false) (c1 : w.cell? ⟨pf, 0, none⟩ = some v1) (f1 : w.frozen? ⟨pf, 0, none⟩ = false) (c2 : w.cell? ⟨pf, 1, none⟩ = some v2) (f2 : w.frozen? ⟨pf, 1, none⟩ = false) :
    CallsD Tryd.prog 90 #[.pointer (some ⟨po, 0, none⟩), .pointer (some ⟨pf, 0, none⟩)] (.panicking ({ v := .iface 145 (.agg #[.int .i64 err, .int .i64 pos]), recovered := false } :: older)) w fun e u' w' =>
      e = .returned (.tuple #[]) ∧ u' = .panicking ({ v := .iface 145 (.agg #[.int .i64 err, .int .i64 pos]), recovered := true } :: older) ∧ w' = ((((w.setCell ⟨po, 0, none⟩ (.slice none 0 0)).setCell ⟨pf, 0, none⟩ (.int .i64 err)).setCell ⟨pf, 1, none⟩ (.int .i64 pos)).alloc (.cells #[.int .i64 err, .int .i64 pos] 145)).drew := by
  have ha : ∀ (t : TypeId) w, (Instr.typeAssert (.iface 145 (.agg #[.int .i64 err, .int .i64 pos])) t 145 true).run Tryd.prog w = .ok (.tuple #[.agg #[.int .i64 err, .int .i64 pos], .bool true]) w := fun _ _ => by kernel_rfl
  refine callsD_of_wpS Tryd.func90 rfl fun c₀ cs hu => ?_
  apply wpS_seq
  apply wpS_region
  simp [wpOpsS, go_sem, recoverD, hu, Tryd.ntmps90, Exit.thenS, Array.replicate]
  refine wpS_of_wp ?_
  go_wp2_with fail
  have hne2 : ¬ w.heap.size = po := by omega
  have hne3 : ¬ w.heap.size = pf := by omega
  have hne4 : ¬ pf = po := by omega
  go_region
  go_wp2
  clear ha c0 f0 c1 f1 c2 f2
  cases c₀
  simp_all [bodyPostS, results, Tryd.results90]

theorem catch_idle (po pf : Nat) (w : World) :
    CallsD Tryd.prog 90 #[.pointer (some ⟨po, 0, none⟩), .pointer (some ⟨pf, 0, none⟩)] .returning w fun e u' w' => e = .returned (.tuple #[]) ∧ u' = .returning ∧ w' = w := by
  refine callsD_of_wpS Tryd.func90 rfl fun c₀ cs hu => ?_
  apply wpS_seq
  apply wpS_region
  simp [wpOpsS, go_sem, recoverD, hu, Tryd.ntmps90, Exit.thenS, Array.replicate]
  refine wpS_of_wp ?_
  go_wp2
  cases c₀
  simp_all [bodyPostS, results, Tryd.results90]

end Ru
end Go.Proofs.YtbadplbdgpbdaaaDoor

namespace Go.Proofs.YtbadplbdgpbdaaaDoor
open Go.RowKit
namespace Ru
open Lx
open Sl (strV Reads)

mutual
theorem ExIn.typed {w : World} {S : Nat → Prop} : ∀ {e : Expr} {b o : Nat}, ExIn w S b o e → ExIn w (fun k => S k ∧ ∃ cs, w.heap[k]? = some (.cells cs 48 (0, 0))) b o e
  | .mk k x y nm kids, b, o, h => by
    rw [ExIn] at h ⊢
    obtain ⟨h0, h1, h2, h3, h4, A, cap, h5, h6, h7⟩ := h
    refine ⟨h0, h1, h2, h3, h4, A, cap, h5, h6, ?_⟩
    rcases h7 with h7 | ⟨kb, ko, h7, h8, h10, h9⟩
    · exact .inl h7
    · exact .inr ⟨kb, ko, h7, ⟨h8, h10⟩, h10, KidsIn.typed h9⟩
theorem KidsIn.typed {w : World} {S : Nat → Prop} : ∀ {l : List Expr} {b o : Nat}, KidsIn w S b o l → KidsIn w (fun k => S k ∧ ∃ cs, w.heap[k]? = some (.cells cs 48 (0, 0))) b o l
  | [], _, _, _ => by rw [KidsIn]; trivial
  | e :: l, b, o, h => by
    rw [KidsIn] at h ⊢
    exact ⟨ExIn.typed h.1, KidsIn.typed h.2⟩
end
theorem ExprOk.typed {w : World} {S : Nat → Prop} {e : Expr} {A : Option Addr} (h : ExprOk w S e A) : ExprOk w (fun k => S k ∧ ∃ cs, w.heap[k]? = some (.cells cs 48 (0, 0))) e A :=
  ⟨h.nm, h.k1, h.k2, h.kl, h.kv.imp id fun ⟨kb, ko, h1, h2, h4, h3⟩ => ⟨kb, ko, h1, ⟨h2, h4⟩, h4, KidsIn.typed h3⟩⟩

/-- a rule's cells -/
def ruleC (x : Rule × Option Addr × Nat) : List Value := [strV x.1.name, .int .i64 x.1.expr.kind, .int .i64 x.1.expr.a, .int .i64 x.1.expr.b, strV x.1.expr.name, .slice x.2.1 x.1.expr.kids.length x.2.2]
structure RowOf (w : World) (B : Nat) (v : Value) (out : List Rule) (xs : List (Rule × Option Addr × Nat)) : Prop where
  eq : xs.map (·.1) = out
  own : w.ownsRow B 50 6 v xs.length (xs.flatMap ruleC)
  ok : ∀ x ∈ xs, x.1.name.length ≤ 9223372036854775807 ∧ ExprOk w (fun k => B ≤ k ∧ k < w.heap.size) x.1.expr x.2.1
theorem RowOf.nil (w : World) (B : Nat) : RowOf w B (.slice none 0 0) [] [] := ⟨rfl, World.ownsRow_nil _ _ _ _, fun x hx => by cases hx⟩
theorem RowOf.keep {w w' : World} {B : Nat} {v : Value} {out : List Rule} {xs : List (Rule × Option Addr × Nat)} (h : RowOf w B v out xs) (hk : ∀ k, B ≤ k → k < w.heap.size → w'.heap[k]? = w.heap[k]?) (hz : w.heap.size ≤ w'.heap.size) : RowOf w' B v out xs := by
  refine ⟨h.eq, ⟨h.own.1, ?_⟩, fun x hx => ⟨(h.ok x hx).1, (h.ok x hx).2.keep fun k hk2 => ⟨hk k hk2.1 hk2.2, hk2.1, by have := hk2.2; omega⟩⟩⟩
  rcases h.own.2 with h0 | ⟨g, cap, cur, h1, h2, h3, h4⟩
  · exact .inl h0
  · exact .inr ⟨g, cap, cur, h1, h2, (hk g h2 (by
      rcases Nat.lt_or_ge g w.heap.size with hlt | hge
      · exact hlt
      · rw [Array.getElem?_eq_none hge] at h3; cases h3)).trans h3, h4⟩

theorem RowOf.rules {w : World} {B : Nat} {v : Value} {out : List Rule} {xs : List (Rule × Option Addr × Nat)} (h : RowOf w B v out xs) (hn : out.length ≤ 1000) : RulesV w w.heap.size v out := by
  have hl : xs.length = out.length := by rw [← h.eq, List.length_map]
  have hv : ∃ A cap, v = .slice A out.length cap := by
    rcases h.own.2 with ⟨h0, h1⟩ | ⟨g, cap, cur, h1, _⟩
    · exact ⟨none, 0, by rw [h0, ← hl, h1]⟩
    · exact ⟨_, cap, by rw [h1, hl]⟩
  obtain ⟨A, cap, rfl⟩ := hv
  refine ⟨A, cap, rfl, by omega, fun i r hr => ?_⟩
  obtain ⟨x, hx, rfl⟩ : ∃ x, xs[i]? = some x ∧ x.1 = r := by
    rw [← h.eq, List.getElem?_map] at hr
    cases hx : xs[i]? with
    | none => rw [hx] at hr; cases hr
    | some x => rw [hx] at hr; exact ⟨x, rfl, by simpa using hr⟩
  obtain ⟨g, cap', e, hb, hg, hc⟩ := own_at (F := ruleC) h.own (fun _ => rfl) hx
  have hA : A = some ⟨g, 0, none⟩ := by injection e
  have hok := h.ok x (List.mem_of_getElem? hx)
  refine ⟨g, 0, hA, hg, ?_⟩
  show RuleAt w w.heap.size g (0 + i * 6) x.1
  rw [Nat.zero_add]
  have hE : ExIn w (fun k => B ≤ k ∧ k < w.heap.size) g (i * 6 + 1) x.1.expr := hok.2.put (hc 1 _ rfl) (hc 2 _ rfl) (hc 3 _ rfl) (hc 4 _ rfl) (hc 5 _ rfl)
  exact ⟨hc 0 _ rfl, hok.1, hE.at' fun k hk => hk.2⟩

theorem el_rule : El Tryd.prog 22 50 6 80 := El.mk' Tryd.underlying22 (by kernel_rfl) (by omega)
theorem wp_rule {W : World} {ops : Array Oper} {rest : List Oper} {o : Oper} {a : Act} {Q : Exit → Act → World → Prop} (hgd : o.guard = none) (s x : Operand)
    (ho : o.op = .call { callee := .builtin .append, args := #[s, x], argTypes := #[22, 22] })
    (B : Nat) (v : Value) (out : List Rule) (xs : List (Rule × Option Addr × Nat)) (hR : RowOf W B v out xs) (hn : out.length ≤ 40) (r : Rule) (A : Option Addr) (cap : Nat) (te : TypeId) (hs : a.eval s = v) (hx : a.eval x = .slice (some ⟨W.heap.size, 0, none⟩) 1 1)
    (hok : r.name.length ≤ 9223372036854775807 ∧ ExprOk W (fun k => B ≤ k ∧ k < W.heap.size) r.expr A) (hbase : B ≤ W.heap.size)
    (h : ∀ v' w', RowOf w' B v' (out ++ [r]) (xs ++ [(r, A, cap)]) → Below B W w' → W.heap.size < w'.heap.size → wpList Tryd.prog ops Q rest (a.put o.dst v') w') :
    wpList Tryd.prog ops Q (o :: rest) a (W.alloc (.cells #[strV r.name, .int .i64 r.expr.kind, .int .i64 r.expr.a, .int .i64 r.expr.b, strV r.expr.name, .slice A r.expr.kids.length cap] te)) := by
  have hl : xs.length = out.length := by rw [← hR.eq, List.length_map]
  obtain ⟨i, z, hi, hz, hsi, hby, hzs⟩ := el_rule.inf
  refine wpList_append_own _ hgd s x 22 ho B 50 i z 6 80 el_rule.sl hi hz hsi hby hzs el_rule.pos v xs.length (xs.flatMap ruleC) hs (hR.own.alloc _) ⟨W.heap.size, 0, none⟩ 1 1 (ruleC (r, A, cap)) hx rfl (fun j u hu => ?_) (by simp [ruleC, strV, Value.oneCell']) (by simp only [maxLen]; omega) (by omega) (by simp; omega) ?_
  · have := (Blk.new W te #[strV r.name, .int .i64 r.expr.kind, .int .i64 r.expr.a, .int .i64 r.expr.b, strV r.expr.name, .slice A r.expr.kids.length cap]).cell j
    rw [Addr.add_lit]
    rw [Nat.zero_add]
    rw [this]
    simpa [ruleC] using hu
  · intro v' w' h2 h3 _
    have hb := own_below (by simp; omega) (hR.own.alloc (.cells #[strV r.name, .int .i64 r.expr.kind, .int .i64 r.expr.a, .int .i64 r.expr.b, strV r.expr.name, .slice A r.expr.kids.length cap] te)) h3
    have hz := h3.size
    simp at hz
    have key : ∀ (e : Expr) (A2 : Option Addr), ExprOk W (fun k => B ≤ k ∧ k < W.heap.size) e A2 → ExprOk w' (fun k => B ≤ k ∧ k < w'.heap.size) e A2 := fun e A2 he => he.typed.keep fun k hk => by
      obtain ⟨⟨hk1, hk2⟩, cs, hk3⟩ := hk
      refine ⟨?_, hk1, by omega⟩
      have e1 := ((Below.refl W.heap.size W).alloc (Nat.le_refl _) (.cells #[strV r.name, .int .i64 r.expr.kind, .int .i64 r.expr.a, .int .i64 r.expr.b, strV r.expr.name, .slice A r.expr.kids.length cap] te)).block k hk2
      refine (h3.block k (by simp; omega) ?_).trans e1
      intro hv
      rcases hR.own.2 with ⟨h0, _⟩ | ⟨g, cap, cur, h1, _, h5, _⟩
      · rw [h0] at hv; cases hv
      · rw [h1] at hv
        injection hv with hv
        have hv : k = g := hv
        subst hv
        rw [h5] at hk3
        injection hk3 with hk3
        injection hk3 with _ hk3 _
        exact absurd hk3 (by decide)
    refine h v' w' ⟨by simp [hR.eq], by simpa using h2, fun y hy => ?_⟩ (((Below.refl B W).alloc hbase _).trans hb) (by omega)
    rcases List.mem_append.1 hy with hy | hy
    · exact ⟨(hR.ok y hy).1, key _ _ (hR.ok y hy).2⟩
    · rw [List.mem_singleton] at hy
      subst hy
      exact ⟨hok.1, key _ _ hok.2⟩

end Ru
end Go.Proofs.YtbadplbdgpbdaaaDoor

namespace Go.Proofs.YtbadplbdgpbdaaaDoor
open Go.RowKit
namespace Ru
open Lx
open Sl (strV Reads)

def ParsePost (s : List UInt8) (w : World) (e : Ending) (w' : World) : Prop := ∃ v, e = .returned (.tuple #[v, .agg #[.int .i64 (parseP s).2.1, .int .i64 (parseP s).2.2]]) ∧ Below w.heap.size w w' ∧ RulesV w' w'.heap.size v (parseP s).1

set_option maxRecDepth 100000 in
set_option maxHeartbeats 8000000 in
theorem Parse_bad (s : List UInt8) (w : World) (hl : s.length ≤ 9223372036854775807) (he : (lexV s).2.1 ≠ 0) : Calls Tryd.prog 64 #[strV s] w (ParsePost s w) := by
  have hL := Lib.hid (fun W => Lex_any s W hl)
  have hp : parseP s = ([], (lexV s).2) := by unfold parseP; rw [if_pos he]
  replace hp := Lib.hid hp
  obtain ⟨err, herr⟩ : ∃ x, x = (lexV s).2.1 := ⟨_, rfl⟩
  obtain ⟨pos, hpos⟩ : ∃ x, x = (lexV s).2.2 := ⟨_, rfl⟩
  rw [← herr] at he
  have g0 : (err != 0) = true := by simpa using he
  have hbA : Below w.heap.size w ((w.alloc (.cells #[.slice none 0 0] 22)).alloc (.cells #[.int .i64 0, .int .i64 0] 26)) := ((Below.refl _ _).alloc (Nat.le_refl _) _).alloc (by simp) _
  have BO : Blk ((w.alloc (.cells #[.slice none 0 0] 22)).alloc (.cells #[.int .i64 0, .int .i64 0] 26)) w.heap.size 22 #[.slice none 0 0] := (Blk.new w 22 #[.slice none 0 0]).alloc _
  have BF : Blk ((w.alloc (.cells #[.slice none 0 0] 22)).alloc (.cells #[.int .i64 0, .int .i64 0] 26)) (w.heap.size + 1) 26 #[.int .i64 0, .int .i64 0] := by
    have := Blk.new (w.alloc (.cells #[.slice none 0 0] 22)) 26 #[.int .i64 0, .int .i64 0]
    rw [World.size_alloc] at this
    exact this
  go_enter_defers Tryd.func64, Tryd.ntmps64
  go_wp2_with fail
  refine (hL.out _).mono ?_
  rintro e1 w1 ⟨v, rfl, hb1, _⟩
  rw [← herr, ← hpos]
  replace herr := Lib.hid herr
  replace hpos := Lib.hid hpos
  have z1 := hb1.size
  simp at z1
  have BO1 := BO.below hb1 (by simp; omega)
  have BF1 := BF.below hb1 (by simp)
  have a0 := BO1.cell 0
  have a1 := BO1.frozen 0
  have b0 := BF1.cell 0
  have b1 := BF1.frozen 0
  have b2 := BF1.cell 1
  have b3 := BF1.frozen 1
  simp at a0 b0 b2
  go_wp2_with fail
  go_region
  go_wp2
  have BO2 := ((((BO1.far (p := ⟨w.heap.size + 1, 0, none⟩) (by show _ ≠ w.heap.size + 1; omega) (.int .i64 err)).far (p := ⟨w.heap.size + 1, 1, none⟩) (by show _ ≠ w.heap.size + 1; omega) (.int .i64 pos)).set 0 (.slice none 0 0)).far (p := ⟨w.heap.size + 1, 0, none⟩) (by show _ ≠ w.heap.size + 1; omega) (.int .i64 err)).far (p := ⟨w.heap.size + 1, 1, none⟩) (by show _ ≠ w.heap.size + 1; omega) (.int .i64 pos)
  have BF2 := ((((BF1.set 0 (.int .i64 err)).set 1 (.int .i64 pos)).far (p := ⟨w.heap.size, 0, none⟩) (by show _ ≠ w.heap.size; omega) (.slice none 0 0)).set 0 (.int .i64 err)).set 1 (.int .i64 pos)
  have r0 := BO2.cell 0
  have r1 := BF2.cell 0
  have r2 := BF2.cell 1
  simp at r0 r1 r2
  refine ⟨.tuple #[.slice none 0 0, .agg #[.int .i64 err, .int .i64 pos]], by simp [results, Tryd.results64, go_sem, r0, r1, r2], ?_⟩
  unfold ParsePost
  rw [hp.out]
  refine ⟨_, by rw [herr.out, hpos.out], ?_, ?_⟩
  · exact ((((((Below.call hbA hb1 (by simp; omega)).setCell (by show _ ≤ w.heap.size + 1; omega) _).setCell (by show _ ≤ w.heap.size + 1; omega) _).setCell (by show _ ≤ w.heap.size; omega) _).setCell (by show _ ≤ w.heap.size + 1; omega) _).setCell (by show _ ≤ w.heap.size + 1; omega) _).drew
  · exact ⟨none, 0, rfl, by show 0 ≤ _; omega, fun i x hx => by cases hx⟩

/-- the tokens, in a block of their own -/
def TokL (w : World) (lo hi : Nat) (v : Value) (l : List Tok) : Prop := Reads hi v l fun b o i t => lo ≤ b ∧
  w.cell? ⟨b, o + i * 4, none⟩ = some (.int .i64 t.1) ∧ w.cell? ⟨b, o + i * 4 + 1, none⟩ = some (.int .i64 t.2.1) ∧ w.cell? ⟨b, o + i * 4 + 2, none⟩ = some (.int .i64 t.2.2.1) ∧ w.cell? ⟨b, o + i * 4 + 3, none⟩ = some (strV t.2.2.2)
theorem TokL.keep {w w' : World} {lo hi : Nat} {v : Value} {l : List Tok} (h : TokL w lo hi v l) (hk : ∀ k, lo ≤ k → k < hi → w'.heap[k]? = w.heap[k]?) : TokL w' lo hi v l :=
  Reads.mono h (Nat.le_refl _) fun b o i t hlt _ h1 => by
    have e := hk b h1.1 hlt
    exact ⟨h1.1, (World.cell?_of_block (a := ⟨b, _, none⟩) e).trans h1.2.1, (World.cell?_of_block (a := ⟨b, _, none⟩) e).trans h1.2.2.1, (World.cell?_of_block (a := ⟨b, _, none⟩) e).trans h1.2.2.2.1, (World.cell?_of_block (a := ⟨b, _, none⟩) e).trans h1.2.2.2.2⟩
theorem TokL.toks {w : World} {lo hi : Nat} {v : Value} {l : List Tok} (h : TokL w lo hi v l) : TokR w hi v l := Reads.mono h (Nat.le_refl _) fun _ _ _ _ _ _ h1 => h1.2
theorem TokL.of {w : World} {lo : Nat} {v : Value} {l : List Tok} (h : w.ownsRow lo 152 4 v l.length (toksC l)) (hl : l.length ≤ 1000000) : TokL w lo w.heap.size v l := by
  have hv : ∃ A cap, v = .slice A l.length cap := by
    rcases h.2 with ⟨h0, h1⟩ | ⟨g, cap, cur, h1, _⟩
    · exact ⟨none, 0, by rw [h0, h1]⟩
    · exact ⟨_, cap, h1⟩
  obtain ⟨A, cap, rfl⟩ := hv
  refine ⟨A, cap, rfl, by omega, fun i t ht => ?_⟩
  obtain ⟨g, cap', e, hb, hg, c0, c1, c2, c3⟩ := toks_at h ht
  have hA : A = some ⟨g, 0, none⟩ := by injection e
  exact ⟨g, 0, hA, hg, hb, by rw [Nat.zero_add]; exact c0, by rw [Nat.zero_add]; exact c1, by rw [Nat.zero_add]; exact c2, by rw [Nat.zero_add]; exact c3⟩

/-- what holds between the rules -/
structure LoopP (w wr : World) (tv : Value) (l : List Tok) (en : Int) (pb i nd : Nat) (v : Value) (out : List Rule) (xs : List (Rule × Option Addr × Nat)) : Prop where
  par : ParAt wr pb pb tv l en i nd
  toks : TokL wr (w.heap.size + 2) pb tv l
  lo : w.heap.size + 2 ≤ pb
  n : nd ≤ 600
  row : RowOf wr (pb + 1) v out xs
  ob : Blk wr w.heap.size 22 #[v]
  fb : Blk wr (w.heap.size + 1) 26 #[.int .i64 0, .int .i64 0]
  bel : Below w.heap.size w wr
section
variable {w wr w' : World} {tv : Value} {l : List Tok} {en : Int} {pb i nd j nj : Nat} {v : Value} {out : List Rule} {xs : List (Rule × Option Addr × Nat)}
theorem LoopP.lt (h : LoopP w wr tv l en pb i nd v out xs) : pb < wr.heap.size := h.par.lt
theorem below_grown {B pb : Nat} {a b c : World} (h : Below B a b) (hg : b.grownBy c (some pb)) (hB : B ≤ pb) (hz : B ≤ b.heap.size) : Below B a c :=
  h.trans ⟨hg.os, hg.tape, hg.output, hg.size, fun k hk => hg.block k (by omega) (by intro e; injection e with e; omega)⟩
theorem LoopP.go (h : LoopP w wr tv l en pb i nd v out xs) (hg : wr.grownBy w' (some pb)) (hP : ParAt w' pb pb tv l en j nj) (hn : nj ≤ 600) : LoopP w w' tv l en pb j nj v out xs := by
  have z := h.lt
  have zl := h.lo
  have zb := h.bel.size
  exact ⟨hP, h.toks.keep fun k _ hk => hg.block k (by omega) (by intro e; injection e with e; omega), zl, hn, h.row.keep (fun k hk hk2 => hg.block k hk2 (by intro e; injection e with e; omega)) hg.size,
    (hg.block _ (by omega) (by intro e; injection e with e; omega)).trans h.ob, (hg.block _ (by omega) (by intro e; injection e with e; omega)).trans h.fb, below_grown h.bel hg (by omega) zb⟩
theorem LoopP.below (h : LoopP w wr tv l en pb i nd v out xs) (hb : Below wr.heap.size wr w') : LoopP w w' tv l en pb i nd v out xs :=
  h.go (grown_of _ hb) (h.par.below hb (Nat.le_refl _)) h.n
theorem LoopP.push {v' : Value} {out' : List Rule} {xs' : List (Rule × Option Addr × Nat)} (h : LoopP w wr tv l en pb i nd v out xs) (hb : Below (pb + 1) wr w') (hr : RowOf w' (pb + 1) v' out' xs') : LoopP w (w'.setCell ⟨w.heap.size, 0, none⟩ v') tv l en pb i nd v' out' xs' := by
  have z := h.lt
  have zl := h.lo
  have zb := h.bel.size
  have zg := hb.size
  have c : ∀ k, k ≠ w.heap.size → (w'.setCell ⟨w.heap.size, 0, none⟩ v').heap[k]? = w'.heap[k]? := fun k hk => Below.heap_setCell w' ⟨w.heap.size, 0, none⟩ v' k hk
  have ht : TokL (w'.setCell ⟨w.heap.size, 0, none⟩ v') (w.heap.size + 2) pb tv l := h.toks.keep fun k h1 h2 => (c k (by omega)).trans (hb.block k (by omega))
  exact ⟨⟨(c pb (by omega)).trans ((hb.block pb (by omega)).trans h.par.blk), ht.toks, Nat.le_refl _, h.par.i, h.par.n⟩, ht, zl, h.n,
    hr.keep (fun k hk _ => c k (by omega)) (by simp), ((show Blk w' _ _ _ from (hb.block _ (by omega)).trans h.ob).set 0 v'), (c _ (by omega)).trans ((hb.block _ (by omega)).trans h.fb), (h.bel.trans (hb.mono (by omega))).setCell (by show _ ≤ w.heap.size; omega) _⟩
theorem RowOf.val {B : Nat} (h : RowOf wr B v out xs) : ∃ A cap, v = .slice A out.length cap := by
  have hl : xs.length = out.length := by rw [← h.eq, List.length_map]
  rcases h.own.2 with ⟨h0, h1⟩ | ⟨g, cap, cur, h1, _⟩
  · exact ⟨none, 0, by rw [h0, ← hl, h1]⟩
  · exact ⟨_, cap, by rw [h1, hl]⟩
theorem LoopP.val (h : LoopP w wr tv l en pb i nd v out xs) : ∃ A cap, v = .slice A out.length cap := h.row.val
/-- at the door, with a panic -/
theorem LoopP.bad {fn : Func} {tmps : Array Value} {s : List UInt8} {err pos : Int} {fv : Fn} {cap dargs : Array Value} (h : LoopP w wr tv l en pb i nd v out xs) (hg : wr.grownBy w' (some pb)) (hp : parseP s = ([], err, pos))
    (hi : (invoke (.fn fv cap) dargs).run Tryd.prog w' = .ok (.enter 90 #[.pointer (some ⟨w.heap.size, 0, none⟩), .pointer (some ⟨w.heap.size + 1, 0, none⟩)]) w')
    (hr : ∀ (W : World) (v a b : Value), W.cell? ⟨w.heap.size, 0, none⟩ = some v → W.cell? ⟨w.heap.size + 1, 0, none⟩ = some a → W.cell? ⟨w.heap.size + 1, 1, none⟩ = some b → (results fn tmps).run Tryd.prog W = .ok (.tuple #[v, .agg #[a, b]]) W) :
    Leaves Tryd.prog fn tmps (ParsePost s w) [{ target := .fn fv cap, args := dargs }] (.panicking [{ v := .iface 145 (.agg #[.int .i64 err, .int .i64 pos]), recovered := false }]) w' := by
  have z := h.lt
  have zl := h.lo
  have zg := hg.size
  have BO : Blk w' w.heap.size 22 #[v] := (hg.block _ (by omega) (by intro e; injection e with e; omega)).trans h.ob
  have BF : Blk w' (w.heap.size + 1) 26 #[.int .i64 0, .int .i64 0] := (hg.block _ (by omega) (by intro e; injection e with e; omega)).trans h.fb
  have hb : Below w.heap.size w w' := below_grown h.bel hg (by omega) h.bel.size
  refine leaves_cons (f := 90) (args := #[.pointer (some ⟨w.heap.size, 0, none⟩), .pointer (some ⟨w.heap.size + 1, 0, none⟩)]) (by simp) hi ?_
  refine (catch_oops w.heap.size (w.heap.size + 1) err pos [] w' v (.int .i64 0) (.int .i64 0) (Blk.lt BO) (Blk.lt BF) (by omega) (BO.cell 0) (BO.frozen 0) (BF.cell 0) (BF.frozen 0) (BF.cell 1) (BF.frozen 1)).mono ?_
  rintro e u' w'' ⟨rfl, rfl, rfl⟩
  have BO2 := (((BO.set 0 (.slice none 0 0)).far (p := ⟨w.heap.size + 1, 0, none⟩) (by show _ ≠ w.heap.size + 1; omega) (.int .i64 err)).far (p := ⟨w.heap.size + 1, 1, none⟩) (by show _ ≠ w.heap.size + 1; omega) (.int .i64 pos)).alloc (.cells #[.int .i64 err, .int .i64 pos] 145)
  have BF2 := (((BF.far (p := ⟨w.heap.size, 0, none⟩) (by show _ ≠ w.heap.size; omega) (.slice none 0 0)).set 0 (.int .i64 err)).set 1 (.int .i64 pos)).alloc (.cells #[.int .i64 err, .int .i64 pos] 145)
  refine ⟨_, hr _ (.slice none 0 0) (.int .i64 err) (.int .i64 pos) (BO2.cell 0) (BF2.cell 0) (BF2.cell 1), ?_⟩
  unfold ParsePost
  rw [hp]
  refine ⟨_, rfl, ?_, ?_⟩
  · exact ((((hb.setCell (by show _ ≤ w.heap.size; omega) _).setCell (by show _ ≤ w.heap.size + 1; omega) _).setCell (by show _ ≤ w.heap.size + 1; omega) _).alloc (by simp; omega) _).drew
  · exact ⟨none, 0, rfl, by show 0 ≤ _; omega, fun i x hx => by cases hx⟩
end

end Ru
end Go.Proofs.YtbadplbdgpbdaaaDoor

namespace Go.Proofs.YtbadplbdgpbdaaaDoor
open Go.RowKit
namespace Ru
open Lx
open Sl (strV Reads)

/-- a text's rules out of what was read -/
def outP : Res (List Rule) → List Rule × Int × Int
  | .ok out _ _ => (out, 0, 0)
  | .bad e p => ([], e, p)
theorem parse_outP {s : List UInt8} (he : (lexV s).2.1 = 0) : parseP s = outP (rulesP (lexV s).1 s.length ((lexV s).1.length + 1) [] 0) := by
  unfold parseP
  rw [if_neg (by simpa using he)]
  cases rulesP (lexV s).1 s.length ((lexV s).1.length + 1) [] 0 <;> rfl

set_option maxRecDepth 100000 in
set_option maxHeartbeats 32000000 in
theorem Parse_ok (s : List UInt8) (w : World) (hl : s.length ≤ 9223372036854775807) (he : (lexV s).2.1 = 0) : Calls Tryd.prog 64 #[strV s] w (ParsePost s w) := by
  have hL := Lib.hid (fun W => Lex_any s W hl)
  have hmf : ∀ fn first cap w, (Instr.makeFunc fn first cap).run Tryd.prog w = .ok (.func fn first cap) w := fun _ _ _ _ => rfl
  have hpos0 : (lexV s).2.2 = 0 := by
    unfold lexV at he ⊢
    split
    · rfl
    · rename_i h6
      rw [if_neg h6] at he
      exact (lexR_form _ _ _).1 he
  obtain ⟨R, hRR⟩ : ∃ R, R = rulesP (lexV s).1 s.length ((lexV s).1.length + 1) [] 0 := ⟨_, rfl⟩
  have hp : parseP s = outP R := by rw [hRR]; exact parse_outP he
  obtain ⟨hln, hlx⟩ := lexV_len s
  obtain ⟨l, hll⟩ : ∃ l, l = (lexV s).1 := ⟨_, rfl⟩
  rw [← hll] at hRR hln hlx
  have hl6 : l.length ≤ 1000000 := by omega
  have hnm : ∀ t ∈ l, t.2.2.2.length ≤ 9223372036854775807 := fun t ht => by have := hlx t ht; omega
  have hEX := Lib.hid (expr_all1 l s.length hl6 hnm)
  have hnm := Lib.hid hnm
  replace hp := Lib.hid hp
  replace hRR := Lib.hid hRR.symm
  replace hlx := Lib.hid hlx
  have hbA : Below w.heap.size w ((w.alloc (.cells #[.slice none 0 0] 22)).alloc (.cells #[.int .i64 0, .int .i64 0] 26)) := ((Below.refl _ _).alloc (Nat.le_refl _) _).alloc (by simp) _
  have BO : Blk ((w.alloc (.cells #[.slice none 0 0] 22)).alloc (.cells #[.int .i64 0, .int .i64 0] 26)) w.heap.size 22 #[.slice none 0 0] := (Blk.new w 22 #[.slice none 0 0]).alloc _
  have BF : Blk ((w.alloc (.cells #[.slice none 0 0] 22)).alloc (.cells #[.int .i64 0, .int .i64 0] 26)) (w.heap.size + 1) 26 #[.int .i64 0, .int .i64 0] := by
    have := Blk.new (w.alloc (.cells #[.slice none 0 0] 22)) 26 #[.int .i64 0, .int .i64 0]
    rw [World.size_alloc] at this
    exact this
  go_enter_defers Tryd.func64, Tryd.ntmps64
  go_wp2_with fail
  refine (hL.out _).mono ?_
  rintro e1 w1 ⟨tv, rfl, hb1, ho1⟩
  rw [he, hpos0]
  rw [← hll] at ho1
  replace hll := Lib.hid hll
  have z1 := hb1.size
  simp at z1 ho1
  have hT1 := TokL.of ho1 hl6
  obtain ⟨tA, tc, rfl⟩ : ∃ A cap, tv = .slice A l.length cap := by
    obtain ⟨A, cap, h1, _⟩ := hT1
    exact ⟨A, cap, h1⟩
  have BO1 := BO.below hb1 (by simp; omega)
  have BF1 := BF.below hb1 (by simp)
  have a0 := BO1.cell 0
  have a1 := BO1.frozen 0
  have b0 := BF1.cell 0
  have b1 := BF1.frozen 0
  have b2 := BF1.cell 1
  have b3 := BF1.frozen 1
  simp at a0 b0 b2
  go_wp2_with fail
  have hL0 : LoopP w (((w1.setCell ⟨w.heap.size + 1, 0, none⟩ (.int .i64 0)).setCell ⟨w.heap.size + 1, 1, none⟩ (.int .i64 0)).alloc (.cells #[.slice tA l.length tc, .int .i64 0, .int .i64 s.length, .int .i64 0] 148)) (.slice tA l.length tc) l s.length w1.heap.size 0 0 (.slice none 0 0) [] [] := by
    have hbW : Below w.heap.size w (((w1.setCell ⟨w.heap.size + 1, 0, none⟩ (.int .i64 0)).setCell ⟨w.heap.size + 1, 1, none⟩ (.int .i64 0)).alloc (.cells #[.slice tA l.length tc, .int .i64 0, .int .i64 s.length, .int .i64 0] 148)) := (((Below.call hbA hb1 (by simp; omega)).setCell (by show _ ≤ w.heap.size + 1; omega) _).setCell (by show _ ≤ w.heap.size + 1; omega) _).alloc (by simp; omega) _
    have hk : ∀ k, w.heap.size + 2 ≤ k → k < w1.heap.size → (((w1.setCell ⟨w.heap.size + 1, 0, none⟩ (.int .i64 0)).setCell ⟨w.heap.size + 1, 1, none⟩ (.int .i64 0)).alloc (.cells #[.slice tA l.length tc, .int .i64 0, .int .i64 s.length, .int .i64 0] 148)).heap[k]? = w1.heap[k]? := fun k h1 h2 => by
      have c : ∀ (W : World) (q : Nat) (u : Value), (W.setCell ⟨w.heap.size + 1, q, none⟩ u).heap[k]? = W.heap[k]? := fun W q u => Below.heap_setCell W ⟨w.heap.size + 1, q, none⟩ u k (by show k ≠ w.heap.size + 1; omega)
      exact (((Below.refl _ _).alloc (Nat.le_refl _) _).block k (by simp; exact h2)).trans ((c _ _ _).trans (c _ _ _))
    have hT2 := TokL.keep hT1 hk
    have BP := Blk.new ((w1.setCell ⟨w.heap.size + 1, 0, none⟩ (.int .i64 0)).setCell ⟨w.heap.size + 1, 1, none⟩ (.int .i64 0)) 148 #[.slice tA l.length tc, .int .i64 0, .int .i64 s.length, .int .i64 0]
    simp only [World.size_setCell] at BP
    exact ⟨⟨BP, hT2.toks, Nat.le_refl _, Nat.zero_le _, Nat.zero_le _⟩, hT2, by omega, Nat.zero_le _, RowOf.nil _ _,
      ((BO1.far (p := ⟨w.heap.size + 1, 0, none⟩) (by show _ ≠ w.heap.size + 1; omega) _).far (p := ⟨w.heap.size + 1, 1, none⟩) (by show _ ≠ w.heap.size + 1; omega) _).alloc _, ((BF1.set 0 (.int .i64 0)).set 1 (.int .i64 0)).alloc _, hbW⟩
  clear hL he hpos0 hbA BO BF hb1 ho1 hT1 BO1 BF1 a0 a1 b0 b1 b2 b3 hl
  obtain ⟨pb, hpb⟩ : ∃ pb, pb = w1.heap.size := ⟨_, rfl⟩
  rw [← hpb] at hL0 ⊢
  replace hpb := Lib.hid hpb
  go_loopg [6, 7] (l.length - 0) (fun q _ _ wr => ∃ (i nd : Nat) (v : Value) (out : List Rule) (xs : List (Rule × Option Addr × Nat)) (f : Nat), q = l.length - i ∧ LoopP w wr (.slice tA l.length tc) l s.length pb i nd v out xs ∧ Hid (rulesP l s.length f out i = R) ∧ l.length < f + i ∧ out.length ≤ 40)
  case atStart => exact ⟨0, 0, _, [], [], l.length + 1, rfl, hL0, hRR, by omega, by show 0 ≤ 40; omega⟩
  case round =>
    clear hL0 hRR
    obtain ⟨i, nd, v, out, xs, f, hq, hP, hR, hf, ho⟩ := hrel
    replace hq := Lib.hid hq
    have hPA := hP.par
    cases f with
    | zero => have := hPA.i; omega
    | succ f =>
    have hsh := hR.out
    rw [rulesP] at hsh
    clear hR
    have p1 : wr.cell? ⟨pb, 1, none⟩ = some (.int .i64 (i : Nat)) := Blk.cell hPA.blk 1
    by_cases hil : i < l.length
    · rw [if_pos hil] at hsh
      have hil2 : (i : Int) < l.length := by omega
      cases hs : isP l i 2 ruleT with
      | false =>
        rw [hs, if_neg (by decide)] at hsh
        have hE := Lib.hid (eat_no l s.length i nd 2 ruleT wr pb pb (.slice tA l.length tc) hPA hs)
        go_wp2_with fail
        refine hE.out.mono ?_
        rintro e2 w2 ⟨rfl, hb2⟩
        have hP2 := hP.below hb2
        go_wp2_with fail
        refine (fail_any l s.length i nd 2 w2 pb pb (.slice tA l.length tc) hP2.par).mono ?_
        rintro e3 w3 ⟨rfl, hb3⟩
        go_wp2_with fail
        subst hsh
        exact hP2.bad (grown_of _ hb3) hp.out (by simp [go_sem]) (fun _ _ _ _ q1 q2 q3 => by simp [results, Tryd.results64, go_sem, q1, q2, q3])
      | true =>
        rw [hs, if_pos rfl] at hsh
        have hE := Lib.hid (eat_yes l s.length i nd 2 ruleT wr pb pb (.slice tA l.length tc) hPA hs hl6)
        obtain ⟨vA, vc, rfl⟩ := hP.val
        go_wp2_with fail
        refine hE.out.mono ?_
        rintro e2 w2 ⟨rfl, hg2, hQ2⟩
        clear hE
        have hP2 := hP.go hg2 hQ2 hP.n
        have c2 : w2.cell? ⟨w.heap.size, 0, none⟩ = some (.slice vA out.length vc) := hP2.ob.cell 0
        clear hs
        by_cases h40 : out.length = 40
        · rw [if_pos h40] at hsh
          have g40 : ((out.length : Int) == 40) = true := by simp; omega
          go_wp2_with fail
          refine (fail_any l s.length (i + 1) nd 5 w2 pb pb (.slice tA l.length tc) hP2.par).mono ?_
          rintro e3 w3 ⟨rfl, hb3⟩
          go_wp2_with fail
          subst hsh
          exact hP2.bad (grown_of _ hb3) hp.out (by simp [go_sem]) (fun _ _ _ _ q1 q2 q3 => by simp [results, Tryd.results64, go_sem, q1, q2, q3])
        · rw [if_neg h40] at hsh
          have g40 : ((out.length : Int) == 40) = false := by simp; omega
          unfold ruleP at hsh
          go_wp2_with fail
          cases hk : kindP l (i + 1) 1 with
          | false =>
            rw [take_bad hk] at hsh
            replace hsh : Res.bad 2 (hereP l s.length (i + 1)) = R := hsh
            refine (take_no l s.length (i + 1) nd 1 w2 pb pb (.slice tA l.length tc) hP2.par hk).mono ?_
            rintro e3 w3 ⟨rfl, hg3⟩
            go_wp2_with fail
            subst hsh
            exact hP2.bad hg3 hp.out (by simp [go_sem]) (fun _ _ _ _ q1 q2 q3 => by simp [results, Tryd.results64, go_sem, q1, q2, q3])
          | true =>
            obtain ⟨t, ht, hkt⟩ := kind_tok hk
            rw [take_good ht hkt] at hsh
            refine (take_yes l s.length (i + 1) nd 1 t w2 pb pb (.slice tA l.length tc) hP2.par ht hkt hl6).mono ?_
            rintro e3 w3 ⟨rfl, hg3, hQ3⟩
            have hP3 := hP2.go hg3 hQ3 hP2.n
            have htn : t.2.2.2.length ≤ 9223372036854775807 := hnm.out t (List.mem_of_getElem? ht)
            obtain ⟨t1, t2, t3, t4⟩ := t
            unfold tokA
            clear hk ht hkt
            go_wp2_with fail
            cases hm : isP l (i + 1 + 1) 3 [61] with
            | false =>
              have hm2 : mustP l s.length [61] (i + 1 + 1) 0 = failP l s.length 2 (i + 1 + 1) := by unfold mustP; rw [hm]; rfl
              replace hsh : ((mustP l s.length [61] (i + 1 + 1) 0).bind fun _ j _ => (exprP l s.length (thingP l s.length 40) j 0).bind fun e j nd => if (formE isName e 1 0).1 ≠ 0 then failP l s.length 4 j else (mustP l s.length [59] j nd).bind fun _ j nd => .ok (⟨t4, e⟩ : Rule) j nd).bind (fun r j _ => rulesP l s.length f (out ++ [r]) j) = R := hsh
              rw [hm2] at hsh
              replace hsh : Res.bad 2 (hereP l s.length (i + 1 + 1)) = R := hsh
              refine (must_no l s.length (i + 1 + 1) nd [61] w3 pb pb (.slice tA l.length tc) hP3.par hm).mono ?_
              rintro e4 w4 ⟨rfl, hg4⟩
              go_wp2_with fail
              subst hsh
              exact hP3.bad hg4 hp.out (by simp [go_sem]) (fun _ _ _ _ q1 q2 q3 => by simp [results, Tryd.results64, go_sem, q1, q2, q3])
            | true =>
              have hm2 : mustP l s.length [61] (i + 1 + 1) 0 = .ok () (i + 1 + 1 + 1) 0 := by unfold mustP; rw [hm]; rfl
              replace hsh : ((mustP l s.length [61] (i + 1 + 1) 0).bind fun _ j _ => (exprP l s.length (thingP l s.length 40) j 0).bind fun e j nd => if (formE isName e 1 0).1 ≠ 0 then failP l s.length 4 j else (mustP l s.length [59] j nd).bind fun _ j nd => .ok (⟨t4, e⟩ : Rule) j nd).bind (fun r j _ => rulesP l s.length f (out ++ [r]) j) = R := hsh
              rw [hm2] at hsh
              replace hsh : ((exprP l s.length (thingP l s.length 40) (i + 1 + 1 + 1) 0).bind fun e j nd => if (formE isName e 1 0).1 ≠ 0 then failP l s.length 4 j else (mustP l s.length [59] j nd).bind fun _ j nd => .ok (⟨t4, e⟩ : Rule) j nd).bind (fun r j _ => rulesP l s.length f (out ++ [r]) j) = R := hsh
              refine (must_yes l s.length (i + 1 + 1) nd [61] w3 pb pb (.slice tA l.length tc) hP3.par hm hl6).mono ?_
              rintro e4 w4 ⟨rfl, hg4, hQ4⟩
              have hP4 := hP3.go hg4 hQ4 hP3.n
              have hc4 := hQ4.count (n := 0) (by omega)
              have hQ5 : ParAt (w4.setCell ⟨pb, 3, none⟩ (.int .i64 0)) pb pb (.slice tA l.length tc) l s.length (i + 1 + 1 + 1) 0 := hc4.1
              have hg5 : w4.grownBy (w4.setCell ⟨pb, 3, none⟩ (.int .i64 0)) (some pb) := hc4.2
              have hP5 := hP4.go hg5 hQ5 (by omega)
              have hfz : w4.frozen? ⟨pb, 3, none⟩ = false := Blk.frozen hQ4.blk 3
              have hcz : w4.cell? ⟨pb, 3, none⟩ = some (.int .i64 nd) := Blk.cell hQ4.blk 3
              have hX := Lib.hid (hEX.out (i + 1 + 1 + 1) 0 (w4.setCell ⟨pb, 3, none⟩ (.int .i64 0)) pb pb (.slice tA l.length tc) hQ5 (by omega))
              have hi3 := isP_lt hm
              clear hm hm2 hc4 hg4 hg3 hg2 hQ3 hQ2
              go_wp2_with fail
              cases hx : exprP l s.length (thingP l s.length 40) (i + 1 + 1 + 1) 0 with
              | bad err p =>
                rw [hx] at hsh hX
                replace hsh : Res.bad err p = R := hsh
                refine hX.out.mono ?_
                rintro e6 w6 ⟨hg6, rfl⟩
                go_wp2_with fail
                subst hsh
                exact hP5.bad hg6 hp.out (by simp [go_sem]) (fun _ _ _ _ q1 q2 q3 => by simp [results, Tryd.results64, go_sem, q1, q2, q3])
              | ok e j nj =>
                have hjl := expr_on (thing_on 40) _ _ _ _ _ (by omega) hx
                rw [hx] at hsh hX
                replace hsh : (if (formE isName e 1 0).1 ≠ 0 then failP l s.length 4 j else (mustP l s.length [59] j nj).bind fun _ j nd => .ok (⟨t4, e⟩ : Rule) j nd).bind (fun r j _ => rulesP l s.length f (out ++ [r]) j) = R := hsh
                refine hX.out.mono ?_
                rintro e6 w6 ⟨hg6, A, cap, rfl, hE6, hQ6, hn6⟩
                have hP6 := hP5.go hg6 hQ6 hn6
                unfold exprA
                clear hX
                go_wp2_with fail
                have hb7 : Below w6.heap.size w6 ((w6.alloc (.cells #[.int .i64 e.kind, .int .i64 e.a, .int .i64 e.b, strV e.name, .slice A e.kids.length cap] 48)).alloc (.cells #[.int .i64 0] 126)) := ((Below.refl _ _).alloc (Nat.le_refl _) _).alloc (by simp) _
                have hP7 := hP6.below hb7
                have BE7 : Blk ((w6.alloc (.cells #[.int .i64 e.kind, .int .i64 e.a, .int .i64 e.b, strV e.name, .slice A e.kids.length cap] 48)).alloc (.cells #[.int .i64 0] 126)) w6.heap.size 48 #[.int .i64 e.kind, .int .i64 e.a, .int .i64 e.b, strV e.name, .slice A e.kids.length cap] := (Blk.new w6 48 #[.int .i64 e.kind, .int .i64 e.a, .int .i64 e.b, strV e.name, .slice A e.kids.length cap]).alloc _
                have BS7 := Blk.new (w6.alloc (.cells #[.int .i64 e.kind, .int .i64 e.a, .int .i64 e.b, strV e.name, .slice A e.kids.length cap] 48)) 126 #[.int .i64 0]
                simp only [World.size_alloc] at BS7
                have zz5 := hP5.lt
                have zz6 := hg6.size
                have hE7 : ExprOk ((w6.alloc (.cells #[.int .i64 e.kind, .int .i64 e.a, .int .i64 e.b, strV e.name, .slice A e.kids.length cap] 48)).alloc (.cells #[.int .i64 0] 126)) (fun k => pb + 1 ≤ k ∧ k < w6.heap.size) e A := hE6.keep fun k hk => ⟨hb7.block k hk.2, by have := hk.1; omega, hk.2⟩
                have hEA : ExprAt ((w6.alloc (.cells #[.int .i64 e.kind, .int .i64 e.a, .int .i64 e.b, strV e.name, .slice A e.kids.length cap] 48)).alloc (.cells #[.int .i64 0] 126)) (w6.heap.size + 1) w6.heap.size 0 e := (hE7.put (BE7.cell 0) (BE7.cell 1) (BE7.cell 2) (BE7.cell 3) (BE7.cell 4)).at' fun k hk => by have := hk.2; omega
                refine (shaper_any (nodesE e) e ((w6.alloc (.cells #[.int .i64 e.kind, .int .i64 e.a, .int .i64 e.b, strV e.name, .slice A e.kids.length cap] 48)).alloc (.cells #[.int .i64 0] 126)) (w6.heap.size + 1) w6.heap.size 0 1 0 (Nat.le_refl _) hEA (by omega) BS7 (by omega) (by omega)).mono ?_
                rintro e8 w8 ⟨rfl, -, hb8⟩
                have z7 : ((w6.alloc (.cells #[.int .i64 e.kind, .int .i64 e.a, .int .i64 e.b, strV e.name, .slice A e.kids.length cap] 48)).alloc (.cells #[.int .i64 0] 126)).heap.size = w6.heap.size + 2 := by simp
                have z8 := hb8.size
                rw [z7] at z8
                have hb68 : Below w6.heap.size w6 w8 := hb7.trans (hb8.mono (by omega))
                have hP8 := hP6.below hb68
                have BE8 : Blk w8 w6.heap.size 48 #[.int .i64 e.kind, .int .i64 e.a, .int .i64 e.b, strV e.name, .slice A e.kids.length cap] := (hb8.block w6.heap.size (by omega)).trans BE7
                have hE8 : ExprOk w8 (fun k => pb + 1 ≤ k ∧ k < w6.heap.size) e A := hE7.keep fun k hk => ⟨hb8.block k (by have := hk.2; omega), hk⟩
                clear hb7 hP7 BE7 BS7 hE7 hEA hb8 hb68 hE6 hQ6 hQ5 hg5 hP5 hfz hcz hQ4 hP4 hP3 hP2 c2 hP hPA p1
                by_cases hfo : (formE isName e 1 0).1 = 0
                · rw [if_neg (by simpa using hfo)] at hsh
                  have gfo : ((formE isName e 1 0).1 != 0) = false := by simpa using hfo
                  clear hfo
                  go_wp2_with fail
                  cases hm : isP l j 3 [59] with
                  | false =>
                    have hm2 : mustP l s.length [59] j nj = failP l s.length 2 j := by unfold mustP; rw [hm]; rfl
                    rw [hm2] at hsh
                    replace hsh : Res.bad 2 (hereP l s.length j) = R := hsh
                    refine (must_no l s.length j nj [59] w8 pb pb (.slice tA l.length tc) hP8.par hm).mono ?_
                    rintro e9 w9 ⟨rfl, hg9⟩
                    go_wp2_with fail
                    subst hsh
                    exact hP8.bad hg9 hp.out (by simp [go_sem]) (fun _ _ _ _ q1 q2 q3 => by simp [results, Tryd.results64, go_sem, q1, q2, q3])
                  | true =>
                    have hm2 : mustP l s.length [59] j nj = .ok () (j + 1) nj := by unfold mustP; rw [hm]; rfl
                    rw [hm2] at hsh
                    replace hsh : rulesP l s.length f (out ++ [⟨t4, e⟩]) (j + 1) = R := hsh
                    refine (must_yes l s.length j nj [59] w8 pb pb (.slice tA l.length tc) hP8.par hm hl6).mono ?_
                    rintro e9 w9 ⟨rfl, hg9, hQ9⟩
                    have hP9 := hP8.go hg9 hQ9 hn6
                    have z9 := hg9.size
                    have hlo := hP9.lo
                    have BE9 : Blk w9 w6.heap.size 48 #[.int .i64 e.kind, .int .i64 e.a, .int .i64 e.b, strV e.name, .slice A e.kids.length cap] := (hg9.block w6.heap.size (by omega) (by intro e; injection e with e; omega)).trans BE8
                    have hE9 : ExprOk w9 (fun k => pb + 1 ≤ k ∧ k < w9.heap.size) e A := hE8.keep fun k hk => ⟨hg9.block k (by have := hk.2; omega) (by intro e; injection e with e; have := hk.1; omega), hk.1, by have := hk.2; omega⟩
                    obtain ⟨⟨s0, s1, s2, s3, s4⟩, v0, v1, v2, v3, v4⟩ := set_cells5 BE9
                    have c9 : w9.cell? ⟨w.heap.size, 0, none⟩ = some (.slice vA out.length vc) := hP9.ob.cell 0
                    have d9 : w9.frozen? ⟨w.heap.size, 0, none⟩ = false := hP9.ob.frozen 0
                    have hbase : pb + 1 ≤ w9.heap.size := hP9.lt
                    have hR9 := Lib.hid hP9.row
                    have hE9 := Lib.hid hE9
                    clear BE8 BE9 hg9 hQ9 hP8 hE8 hm hm2 hP6 hg6
                    go_wp2_with (at_builtin; refine wp_rule rfl (.tmp 58) (.tmp 62) rfl (pb + 1) (.slice vA out.length vc) out xs hR9.out ho ⟨t4, e⟩ A cap _ rfl rfl ⟨htn, hE9.out⟩ hbase ?_; intro v' w10 hR10 hb10 hz10; obtain ⟨vA2, vc2, rfl⟩ := hR10.val; have c10 : w10.cell? ⟨w.heap.size, 0, none⟩ = some (.slice vA out.length vc) := (hb10.cell (p := ⟨w.heap.size, 0, none⟩) (by show w.heap.size < pb + 1; omega)).trans c9; have d10 : w10.frozen? ⟨w.heap.size, 0, none⟩ = false := (World.frozen?_of_block (a := ⟨w.heap.size, 0, none⟩) (hb10.block w.heap.size (by omega))).trans d9)
                    have hP10 := hP9.push hb10 hR10
                    simp only [List.length_append, List.length_cons, List.length_nil, Nat.zero_add] at hP10
                    go_roundg (l.length - (j + 1))
                    case measure => rw [hq.out]; omega
                    case rel => exact ⟨j + 1, nj, _, _, _, f, rfl, hP10, Lib.hid hsh, by omega, by rw [List.length_append]; show _ + 1 ≤ 40; omega⟩
                · rw [if_pos (by simpa using hfo)] at hsh
                  have gfo : ((formE isName e 1 0).1 != 0) = true := by simpa using hfo
                  clear hfo
                  replace hsh : Res.bad 4 (hereP l s.length j) = R := hsh
                  go_wp2_with fail
                  refine (fail_any l s.length j nj 4 w8 pb pb (.slice tA l.length tc) hP8.par).mono ?_
                  rintro e9 w9 ⟨rfl, hb9⟩
                  go_wp2_with fail
                  subst hsh
                  exact hP8.bad (grown_of _ hb9) hp.out (by simp [go_sem]) (fun _ _ _ _ q1 q2 q3 => by simp [results, Tryd.results64, go_sem, q1, q2, q3])
    · rw [if_neg hil] at hsh
      have hil2 : ¬ (i : Int) < l.length := by omega
      obtain ⟨vA, vc, rfl⟩ := hP.val
      have c0 := hP.ob.cell 0
      have c1 := hP.fb.cell 0
      have c2 := hP.fb.cell 1
      have d0 := hP.ob.frozen 0
      have d1 := hP.fb.frozen 0
      have d2 := hP.fb.frozen 1
      simp at c0 c1 c2
      go_wp2_with fail
      go_region
      go_wp2
      subst hsh
      have hz := hP.lo
      have hzl := hP.lt
      have hzb := hP.bel.size
      have BO2 := ((hP.ob.set 0 (.slice vA out.length vc)).far (p := ⟨w.heap.size + 1, 0, none⟩) (by show _ ≠ w.heap.size + 1; omega) (.int .i64 0)).far (p := ⟨w.heap.size + 1, 1, none⟩) (by show _ ≠ w.heap.size + 1; omega) (.int .i64 0)
      have BF2 := ((hP.fb.far (p := ⟨w.heap.size, 0, none⟩) (by show _ ≠ w.heap.size; omega) (.slice vA out.length vc)).set 0 (.int .i64 0)).set 1 (.int .i64 0)
      have r0 := BO2.cell 0
      have r1 := BF2.cell 0
      have r2 := BF2.cell 1
      simp at r0 r1 r2
      refine leaves_cons (f := 90) (args := #[.pointer (some ⟨w.heap.size, 0, none⟩), .pointer (some ⟨w.heap.size + 1, 0, none⟩)]) (by simp) (by simp [go_sem]) ?_
      refine (catch_idle w.heap.size (w.heap.size + 1) _).mono ?_
      rintro e5 u' w'' ⟨rfl, rfl, rfl⟩
      refine ⟨.tuple #[.slice vA out.length vc, .agg #[.int .i64 0, .int .i64 0]], by simp [results, Tryd.results64, go_sem, r0, r1, r2], ?_⟩
      unfold ParsePost
      rw [hp.out]
      refine ⟨_, rfl, ?_, ?_⟩
      · exact (((hP.bel.setCell (by show _ ≤ w.heap.size; omega) _).setCell (by show _ ≤ w.heap.size + 1; omega) _).setCell (by show _ ≤ w.heap.size + 1; omega) _).drew
      · refine RowOf.rules (hP.row.keep (fun k h1 h2 => ?_) (by show _ ≤ (World.drew _).heap.size; simp [World.drew])) (by show out.length ≤ 1000; omega)
        have c : ∀ (W : World) (g q : Nat) (u : Value), k ≠ g → (W.setCell ⟨g, q, none⟩ u).heap[k]? = W.heap[k]? := fun W g q u hk => Below.heap_setCell W ⟨g, q, none⟩ u k hk
        exact (c _ _ _ _ (by omega)).trans ((c _ _ _ _ (by omega)).trans (c _ _ _ _ (by omega)))

theorem Parse_any (s : List UInt8) (w : World) (hl : s.length ≤ 9223372036854775807) : Calls Tryd.prog 64 #[strV s] w (ParsePost s w) := by
  by_cases he : (lexV s).2.1 = 0
  · exact Parse_ok s w hl he
  · exact Parse_bad s w hl he

end Ru
end Go.Proofs.YtbadplbdgpbdaaaDoor

namespace Go.Proofs.YtbadplbdgpbdaaaDoor
open Go.RowKit
namespace Ru
open Lx
open Sl (strV Reads)

def nmE (c : UInt8) : Expr := .mk 10 0 0 [c] []
def litP5 : List UInt8 := [114, 117, 108, 101, 32, 97, 32, 61, 32, 98, 32, 43, 32, 99, 59, 32, 114, 117, 108, 101, 32, 98, 32, 61, 32, 99, 59, 32, 114, 117, 108, 101, 32, 99, 32, 61, 32, 97, 108, 119, 97, 121, 115, 59]
def litQ5 : List UInt8 := [114, 117, 108, 101, 32, 97, 32, 61, 32, 97, 59]
def litP6 : List UInt8 := [114, 117, 108, 101, 32, 97, 32, 61, 32, 119, 101, 101, 107, 108, 121, 32, 115, 97, 116, 58, 32, 48, 57, 58, 48, 48, 45, 49, 48, 58, 48, 48, 59, 32, 114, 117, 108, 101, 32, 98, 32, 61, 32, 97, 32, 115, 104, 105, 102, 116, 32, 54, 48, 59]
def rulP5 : List Rule := [⟨[97], .mk 6 0 0 [] [nmE 98, nmE 99]⟩, ⟨[98], nmE 99⟩, ⟨[99], .mk 2 0 0 [] []⟩]
def rulQ5 : List Rule := [⟨[97], nmE 97⟩]
def rulP6 : List Rule := [⟨[97], .mk 4 32 0 [] [.mk 3 540 600 [] []]⟩, ⟨[98], .mk 9 60 0 [] [nmE 97]⟩]
theorem parse_P5 : parseP litP5 = (rulP5, 0, 0) := by kernel_rfl
theorem parse_Q5 : parseP litQ5 = (rulQ5, 0, 0) := by kernel_rfl
theorem parse_P6 : parseP litP6 = (rulP6, 0, 0) := by kernel_rfl
theorem wrong_P5 : wrongR rulP5 = (0, 0) := by kernel_rfl
theorem wrong_Q5 : wrongR rulQ5 = (9, 0) := by kernel_rfl
theorem uses_P5 : usesR rulP5 0 = [1, 2] := by kernel_rfl
theorem wrong_P6 : wrongR rulP6 = (0, 0) := by kernel_rfl

/-- rules out of a text -/
def rulesT (s : List UInt8) : List Rule := if (parseP s).2.1 = 0 then (parseP s).1 else []
def RulesPost (s : List UInt8) (w : World) (e : Ending) (w' : World) : Prop := ∃ v, e = .returned v ∧ RulesV w' w'.heap.size v (rulesT s) ∧ Below w.heap.size w w'
theorem rulesV_nil (w : World) (B : Nat) : RulesV w B (.slice none 0 0) [] := ⟨none, 0, rfl, by show 0 ≤ _; omega, fun i x hx => by cases hx⟩






























































set_option maxHeartbeats 1000000 in
theorem rules7_any (s : List UInt8) (w : World) (hl : s.length ≤ 9223372036854775807) : Calls Tryd.prog 32 #[strV s] w (RulesPost s w) := by
  have hP := Lib.hid (fun W => Parse_any s W hl)
  obtain ⟨err, herr⟩ : ∃ x, x = (parseP s).2.1 := ⟨_, rfl⟩
  obtain ⟨pos, hpos⟩ : ∃ x, x = (parseP s).2.2 := ⟨_, rfl⟩
  go_enter Tryd.func32, Tryd.ntmps32
  go_wp2_with fail
  refine (hP.out _).mono ?_
  rintro e1 w1 ⟨v, rfl, hb1, hr1⟩
  rw [← herr, ← hpos]
  have hbA : Below w1.heap.size w1 (w1.alloc (.cells #[.int .i64 err, .int .i64 pos] 26)) := (Below.refl _ _).alloc (Nat.le_refl _) _
  have hr2 := Lib.hid (hr1.below hbA (Nat.le_refl _) (Nat.le_of_lt (show w1.heap.size < (w1.alloc (.cells #[.int .i64 err, .int .i64 pos] 26)).heap.size by simp)))
  have hb2 := Below.call hb1 hbA hb1.size
  by_cases he : err = 0
  · have hT : rulesT s = (parseP s).1 := if_pos (by rw [← herr]; exact he)
    rw [← hT] at hr2
    have g0 : (err != 0) = false := by simpa using he
    clear hr1 herr hpos hT he hP
    obtain ⟨A, cap, rfl⟩ : ∃ A cap, v = .slice A (rulesT s).length cap := by
      obtain ⟨A, cap, h1, _⟩ := hr2.out
      exact ⟨A, cap, h1⟩
    go_wp2
    exact bodyPost_ret (by simp [results, Tryd.results32, go_sem]) rfl ⟨_, rfl, hr2.out, hb2⟩
  · have hT : rulesT s = [] := if_neg (by rw [← herr]; exact he)
    have g0 : (err != 0) = true := by simpa using he
    clear hr1 herr hpos he hP hr2
    go_wp2
    exact bodyPost_ret (v := .slice none 0 0) (by simp [results, Tryd.results32, go_sem]) rfl ⟨_, rfl, by rw [hT]; exact rulesV_nil _ _, hb2⟩


end Ru
end Go.Proofs.YtbadplbdgpbdaaaDoor
